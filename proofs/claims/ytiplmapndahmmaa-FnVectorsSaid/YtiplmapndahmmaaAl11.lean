/- The reckoning is right: lists made and grown. -/
import Derived.Test.YtiplmapndahmmaaAl10
namespace Go.Proofs.Ytiplmapndahmmaa
namespace Al
set_option linter.constructorNameAsVariable false
set_option linter.unusedVariables false
set_option linter.unusedSimpArgs false

section
variable {P : Program} {tt : Tab} {H : Hp} {df : List Deferred} {W : World} {St : Nat → Nat → Prop} {ρ : Nat → Option Value} {F : Nat → Option Nat}

/-- Cells that lie as a list. -/
structure Lies (W : World) (St : Nat → Nat → Prop) (t : Ty) (xs : List t.den) (A : Option Addr) (us : List Value) : Prop where
  len : us.length = xs.length * t.sz
  cell : ∀ j u, us[j]? = some u → ∃ b o, A = some ⟨b, o, none⟩ ∧ W.cell? ⟨b, o + j, none⟩ = some u
  rep : ∀ i x, xs[i]? = some x → RepT W St t x ((us.drop (i * t.sz)).take t.sz)

theorem Lies.one {t : Ty} {xs : List t.den} {A : Option Addr} {us : List Value} (h : Lies W St t xs A us) : ∀ u ∈ us, u.oneCell' = true := by
  intro u hu
  obtain ⟨j, hj⟩ := List.getElem?_of_mem hu
  have hlt := (List.getElem?_eq_some_iff.1 hj).1
  rw [h.len] at hlt
  have hp := t.sz_pos
  have hi : j / t.sz < xs.length := (Nat.div_lt_iff_lt_mul hp).2 hlt
  have := RepT.cvs (ρ := fun _ => none) t _ _ (h.rep (j / t.sz) xs[j / t.sz] (by simp [hi]))
  refine this.one u ?_
  have hm : j / t.sz * t.sz + j % t.sz = j := by rw [Nat.mul_comm]; exact Nat.div_add_mod _ _
  have : ((us.drop (j / t.sz * t.sz)).take t.sz)[j % t.sz]? = some u := by
    rw [List.getElem?_take, if_pos (Nat.mod_lt _ hp), List.getElem?_drop, hm]
    exact hj
  exact List.mem_of_getElem? this

/-- The cells of a list that can be read. -/
theorem lst_lies (hH : SimH H df W St ρ F) {x : SV} {u : Value} {t : Ty} {xs : List t.den} (h : RepS W St ρ x u) (hl : lstOf H x = some ⟨t, xs⟩) :
    ∃ A c us, u = .slice A xs.length c ∧ xs.length ≤ c ∧ c ≤ maxLen ∧ (A = none → c = 0) ∧ Lies W St t xs A us := by
  have ofL : ∀ {A : Option Addr} {c : Nat}, RepL W St t.sz (fun x us => RepT W St t x us) xs A c → ∃ us, xs.length ≤ c ∧ c ≤ maxLen ∧ (A = none → c = 0) ∧ Lies W St t xs A us := fun {A c} ⟨h1, h2, h3, us, h4, h5, h6⟩ =>
    ⟨us, h1, h2, h3, h4, fun j v hj => by obtain ⟨b, o, e1, e2, _⟩ := h6 j v hj; exact ⟨b, o, e1, e2⟩, h5⟩
  unfold lstOf at hl
  split at hl
  · cases hl
    obtain ⟨_, A, c, h1, h2, _⟩ := h
    obtain ⟨us, k⟩ := ofL h2
    exact ⟨A, c, us, h1, k⟩
  · rename_i o
    have ho := hH.obj o
    obtain ⟨_, hr, _⟩ := h
    split at hl
    · rename_i e t' xs' hv
      cases hl
      rw [hv] at ho
      obtain ⟨A, c, h1, h2⟩ := ho
      rw [hr] at h1
      cases h1
      rcases h2 with ⟨rfl, rfl, _⟩ | ⟨b, cur, rfl, h2, h3, h4, h5, h6, _⟩
      · exact ⟨A, 0, [], rfl, Nat.le_refl _, Nat.zero_le _, fun _ => rfl, by simp, fun j v hj => by simp at hj, fun i x hx => by simp at hx⟩
      · refine ⟨_, c, cur.toList.take (xs.length * t.sz), rfl, h3, h4, (fun e => by cases e), ?_, fun j v hj => ?_, fun i x hx => ?_⟩
        · have : xs.length * t.sz ≤ c * t.sz := Nat.mul_le_mul_right _ h3
          have hcl : cur.toList.length = c * t.sz := by simpa using h5
          rw [List.length_take, hcl]
          omega
        · rw [List.getElem?_take] at hj
          split at hj
          · exact ⟨b, 0, rfl, by rw [cell_at h2]; simpa using hj⟩
          · cases hj
        · have hi := (List.getElem?_eq_some_iff.1 hx).1
          have hmul : (i + 1) * t.sz ≤ xs.length * t.sz := Nat.mul_le_mul_right _ hi
          rw [Nat.add_mul, Nat.one_mul] at hmul
          have := h6 i x hx
          rw [List.drop_take, List.take_take, Nat.min_eq_left (by omega)]
          exact this
    · rename_i t' xs' hv
      cases hl
      rw [hv] at ho
      obtain ⟨⟨A, c, h1, h2⟩, _⟩ := ho
      rw [hr] at h1
      cases h1
      obtain ⟨us, k⟩ := ofL h2
      exact ⟨A, c, us, rfl, k⟩
    · cases hl
  · cases hl

theorem seg_left {us vs : List Value} {i n sz : Nat} (hl : us.length = n * sz) (hi : i < n) : (((us ++ vs).drop (i * sz)).take sz) = ((us.drop (i * sz)).take sz) := by
  have hmul : (i + 1) * sz ≤ n * sz := Nat.mul_le_mul_right _ hi
  rw [Nat.add_mul, Nat.one_mul] at hmul
  apply List.ext_getElem?
  intro k
  rw [List.getElem?_take, List.getElem?_take]
  split
  · rw [List.getElem?_drop, List.getElem?_drop, List.getElem?_append_left (by omega)]
  · rfl

theorem seg_right {us vs : List Value} {i n sz : Nat} (hl : us.length = n * sz) : (((us ++ vs).drop ((n + i) * sz)).take sz) = ((vs.drop (i * sz)).take sz) := by
  rw [Nat.add_mul, ← hl, List.drop_append, Nat.add_sub_cancel_left]
  congr 1
  rw [List.drop_eq_nil_of_le (by omega), List.nil_append]

/-- Two lists behind each other, and room. -/
theorem lies_append {t : Ty} {xs ys : List t.den} {us vs ws : List Value} (hu : us.length = xs.length * t.sz) (hv : vs.length = ys.length * t.sz) (h : ∀ i x, xs[i]? = some x → RepT W St t x ((us.drop (i * t.sz)).take t.sz))
    (k : ∀ i x, ys[i]? = some x → RepT W St t x ((vs.drop (i * t.sz)).take t.sz)) (i : Nat) (x : t.den) (hx : (xs ++ ys)[i]? = some x) : RepT W St t x (((us ++ vs ++ ws).drop (i * t.sz)).take t.sz) := by
  have hlt := (List.getElem?_eq_some_iff.1 hx).1
  rw [List.length_append] at hlt
  rw [seg_left (n := xs.length + ys.length) (by rw [List.length_append, hu, hv, Nat.add_mul]) hlt]
  by_cases hi : i < xs.length
  · rw [List.getElem?_append_left hi] at hx
    rw [seg_left hu hi]
    exact h i x hx
  · rw [List.getElem?_append_right (by omega)] at hx
    obtain ⟨j, rfl⟩ : ∃ j, i = xs.length + j := ⟨i - xs.length, by omega⟩
    rw [Nat.add_sub_cancel_left] at hx
    rw [seg_right hu]
    exact k j x hx

theorem castL_some {t u : Ty} {xs : List t.den} {ys : List u.den} (h : castL (t := t) (u := u) xs = some ys) : ∃ e : t = u, ys = e ▸ xs := by
  unfold castL at h
  split at h
  · rename_i e _
    exact ⟨e, (Option.some.inj h).symm⟩
  · cases h

theorem run_append_zero {t ty e : TypeId} {i : TypeInfo} (ht : P.underlying t = some (.slice e)) (hi : P.info? e = some i) (A B : Option Addr) (n c c' : Nat) (hn : n ≤ c) :
    (Builtin.append_ #[t, t] ty #[.slice A n c, .slice B 0 c']).run P W = .ok (.slice A n c) W := by
  cases A <;> cases B <;> simp [Builtin.append_, run_underlying ht, sizeOf, typeInfo, hi, Builtin.lenOf, Builtin.firstCells, hn, loadCells, loadCellsFrom, storeCells]

/-- append into a block of its own, old or new: what stands there then. -/
theorem append_new {t e : TypeId} {i : TypeInfo} (ty : TypeId) {z : Value} (ht : P.underlying t = some (.slice e)) (hi : P.info? e = some i) (hz : i.zero = some z) {u : Ty} (hsz : i.size = u.sz) (hzs : z.cells.size = u.sz)
    {xs ys : List u.den} {A B : Option Addr} {us vs : List Value} {c c' : Nat} (hx : Lies W St u xs A us) (hy : Lies W St u ys B vs) (hA : A = none → c = 0) (hxc : xs.length ≤ c) (hy0 : 0 < ys.length) (hc : c < xs.length + ys.length) (hB : B ≠ none)
    (hbound : (xs.length + ys.length) * i.bytes ≤ 140737488355328) (h63 : xs.length + ys.length ≤ maxLen) :
    ∃ g cs, (Builtin.append_ #[t, t] ty #[.slice A xs.length c, .slice B ys.length c']).run P W = .ok (.slice (some ⟨W.heap.size, 0, none⟩) (xs ++ ys).length g) (W.drew.alloc (.cells cs e)) ∧
      (xs ++ ys).length ≤ g ∧ g ≤ maxLen ∧ cs.size = g * u.sz ∧ ∀ i x, (xs ++ ys)[i]? = some x → RepT W St u x ((cs.toList.drop (i * u.sz)).take u.sz) := by
  obtain ⟨b, rfl⟩ : ∃ b, B = some b := by cases B with | none => exact absurd rfl hB | some b => exact ⟨b, rfl⟩
  have hnews : ∀ j v, vs[j]? = some v → W.cell? (b.add j) = some v := fun j v hj => by
    obtain ⟨b', o', e1, e2⟩ := hy.cell j v hj
    cases e1
    rw [Addr.add_lit]; exact e2
  have hvl : vs.length = ys.length * i.size := by rw [hsz]; exact hy.len
  have h63' : ((xs.length + ys.length : Nat) : Int) ≤ 9223372036854775807 := by have := h63; simp only [maxLen] at this; omega
  have hge := grownCap_ge W (xs.length + ys.length) c e
  have hfin : ∀ (g : Nat), xs.length + ys.length ≤ g → (us.toArray ++ vs.toArray ++ Builtin.zeroCells z.cells (g - (xs.length + ys.length))).size = g * u.sz ∧
      ∀ i x, (xs ++ ys)[i]? = some x → RepT W St u x (((us.toArray ++ vs.toArray ++ Builtin.zeroCells z.cells (g - (xs.length + ys.length))).toList.drop (i * u.sz)).take u.sz) := fun g hg => by
    constructor
    · simp only [Array.size_append, List.size_toArray, size_zeroCells, hzs, hx.len, hy.len, ← Nat.add_mul]
      congr 1
      omega
    · intro i x hix
      simp only [Array.toList_append]
      exact lies_append hx.len hy.len hx.rep hy.rep i x hix
  cases A with
  | none =>
    have hc0 := hA rfl
    subst hc0
    have hx0 : xs = [] := List.eq_nil_of_length_eq_zero (by omega)
    subst hx0
    have hus : us = [] := List.eq_nil_of_length_eq_zero (by simpa using hx.len)
    subst hus
    have hr := run_append_nil (P := P) W t ty e i z ht hi hz b ys.length c' vs hvl hnews hy0 (by simpa using h63') (by have := hbound; simp only [List.length_nil, Nat.zero_add] at this; omega)
    have hge' := grownCap_ge W ys.length 0 e
    obtain ⟨k1, k2⟩ := hfin (grownCap W ys.length 0 e) (by simpa using hge')
    simp only [List.length_nil, Nat.zero_add, List.nil_append] at k1 k2 ⊢
    simp only [Array.empty_append] at k1 k2
    exact ⟨_, _, hr, hge', grownCap_le_maxLen _ _ _ _ (by simpa using h63), k1, k2⟩
  | some a0 =>
    have holds : ∀ j v, us[j]? = some v → W.cell? (a0.add j) = some v := fun j v hj => by
      obtain ⟨b', o', e1, e2⟩ := hx.cell j v hj
      cases e1
      rw [Addr.add_lit]; exact e2
    have hr := run_append_grow (P := P) W t ty e i z ht hi hz a0 xs.length c us (by rw [hsz]; exact hx.len) holds b ys.length c' vs hvl hnews hc h63' (growslice_fits hc hbound)
    obtain ⟨k1, k2⟩ := hfin _ hge
    rw [List.length_append]
    exact ⟨_, _, hr, hge, grownCap_le_maxLen _ _ _ _ h63, k1, k2⟩

/-- append to the list of a block of its own, where there is room. -/
theorem append_room {t e : TypeId} {i : TypeInfo} (ty : TypeId) (ht : P.underlying t = some (.slice e)) (hi : P.info? e = some i) {u : Ty} (hsz : i.size = u.sz)
    {xs ys : List u.den} {b : Nat} {cur : Array Value} {B : Option Addr} {vs : List Value} {c c' : Nat} (hb : W.heap[b]? = some (.cells cur e (0, 0))) (hcs : cur.size = c * u.sz)
    (hR : ∀ i x, xs[i]? = some x → RepT W St u x ((cur.toList.drop (i * u.sz)).take u.sz)) (hy : Lies W St u ys B vs) (hB : B ≠ none) (hc : xs.length + ys.length ≤ c) :
    ∃ cs, (Builtin.append_ #[t, t] ty #[.slice (some ⟨b, 0, none⟩) xs.length c, .slice B ys.length c']).run P W = .ok (.slice (some ⟨b, 0, none⟩) (xs ++ ys).length c) (W.setRow b cs) ∧
      cs.size = c * u.sz ∧ ∀ i x, (xs ++ ys)[i]? = some x → RepT W St u x ((cs.toList.drop (i * u.sz)).take u.sz) := by
  obtain ⟨b0, rfl⟩ : ∃ b, B = some b := by cases B with | none => exact absurd rfl hB | some b => exact ⟨b, rfl⟩
  have hnews : ∀ j v, vs[j]? = some v → W.cell? (b0.add j) = some v := fun j v hj => by
    obtain ⟨b', o', e1, e2⟩ := hy.cell j v hj
    cases e1
    rw [Addr.add_lit]; exact e2
  have hle : (xs.length + ys.length) * u.sz ≤ c * u.sz := Nat.mul_le_mul_right _ hc
  rw [Nat.add_mul] at hle
  have hfit : xs.length * i.size + vs.length ≤ cur.size := by rw [hsz, hy.len, hcs]; exact hle
  have hr := run_append_room (P := P) W t ty e i ht hi b xs.length c cur hb b0 ys.length c' vs (by rw [hsz]; exact hy.len) hnews hy.one hc hfit
  rw [List.length_append]
  refine ⟨_, hr, ?_, fun k x hk => ?_⟩
  · simp only [List.size_toArray, List.length_append, List.length_take, List.length_drop, Array.length_toList]
    omega
  · have htl : (cur.toList.take (xs.length * u.sz)).length = xs.length * u.sz := by
      have hcl : cur.toList.length = c * u.sz := by simpa using hcs
      rw [List.length_take, hcl]
      omega
    have := lies_append (W := W) (St := St) (ws := cur.toList.drop (xs.length * i.size + vs.length)) htl hy.len (fun j y hj => ?_) hy.rep k x hk
    · rw [hsz] at this ⊢; exact this
    · have hi := (List.getElem?_eq_some_iff.1 hj).1
      have hmul : (j + 1) * u.sz ≤ xs.length * u.sz := Nat.mul_le_mul_right _ hi
      rw [Nat.add_mul, Nat.one_mul] at hmul
      rw [List.drop_take, List.take_take, Nat.min_eq_left (by omega)]
      exact hR j y hj
end
end Al
end Go.Proofs.Ytiplmapndahmmaa
