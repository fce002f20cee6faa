/- The reckoning is right: loads, addresses, parts. -/
import Derived.Test.YtiplmapndahmmaaAl6
namespace Go.Proofs.Ytiplmapndahmmaa
namespace Al
set_option linter.constructorNameAsVariable false
set_option linter.unusedVariables false

section
variable {P : Program} {tt : Tab} {H : Hp} {df : List Deferred} {W : World} {St : Nat → Nat → Prop} {ρ : Nat → Option Value} {F : Nat → Option Nat}

theorem cell_at {b : Nat} {cur : Array Value} {e : TypeId} (h : W.heap[b]? = some (.cells cur e (0, 0))) (i : Nat) : W.cell? ⟨b, i, none⟩ = cur.toList[i]? := by
  simp [World.cell?, h]

theorem run_loadVar (hP : TabOK P tt) {t : TypeId} {ti : TI} (ht : tget tt t = some ti) {b o : Nat} {vs : List Value}
    (hc : ∀ j v, vs[j]? = some v → W.cell? ⟨b, o + j, none⟩ = some v) (hl : vs.length = ti.size) (hs : ti.dk.agg = false → vs.length = 1) :
    (loadVar t ⟨b, o, none⟩).run P W = .ok (if ti.dk.agg then .agg vs.toArray else vs.headD undef) W := by
  unfold loadVar
  simp only [Sem.run_bind, run_isAgg hP ht, Result.andThen_ok]
  cases hd : ti.dk.agg with
  | true =>
    simp only [if_true, Sem.run_bind, run_sizeOf hP ht, Result.andThen_ok]
    rw [← hl, run_loadCells_list W ⟨b, o, none⟩ vs (fun j v hj => by rw [Addr.add_lit]; exact hc j v hj)]
    rfl
  | false =>
    obtain ⟨v, rfl⟩ : ∃ v, vs = [v] := by
      have := hs hd
      match vs, this with
      | [v], _ => exact ⟨v, rfl⟩
    have h0 := hc 0 v rfl
    simp only [Nat.add_zero] at h0
    simp [h0]

/-- What a load hands back, by the cells that stand there. -/
theorem load_rep {b o : Nat} {cs : List CV} {vs : List Value} {ti : TI} {x : AV} (h : RepCs W St ρ cs vs) (hx : x = if ti.dk.agg then .ag cs else .c (cs.headD .un)) (hs : ti.dk.agg = false → cs.length = 1) :
    RepS W St ρ (.v x) (if ti.dk.agg then .agg vs.toArray else vs.headD undef) := by
  subst hx
  cases hd : ti.dk.agg with
  | true => exact ⟨vs, rfl, h⟩
  | false =>
    obtain ⟨c, rfl⟩ : ∃ c, cs = [c] := by
      have := hs hd
      match cs, this with
      | [v], _ => exact ⟨v, rfl⟩
    obtain ⟨u, us', rfl, h1, h2, _⟩ := h
    exact RepA.of h1 h2

theorem run_load_op {t : TypeId} {x : Operand} {ev : Operand → Value} {a : Addr} {v : Value} (o : Oper) (ho : o.op = .load t x) (hx : ev x = .pointer (some a)) (h : (loadVar t a).run P W = .ok v W) :
    (execOp ev o).run P W = .ok (.value v) W := by
  simp [execOp, ho, hx, Instr.loadAt, Instr.sureAddr, h]

theorem take_drop_get {α : Type} {l : List α} {d n j : Nat} {v : α} (h : ((l.drop d).take n)[j]? = some v) : l[d + j]? = some v := by
  rw [List.getElem?_take] at h
  split at h
  · rw [List.getElem?_drop] at h; exact h
  · cases h

theorem getD_rep {t : Ty} {xs : List t.den} {i : Int} (h0 : 0 ≤ i) (h1 : i < xs.length) : xs[i.toNat]? = some (xs.getD i.toNat t.dflt) := by
  have : i.toNat < xs.length := by omega
  simp [List.getD, this]

theorem vc_block (hS : SimH H df W St ρ F) {o : Nat} {e : TypeId} {t : Ty} {xs : List t.den} (ho : H o = .vc e t xs) {b n c : Nat} (hr : ρ o = some (.slice (some ⟨b, 0, none⟩) n c)) (hn : 0 < n) :
    n = xs.length ∧ F o = some b ∧ ∃ cur, W.heap[b]? = some (.cells cur e (0, 0)) ∧ xs.length ≤ c ∧ c ≤ maxLen ∧ cur.size = c * t.sz ∧
      ∀ i x, xs[i]? = some x → RepT W St t x ((cur.toList.drop (i * t.sz)).take t.sz) := by
  have h := hS.obj o
  rw [ho] at h
  obtain ⟨A, c', h1, h2⟩ := h
  rw [hr] at h1
  cases h1
  refine ⟨rfl, ?_⟩
  rcases h2 with ⟨rfl, _⟩ | ⟨b', cur, h3, h4, h5, h6, h7, h8, h9⟩
  · simp at hn
  · cases h3
    exact ⟨h9, cur, h4, h5, h6, h7, h8⟩

theorem vz_list (hS : SimH H df W St ρ F) {o : Nat} {t : Ty} {xs : List t.den} (ho : H o = .vz t xs) {u : Value} (hr : ρ o = some u) :
    ∃ A c, u = .slice A xs.length c ∧ RepL W St t.sz (fun x us => RepT W St t x us) xs A c := by
  have h := hS.obj o
  rw [ho] at h
  obtain ⟨⟨A, c', h1, h2⟩, _⟩ := h
  rw [hr] at h1
  cases h1
  exact ⟨A, c', rfl, h2⟩

/-- An element's cells. -/
theorem elem_cells {b n c : Nat} {cur : Array Value} {e : TypeId} {t : Ty} {xs : List t.den} (hb : W.heap[b]? = some (.cells cur e (0, 0))) (hc : xs.length ≤ c) (hsz : cur.size = c * t.sz)
    (hR : ∀ i x, xs[i]? = some x → RepT W St t x ((cur.toList.drop (i * t.sz)).take t.sz)) {i : Int} (h0 : 0 ≤ i) (h1 : i < xs.length) :
    RepCs W St ρ (t.cvs (xs.getD i.toNat t.dflt)) ((cur.toList.drop (i.toNat * t.sz)).take t.sz) ∧
      ∀ j v, ((cur.toList.drop (i.toNat * t.sz)).take t.sz)[j]? = some v → W.cell? ⟨b, i.toNat * t.sz + j, none⟩ = some v :=
  ⟨RepT.cvs t _ _ (hR _ _ (getD_rep h0 h1)), fun j v hj => by rw [cell_at hb]; exact take_drop_get hj⟩

theorem rep_headD {cs : List CV} {d : Nat} {c : CV} (h : cs[d]? = some c) : (cs.drop d).take 1 = [c] := by
  have hlt : d < cs.length := (List.getElem?_eq_some_iff.1 h).1
  rw [List.drop_eq_getElem_cons hlt]
  simp [(List.getElem?_eq_some_iff.1 h).2]

theorem evLoad_pure (hP : TabOK P tt) (hS : SimH H df W St ρ F) {t : TypeId} {y : AV} {sx : SV} {v : Value} (hx : RepS W St ρ sx v) (h : evLoad tt H t sx = some y) :
    ∃ ad u, v = .pointer (some ad) ∧ (loadVar t ad).run P W = .ok u W ∧ RepS W St ρ (.v y) u := by
  unfold evLoad at h
  split at h
  · cases h
  · rename_i ti ht
    have hone := (tab_row hP ht).2.2.2.2.2
    split at h
    · rename_i ob d
      obtain ⟨_, b, hr, hu⟩ := hx
      split at h
      · rename_i cs hcs
        have hob := hS.obj ob
        rw [hcs] at hob
        obtain ⟨b', cur, e, h1, h2, h3, h4⟩ := hob
        rw [hr] at h1
        cases h1
        have hcell : ∀ n j v, ((cur.toList.drop d).take n)[j]? = some v → W.cell? ⟨b, d + j, none⟩ = some v := fun n j v hj => by rw [cell_at h2]; exact take_drop_get hj
        split at h
        · rename_i hag
          split at h
          · rename_i hle
            cases h
            have hl : ((cur.toList.drop d).take ti.size).length = ti.size := by
              have := h3.length
              rw [List.length_take, List.length_drop]; omega
            have hrun := run_loadVar hP ht (hcell ti.size) hl (fun e => by rw [hag] at e; cases e)
            exact ⟨_, _, hu, hrun, load_rep (b := b) (o := d) ((h3.drop d).take _) (by rw [if_pos hag]) (fun e => by rw [hag] at e; cases e)⟩
          · cases h
        · rename_i hag
          have hag : ti.dk.agg = false := by simpa using hag
          split at h
          · rename_i c hc
            cases h
            have hl : ((cur.toList.drop d).take 1).length = 1 := by
              have := h3.length
              have := (List.getElem?_eq_some_iff.1 hc).1
              rw [List.length_take, List.length_drop]; omega
            have hrun := run_loadVar hP ht (hcell 1) (by rw [hl, hone hag]) (fun _ => hl)
            exact ⟨_, _, hu, hrun, load_rep (b := b) (o := d) (cs := [c]) (by rw [← rep_headD hc]; exact (h3.drop d).take _) (by rw [hag]; rfl) (fun _ => rfl)⟩
          · cases h
      · cases h
    · rename_i u z
      obtain ⟨_, b, off, us, hu, h1, h2⟩ := hx
      have hcell : ∀ j v, us[j]? = some v → W.cell? ⟨b, off + j, none⟩ = some v := fun j v hj => by
        obtain ⟨b', o', e1, e2, _⟩ := h2 j v hj
        cases e1
        exact e2
      split at h
      · rename_i hag
        split at h
        · rename_i hsz
          cases h
          have hrun := run_loadVar hP ht hcell (by rw [h1.length, hsz]) (fun e => by rw [hag] at e; cases e)
          exact ⟨_, _, hu, hrun, load_rep (b := b) (o := off) (RepT.cvs u z us h1) (by rw [if_pos hag]) (fun e => by rw [hag] at e; cases e)⟩
        · cases h
      · rename_i hag
        have hag : ti.dk.agg = false := by simpa using hag
        split at h
        · rename_i c hc
          cases h
          have hl : us.length = 1 := by rw [h1.length, ← Ty.cvs_length u z, hc]; rfl
          have hrun := run_loadVar hP ht hcell (by rw [hl, hone hag]) (fun _ => hl)
          exact ⟨_, _, hu, hrun, load_rep (b := b) (o := off) (cs := [c]) (by rw [← hc]; exact RepT.cvs u z us h1) (by rw [hag]; rfl) (fun _ => rfl)⟩
        · cases h
    · rename_i ob sz i d
      obtain ⟨b, n, c, hr, h0, h1, hu⟩ := hx
      split at h
      · rename_i e u xs hcs
        obtain ⟨rfl, _, cur, k1, k2, _, k3, k4⟩ := vc_block hS hcs hr (by omega)
        obtain ⟨g1, g2⟩ := elem_cells (ρ := ρ) (n := 0) k1 k2 k3 k4 h0 h1
        split at h
        · rename_i hsz
          subst hsz
          split at h
          · rename_i hag
            split at h
            · rename_i hd
              obtain ⟨rfl, hd⟩ := hd
              cases h
              have hrun := run_loadVar hP ht g2 (by rw [g1.length, Ty.cvs_length, hd]) (fun e => by rw [hag] at e; cases e)
              exact ⟨_, _, hu, hrun, load_rep (b := b) (o := 0) g1 (by rw [if_pos hag]) (fun e => by rw [hag] at e; cases e)⟩
            · cases h
          · rename_i hag
            have hag : ti.dk.agg = false := by simpa using hag
            split at h
            · rename_i c' hc
              cases h
              have g3 := (g1.drop d).take 1
              rw [rep_headD hc] at g3
              have hcell : ∀ j v, ((((cur.toList.drop (i.toNat * u.sz)).take u.sz).drop d).take 1)[j]? = some v → W.cell? ⟨b, i.toNat * u.sz + d + j, none⟩ = some v := fun j v hj => by
                rw [Nat.add_assoc]; exact g2 _ v (take_drop_get hj)
              have hrun := run_loadVar hP ht hcell (by rw [g3.length, hone hag]; rfl) (fun _ => by rw [g3.length]; rfl)
              exact ⟨_, _, hu, hrun, load_rep (b := b) (o := 0) g3 (by rw [hag]; rfl) (fun _ => rfl)⟩
            · cases h
        · cases h
      · rename_i u xs hcs
        obtain ⟨A, c', e1, k⟩ := vz_list hS hcs hr
        cases e1
        obtain ⟨_, _, _, us, k1, k2, k3⟩ := k
        have g1 : RepCs W St ρ (u.cvs (xs.getD i.toNat u.dflt)) ((us.drop (i.toNat * u.sz)).take u.sz) := RepT.cvs u _ _ (k2 _ _ (getD_rep h0 h1))
        have g2 : ∀ j v, ((us.drop (i.toNat * u.sz)).take u.sz)[j]? = some v → W.cell? ⟨b, i.toNat * u.sz + j, none⟩ = some v := fun j v hj => by
          obtain ⟨b', o', e1, e2, _⟩ := k3 _ v (take_drop_get hj)
          cases e1
          simpa using e2
        split at h
        · rename_i hsz
          subst hsz
          split at h
          · rename_i hag
            split at h
            · rename_i hd
              obtain ⟨rfl, hd⟩ := hd
              cases h
              have hrun := run_loadVar hP ht g2 (by rw [g1.length, Ty.cvs_length, hd]) (fun e => by rw [hag] at e; cases e)
              exact ⟨_, _, hu, hrun, load_rep (b := b) (o := 0) g1 (by rw [if_pos hag]) (fun e => by rw [hag] at e; cases e)⟩
            · cases h
          · rename_i hag
            have hag : ti.dk.agg = false := by simpa using hag
            split at h
            · rename_i c' hc
              cases h
              have g3 := (g1.drop d).take 1
              rw [rep_headD hc] at g3
              have hcell : ∀ j v, ((((us.drop (i.toNat * u.sz)).take u.sz).drop d).take 1)[j]? = some v → W.cell? ⟨b, i.toNat * u.sz + d + j, none⟩ = some v := fun j v hj => by
                rw [Nat.add_assoc]; exact g2 _ v (take_drop_get hj)
              have hrun := run_loadVar hP ht hcell (by rw [g3.length, hone hag]; rfl) (fun _ => by rw [g3.length]; rfl)
              exact ⟨_, _, hu, hrun, load_rep (b := b) (o := 0) g3 (by rw [hag]; rfl) (fun _ => rfl)⟩
            · cases h
        · cases h
      · cases h
    · cases h

theorem evLoad_sound (hP : TabOK P tt) (hS : SimH H df W St ρ F) {t : TypeId} {x : Operand} {a : Act} {y : AV} {sx : SV} (hx : RepS W St ρ sx (a.eval x)) (h : evLoad tt H t sx = some y)
    (o : Oper) (ho : o.op = .load t x) : OpR P (execOp a.eval o) H df W St ρ F (.v y) [] := by
  obtain ⟨ad, u, h1, h2, h3⟩ := evLoad_pure hP hS hx h
  exact OpR.pure hS (run_load_op o ho h1 h2) h3
end
end Al
end Go.Proofs.Ytiplmapndahmmaa
