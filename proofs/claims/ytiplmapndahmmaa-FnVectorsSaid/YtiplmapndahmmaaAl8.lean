/- The reckoning is right: addresses and parts. -/
import Derived.Test.YtiplmapndahmmaaAl7
namespace Go.Proofs.Ytiplmapndahmmaa
namespace Al
set_option linter.constructorNameAsVariable false
set_option linter.unusedVariables false
set_option linter.unusedSimpArgs false

section
variable {P : Program} {tt : Tab} {H : Hp} {df : List Deferred} {W : World} {St : Nat → Nat → Prop} {ρ : Nat → Option Value} {F : Nat → Option Nat}

theorem tab_struct (hP : TabOK P tt) {t : TypeId} {ti : TI} (ht : tget tt t = some ti) {fs : List (Nat × TypeId)} (hd : ti.dk = .st fs) :
    ∃ fields : Array Field, P.underlying t = some (.struct fields) ∧ ∀ (i off : Nat) (ft : TypeId), fs[i]? = some (off, ft) → ∃ f : Field, fields[i]? = some f ∧ f.offset = off ∧ f.type = ft := by
  obtain ⟨d, h1, h2⟩ := tab_und hP ht
  rw [hd] at h2
  cases d <;> simp only [dkOf, reduceCtorEq, DK.st.injEq] at h2
  rename_i fields
  refine ⟨fields, h1, fun i off ft hi => ?_⟩
  rw [← h2] at hi
  simp only [List.getElem?_map, Array.getElem?_toList, Option.map_eq_some_iff, Prod.mk.injEq] at hi
  obtain ⟨f, k1, k2, k3⟩ := hi
  exact ⟨f, k1, k2, k3⟩

theorem run_fieldAddr (hP : TabOK P tt) {s : TypeId} {ti fi : TI} (ht : tget tt s = some ti) {fs : List (Nat × TypeId)} (hd : ti.dk = .st fs) {f off : Nat} {ft : TypeId} (hf : fs[f]? = some (off, ft))
    (hft : tget tt ft = some fi) (hz : fi.size ≠ 0) {x : Operand} {ev : Operand → Value} {b o : Nat} (hx : ev x = .pointer (some ⟨b, o, none⟩)) (op : Oper) (ho : op.op = .fieldAddr s x f) :
    (execOp ev op).run P W = .ok (.value (.pointer (some ⟨b, o + off, none⟩))) W := by
  obtain ⟨fields, h1, h2⟩ := tab_struct hP ht hd
  obtain ⟨fl, k1, k2, k3⟩ := h2 f off ft hf
  have hs : (sizeOf fl.type).run P W = .ok fi.size W := by rw [k3]; exact run_sizeOf hP hft W
  simp [execOp, ho, Instr.fieldAt, run_underlying h1, k1, hx, Instr.sureAddr, fieldPlace, hs, hz, Addr.add_lit, k2]

theorem subT_rep : ∀ (t : Ty) (x : t.den) (d n : Nat) (c : CV) (b o : Nat) (us : List Value), RepT W St t x us → Seen W St (some ⟨b, o, none⟩) us → subT t x d n = some c →
    RepC W St ρ c (.pointer (some ⟨b, o + d, none⟩))
  | .pr p q, x, d, n, c, b, o, us, h, hs, e => by
    simp only [subT] at e
    split at e
    · rename_i hd
      cases e
      obtain ⟨rfl, _⟩ := hd
      exact ⟨b, o, us, rfl, h, hs⟩
    · obtain ⟨c1, c2, rfl, h1, h2⟩ := h
      split at e
      · exact subT_rep p x.1 d n c b o c1 h1 (fun j u hj => hs j u (by rw [List.getElem?_append_left (List.getElem?_eq_some_iff.1 hj).1]; exact hj)) e
      · rename_i hlt
        have hlen := h1.length
        have := subT_rep q x.2 (d - p.sz) n c b (o + p.sz) c2 h2 (fun j u hj => by
          obtain ⟨b', o', e1, e2, e3⟩ := hs (p.sz + j) u (by rw [List.getElem?_append_right (by omega), hlen]; simpa using hj)
          cases e1
          exact ⟨b, o + p.sz, rfl, by rw [Nat.add_assoc]; exact e2, by rw [Nat.add_assoc]; exact e3⟩) e
        rw [show o + p.sz + (d - p.sz) = o + d from by omega] at this
        exact this
  | .num k, x, d, n, c, b, o, us, h, hs, e => by
    simp only [subT] at e
    split at e
    · rename_i hd; cases e; obtain ⟨rfl, _⟩ := hd; exact ⟨b, o, us, rfl, h, hs⟩
    · cases e
  | .boo, x, d, n, c, b, o, us, h, hs, e => by
    simp only [subT] at e
    split at e
    · rename_i hd; cases e; obtain ⟨rfl, _⟩ := hd; exact ⟨b, o, us, rfl, h, hs⟩
    · cases e
  | .st, x, d, n, c, b, o, us, h, hs, e => by
    simp only [subT] at e
    split at e
    · rename_i hd; cases e; obtain ⟨rfl, _⟩ := hd; exact ⟨b, o, us, rfl, h, hs⟩
    · cases e
  | .sl t, x, d, n, c, b, o, us, h, hs, e => by
    simp only [subT] at e
    split at e
    · rename_i hd; cases e; obtain ⟨rfl, _⟩ := hd; exact ⟨b, o, us, rfl, h, hs⟩
    · cases e

theorem oneCell_ptr (a : Option Addr) : (Value.pointer a).oneCell' = true := rfl

theorem evFieldAddr_sound (hP : TabOK P tt) (hS : SimH H df W St ρ F) {s : TypeId} {x : Operand} {f : Nat} {a : Act} {y sx : SV} (hx : RepS W St ρ sx (a.eval x)) (h : evFieldAddr tt s sx f = some y)
    (o : Oper) (ho : o.op = .fieldAddr s x f) : OpR P (execOp a.eval o) H df W St ρ F y [] := by
  unfold evFieldAddr at h
  split at h
  · rename_i ti ht
    split at h
    · rename_i fs hd
      split at h
      · rename_i off ft hf
        split at h
        · rename_i fi hft
          split at h
          · cases h
          · rename_i hz
            split at h
            · rename_i ob d
              cases h
              obtain ⟨_, b, hr, hu⟩ := hx
              exact OpR.pure hS (run_fieldAddr hP ht hd hf hft hz hu o ho) ⟨rfl, b, hr, rfl⟩
            · rename_i u z
              simp only [Option.map_eq_some_iff] at h
              obtain ⟨c, hc, rfl⟩ := h
              obtain ⟨_, b, off', us, hu, h1, h2⟩ := hx
              exact OpR.pure hS (run_fieldAddr hP ht hd hf hft hz hu o ho) (RepA.of rfl (subT_rep u z off fi.size c b off' us h1 h2 hc))
            · rename_i ob sz i d
              cases h
              obtain ⟨b, n, c, hr, h0, h1, hu⟩ := hx
              exact OpR.pure hS (run_fieldAddr hP ht hd hf hft hz hu o ho) ⟨b, n, c, hr, h0, h1, by rw [Nat.add_assoc]⟩
            · cases h
        · cases h
      · cases h
    · cases h
  · cases h

theorem evField_sound (hP : TabOK P tt) (hS : SimH H df W St ρ F) {s : TypeId} {x : Operand} {f : Nat} {a : Act} {y : AV} {sx : SV} (hx : RepS W St ρ sx (a.eval x)) (h : evField tt s sx f = some y)
    (o : Oper) (ho : o.op = .field s x f) : OpR P (execOp a.eval o) H df W St ρ F (.v y) [] := by
  unfold evField at h
  split at h
  · rename_i ti cs ht
    split at h
    · rename_i fs hd
      split at h
      · rename_i off ft hf
        split at h
        · rename_i fi hft
          obtain ⟨us, hu, hr⟩ := hx
          obtain ⟨fields, h1, h2⟩ := tab_struct hP ht hd
          obtain ⟨fl, k1, k2, k3⟩ := h2 f off ft hf
          have hag := run_isAgg hP hft W
          have hsz := run_sizeOf hP hft W
          rw [← k3] at hag hsz
          split at h
          · rename_i hg
            split at h
            · rename_i hle
              cases h
              refine OpR.pure (u := .agg (us.toArray.extract off (off + fi.size))) hS ?_ ⟨(us.drop off).take fi.size, ?_, (hr.drop off).take _⟩
              · simp [execOp, ho, Instr.field, run_underlying h1, k1, hu, asAgg, part, hag, hsz, hg, k2]
              · congr 1
                apply Array.ext'
                simp [List.take_drop]
            · cases h
          · rename_i hg
            have hg : fi.dk.agg = false := by simpa using hg
            split at h
            · rename_i c hc
              cases h
              obtain ⟨u, g1, g2, g3⟩ := hr.get hc
              refine OpR.pure (u := u) hS ?_ (RepA.of g2 g3)
              simp [execOp, ho, Instr.field, run_underlying h1, k1, hu, asAgg, part, hag, hg, k2, g1]
            · cases h
        · cases h
      · cases h
    · cases h
  · cases h

theorem run_indexAddr (hP : TabOK P tt) {t : TypeId} {ti te : TI} (ht : tget tt t = some ti) {e : TypeId} (hd : ti.dk = .sl e) (he : tget tt e = some te) {x y : Operand} {ev : Operand → Value} {b o n c : Nat}
    {k : IntKind} {i : Int} (hx : ev x = .slice (some ⟨b, o, none⟩) n c) (hy : ev y = .int k i) (h0 : 0 ≤ i) (h1 : i < n) (op : Oper) (ho : op.op = .indexAddr t x y) :
    (execOp ev op).run P W = .ok (.value (.pointer (some ⟨b, o + i.toNat * te.size, none⟩))) W := by
  have hu := tab_slice hP ht hd
  have hs := run_sizeOf hP he W
  have hc : 0 ≤ i ∧ i < (n : Int) := ⟨h0, h1⟩
  simp [execOp, ho, Instr.indexAt, hx, hy, asIntOf, run_underlying hu, hs, hc, Addr.add_lit]

theorem evIndexAddr_sound (hP : TabOK P tt) (hS : SimH H df W St ρ F) {t : TypeId} {x y : Operand} {a : Act} {C : List Prop} {z sx sy : SV} (hx : RepS W St ρ sx (a.eval x)) (hy : RepS W St ρ sy (a.eval y))
    (h : evIndexAddr tt H t sx sy = some (C, z)) (hC : ∀ p ∈ C, p) (o : Oper) (ho : o.op = .indexAddr t x y) : OpR P (execOp a.eval o) H df W St ρ F z [] := by
  unfold evIndexAddr at h
  split at h
  · rename_i ti k i ht
    have ey := rep_int hy
    split at h
    · rename_i e hd
      split at h
      · rename_i te he
        split at h
        · rename_i f u xs
          split at h
          · rename_i hsz
            cases h
            obtain ⟨h0, h1⟩ := hC _ (List.mem_singleton.2 rfl)
            obtain ⟨_, A, c, ex, ⟨_, _, _, us, k1, k2, k3⟩, _⟩ := hx
            have hlen : i.toNat < xs.length := by omega
            have hpos := u.sz_pos
            have hmul : (i.toNat + 1) * u.sz ≤ xs.length * u.sz := Nat.mul_le_mul_right _ hlen
            have hlt : i.toNat * u.sz < us.length := by rw [k1]; rw [Nat.add_mul] at hmul; omega
            obtain ⟨b, off, rfl, _, _⟩ := k3 (i.toNat * u.sz) us[i.toNat * u.sz] (by simp [hlt])
            refine OpR.pure hS (run_indexAddr hP ht hd he ex ey h0 h1 o ho) ⟨rfl, b, off + i.toNat * te.size, _, rfl, k2 _ _ (getD_rep h0 h1), fun j v hj => ?_⟩
            obtain ⟨b', o', e1, e2, e3⟩ := k3 _ v (take_drop_get hj)
            cases e1
            rw [← hsz]
            exact ⟨b, off + i.toNat * u.sz, rfl, by rw [Nat.add_assoc]; exact e2, by rw [Nat.add_assoc]; exact e3⟩
          · cases h
        · rename_i ob
          split at h
          · rename_i e' u xs hob
            split at h
            · rename_i hsz
              cases h
              obtain ⟨h0, h1⟩ := hC _ (List.mem_singleton.2 rfl)
              obtain ⟨_, hr, _⟩ := hx
              have hv := hS.obj ob
              rw [hob] at hv
              obtain ⟨A, c, e1, e2⟩ := hv
              have ex : a.eval x = .slice A xs.length c := by rw [hr] at e1; exact Option.some.inj e1
              rcases e2 with ⟨rfl, _⟩ | ⟨b, cur, rfl, g1, g2, g3, g4, g5, g6⟩
              · exfalso; simp only [List.length_nil] at h1; omega
              · refine OpR.pure hS (run_indexAddr hP ht hd he ex ey h0 h1 o ho) ⟨b, xs.length, c, e1, h0, h1, by simp⟩
            · cases h
          · rename_i u xs hob
            split at h
            · rename_i hsz
              cases h
              obtain ⟨h0, h1⟩ := hC _ (List.mem_singleton.2 rfl)
              obtain ⟨_, hr, _⟩ := hx
              obtain ⟨A, c, ex, _, _, _, us, k1, k2, k3⟩ := vz_list hS hob hr
              have hlen : i.toNat < xs.length := by omega
              have hpos := u.sz_pos
              have hmul : (i.toNat + 1) * u.sz ≤ xs.length * u.sz := Nat.mul_le_mul_right _ hlen
              have hlt : i.toNat * u.sz < us.length := by rw [k1]; rw [Nat.add_mul] at hmul; omega
              obtain ⟨b, off, rfl, _, _⟩ := k3 (i.toNat * u.sz) us[i.toNat * u.sz] (by simp [hlt])
              refine OpR.pure hS (run_indexAddr hP ht hd he ex ey h0 h1 o ho) ⟨rfl, b, off + i.toNat * te.size, _, rfl, k2 _ _ (getD_rep h0 h1), fun j v hj => ?_⟩
              obtain ⟨b', o', e1, e2, e3⟩ := k3 _ v (take_drop_get hj)
              cases e1
              rw [← hsz]
              exact ⟨b, off + i.toNat * u.sz, rfl, by rw [Nat.add_assoc]; exact e2, by rw [Nat.add_assoc]; exact e3⟩
            · cases h
          · cases h
        · cases h
      · cases h
    · cases h
  · cases h
end
end Al
end Go.Proofs.Ytiplmapndahmmaa
