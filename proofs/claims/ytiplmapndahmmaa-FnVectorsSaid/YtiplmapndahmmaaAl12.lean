/- The reckoning is right: append, lists made. -/
import Derived.Test.YtiplmapndahmmaaAl11
namespace Go.Proofs.Ytiplmapndahmmaa
namespace Al
set_option linter.constructorNameAsVariable false
set_option linter.unusedVariables false
set_option linter.unusedSimpArgs false

section
variable {P : Program} {tt : Tab} {H : Hp} {df : List Deferred} {W : World} {St : Nat → Nat → Prop} {ρ : Nat → Option Value} {F : Nat → Option Nat}

theorem nil_lies {t : Ty} {A : Option Addr} : Lies W St t [] A [] := ⟨by simp, fun j v hj => by simp at hj, fun i x hx => by simp at hx⟩

theorem appArg_lies (hS : SimH H df W St ρ F) {el : Ty} {y : SV} {u : Value} {ys : List el.den} (hy : RepS W St ρ y u) (h : appArg H el y = some ys) :
    ∃ B c vs, u = .slice B ys.length c ∧ (B = none → c = 0) ∧ ys.length ≤ c ∧ Lies W St el ys B vs := by
  unfold appArg at h
  split at h
  · cases h
    exact ⟨none, 0, [], hy.2, fun _ => rfl, Nat.le_refl _, nil_lies⟩
  · split at h
    · rename_i u' ys' hl
      obtain ⟨e, rfl⟩ := castL_some h
      subst e
      obtain ⟨A, c, us, h1, h2, _, h3, h4⟩ := lst_lies hS hy hl
      exact ⟨A, c, us, h1, h3, h2, h4⟩
    · cases h

/-- The list that is grown. -/
inductive Grows (H : Hp) (el : Ty) (e : TypeId) : SV → Option Nat → Bool → List el.den → Prop
  | nl : Grows H el e (.v (.c .nl)) none false []
  | ho {o : Nat} {xs : List el.den} (h : H o = .vc e el xs) : Grows H el e (.v (.c (.ho o))) (some o) false xs
  | ls {xs : List el.den} : Grows H el e (.v (.c (.ls true el xs))) none true xs

theorem run_append_call {t : TypeId} {ats : Array TypeId} (h0 : ats[0]? = some t) (h1 : ats[1]? = some t) {x y : Operand} {ev : Operand → Value} {v : Value} {W' : World} {u w : Value} (hx : ev x = u) (hy : ev y = w)
    (o : Oper) (ho : o.op = .call { callee := .builtin .append, args := #[x, y], argTypes := ats }) (h : (Builtin.append_ #[t, t] o.type #[u, w]).run P W = .ok v W') : (execOp ev o).run P W = .ok (.value v) W' := by
  obtain ⟨cs, hcs⟩ := run_call_builtin (P := P) (W := W) (ev := ev) o ho
  rw [hcs]
  have e : (Builtin.append_ ats o.type #[u, w]) = (Builtin.append_ #[t, t] o.type #[u, w]) := by
    unfold Builtin.append_
    simp only [h0, h1]
    rfl
  simp only [List.map_toArray, List.map_cons, List.map_nil, hx, hy, builtin, e, Sem.run_bind, h, Result.andThen_ok, Sem.run_pure]

theorem ho_rep {o : Nat} {v : Value} {A : Option Addr} {n c : Nat} (hv : v = .slice A n c) : RepS W St (upd ρ o (some v)) (.v (.c (.ho o))) v := by
  subst hv
  exact ⟨rfl, upd_same _ _ _, A, n, c, rfl⟩

/-- What an append comes to: the new object o' takes the place of o, if there is one. -/
theorem append_sound (hP : TabOK P tt) (hS : SimH H df W St ρ F) {t e : TypeId} {ti te : TI} (ht : tget tt t = some ti) (hd : ti.dk = .sl e) (he : tget tt e = some te) (hsz : te.size = ti.el.sz) {o' : Nat} (ho' : H o' = .fr)
    {ats : Array TypeId} (h0 : ats[0]? = some t) (h1 : ats[1]? = some t) {x y : Operand} {a : Act} {sx sy : SV} (hx : RepS W St ρ sx (a.eval x)) (hy : RepS W St ρ sy (a.eval y)) {ob : Option Nat} {f : Bool} {xs ys : List ti.el.den}
    (hg : Grows H ti.el e sx ob f xs) (hya : appArg H ti.el sy = some ys) (hf : f = true → xs = [] ∨ 0 < ys.length) (hb0 : 0 < te.bytes) (hb : (xs.length + ys.length) * te.bytes ≤ 140737488355328)
    (o : Oper) (ho : o.op = .call { callee := .builtin .append, args := #[x, y], argTypes := ats }) :
    OpR P (execOp a.eval o) H df W St ρ F (.v (.c (.ho o'))) ((ob.toList.map fun o => (o, AObj.dd)) ++ [(o', .vc e ti.el (xs ++ ys))]) := by
  have hu := tab_slice hP ht hd
  obtain ⟨i, hi, hi1, hi2, hi3⟩ := tab_info hP he
  have hsz' : i.size = ti.el.sz := by rw [hi1, hsz]
  have hzs : (zvA te.zero).cells.size = ti.el.sz := by
    have h1 := zvA_cells _ (tab_row hP he).2.2.1
    have h2 := (tab_row hP he).2.2.2.1
    have : (zvA te.zero).cells.toList.length = te.size := by rw [h1, List.length_map, h2]
    rw [← hsz, ← this]; simp
  have h63 : xs.length + ys.length ≤ maxLen := by
    have : (xs.length + ys.length) * 1 ≤ (xs.length + ys.length) * te.bytes := Nat.mul_le_mul_left _ hb0
    simp only [maxLen]
    omega
  obtain ⟨B, c', vs, ey, hBc, hyc, hyl⟩ := appArg_lies hS hy hya
  -- the list x, as it lies
  obtain ⟨A, c, us, ex, hxc, hxm, hA, hxl, hown⟩ : ∃ A c us, a.eval x = .slice A xs.length c ∧ xs.length ≤ c ∧ c ≤ maxLen ∧ (A = none → c = 0) ∧ Lies W St ti.el xs A us ∧
      ((f = true ∧ c = xs.length ∧ ob = none) ∨ (ob = none ∧ xs = [] ∧ c = 0) ∨ ∃ o, ob = some o ∧ H o = .vc e ti.el xs ∧ ρ o = some (.slice A xs.length c)) := by
    cases hg with
    | nl => exact ⟨none, 0, [], hx.2, Nat.le_refl _, Nat.zero_le _, fun _ => rfl, nil_lies, .inr (.inl ⟨rfl, rfl, rfl⟩)⟩
    | @ho o1 xs h =>
      obtain ⟨A, c, us, g1, g2, g3, g4, g5⟩ := lst_lies hS hx (show lstOf H (.v (.c (.ho o1))) = some ⟨ti.el, xs⟩ by simp [lstOf, h])
      exact ⟨A, c, us, g1, g2, g3, g4, g5, .inr (.inr ⟨o1, rfl, h, by rw [← g1]; exact hx.2.1⟩)⟩
    | ls =>
      obtain ⟨_, A, c, g1, g2, g3⟩ := hx
      obtain ⟨A', c', us, k1, k2, k3, k4, k5⟩ := lst_lies hS (x := .v (.c (.ls true ti.el xs))) (u := .slice A xs.length c) ⟨rfl, A, c, rfl, g2, g3⟩ rfl
      cases k1
      exact ⟨A, c, us, g1, k2, k3, k4, k5, .inl ⟨rfl, g3 rfl, rfl⟩⟩
  clear hg
  have hne : ∀ o1, ob = some o1 → o1 ≠ o' := fun o1 e1 e2 => by
    rcases hown with ⟨_, _, h⟩ | ⟨h, _⟩ | ⟨o2, h, h2, _⟩
    · rw [h] at e1; cases e1
    · rw [h] at e1; cases e1
    · rw [h] at e1; cases e1; subst e2; rw [ho'] at h2; cases h2
  have hr0 := (fr_none hS ho').1
  rcases Nat.eq_zero_or_pos ys.length with hy0 | hy0
  · -- nothing is appended
    have hys : ys = [] := List.eq_nil_of_length_eq_zero hy0
    subst hys
    have hrun : (execOp a.eval o).run P W = .ok (.value (.slice A xs.length c)) W := run_append_call h0 h1 ex ey o ho (run_append_zero hu hi A B xs.length c c' hxc)
    rw [List.append_nil]
    have fresh0 : ∀ {c}, xs = [] → c = 0 → (execOp a.eval o).run P W = .ok (.value (.slice A xs.length c)) W → ob = none →
        OpR P (execOp a.eval o) H df W St ρ F (.v (.c (.ho o'))) ((ob.toList.map fun o => (o, AObj.dd)) ++ [(o', .vc e ti.el xs)]) := fun {c} e1 e2 hrun e3 => by
      subst e1 e2 e3
      have key := hS.set (W' := W) o' (.vc e ti.el []) (upd ρ o' (some (.slice A 0 0))) none rfl rfl rfl (Nat.le_refl _) (fun _ _ _ => rfl) (RLe.upd _ hr0) (fun _ h => upd_other _ _ h) (fun b e => by cases e)
        (fun k => by rw [upd_same]; exact ⟨A, 0, rfl, .inl ⟨rfl, rfl, rfl⟩⟩)
      exact ⟨_, W, St, _, _, .inl hrun, ho_rep rfl, key.1, key.2.1, RLe.upd _ hr0, key.2.2⟩
    rcases hown with ⟨e1, e2, e3⟩ | ⟨e1, e2, e3⟩ | ⟨o1, e1, e2, e3⟩
    · rcases hf e1 with h | h
      · exact fresh0 h (by rw [e2, h]; rfl) hrun e3
      · simp at h
    · exact fresh0 e2 e3 hrun e1
    · subst e1
      have hob := hS.obj o1
      rw [e2] at hob
      obtain ⟨A', c1, g1, g2⟩ := hob
      rw [e3] at g1
      cases g1
      have key := hS.give (W' := W) o1 o' (.vc e ti.el xs) (.slice A xs.length c) (F o1) ho' (hne o1 rfl) rfl rfl rfl (Nat.le_refl _) (fun _ _ _ => rfl) (fun b hb => ⟨.inl hb, hS.lt _ _ hb⟩)
        (fun k => ⟨A, c, rfl, g2⟩)
      exact ⟨_, W, St, _, _, .inl hrun, ho_rep rfl, key.1, key.2.1, RLe.upd _ hr0, key.2.2⟩
  · have hB : B ≠ none := fun e => by have := hBc e; omega
    rcases Nat.lt_or_ge c (xs.length + ys.length) with hc | hc
    · -- a new block
      obtain ⟨g, cs, hrun, k1, k2, k3, k4⟩ := append_new o.type (c' := c') hu hi hi3 hsz' hzs hxl hyl hA hxc hy0 hc hB (by rw [hi2]; exact hb) h63
      have hrun' := run_append_call h0 h1 ex ey o ho hrun
      have hk : Keeps W St (W.drew.alloc (.cells cs e)) St → RepX (W.drew.alloc (.cells cs e)) St ti.el e (xs ++ ys) (some ⟨W.heap.size, 0, none⟩) g (some W.heap.size) := fun k =>
        .inr ⟨W.heap.size, cs, rfl, heap_alloc_new W.drew _, k1, k2, k3, fun i x hx => (k4 i x hx).keep k _ _ _, rfl⟩
      have fresh1 : ob = none → OpR P (execOp a.eval o) H df W St ρ F (.v (.c (.ho o'))) ((ob.toList.map fun o => (o, AObj.dd)) ++ [(o', .vc e ti.el (xs ++ ys))]) := fun e1 => by
        subst e1
        exact OpR.fresh hS ho' (.cells cs e) (.inr rfl) _ _ _ hrun' (fun k hl => ⟨_, g, rfl, hk k⟩) (ho_rep rfl)
      rcases hown with ⟨_, _, e1⟩ | ⟨e1, _⟩ | ⟨o1, e1, e2, e3⟩
      · exact fresh1 e1
      · exact fresh1 e1
      · subst e1
        have hsz1 : (W.drew.alloc (.cells cs e)).heap.size = W.heap.size + 1 := Array.size_push _
        have key := hS.give (W' := W.drew.alloc (.cells cs e)) o1 o' (.vc e ti.el (xs ++ ys)) (.slice (some ⟨W.heap.size, 0, none⟩) (xs ++ ys).length g) (some W.heap.size) ho' (hne o1 rfl) rfl rfl rfl (by omega)
          (fun b hb _ => heap_alloc_old W.drew _ hb) (fun b hb => by cases hb; exact ⟨.inr (Nat.le_refl _), by omega⟩) (fun k => ⟨_, g, rfl, hk k⟩)
        exact ⟨_, _, St, _, _, .inl hrun', ho_rep rfl, key.1, key.2.1, RLe.upd _ hr0, key.2.2⟩
    · -- in the block itself
      rcases hown with ⟨_, e1, _⟩ | ⟨_, e1, e2⟩ | ⟨o1, e1, e2, e3⟩
      · omega
      · subst e1; simp at hc; omega
      · subst e1
        have hob := hS.obj o1
        rw [e2] at hob
        obtain ⟨A', c1, g1, g2⟩ := hob
        rw [e3] at g1
        cases g1
        rcases g2 with ⟨e4, e5, _⟩ | ⟨b, cur, rfl, g3, g4, g5, g6, g7, g8⟩
        · rw [e4] at hc; simp at hc; omega
        · obtain ⟨cs, hrun, k1, k2⟩ := append_room o.type (c' := c') hu hi hsz' g3 g6 g7 hyl hB hc
          have hrun' := run_append_call h0 h1 ex ey o ho hrun
          have key := hS.give (W' := W.setRow b cs) o1 o' (.vc e ti.el (xs ++ ys)) (.slice (some ⟨b, 0, none⟩) (xs ++ ys).length c) (some b) ho' (hne o1 rfl) rfl rfl rfl (by simp)
            (fun b' _ hn => setRow_other W b b' cs (fun e => hn (by rw [g8, e]))) (fun b' hb' => by cases hb'; exact ⟨.inl g8, by simpa using hS.lt o1 b g8⟩)
            (fun k => ⟨_, c, rfl, .inr ⟨b, cs, rfl, setRow_heap W b cur cs e _ g3, by rw [List.length_append]; exact hc, g5, k1, fun i x hx => (k2 i x hx).keep k _ _ _, rfl⟩⟩)
          exact ⟨_, _, St, _, _, .inl hrun', ho_rep rfl, key.1, key.2.1, RLe.upd _ hr0, key.2.2⟩
end
end Al
end Go.Proofs.Ytiplmapndahmmaa
