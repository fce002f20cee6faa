/- The reckoning is right: new objects, stores. -/
import Derived.Test.YtiplmapndahmmaaAl9
import Derived.Laws.OwnMore
namespace Go.Proofs.Ytiplmapndahmmaa
namespace Al
set_option linter.constructorNameAsVariable false
set_option linter.unusedVariables false
set_option linter.unusedSimpArgs false

/-! ### Lists of cells -/

/-- A part is put in. -/
def spl {α : Type} (l : List α) (p : Nat) (vs : List α) : List α := l.take p ++ vs ++ l.drop (p + vs.length)

section
variable {α : Type} {l vs : List α} {p : Nat}

theorem spl_length (h : p + vs.length ≤ l.length) : (spl l p vs).length = l.length := by
  simp only [spl, List.length_append, List.length_take, List.length_drop]
  omega

theorem spl_get (h : p + vs.length ≤ l.length) (k : Nat) : (spl l p vs)[k]? = if k < p then l[k]? else if k < p + vs.length then vs[k - p]? else l[k]? := by
  have hp : min p l.length = p := by omega
  unfold spl
  by_cases h1 : k < p
  · rw [if_pos h1, List.append_assoc, List.getElem?_append_left (by rw [List.length_take]; omega), List.getElem?_take, if_pos h1]
  · rw [if_neg h1]
    by_cases h2 : k < p + vs.length
    · rw [if_pos h2, List.getElem?_append_left (by rw [List.length_append, List.length_take]; omega), List.getElem?_append_right (by rw [List.length_take]; omega), List.length_take, hp]
    · rw [if_neg h2, List.getElem?_append_right (by rw [List.length_append, List.length_take]; omega), List.length_append, List.length_take, hp, List.getElem?_drop]
      congr 1
      omega

theorem seg_other {i j sz d : Nat} (h : i * sz + d + vs.length ≤ l.length) (hd : d + vs.length ≤ sz) (hij : j ≠ i) :
    ((spl l (i * sz + d) vs).drop (j * sz)).take sz = (l.drop (j * sz)).take sz := by
  have hm : (j + 1) * sz ≤ i * sz ∨ (i + 1) * sz ≤ j * sz := by
    rcases Nat.lt_or_gt_of_ne hij with h | h
    · exact .inl (Nat.mul_le_mul_right _ h)
    · exact .inr (Nat.mul_le_mul_right _ h)
  rw [Nat.add_mul, Nat.add_mul, Nat.one_mul] at hm
  apply List.ext_getElem?
  intro k
  rw [List.getElem?_take, List.getElem?_take]
  split
  · rw [List.getElem?_drop, List.getElem?_drop, spl_get h]
    split
    · rfl
    · split
      · exfalso; omega
      · rfl
  · rfl

theorem seg_same {i sz d : Nat} (h : i * sz + d + vs.length ≤ l.length) (hd : d + vs.length ≤ sz) (hs : i * sz + sz ≤ l.length) :
    ((spl l (i * sz + d) vs).drop (i * sz)).take sz = spl ((l.drop (i * sz)).take sz) d vs := by
  apply List.ext_getElem?
  intro k
  have hl : d + vs.length ≤ ((l.drop (i * sz)).take sz).length := by rw [List.length_take, List.length_drop]; omega
  rw [spl_get hl, List.getElem?_take, List.getElem?_take, List.getElem?_drop, List.getElem?_drop, spl_get h]
  by_cases hk : k < sz
  · rw [if_pos hk, if_pos hk]
    by_cases h1 : k < d
    · rw [if_pos h1, if_pos (by omega)]
    · rw [if_neg h1, if_neg (by omega)]
      by_cases h2 : k < d + vs.length
      · rw [if_pos h2, if_pos (by omega)]
        congr 1
        omega
      · rw [if_neg h2, if_neg (by omega)]
  · rw [if_neg hk, if_neg hk, if_neg (by omega), if_neg (by omega)]
end

theorem setCs_spl (cs : List CV) (d : Nat) (xs : List CV) : setCs cs d xs = spl cs d xs := rfl

section
variable {P : Program} {tt : Tab} {H : Hp} {df : List Deferred} {W : World} {St : Nat → Nat → Prop} {ρ : Nat → Option Value} {F : Nat → Option Nat}

theorem RepCs.spl {cs : List CV} {us : List Value} {xs : List CV} {vs : List Value} (d : Nat) (h : RepCs W St ρ cs us) (k : RepCs W St ρ xs vs) : RepCs W St ρ (setCs cs d xs) (spl us d vs) := h.set d k

/-- A new object. -/
theorem SimH.fresh (h : SimH H df W St ρ F) {o : Nat} (ho : H o = .fr) {W' : World} (ob : Obj) (hW : W' = W.alloc ob ∨ W' = W.drew.alloc ob) (x : AObj) (v : Value)
    (hx : Keeps W St W' St → RLe ρ (upd ρ o (some v)) → RepO W' St (upd ρ o (some v)) x (some v) (some W.heap.size)) :
    SimH (upd H o x) df W' St (upd ρ o (some v)) (upd F o (some W.heap.size)) ∧ Keeps W St W' St ∧ RLe ρ (upd ρ o (some v)) ∧
      ∀ kp, Evo kp W St ρ F W' St (upd ρ o (some v)) (upd F o (some W.heap.size)) := by
  have hr := (fr_none h ho).1
  have hl : RLe ρ (upd ρ o (some v)) := RLe.upd v hr
  have hsz : W'.heap.size = W.heap.size + 1 := by rcases hW with rfl | rfl <;> exact Array.size_push _
  obtain ⟨h1, h2, h3⟩ := h.set (W' := W') o x (upd ρ o (some v)) (some W.heap.size) (by rcases hW with rfl | rfl <;> rfl) (by rcases hW with rfl | rfl <;> rfl) (by rcases hW with rfl | rfl <;> rfl)
    (by omega) (fun b hb _ => by rcases hW with rfl | rfl <;> exact heap_alloc_old _ _ hb) hl (fun o' ho' => upd_other _ _ ho') (fun b e => by cases e; exact ⟨.inr (Nat.le_refl _), by omega⟩)
    (fun k => by rw [upd_same]; exact hx k hl)
  exact ⟨h1, h2, hl, h3⟩

theorem OpR.fresh {s : Sem Next} (h : SimH H df W St ρ F) {o : Nat} (ho : H o = .fr) {W' : World} (ob : Obj) (hW : W' = W.alloc ob ∨ W' = W.drew.alloc ob) (x : AObj) (v : Value) (sv : SV)
    (hr : s.run P W = .ok (.value v) W') (hx : Keeps W St W' St → RLe ρ (upd ρ o (some v)) → RepO W' St (upd ρ o (some v)) x (some v) (some W.heap.size))
    (hs : RepS W' St (upd ρ o (some v)) sv v) : OpR P s H df W St ρ F sv [(o, x)] := by
  obtain ⟨h1, h2, h3, h4⟩ := h.fresh ho ob hW x v hx
  exact ⟨v, W', St, _, _, .inl hr, hs, h1, h2, h3, h4⟩

theorem cell_block_new (W : World) (ob : Obj) : (W.alloc ob).heap[W.heap.size]? = some ob := heap_alloc_new W ob

theorem p_rep {o d : Nat} {b : Nat} {v : Value} (hv : v = .pointer (some ⟨b, 0, none⟩)) (hd : d = 0) : RepS W St (upd ρ o (some v)) (.v (.c (.p o d))) v := by
  subst hv hd
  exact ⟨rfl, b, upd_same _ _ _, rfl⟩

theorem evAlloc_sound (hP : TabOK P tt) (hS : SimH H df W St ρ F) {t : TypeId} {ti : TI} (ht : tget tt t = some ti) {id : Nat} (hid : H id = .fr) {a : Act} (o : Oper) (ho : o.op = .alloc t) :
    OpR P (execOp a.eval o) H df W St ρ F (.v (.c (.p id 0))) [(id, .bx ti.zero.cvs)] := by
  have hz := (tab_row hP ht).2.2.1
  refine OpR.fresh hS hid (.cells (zvA ti.zero).cells t) (.inl rfl) _ (.pointer (some ⟨W.heap.size, 0, none⟩)) _ ?_ (fun k hl => ?_) (p_rep rfl rfl)
  · simp [execOp, ho, Instr.alloc, run_zeroValue hP ht, newVar, newRow]
  · refine ⟨_, _, t, rfl, heap_alloc_new W _, ?_, rfl⟩
    rw [zvA_cells _ hz]
    exact zv_reps _ hz

theorem evBox_sound (hS : SimH H df W St ρ F) {t : TypeId} {x : Operand} {y : AV} {a : Act} (hx : RepS W St ρ (.v y) (a.eval x)) (hk : y.known = true) {id : Nat} (hid : H id = .fr) (o : Oper) (ho : o.op = .box t x) :
    OpR P (execOp a.eval o) H df W St ρ F (.v (.c (.p id 0))) [(id, .bx y.cvs)] := by
  refine OpR.fresh hS hid (.cells (a.eval x).cells t) (.inl rfl) _ (.pointer (some ⟨W.heap.size, 0, none⟩)) _ ?_ (fun k hl => ?_) (p_rep rfl rfl)
  · simp [execOp, ho, Instr.box, newVar, newRow]
  · refine ⟨_, _, t, rfl, heap_alloc_new W _, ?_, rfl⟩
    exact (RepA.cells hx (fun e => by subst e; cases hk)).keep k hl

/-! ### Stores -/

theorem run_storeVar_at (hP : TabOK P tt) {t : TypeId} {ti : TI} (ht : tget tt t = some ti) {b d : Nat} {cur : Array Value} {e : TypeId} (hb : W.heap[b]? = some (.cells cur e (0, 0))) {u : Value} {us : List Value}
    (hu : u.cells.toList = us) (hl : us.length = ti.size) (h1 : ∀ v ∈ us, v.oneCell' = true) (hfit : d + us.length ≤ cur.size) :
    (storeVar t ⟨b, d, none⟩ u).run P W = .ok () (W.setRow b (spl cur.toList d us).toArray) := by
  have hsz : u.cells.size = ti.size := by rw [← hl, ← hu]; simp
  have hst := run_storeCells_at P b d e us 0 cur W hb (by simpa using hfit) h1
  simp only [Nat.add_zero] at hst
  unfold storeVar
  simp [run_sizeOf hP ht, hsz, hu, hst, spl]

/-- A block's cells are set anew. -/
theorem SimH.row (h : SimH H df W St ρ F) {o b : Nat} (hF : F o = some b) {cur new : Array Value} {e : TypeId} (hb : W.heap[b]? = some (.cells cur e (0, 0))) (x : AObj)
    (hx : Keeps W St (W.setRow b new) St → (W.setRow b new).heap[b]? = some (.cells new e (0, 0)) → RepO (W.setRow b new) St ρ x (ρ o) (some b)) :
    SimH (upd H o x) df (W.setRow b new) St ρ (upd F o (some b)) ∧ Keeps W St (W.setRow b new) St ∧ ∀ kp, Evo kp W St ρ F (W.setRow b new) St ρ (upd F o (some b)) := by
  refine h.set (W' := W.setRow b new) o x ρ (some b) rfl rfl rfl (by simp) (fun b' _ hn => setRow_other W b b' new (fun e => hn (by rw [hF, e]))) (RLe.refl _) (fun _ _ => rfl) (fun b' e => ?_)
    (fun k => hx k (setRow_heap W b cur new e _ hb))
  cases e
  exact ⟨.inl hF, by simpa using h.lt o b hF⟩

theorem un_rep {u : Value} : RepS W St ρ (.v (.c .un)) u := trivial

theorem run_store_op {t : TypeId} {x y : Operand} {ev : Operand → Value} {ad : Addr} {W' : World} (o : Oper) (ho : o.op = .store t x y) (hx : ev x = .pointer (some ad)) (h : (storeVar t ad (ev y)).run P W = .ok () W') :
    (execOp ev o).run P W = .ok .skip W' := by
  simp [execOp, ho, hx, Instr.storeAt, Instr.sureAddr, h]

theorem evStore_sound (hP : TabOK P tt) (hS : SimH H df W St ρ F) {t : TypeId} {x y : Operand} {a : Act} {sx sy : SV} {us : List (Nat × AObj)} (hx : RepS W St ρ sx (a.eval x)) (hy : RepS W St ρ sy (a.eval y))
    (h : evStore tt H t sx sy = some us) (o : Oper) (ho : o.op = .store t x y) : OpR P (execOp a.eval o) H df W St ρ F (.v (.c .un)) us := by
  unfold evStore at h
  split at h
  · rename_i ti w ht
    split at h
    · rename_i ob d
      obtain ⟨_, b, hr, hu⟩ := hx
      split at h
      · rename_i cs hcs
        split at h
        · rename_i hk
          obtain ⟨hk1, hk2, hk3⟩ := hk
          cases h
          have hob := hS.obj ob
          rw [hcs] at hob
          obtain ⟨b', cur, e, h1, h2, h3, h4⟩ := hob
          rw [hr] at h1
          cases h1
          have hw := RepA.cells (x := w) hy (fun e => by subst e; cases hk1)
          have hwl : (a.eval y).cells.toList.length = ti.size := by rw [hw.length, hk2]
          have hcl : cur.size = cs.length := by have := h3.length; simpa using this
          obtain ⟨g1, g2, g3⟩ := hS.row h4 (new := (spl cur.toList d (a.eval y).cells.toList).toArray) h2 (.bx (setCs cs d w.cvs)) (fun k hb => ⟨b, _, e, hr, hb, ((h3.keep k (RLe.refl _)).spl d (hw.keep k (RLe.refl _))), rfl⟩)
          exact ⟨undef, _, St, ρ, _, .inr ⟨run_store_op o ho hu (run_storeVar_at hP ht h2 rfl hwl hw.one (by omega)), rfl⟩, trivial, g1, g2, RLe.refl _, g3⟩
        · cases h
      · cases h
    · rename_i ob sz i d
      obtain ⟨b, n, c, hr, h0, h1, hu⟩ := hx
      split at h
      · rename_i e u xs hcs
        split at h
        · rename_i hk
          obtain ⟨hk1, rfl, hk2, hk3⟩ := hk
          split at h
          · rename_i z hz
            cases h
            obtain ⟨rfl, hF, cur, k1, k2, kc, k3, k4⟩ := vc_block hS hcs hr (by omega)
            obtain ⟨g1, _⟩ := elem_cells (ρ := ρ) (n := 0) k1 k2 k3 k4 h0 h1
            have hw := RepA.cells (x := w) hy (fun e => by subst e; cases hk1)
            have hwl : (a.eval y).cells.toList.length = ti.size := by rw [hw.length, hk2]
            have hi : i.toNat < xs.length := by omega
            have hmul : (i.toNat + 1) * u.sz ≤ c * u.sz := Nat.mul_le_mul_right _ (by omega)
            rw [Nat.add_mul, Nat.one_mul] at hmul
            have hfit : i.toNat * u.sz + d + (a.eval y).cells.toList.length ≤ cur.toList.length := by rw [hwl, Array.length_toList, k3]; omega
            have hd : d + (a.eval y).cells.toList.length ≤ u.sz := by rw [hwl]; exact hk3
            have hz' : RepT W St u z (spl ((cur.toList.drop (i.toNat * u.sz)).take u.sz) d (a.eval y).cells.toList) := RepCs.den hS.obj u _ _ _ (g1.spl d hw) hz
            have key := hS.row hF (new := (spl cur.toList (i.toNat * u.sz + d) (a.eval y).cells.toList).toArray) k1 (.vc e u (xs.set i.toNat z)) (fun k hb => by
              refine ⟨_, c, by rw [List.length_set]; exact hr, .inr ⟨b, _, rfl, hb, by rw [List.length_set]; exact k2, kc, by rw [List.size_toArray, spl_length hfit]; simpa using k3, fun j w hj => ?_, rfl⟩⟩
              rw [List.getElem?_set] at hj
              split at hj
              · rename_i hji
                cases hj
                rw [← hji, seg_same hfit hd (by rw [Array.length_toList, k3]; omega)]
                exact hz'.keep k u z _
              · rename_i hji
                rw [seg_other hfit hd (fun e => hji e.symm)]
                exact (k4 j w hj).keep k u w _)
            exact ⟨undef, _, St, ρ, _, .inr ⟨run_store_op o ho hu (run_storeVar_at hP ht k1 rfl hwl hw.one (by simpa using hfit)), rfl⟩, trivial, key.1, key.2.1, RLe.refl _, key.2.2⟩
          · cases h
        · cases h
      · cases h
    · cases h
  · cases h
end
end Al
end Go.Proofs.Ytiplmapndahmmaa
