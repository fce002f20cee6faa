/- The reckoning is right: lists and structs laid out. -/
import Derived.Test.YtiplmapndahmmaaAl12
namespace Go.Proofs.Ytiplmapndahmmaa
namespace Al
set_option linter.constructorNameAsVariable false
set_option linter.unusedVariables false
set_option linter.unusedSimpArgs false

section
variable {P : Program} {tt : Tab} {H : Hp} {df : List Deferred} {W : World} {St : Nat → Nat → Prop} {ρ : Nat → Option Value} {F : Nat → Option Nat}

theorem made_seg {z : Array Value} {n i : Nat} (h : i * z.size + z.size ≤ n) : ((madeCells z n).toList.drop (i * z.size)).take z.size = z.toList := by
  apply List.ext_getElem?
  intro k
  rw [List.getElem?_take]
  split
  · rename_i hk
    have h1 : i * z.size + k < n := by omega
    have h2 : (i * z.size + k) % z.size = k := by rw [Nat.mul_comm, Nat.mul_add_mod, Nat.mod_eq_of_lt hk]
    rw [List.getElem?_drop]
    simp [madeCells, h1, h2, hk]
  · rename_i hk
    simp at hk
    simp [hk]

/-- A list of zero values, made. -/
theorem evMake_sound (hP : TabOK P tt) (hS : SimH H df W St ρ F) {t e : TypeId} {ti te : TI} (ht : tget tt t = some ti) (hd : ti.dk = .sl e) (he : tget tt e = some te) (hsz : te.size = ti.el.sz) (hb0 : 0 < te.bytes)
    (hz : ti.el.zeroFits te.zero.cvs = true) {o' : Nat} (ho' : H o' = .fr) {x y : Operand} {a : Act} {n m : Int} (ex : a.eval x = .int .i64 n) (ey : a.eval y = .int .i64 m) (h0 : 0 ≤ n) (hnm : n ≤ m) (hb : m * te.bytes ≤ 140737488355328)
    (o : Oper) (ho : o.op = .makeSlice t x y) : OpR P (execOp a.eval o) H df W St ρ F (.v (.c (.ho o'))) [(o', .vc e ti.el (List.replicate n.toNat ti.el.dflt))] := by
  have hu := tab_slice hP ht hd
  obtain ⟨i, hi, hi1, hi2, hi3⟩ := tab_info hP he
  obtain ⟨_, _, hz1, hz2, _⟩ := tab_row hP he
  have hzl : (zvA te.zero).cells.size = ti.el.sz := by
    have h1 := zvA_cells _ hz1
    have : (zvA te.zero).cells.toList.length = te.size := by rw [h1, List.length_map, hz2]
    rw [← hsz, ← this]; simp
  have hm : m ≤ 140737488355328 := by
    have h1 : m * 1 ≤ m * (te.bytes : Int) := Int.mul_le_mul_of_nonneg_left (by omega) (by omega)
    omega
  have hr := run_make (P := P) W t e i _ hu hi hi3 .i64 .i64 n m h0 hnm (by rw [hi2, Int.mul_comm]; omega) (by omega)
  have hrun : (execOp a.eval o).run P W = .ok (.value (.slice (some ⟨W.heap.size, 0, none⟩) n.toNat m.toNat)) (W.alloc (.cells (madeCells (zvA te.zero).cells (m.toNat * i.size)) e)) := by
    simp [execOp, ho, ex, ey, hr]
  refine OpR.fresh hS ho' _ (.inl rfl) _ _ _ hrun (fun k hl => ⟨some ⟨W.heap.size, 0, none⟩, m.toNat, by simp, .inr ⟨W.heap.size, _, rfl, heap_alloc_new W _, by simp; omega, by simp only [maxLen]; omega, ?_, fun j w hj => ?_, rfl⟩⟩) (ho_rep rfl)
  · rw [size_madeCells, hi1, hsz]
  · have hjl : j < n.toNat := by have := (List.getElem?_eq_some_iff.1 hj).1; simpa using this
    have hw : w = ti.el.dflt := by rw [List.getElem?_replicate, if_pos hjl] at hj; exact (Option.some.inj hj).symm
    subst hw
    have hmul : (j + 1) * ti.el.sz ≤ m.toNat * ti.el.sz := Nat.mul_le_mul_right _ (by omega)
    rw [Nat.add_mul, Nat.one_mul] at hmul
    have hseg := made_seg (z := (zvA te.zero).cells) (n := m.toNat * i.size) (i := j) (by rw [hzl, hi1, hsz]; exact hmul)
    rw [hzl] at hseg
    rw [hseg, zvA_cells _ hz1]
    exact RepT.zero _ _ hz

theorem fold_spl (off : Nat) : ∀ (l : List Value) (s : Nat) (cells : Array Value), off + s + l.length ≤ cells.size →
    ((l.zipIdx s).foldl (fun (cs : Array Value) (p : Value × Nat) => cs.setIfInBounds (off + p.2) p.1) cells).toList = spl cells.toList (off + s) l
  | [], s, cells, _ => by simp [spl]
  | v :: l, s, cells, h => by
    simp only [List.length_cons] at h
    simp only [List.zipIdx_cons, List.foldl_cons]
    rw [fold_spl off l (s + 1) _ (by simp; omega)]
    apply List.ext_getElem?
    intro k
    have h1 : off + (s + 1) + l.length ≤ ((cells.setIfInBounds (off + s) v).toList).length := by simp; omega
    have h2 : off + s + (v :: l).length ≤ cells.toList.length := by simp; omega
    rw [spl_get h1, spl_get h2]
    simp only [List.length_cons, Array.toList_setIfInBounds, List.getElem?_set]
    have h3 : cells.toList.length = cells.size := by simp
    by_cases c1 : k < off + s
    · have a1 : k < off + (s + 1) := by omega
      have a2 : ¬ off + s = k := by omega
      simp only [if_pos a1, if_pos c1, if_neg a2]
    · by_cases c2 : k = off + s
      · subst c2
        have a1 : off + s < off + (s + 1) := by omega
        have a3 : off + s < cells.toList.length := by omega
        have a5 : off + s < off + s + (l.length + 1) := by omega
        simp only [if_pos a1, if_pos a3, if_neg c1, if_pos a5, Nat.sub_self, List.getElem?_cons_zero, if_true]
      · have a1 : ¬ k < off + (s + 1) := by omega
        by_cases c3 : k < off + (s + 1) + l.length
        · have a5 : k < off + s + (l.length + 1) := by omega
          simp only [if_neg a1, if_pos c3, if_neg c1, if_pos a5]
          rw [show k - (off + s) = (k - (off + (s + 1))) + 1 by omega, List.getElem?_cons_succ]
        · have a5 : ¬ k < off + s + (l.length + 1) := by omega
          have a6 : ¬ off + s = k := by omega
          simp only [if_neg a1, if_neg c3, if_neg c1, if_neg a5, if_neg a6]

theorem fold_arr (off : Nat) (vs cells : Array Value) (h : off + vs.size ≤ cells.size) :
    (vs.zipIdx.foldl (fun cs (c, j) => cs.setIfInBounds (off + j) c) cells).toList = spl cells.toList off vs.toList := by
  have := fold_spl off vs.toList 0 cells (by simpa using h)
  rw [← Array.foldl_toList, Array.toList_zipIdx]
  simpa using this

/-- The parts of a list literal are laid in. -/
theorem fill_parts (hS : SimH H df W St ρ F) {ev : Operand → SV} {a : Act} (hev : ∀ y, RepS W St ρ (ev y) (a.eval y)) (t : Ty) : ∀ (ps : List (Nat × Operand)) (i : Nat) (xs : List t.den) (cells : Array Value),
    evParts H t i (ps.map fun (j, x) => (j, ev x)) = some xs → (i + ps.length) * t.sz ≤ cells.size →
    xs.length = ps.length ∧ ∃ cells', Instr.fill (fun j => some (j * t.sz, t.sz)) cells (ps.map fun (j, x) => (j, a.eval x)) = some cells' ∧ cells'.size = cells.size ∧ (∀ k, k < i * t.sz → cells'.toList[k]? = cells.toList[k]?) ∧
      ∀ j x, xs[j]? = some x → RepT W St t x ((cells'.toList.drop ((i + j) * t.sz)).take t.sz)
  | [], i, xs, cells, h, hl => by
    simp only [List.map_nil, evParts, Option.some.injEq] at h
    subst h
    exact ⟨rfl, cells, rfl, rfl, fun _ _ => rfl, fun j x hx => by simp at hx⟩
  | (j, x) :: ps, i, xs, cells, h, hl => by
    have hx := hev x
    simp only [List.map_cons] at h
    cases hw : ev x with
    | tu _ => simp [hw, evParts] at h
    | el _ _ _ _ => simp [hw, evParts] at h
    | gd _ _ => simp [hw, evParts] at h
    | v w =>
      simp only [hw, evParts] at h
      split at h
      · rename_i hk
        obtain ⟨hij, hk⟩ := hk
        subst hij
        split at h
        · rename_i y ys h1 h2
          cases h
          rw [hw] at hx
          have hc := RepA.cells hx (fun e => by subst e; cases hk)
          have hT : RepT W St t y (a.eval x).cells.toList := RepCs.den hS.obj t _ _ _ hc h1
          have hcl : (a.eval x).cells.toList.length = t.sz := hT.length
          have hcs : (a.eval x).cells.size = t.sz := by simpa using hcl
          simp only [List.length_cons] at hl
          have hl2 : i * t.sz + t.sz ≤ cells.size := by
            have : (i + 1) * t.sz ≤ (i + (ps.length + 1)) * t.sz := Nat.mul_le_mul_right _ (by omega)
            rw [Nat.add_mul, Nat.one_mul] at this
            omega
          have hf := fold_arr (i * t.sz) (a.eval x).cells cells (by rw [hcs]; exact hl2)
          have hfs : ((a.eval x).cells.zipIdx.foldl (fun cs (c, j) => cs.setIfInBounds (i * t.sz + j) c) cells).size = cells.size := by
            have := congrArg List.length hf
            rw [spl_length (by rw [hcl]; simpa using hl2)] at this
            simpa using this
          obtain ⟨e1, cells', e2, e3, e4, e5⟩ := fill_parts hS hev t ps (i + 1) ys ((a.eval x).cells.zipIdx.foldl (fun cs (c, j) => cs.setIfInBounds (i * t.sz + j) c) cells) h2
            (by rw [hfs, show i + 1 + ps.length = i + (ps.length + 1) by omega]; exact hl)
          have hfit : i * t.sz + (a.eval x).cells.toList.length ≤ cells.toList.length := by rw [hcl]; simpa using hl2
          refine ⟨by simp [e1], cells', ?_, by rw [e3, hfs], fun k hk => ?_, fun q w hq => ?_⟩
          · simp only [List.map_cons, Instr.fill]
            rw [if_neg (by simp [hcs]; omega)]
            exact e2
          · rw [e4 k (by rw [Nat.add_mul]; omega), hf, spl_get hfit, if_pos hk]
          · cases q with
            | zero =>
              simp only [List.getElem?_cons_zero, Option.some.injEq] at hq
              subst hq
              have : ((cells'.toList.drop (i * t.sz)).take t.sz) = (a.eval x).cells.toList := by
                apply List.ext_getElem?
                intro k
                rw [List.getElem?_take]
                split
                · rename_i hk
                  rw [List.getElem?_drop, e4 _ (by rw [Nat.add_mul]; omega), hf, spl_get hfit, if_neg (by omega), if_pos (by omega)]
                  congr 1
                  omega
                · rename_i hk
                  rw [List.getElem?_eq_none (by omega)]
              rw [Nat.add_zero, this]
              exact hT
            | succ q =>
              rw [List.getElem?_cons_succ] at hq
              have := e5 q w hq
              rw [show i + 1 + q = i + (q + 1) by omega] at this
              exact this
        · cases h
      · cases h

theorem evBuildSlice_sound (hP : TabOK P tt) (hS : SimH H df W St ρ F) {t e : TypeId} {ti te : TI} (ht : tget tt t = some ti) (hd : ti.dk = .sl e) (he : tget tt e = some te) (hsz : te.size = ti.el.sz) {o' : Nat} (ho' : H o' = .fr)
    {n : Nat} {ps : Array (Nat × Operand)} (hn : n = ps.size) (hcap : n * te.size ≤ 16777216) {ev : Operand → SV} {a : Act} (hev : ∀ y, RepS W St ρ (ev y) (a.eval y)) {xs : List ti.el.den}
    (h : evParts H ti.el 0 (ps.toList.map fun (i, x) => (i, ev x)) = some xs) (o : Oper) (ho : o.op = .buildSlice t n ps) : OpR P (execOp a.eval o) H df W St ρ F (.v (.c (.ho o'))) [(o', .vc e ti.el xs)] := by
  have hu := tab_slice hP ht hd
  obtain ⟨z, hz0, hz1⟩ : ∃ z : Array Value, (n * te.size = 0 → z = #[]) ∧ (n * te.size ≠ 0 → z = (zvA te.zero).cells) := by
    by_cases h0 : n * te.size = 0
    · exact ⟨#[], fun _ => rfl, fun h => absurd h0 h⟩
    · exact ⟨_, fun h => absurd h h0, fun _ => rfl⟩
  obtain ⟨e1, cells', e2, e3, _, e5⟩ := fill_parts hS hev ti.el ps.toList 0 xs (madeCells z (n * ti.el.sz)) h (by rw [size_madeCells, hn]; simp)
  have hns : ¬ (16777216 < n * te.size) := by omega
  have hrun : (execOp a.eval o).run P W = .ok (.value (.slice (some ⟨W.heap.size, 0, none⟩) n n)) (W.alloc (.cells cells' e)) := by
    have e2' : Instr.fill (fun i => some (i * te.size, te.size)) ((Array.range (n * te.size)).map (z[· % z.size]!)) (ps.map fun (i, x) => (i, a.eval x)).toList = some cells' := by
      rw [hsz, Array.toList_map]; exact e2
    unfold execOp
    simp only [ho, Instr.buildSlice, Sem.run_bind, run_underlying hu, Result.andThen_ok, run_sizeOf hP he]
    rw [if_neg (by simpa using hns)]
    by_cases h0 : n * te.size = 0
    · rw [hz0 h0] at e2'
      rw [if_pos h0]
      simp only [Sem.run_bind, Sem.run_pure, Result.andThen_ok, e2', newRow, run_newObj_alloc]
    · rw [hz1 h0] at e2'
      rw [if_neg h0]
      simp only [Sem.run_bind, Sem.run_pure, Result.andThen_ok, run_zeroValue hP he, e2', newRow, run_newObj_alloc]
  have hxn : xs.length = n := by rw [e1, hn]; simp
  refine OpR.fresh hS ho' _ (.inl rfl) _ _ _ hrun (fun k hl => ⟨some ⟨W.heap.size, 0, none⟩, n, by rw [hxn], .inr ⟨W.heap.size, _, rfl, heap_alloc_new W _, by omega, ?_, by rw [e3, size_madeCells], fun j w hj => ?_, rfl⟩⟩) (ho_rep rfl)
  · have h1 : n * 1 ≤ n * te.size := Nat.mul_le_mul_left _ (by rw [hsz]; exact ti.el.sz_pos)
    simp only [maxLen]
    omega
  · have := e5 j w hj
    rw [Nat.zero_add] at this
    exact this.keep k _ _ _
end
end Al
end Go.Proofs.Ytiplmapndahmmaa
