/- The reckoning is right: structs, the small operations; all operations. -/
import Derived.Test.YtiplmapndahmmaaAl13
namespace Go.Proofs.Ytiplmapndahmmaa
namespace Al
set_option linter.constructorNameAsVariable false
set_option linter.unusedVariables false
set_option linter.unusedSimpArgs false

section
variable {P : Program} {tt : Tab} {H : Hp} {df : List Deferred} {W : World} {St : Nat → Nat → Prop} {ρ : Nat → Option Value} {F : Nat → Option Nat}

theorem fill_struct {fs : List (Nat × TypeId)} {places : List (Nat × Nat)} (hpl : ∀ (i off : Nat) (ft : TypeId) (fi : TI), fs[i]? = some (off, ft) → tget tt ft = some fi → places[i]? = some (off, fi.size))
    {ev : Operand → SV} {a : Act} (hev : ∀ y, RepS W St ρ (ev y) (a.eval y)) : ∀ (ps : List (Nat × Operand)) (cs cs' : List CV) (cells : Array Value), RepCs W St ρ cs cells.toList →
    fillCs fs tt cs (ps.map fun (j, x) => (j, ev x)) = some cs' → ∃ cells', Instr.fill (fun i => places[i]?) cells (ps.map fun (j, x) => (j, a.eval x)) = some cells' ∧ RepCs W St ρ cs' cells'.toList
  | [], cs, cs', cells, h, k => by
    simp only [List.map_nil, fillCs, Option.some.injEq] at k
    subst k
    exact ⟨cells, rfl, h⟩
  | (j, x) :: ps, cs, cs', cells, h, k => by
    have hx := hev x
    simp only [List.map_cons] at k
    cases hw : ev x with
    | tu _ => simp [hw, fillCs] at k
    | el _ _ _ _ => simp [hw, fillCs] at k
    | gd _ _ => simp [hw, fillCs] at k
    | v w =>
      simp only [hw, fillCs] at k
      rw [hw] at hx
      split at k
      · rename_i off ft hf
        split at k
        · rename_i fi hft
          split at k
          · rename_i hk
            obtain ⟨hk1, hk2, hk3⟩ := hk
            have hc := RepA.cells hx (fun e => by subst e; cases hk1)
            have hcl : (a.eval x).cells.toList.length = fi.size := by rw [hc.length, hk2]
            have hcs : (a.eval x).cells.size = fi.size := by simpa using hcl
            have hsz : cells.size = cs.length := by have := h.length; simpa using this
            have hfit : off + (a.eval x).cells.size ≤ cells.size := by omega
            have hfo := fold_arr off (a.eval x).cells cells hfit
            obtain ⟨cells', e1, e2⟩ := fill_struct hpl hev ps (setCs cs off w.cvs) cs' ((a.eval x).cells.zipIdx.foldl (fun cs (c, j) => cs.setIfInBounds (off + j) c) cells) (by rw [hfo]; exact h.spl off hc) k
            refine ⟨cells', ?_, e2⟩
            simp only [List.map_cons, Instr.fill, hpl j off ft fi hf hft]
            rw [if_neg (by simp [hcs]; omega)]
            exact e1
          · cases k
        · cases k
      · cases k

theorem places_of (hP : TabOK P tt) : ∀ (fields : List Field), (fields.map fun f => (f.offset, f.type)).all (fun p => (tget tt p.2).isSome) = true →
    ∃ places, fields.mapM (fun f => (P.info? f.type).map fun i => (f.offset, i.size)) = some places ∧
      ∀ (i off : Nat) (ft : TypeId) (fi : TI), (fields.map fun f => (f.offset, f.type))[i]? = some (off, ft) → tget tt ft = some fi → places[i]? = some (off, fi.size)
  | [], _ => ⟨[], rfl, fun i off ft fi h _ => by simp at h⟩
  | f :: fields, h => by
    simp only [List.map_cons, List.all_cons, Bool.and_eq_true] at h
    obtain ⟨places, h1, h2⟩ := places_of hP fields h.2
    obtain ⟨ti, hti⟩ := Option.isSome_iff_exists.1 h.1
    obtain ⟨i, hi1, hi2, _⟩ := tab_info hP hti
    refine ⟨(f.offset, i.size) :: places, by simp [List.mapM_cons, hi1, h1], fun k off ft fi hk hf => ?_⟩
    cases k with
    | zero =>
      simp only [List.map_cons, List.getElem?_cons_zero, Option.some.injEq, Prod.mk.injEq] at hk ⊢
      obtain ⟨rfl, rfl⟩ := hk
      rw [hti] at hf
      cases hf
      exact ⟨rfl, hi2⟩
    | succ k => simp only [List.map_cons, List.getElem?_cons_succ] at hk ⊢; exact h2 k off ft fi hk hf

theorem evBuild_sound (hP : TabOK P tt) (hS : SimH H df W St ρ F) {t : TypeId} {ti : TI} (ht : tget tt t = some ti) {fs : List (Nat × TypeId)} (hd : ti.dk = .st fs) (hall : fs.all (fun p => (tget tt p.2).isSome) = true)
    {ps : Array (Nat × Operand)} {ev : Operand → SV} {a : Act} (hev : ∀ y, RepS W St ρ (ev y) (a.eval y)) {cs : List CV} (h : fillCs fs tt ti.zero.cvs (ps.toList.map fun (i, x) => (i, ev x)) = some cs)
    (o : Oper) (ho : o.op = .build t ps) : OpR P (execOp a.eval o) H df W St ρ F (.v (.ag cs)) [] := by
  obtain ⟨d, hd1, hd2⟩ := tab_und hP ht
  rw [hd] at hd2
  cases d <;> simp [dkOf] at hd2
  rename_i fields
  obtain ⟨i, hi, hi1, _, hi3⟩ := tab_info hP ht
  have hfs : fs = fields.toList.map fun f => (f.offset, f.type) := by rw [← hd2]
  subst hfs
  obtain ⟨places, p1, p2⟩ := places_of hP fields.toList hall
  have hz := (tab_row hP ht).2.2.1
  obtain ⟨cells', e1, e2⟩ := fill_struct p2 hev ps.toList ti.zero.cvs cs (zvA ti.zero).cells (by rw [zvA_cells _ hz]; exact zv_reps _ hz) h
  have hb : P.built t (ps.map fun (i, x) => (i, a.eval x)).toList = some cells' := by
    unfold Program.built
    simp only [hi, hd1, hi3, p1]
    rw [Array.toList_map]
    simpa using e1
  refine OpR.pure hS (u := .agg cells') ?_ ⟨cells'.toList, by simp, e2⟩
  have := run_build W t (ps.map fun (i, x) => (i, a.eval x)) cells' hb
  simp [execOp, ho, this]

theorem evConvert_sound (hP : TabOK P tt) (hS : SimH H df W St ρ F) {s d : TypeId} {ts td : TI} (hs : tget tt s = some ts) (hd : tget tt d = some td) {k k' : IntKind} {n : Int} (hk : td.dk = .int k) {x : Operand} {a : Act} (hx : a.eval x = .int k' n)
    (o : Oper) (ho : o.op = .convert s d x) : OpR P (execOp a.eval o) H df W St ρ F (.v (.c (.int k (k.wrap n)))) [] := by
  obtain ⟨ds, hs1, _⟩ := tab_und hP hs
  obtain ⟨dd, hd1, hd2⟩ := tab_und hP hd
  rw [hk] at hd2
  cases dd <;> simp [dkOf] at hd2
  subst hd2
  refine OpR.pure hS ?_ (int_rep _ _)
  simp [execOp, ho, convert, run_underlying hs1, run_underlying hd1, hx, Conv.intToInt]

theorem osOf_rep : ∀ {xs : List SV} {os : List Nat} {us : List Value}, osOf xs = some os → xs.length = us.length → (∀ (i : Nat) (x : SV) (u : Value), xs[i]? = some x → us[i]? = some u → RepS W St ρ x u) → os.map ρ = us.map some
  | [], os, [], h, _, _ => by cases h; rfl
  | x :: xs, os, u :: us, h, hl, hr => by
    have h0 := hr 0 x u rfl rfl
    unfold osOf at h
    split at h
    · rename_i heq; cases heq
    · rename_i o r heq
      cases heq
      simp only [Option.map_eq_some_iff] at h
      obtain ⟨os', h1, rfl⟩ := h
      obtain ⟨_, b, hb, rfl⟩ := h0
      simp only [List.map_cons, List.cons.injEq]
      exact ⟨hb, osOf_rep h1 (by simpa using hl) fun i x u hx hu => hr (i + 1) x u hx hu⟩
    · cases h
  | [], _, _ :: _, _, h, _ => by simp at h
  | _ :: _, _, [], _, h, _ => by simp at h

theorem RepAs.get : ∀ {cs : List AV} {us : List Value} {i : Nat} {c : AV}, RepAs W St ρ cs us → cs[i]? = some c → ∃ u, us[i]? = some u ∧ RepA W St ρ c u
  | [], _, _, _, _, h => by simp at h
  | _ :: _, _, 0, _, ⟨u, us', rfl, h1, _⟩, h => by cases h; exact ⟨u, rfl, h1⟩
  | _ :: _, _, i + 1, _, ⟨u, us', rfl, _, h2⟩, h => by
    obtain ⟨v, k⟩ := RepAs.get (i := i) h2 (by simpa using h)
    exact ⟨v, by simpa using k⟩

theorem maxL_run : ∀ {xs : List SV} {us : List Value} {m n : Int}, maxL m xs = some n → xs.length = us.length → (∀ (i : Nat) (x : SV) (u : Value), xs[i]? = some x → us[i]? = some u → RepS W St ρ x u) →
    (us.foldlM Builtin.max2 (.int .i64 m)).run P W = .ok (.int .i64 n) W
  | [], [], m, n, h, _, _ => by cases h; rfl
  | x :: xs, u :: us, m, n, h, hl, hr => by
    have h0 := hr 0 x u rfl rfl
    unfold maxL at h
    split at h
    · rename_i heq; cases heq
    · rename_i heq
      cases heq
      rw [rep_int h0]
      simp only [List.foldlM_cons, Builtin.max2, Sem.run_bind, Sem.run_pure, Result.andThen_ok]
      exact maxL_run h (by simpa using hl) fun i x u hx hu => hr (i + 1) x u hx hu
    · cases h
  | [], _ :: _, _, _, _, h, _ => by simp at h
  | _ :: _, [], _, _, _, h, _ => by simp at h

theorem minL_run : ∀ {xs : List SV} {us : List Value} {m n : Int}, minL m xs = some n → xs.length = us.length → (∀ (i : Nat) (x : SV) (u : Value), xs[i]? = some x → us[i]? = some u → RepS W St ρ x u) →
    (us.foldlM Builtin.min2 (.int .i64 m)).run P W = .ok (.int .i64 n) W
  | [], [], m, n, h, _, _ => by cases h; rfl
  | x :: xs, u :: us, m, n, h, hl, hr => by
    have h0 := hr 0 x u rfl rfl
    unfold minL at h
    split at h
    · rename_i heq; cases heq
    · rename_i heq
      cases heq
      rw [rep_int h0]
      simp only [List.foldlM_cons, Builtin.min2, Sem.run_bind, Sem.run_pure, Result.andThen_ok]
      exact minL_run h (by simpa using hl) fun i x u hx hu => hr (i + 1) x u hx hu
    · cases h
  | [], _ :: _, _, _, _, h, _ => by simp at h
  | _ :: _, [], _, _, _, h, _ => by simp at h

theorem map_rep {ev : Operand → SV} {a : Act} (hev : ∀ y, RepS W St ρ (ev y) (a.eval y)) (l : List Operand) (i : Nat) (x : SV) (u : Value) (hx : (l.map ev)[i]? = some x) (hu : (l.map a.eval)[i]? = some u) : RepS W St ρ x u := by
  rw [List.getElem?_map] at hx hu
  cases h : l[i]? with
  | none => rw [h] at hx; cases hx
  | some y =>
    rw [h] at hx hu
    cases hx
    cases hu
    exact hev y

theorem evIndexStr_sound (hP : TabOK P tt) (hS : SimH H df W St ρ F) {t : TypeId} {ti : TI} (ht : tget tt t = some ti) (hd : ti.dk = .str) {x y : Operand} {a : Act} {s : ByteArray} {k : IntKind} {i : Int} (hx : a.eval x = .string s) (hy : a.eval y = .int k i)
    (h0 : 0 ≤ i) (h1 : i < s.size) (o : Oper) (ho : o.op = .index t x y) : OpR P (execOp a.eval o) H df W St ρ F (.v (.c (.int .u8 ((s.data.toList.getD i.toNat 0).toNat : Int)))) [] := by
  obtain ⟨d, hd1, hd2⟩ := tab_und hP ht
  rw [hd] at hd2
  have hu : P.underlying t = some .string := by cases d <;> simp [dkOf] at hd2; exact hd1
  have hi : i.toNat < s.size := by omega
  refine OpR.pure hS ?_ (int_rep _ _)
  have hg : s[i.toNat]? = some (s.data.toList.getD i.toNat 0) := by
    have h2 : i.toNat < s.data.size := hi
    rw [getElem?_pos s i.toNat hi]
    have h3 : s.data[i.toNat]? = some s.data[i.toNat] := by simp [h2]
    have h4 : s[i.toNat] = s.data[i.toNat] := rfl
    simp [h3, h4]
  simp [execOp, ho, Instr.index, run_underlying hu, hx, hy, asIntOf, h0, hg]
end
end Al
end Go.Proofs.Ytiplmapndahmmaa
