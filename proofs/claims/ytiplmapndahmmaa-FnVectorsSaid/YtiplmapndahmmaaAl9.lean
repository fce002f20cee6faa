/- The reckoning is right: parts of texts and lists, lengths, structs, tuples. -/
import Derived.Test.YtiplmapndahmmaaAl8
namespace Go.Proofs.Ytiplmapndahmmaa
namespace Al
set_option linter.constructorNameAsVariable false
set_option linter.unusedVariables false
set_option linter.unusedSimpArgs false

section
variable {P : Program} {tt : Tab} {H : Hp} {df : List Deferred} {W : World} {St : Nat → Nat → Prop} {ρ : Nat → Option Value} {F : Nat → Option Nat}

theorem run_call_builtin {b : Builtin} {args : Array Operand} {ats : Array TypeId} {ev : Operand → Value} (o : Oper) (ho : o.op = .call { callee := .builtin b, args := args, argTypes := ats }) :
    ∃ cs, (execOp ev o).run P W = (builtin b ats o.type cs (args.map ev)).run P W := by
  refine ⟨args.map fun | .const _ => true | _ => false, ?_⟩
  simp only [execOp, ho, resolve, invoke, Sem.run_bind, Sem.run_pure, Result.andThen_ok]
  congr 3

theorem evLen_sound (hP : TabOK P tt) (hS : SimH H df W St ρ F) {t : TypeId} {ti : TI} (ht : tget tt t = some ti) {ats : Array TypeId} (hat : ats[0]? = some t) {x : Operand} {a : Act} {sx : SV} {n : Int}
    (hx : RepS W St ρ sx (a.eval x)) (h : lenOf H ti.dk sx = some n) (o : Oper) (ho : o.op = .call { callee := .builtin .len, args := #[x], argTypes := ats }) :
    OpR P (execOp a.eval o) H df W St ρ F (.v (.c (.int .i64 n))) [] := by
  obtain ⟨d, hd1, hd2⟩ := tab_und hP ht
  have key : ∀ (y : Value), a.eval x = y → (Builtin.len_ ats o.type #[y]).run P W = .ok (.int .i64 n) W → OpR P (execOp a.eval o) H df W St ρ F (.v (.c (.int .i64 n))) [] := fun y e h => by
    refine OpR.pure hS ?_ (int_rep _ _)
    obtain ⟨cs, hcs⟩ := run_call_builtin (P := P) (W := W) (ev := a.eval) o ho
    rw [hcs]
    simp only [List.map_toArray, List.map_cons, List.map_nil, e, builtin, Sem.run_bind, h, Result.andThen_ok, Sem.run_pure]
  have hl : ∀ (A : Option Addr) (m c : Nat) (e : TypeId), P.underlying t = some (.slice e) → (Builtin.len_ ats o.type #[.slice A m c]).run P W = .ok (.int .i64 m) W := fun A m c e hu => by
    simp [Builtin.len_, hat, run_underlying hu, goInt]
  unfold lenOf at h
  split at h
  · rename_i e hd
    cases h
    exact key _ (rep_nl hx) (hl none 0 0 e (tab_slice hP ht hd))
  · rename_i s hd
    cases h
    have hu : P.underlying t = some .string := by rw [hd] at hd2; cases d <;> simp [dkOf] at hd2; exact hd1
    exact key _ (rep_str hx) (by simp [Builtin.len_, hat, run_underlying hu, goInt])
  · rename_i k e hd
    cases h
    have hu : P.underlying t = some (.map k e) := by rw [hd] at hd2; cases d <;> simp [dkOf] at hd2; rw [← hd2.1, ← hd2.2]; exact hd1
    exact key (.map none) hx.2 (by simp [Builtin.len_, hat, run_underlying hu, goInt])
  · rename_i k e ob hd
    have hu : P.underlying t = some (.map k e) := by rw [hd] at hd2; cases d <;> simp [dkOf] at hd2; rw [← hd2.1, ← hd2.2]; exact hd1
    split at h
    · rename_i hv
      cases h
      have hob := hS.obj ob
      rw [hv] at hob
      obtain ⟨b, es, clk, h1, h2, _, h3, _⟩ := hob
      obtain ⟨_, hr, _⟩ := hx
      have e1 : a.eval x = .map (some b) := by rw [hr] at h1; exact Option.some.inj h1
      refine key _ e1 ?_
      rw [← h3]
      simp [Builtin.len_, hat, run_underlying hu, goInt, getObj, Sem.run, h2]
    · cases h
  · rename_i e hd _
    split at h
    · rename_i u xs hl'
      cases h
      obtain ⟨A, c, e1, _⟩ := lst_rep hS hx hl'
      exact key _ e1 (hl A _ c e (tab_slice hP ht hd))
    · cases h
  · cases h

theorem run_sliceBound {k : IntKind} {i : Int} {y : Nat} {code : BoundsCode} (h0 : 0 ≤ i) (h1 : i ≤ y) : (Instr.sliceBound (.int k i) y code).run P W = .ok i.toNat W := by
  have hc : 0 ≤ i ∧ i ≤ (y : Int) := ⟨h0, h1⟩
  simp [Instr.sliceBound, asIntOf, hc]

/-- An index that may be left out. -/
def OptI (W : World) (St : Nat → Nat → Prop) (ρ : Nat → Option Value) (x : Option Int) (u : Option Value) : Prop :=
  match x, u with
  | none, none => True
  | some i, some v => ∃ k, v = .int k i
  | _, _ => False

theorem optInt_rep {x : Option Operand} {ev : Operand → SV} {a : Act} {i : Option Int} (he : ∀ y, RepS W St ρ (ev y) (a.eval y)) (h : optInt (x.map ev) = some i) : OptI W St ρ i (x.map a.eval) := by
  cases x with
  | none => simp only [Option.map_none, optInt, Option.some.injEq] at h; subst h; trivial
  | some y =>
    have hy := he y
    simp only [Option.map_some] at h ⊢
    unfold optInt at h
    split at h
    · rename_i e; cases e
    · rename_i k i' e
      cases h
      simp only [Option.some.injEq] at e
      rw [e] at hy
      exact ⟨_, rep_int hy⟩
    · cases h

def mxOr (mx : Option Int) (cap : Nat) : Nat := match mx with | some m => m.toNat | none => cap
def loRun (vlo : Option Value) (y : Nat) (code : BoundsCode) : Sem Nat := match vlo with | some v => Instr.sliceBound v y code | none => pure 0

theorem run_sliceBounds {isSlice : Bool} {len cap : Nat} {lo hi mx : Option Int} {vlo vhi vmx : Option Value} (hlo : OptI W St ρ lo vlo) (hhi : OptI W St ρ hi vhi) (hmx : OptI W St ρ mx vmx)
    (h0 : 0 ≤ lo.getD 0) (h1 : lo.getD 0 ≤ hi.getD len) (h2 : hi.getD len ≤ len) (hc : len ≤ cap) (hm : ∀ m, mx = some m → m = hi.getD len ∧ hi.isSome = true) :
    (Instr.sliceBounds isSlice len cap vlo vhi vmx).run P W = .ok ((lo.getD 0).toNat, (hi.getD len).toNat, mxOr mx cap) W := by
  have hlo' : ∀ (y : Nat) (code : BoundsCode), lo.getD 0 ≤ y → (loRun vlo y code).run P W = .ok (lo.getD 0).toNat W := fun y code hy => by
    cases vlo with
    | none => cases lo with
      | none => rfl
      | some _ => exact hlo.elim
    | some v => cases lo with
      | none => exact hlo.elim
      | some i =>
        obtain ⟨k, rfl⟩ := hlo
        exact run_sliceBound h0 hy
  have e : (((hi.getD len).toNat : Nat) : Int) = hi.getD len := by omega
  cases vmx with
  | none =>
    cases mx with
    | some m => exact hmx.elim
    | none =>
      cases vhi with
      | none =>
        cases hi with
        | some _ => exact hhi.elim
        | none =>
          have := hlo' len .sliceB (by simpa using h1)
          unfold Instr.sliceBounds
          simp only [Sem.run_bind, Sem.run_pure, Result.andThen_ok, Option.isSome_none, Bool.false_eq_true, if_false, Option.getD_none, Int.toNat_natCast, mxOr]
          cases vlo with
          | none =>
            simp only [loRun, Sem.run_pure, Result.ok.injEq, and_true] at this
            simp [← this]
          | some v =>
            have t : (Instr.sliceBound v _ _).run P W = _ := this
            simp [t]
      | some v =>
        cases hi with
        | none => exact hhi.elim
        | some i =>
          obtain ⟨k, rfl⟩ := hhi
          simp only [Option.getD_some] at h1 h2 e ⊢
          have hb : ∀ code, (Instr.sliceBound (.int k i) cap code).run P W = .ok i.toNat W := fun code => run_sliceBound (by omega) (by omega)
          have := hlo' i.toNat .sliceB (by omega)
          unfold Instr.sliceBounds
          simp only [Sem.run_bind, Sem.run_pure, Result.andThen_ok, hb, Option.isSome_none, Bool.false_eq_true, if_false, mxOr]
          cases vlo with
          | none =>
            simp only [loRun, Sem.run_pure, Result.ok.injEq, and_true] at this
            simp [← this]
          | some v =>
            have t : (Instr.sliceBound v _ _).run P W = _ := this
            simp [t]
  | some vm =>
    cases mx with
    | none => exact hmx.elim
    | some m =>
      obtain ⟨k, rfl⟩ := hmx
      obtain ⟨rfl, hs⟩ := hm m rfl
      cases hi with
      | none => cases hs
      | some i =>
        cases vhi with
        | none => exact hhi.elim
        | some v =>
          obtain ⟨k', rfl⟩ := hhi
          simp only [Option.getD_some] at h1 h2 e ⊢
          have hb : ∀ code, (Instr.sliceBound (.int k i) cap code).run P W = .ok i.toNat W := fun code => run_sliceBound (by omega) (by omega)
          have hb' : ∀ code, (Instr.sliceBound (.int k' i) i.toNat code).run P W = .ok i.toNat W := fun code => run_sliceBound (by omega) (by omega)
          have := hlo' i.toNat .slice3C (by omega)
          unfold Instr.sliceBounds
          simp only [Sem.run_bind, Sem.run_pure, Result.andThen_ok, hb, hb', Option.isSome_some, if_true, mxOr]
          cases vlo with
          | none =>
            simp only [loRun, Sem.run_pure, Result.ok.injEq, and_true] at this
            simp [← this]
          | some v =>
            have t : (Instr.sliceBound v _ _).run P W = _ := this
            simp [t]

/-- A part of a list that stays. -/
theorem RepL.part {t : Ty} {xs : List t.den} {A : Option Addr} {c : Nat} (h : RepL W St t.sz (fun x us => RepT W St t x us) xs A c) {l k m : Nat} (hl : l ≤ k) (hk : k ≤ xs.length) (hm : k ≤ m) (hmc : m ≤ c) :
    RepL W St t.sz (fun x us => RepT W St t x us) ((xs.take k).drop l) (if m = l then A else A.map (·.add (l * t.sz))) (m - l) := by
  obtain ⟨h1, h2, h3, us, h4, h5, h6⟩ := h
  refine ⟨by simp; omega, by omega, fun e => ?_, (us.take (k * t.sz)).drop (l * t.sz), ?_, fun i x hx => ?_, fun j u hj => ?_⟩
  · split at e
    · omega
    · cases A with
      | none => have := h3 rfl; omega
      | some a => cases e
  · have hle : k * t.sz ≤ xs.length * t.sz := Nat.mul_le_mul_right _ hk
    simp only [List.length_drop, List.length_take, h4]
    rw [Nat.min_eq_left hle, Nat.min_eq_left hk, Nat.sub_mul]
  · have hi : l + i < k := by
      have := (List.getElem?_eq_some_iff.1 hx).1
      simp at this; omega
    rw [List.getElem?_drop, List.getElem?_take, if_pos hi] at hx
    have := h5 _ _ hx
    have e : ((us.drop ((l + i) * t.sz)).take t.sz) = ((((us.take (k * t.sz)).drop (l * t.sz)).drop (i * t.sz)).take t.sz) := by
      have hmul : (l + i + 1) * t.sz ≤ k * t.sz := Nat.mul_le_mul_right _ hi
      rw [Nat.add_mul, Nat.one_mul] at hmul
      rw [List.drop_drop, ← Nat.add_mul, List.drop_take, List.take_take, Nat.min_eq_left (by omega)]
    rw [e] at this
    exact this
  · rw [List.getElem?_drop, List.getElem?_take] at hj
    split at hj
    · rename_i hlt
      obtain ⟨b, o, rfl, e2, e3⟩ := h6 _ u hj
      have hlk : l < k := by
        rcases Nat.lt_or_ge l k with h | h
        · exact h
        · exfalso; have : k * t.sz ≤ l * t.sz := Nat.mul_le_mul_right _ h; omega
      rw [if_neg (by omega)]
      refine ⟨b, o + l * t.sz, ?_, by rw [Nat.add_assoc]; exact e2, by rw [Nat.add_assoc]; exact e3⟩
      simp [Addr.add_lit]
    · cases hj

theorem stay_rep (hS : SimH H df W St ρ F) {x : SV} {v : Value} {u : Ty} {xs : List u.den} (hx : RepS W St ρ x v) (h : stayOf H x = some ⟨u, xs⟩) :
    ∃ A c, v = .slice A xs.length c ∧ RepL W St u.sz (fun x us => RepT W St u x us) xs A c := by
  unfold stayOf at h
  split at h
  · cases h
    obtain ⟨_, A, c, h1, h2, _⟩ := hx
    exact ⟨A, c, h1, h2⟩
  · rename_i ob
    split at h
    · rename_i hob
      cases h
      obtain ⟨_, hr, _⟩ := hx
      exact vz_list hS hob hr
    · cases h
  · cases h

theorem evSlice_sound (hP : TabOK P tt) (hS : SimH H df W St ρ F) {t : TypeId} {x : Operand} {lo hi mx : Option Operand} {a : Act} {C : List Prop} {c : CV} {ev : Operand → SV}
    (he : ∀ y, RepS W St ρ (ev y) (a.eval y)) (h : evSlice tt H t (ev x) (lo.map ev) (hi.map ev) (mx.map ev) = some (C, c)) (hC : ∀ p ∈ C, p) (o : Oper) (ho : o.op = .slice t x lo hi mx) :
    OpR P (execOp a.eval o) H df W St ρ F (.v (.c c)) [] := by
  have hx := he x
  unfold evSlice at h
  split at h
  · rename_i ti ilo ihi imx ht hlo hhi hmx
    have olo := optInt_rep he hlo
    have ohi := optInt_rep he hhi
    have omx := optInt_rep he hmx
    obtain ⟨d, hd1, hd2⟩ := tab_und hP ht
    split at h
    · rename_i s hd hsx
      rw [hsx] at hx
      have hu : P.underlying t = some .string := by rw [hd] at hd2; cases d <;> simp [dkOf] at hd2; exact hd1
      split at h
      · cases h
        obtain ⟨h0, h1, h2⟩ := hC _ (List.mem_singleton.2 rfl)
        have ex := rep_str hx
        have hmx0 : mx = none := by
          cases mx with
          | none => rfl
          | some y => simp only [Option.map_some] at hmx; unfold optInt at hmx; split at hmx <;> first | (rename_i e; cases e) | cases hmx
        have hb := run_sliceBounds (P := P) (W := W) (isSlice := false) (cap := s.size) (mx := none) (vmx := none) olo ohi trivial h0 h1 h2 (Nat.le_refl _) (fun m e => by cases e)
        refine OpR.pure hS (u := .string (s.extract (ilo.getD 0).toNat (ihi.getD s.size).toNat)) ?_ (str_rep _)
        simp [execOp, ho, Instr.sliceAt, Instr.slice, run_underlying hu, ex, hb, hmx0]
      · cases h
    · rename_i e hd
      have hu := tab_slice hP ht hd
      split at h
      · rename_i te u xs he' hst
        obtain ⟨A, cp, ex, hr⟩ := stay_rep hS hx hst
        split at h
        · rename_i hsz
          have hso : (sizeOf e).run P W = .ok u.sz W := by rw [hsz]; exact run_sizeOf hP he' W
          split at h
          · cases h
            obtain ⟨h0, h1, h2⟩ := hC _ (List.mem_singleton.2 rfl)
            have hb := run_sliceBounds (P := P) (W := W) (isSlice := true) (cap := cp) olo ohi omx h0 h1 h2 hr.1 (fun m e => by cases e)
            refine OpR.pure hS (u := .slice (if cp = (ilo.getD 0).toNat then A else A.map (·.add ((ilo.getD 0).toNat * u.sz))) ((ihi.getD xs.length).toNat - (ilo.getD 0).toNat) (cp - (ilo.getD 0).toNat)) ?_
              ⟨rfl, _, _, ?_, hr.part (k := (ihi.getD xs.length).toNat) (by omega) (by omega) (by have := hr.1; omega) (Nat.le_refl _), fun e => by cases e⟩
            · simp [execOp, ho, Instr.sliceAt, Instr.slice, run_underlying hu, ex, hb, hso, mxOr]
            · congr 1
              simp only [List.length_drop, List.length_take]
              omega
          · rename_i m
            cases h
            obtain ⟨h0, h1, h2, h3⟩ := hC _ (List.mem_singleton.2 rfl)
            have hb := run_sliceBounds (P := P) (W := W) (isSlice := true) (cap := cp) olo ohi omx h0 h1 h2 hr.1 (fun m' e => by cases e; exact h3)
            obtain ⟨h3, his⟩ := h3
            refine OpR.pure hS (u := .slice (if m.toNat = (ilo.getD 0).toNat then A else A.map (·.add ((ilo.getD 0).toNat * u.sz))) ((ihi.getD xs.length).toNat - (ilo.getD 0).toNat) (m.toNat - (ilo.getD 0).toNat)) ?_
              ⟨rfl, _, _, ?_, hr.part (k := (ihi.getD xs.length).toNat) (m := m.toNat) (by omega) (by omega) (by omega) (by have := hr.1; omega), fun _ => ?_⟩
            · simp [execOp, ho, Instr.sliceAt, Instr.slice, run_underlying hu, ex, hb, hso, mxOr]
            · congr 1
              simp only [List.length_drop, List.length_take]
              omega
            · simp only [List.length_drop, List.length_take]
              omega
        · cases h
      · cases h
    · cases h
  · cases h
end
end Al
end Go.Proofs.Ytiplmapndahmmaa
