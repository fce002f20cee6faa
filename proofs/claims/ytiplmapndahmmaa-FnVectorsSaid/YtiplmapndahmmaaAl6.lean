/- The reckoning is right: operations that leave memory alone. -/
import Derived.Test.YtiplmapndahmmaaAl5
namespace Go.Proofs.Ytiplmapndahmmaa
namespace Al
set_option linter.constructorNameAsVariable false
set_option linter.unusedVariables false

def applyUs (H : Hp) (us : List (Nat × AObj)) : Hp := us.foldl (fun H p => upd H p.1 p.2) H

/-- What an operation comes to: a value, a world, the objects turned. -/
def OpR (P : Program) (s : Sem Next) (H : Hp) (df : List Deferred) (W : World) (St : Nat → Nat → Prop) (ρ : Nat → Option Value) (F : Nat → Option Nat) (v : SV) (us : List (Nat × AObj)) : Prop :=
  ∃ u W' St' ρ' F', (s.run P W = .ok (.value u) W' ∨ (s.run P W = .ok .skip W' ∧ u = undef)) ∧ RepS W' St' ρ' v u ∧ SimH (applyUs H us) df W' St' ρ' F' ∧
    Keeps W St W' St' ∧ RLe ρ ρ' ∧ ∀ kp, Evo kp W St ρ F W' St' ρ' F'

section
variable {P : Program} {tt : Tab} {H : Hp} {df : List Deferred} {W : World} {St : Nat → Nat → Prop} {ρ : Nat → Option Value} {F : Nat → Option Nat}

theorem OpR.pure {s : Sem Next} {v : SV} {u : Value} (h : SimH H df W St ρ F) (hr : s.run P W = .ok (.value u) W) (hv : RepS W St ρ v u) : OpR P s H df W St ρ F v [] :=
  ⟨u, W, St, ρ, F, .inl hr, hv, h, Keeps.refl _ _, RLe.refl _, fun kp => Evo.refl kp _ _ _ _⟩

/-! ### Numbers, texts, comparisons -/

theorem rep_int {k : IntKind} {n : Int} {u : Value} (h : RepS W St ρ (.v (.c (.int k n))) u) : u = .int k n := h.2
theorem rep_bool {b : Bool} {u : Value} (h : RepS W St ρ (.v (.c (.bool b))) u) : u = .bool b := h.2
theorem rep_str {s : ByteArray} {u : Value} (h : RepS W St ρ (.v (.c (.str s))) u) : u = .string s := h.2
theorem rep_nl {u : Value} (h : RepS W St ρ (.v (.c .nl)) u) : u = .slice none 0 0 := h.2
theorem int_rep (k : IntKind) (n : Int) : RepS W St ρ (.v (.c (.int k n))) (.int k n) := ⟨rfl, rfl⟩
theorem bool_rep (b : Bool) : RepS W St ρ (.v (.c (.bool b))) (.bool b) := ⟨rfl, rfl⟩
theorem str_rep (s : ByteArray) : RepS W St ρ (.v (.c (.str s))) (.string s) := ⟨rfl, rfl⟩

theorem run_binInt {op : BinOp} {t : TypeId} {k : IntKind} {a b : Int} {C : List Prop} {c : CV} (h : binInt op k a b = some (C, c)) (hC : ∀ p ∈ C, p) :
    ∃ u, (binOp op t (.int k a) (.int k b)).run P W = .ok u W ∧ RepS W St ρ (.v (.c c)) u := by
  cases op <;> simp only [binInt, Option.some.injEq, Prod.mk.injEq, reduceCtorEq] at h
  case quo | rem =>
    obtain ⟨rfl, rfl⟩ := h
    have hb : b ≠ 0 := hC _ (List.mem_singleton.2 rfl)
    refine ⟨_, ?_, int_rep _ _⟩
    simp [binOp, Op.intDiv, hb]
  all_goals
    obtain ⟨rfl, rfl⟩ := h
    first
    | refine ⟨_, ?_, int_rep _ _⟩; simp [binOp, Op.intArith, Op.intBits, bits]; done
    | refine ⟨_, ?_, bool_rep _⟩; simp [binOp, Op.intCmp]; done

theorem run_shift {op : BinOp} {t : TypeId} {k k' : IntKind} {a b : Int} (hop : op = .shl ∨ op = .shr) (hb : 0 ≤ b) :
    (binOp op t (.int k a) (.int k' b)).run P W = .ok (.int k (if op = .shl then shlI k a b else shrI k a b)) W := by
  have hb' : ¬ b < 0 := by omega
  rcases hop with rfl | rfl <;> simp [binOp, Op.shift, hb', shlI, shrI]

theorem isNil_rep {op : BinOp} {nil : Bool} {c : CV} (h : isNilCmp op nil = some c) : (op = .eql ∧ c = .bool nil) ∨ (op = .neq ∧ c = .bool (!nil)) := by
  cases op <;> simp [isNilCmp] at h
  · exact .inl ⟨rfl, h.symm⟩
  · exact .inr ⟨rfl, h.symm⟩

/-- What a list that can be read is in memory: not nil if it has an element. -/
theorem lst_rep (hH : SimH H df W St ρ F) {x : SV} {u : Value} {t : Ty} {xs : List t.den} (h : RepS W St ρ x u) (hl : lstOf H x = some ⟨t, xs⟩) :
    ∃ A c, u = .slice A xs.length c ∧ xs.length ≤ c ∧ c ≤ maxLen ∧ (A = none → c = 0) := by
  unfold lstOf at hl
  split at hl
  · cases hl
    obtain ⟨_, A, c, h1, h2, _⟩ := h
    exact ⟨A, c, h1, h2.1, h2.2.1, h2.2.2.1⟩
  · rename_i o
    have ho := hH.obj o
    obtain ⟨_, hr, _⟩ := h
    split at hl
    · rename_i e t' xs' hv
      cases hl
      rw [hv] at ho
      obtain ⟨A, c, h1, h2⟩ := ho
      rw [hr] at h1
      cases h1
      refine ⟨A, c, rfl, ?_⟩
      rcases h2 with ⟨rfl, rfl, _⟩ | ⟨b, cur, rfl, _, h3, h4, _⟩
      · exact ⟨Nat.le_refl _, Nat.zero_le _, fun _ => rfl⟩
      · exact ⟨h3, h4, fun e => by cases e⟩
    · rename_i t' xs' hv
      cases hl
      rw [hv] at ho
      obtain ⟨⟨A, c, h1, h2⟩, _⟩ := ho
      rw [hr] at h1
      cases h1
      exact ⟨A, c, rfl, h2.1, h2.2.1, h2.2.2.1⟩
    · cases hl
  · cases hl

theorem run_op2 {op : BinOp} {t t' : TypeId} {x y : Operand} {u v r : Value} (hg : (eqGuard op t x y u v).run P W = .ok () W) (hb : (binOp op t u v).run P W = .ok r W) (ev : Operand → Value) (hx : ev x = u) (hy : ev y = v)
    (o : Oper) (ho : o.op = .binOp op t x y t') : (execOp ev o).run P W = .ok (.value r) W := by
  subst hx hy
  simp [execOp, ho, hg, hb]

theorem intsOf_rep : ∀ {cs : List CV} {as : List Int} {us : List Value}, intsOf cs = some as → RepCs W St ρ cs us → us = as.map (Value.int .i64) := by
  intro cs
  induction cs with
  | nil => intro as us h k; cases h; exact k
  | cons c cs ih =>
    intro as us h k
    obtain ⟨u, us', e, h1, h2, h3⟩ := k
    unfold intsOf at h
    split at h
    · rename_i heq; cases heq
    · rename_i n r heq
      cases heq
      simp only [Option.map_eq_some_iff] at h
      obtain ⟨as', h4, rfl⟩ := h
      rw [e, ih h4 h3, show u = _ from h2]
      rfl
    · cases h

/-- == and != alike: what 'equal' answers. -/
theorem OpR.eq (hS : SimH H df W St ρ F) {op : BinOp} {t t' : TypeId} {x y : Operand} {a : Act} {c : CV} {u v : Value} {b : Bool} (e1 : a.eval x = u) (e2 : a.eval y = v) (hr : isNilCmp op b = some c)
    (hg : ∀ op, (eqGuard op t x y u v).run P W = .ok () W) (h1 : (binOp .eql t u v).run P W = .ok (.bool b) W) (h2 : (binOp .neq t u v).run P W = .ok (.bool (!b)) W)
    (o : Oper) (ho : o.op = .binOp op t x y t') : OpR P (execOp a.eval o) H df W St ρ F (.v (.c c)) [] := by
  rcases isNil_rep hr with ⟨rfl, rfl⟩ | ⟨rfl, rfl⟩
  · exact OpR.pure hS (run_op2 (hg _) h1 a.eval e1 e2 o ho) (bool_rep _)
  · exact OpR.pure hS (run_op2 (hg _) h2 a.eval e1 e2 o ho) (bool_rep _)

theorem eqIn_slice (d : Nat) {t e : TypeId} (h : P.underlying t = some (.slice e)) (A : Option Addr) (n c : Nat) : (Op.equalIn (d + 1) t (.slice A n c) (.slice none 0 0)).run P W = .ok A.isNone W := by
  cases A <;> simp [Op.equalIn, run_underlying h]

theorem eqIn_iface (d : Nat) {t ty : TypeId} {ms : Array (String × TypeId)} {z : Value} (h : P.underlying t = some (.interface ms)) : (Op.equalIn (d + 1) t (.iface ty z) .nilIface).run P W = .ok false W := by
  simp [Op.equalIn, run_underlying h]

theorem eqIn_ptr (d : Nat) {t e : TypeId} (h : P.underlying t = some (.pointer e)) (A : Option Addr) : (Op.equalIn (d + 1) t (.pointer A) (.pointer none)).run P W = .ok A.isNone W := by
  cases A <;> simp [Op.equalIn, run_underlying h]

theorem eqIn_bool (d : Nat) {t : TypeId} (h : P.underlying t = some .bool) (a b : Bool) : (Op.equalIn (d + 1) t (.bool a) (.bool b)).run P W = .ok (a == b) W := by
  simp [Op.equalIn, run_underlying h]

theorem eq_of_in {t : TypeId} {u v : Value} {b : Bool} (h : (Op.equalIn 10000 t u v).run P W = .ok b W) : (Op.equal t u v).run P W = .ok b W := h

theorem bin_slice {t : TypeId} {A : Option Addr} {n c : Nat} {b : Bool} (h : (Op.equalIn 10000 t (.slice A n c) (.slice none 0 0)).run P W = .ok b W) :
    (binOp .eql t (.slice A n c) (.slice none 0 0)).run P W = .ok (.bool b) W ∧ (binOp .neq t (.slice A n c) (.slice none 0 0)).run P W = .ok (.bool (!b)) W := by
  constructor
  · simp only [binOp, Sem.run_bind, eq_of_in h, Result.andThen_ok, Sem.run_pure]
  · simp only [binOp, Sem.run_bind, eq_of_in h, Result.andThen_ok, Sem.run_pure]

theorem bin_iface {t ty : TypeId} {z : Value} {b : Bool} (h : (Op.equalIn 10000 t (.iface ty z) .nilIface).run P W = .ok b W) :
    (binOp .eql t (.iface ty z) .nilIface).run P W = .ok (.bool b) W ∧ (binOp .neq t (.iface ty z) .nilIface).run P W = .ok (.bool (!b)) W := by
  constructor
  · simp only [binOp, Sem.run_bind, eq_of_in h, Result.andThen_ok, Sem.run_pure]
  · simp only [binOp, Sem.run_bind, eq_of_in h, Result.andThen_ok, Sem.run_pure]

theorem bin_ptr {t : TypeId} {A : Option Addr} {b : Bool} (h : (Op.equalIn 10000 t (.pointer A) (.pointer none)).run P W = .ok b W) :
    (binOp .eql t (.pointer A) (.pointer none)).run P W = .ok (.bool b) W ∧ (binOp .neq t (.pointer A) (.pointer none)).run P W = .ok (.bool (!b)) W := by
  constructor
  · simp only [binOp, Sem.run_bind, eq_of_in h, Result.andThen_ok, Sem.run_pure]
  · simp only [binOp, Sem.run_bind, eq_of_in h, Result.andThen_ok, Sem.run_pure]

theorem bin_bool {t : TypeId} {a c b : Bool} (h : (Op.equalIn 10000 t (.bool a) (.bool c)).run P W = .ok b W) :
    (binOp .eql t (.bool a) (.bool c)).run P W = .ok (.bool b) W ∧ (binOp .neq t (.bool a) (.bool c)).run P W = .ok (.bool (!b)) W := by
  constructor
  · simp only [binOp, Sem.run_bind, eq_of_in h, Result.andThen_ok, Sem.run_pure]
  · simp only [binOp, Sem.run_bind, eq_of_in h, Result.andThen_ok, Sem.run_pure]

theorem evEq_sound (hP : TabOK P tt) (hS : SimH H df W St ρ F) {op : BinOp} {t t' : TypeId} {ti : TI} (hti : tget tt t = some ti) {x y : Operand} {a : Act} {C : List Prop} {c : CV} {sx sy : SV}
    (hx : RepS W St ρ sx (a.eval x)) (hy : RepS W St ρ sy (a.eval y)) (h : evEq H op ti sx sy = some (C, c)) (hC : ∀ p ∈ C, p) (o : Oper) (ho : o.op = .binOp op t x y t') :
    OpR P (execOp a.eval o) H df W St ρ F (.v (.c c)) [] := by
  obtain ⟨d, hd1, hd2⟩ := tab_und hP hti
  unfold evEq at h
  split at h
  · rename_i hdk
    rw [hdk] at hd2
    have hb : P.underlying t = some .bool := by cases d <;> simp [dkOf] at hd2; exact hd1
    split at h
    · simp only [Option.map_eq_some_iff, Prod.mk.injEq] at h
      obtain ⟨r, hr, rfl, rfl⟩ := h
      obtain ⟨k1, k2⟩ := bin_bool (eqIn_bool 9999 hb _ _)
      exact OpR.eq hS (rep_bool hx) (rep_bool hy) hr (fun op => by rw [eqGuard_at_bool]; rfl) k1 k2 o ho
    · cases h
  · rename_i e hdk
    have hb := tab_slice hP hti hdk
    split at h
    · split at h
      · simp only [Option.map_eq_some_iff, Prod.mk.injEq] at h
        obtain ⟨r, hr, rfl, rfl⟩ := h
        obtain ⟨k1, k2⟩ := bin_slice (eqIn_slice (P := P) (W := W) 9999 hb none 0 0)
        exact OpR.eq hS (rep_nl hx) (rep_nl hy) hr (fun op => by rw [eqGuard_at_slice]; rfl) k1 k2 o ho
      · split at h
        · rename_i u xs hl
          simp only [Option.map_eq_some_iff, Prod.mk.injEq] at h
          obtain ⟨r, hr, rfl, rfl⟩ := h
          have hne := hC _ (List.mem_singleton.2 rfl)
          obtain ⟨A, c, e1, h1, _, h3⟩ := lst_rep hS hx hl
          obtain ⟨a0, rfl⟩ : ∃ a0, A = some a0 := by
            cases A with
            | none => have := h3 rfl; omega
            | some a0 => exact ⟨a0, rfl⟩
          obtain ⟨k1, k2⟩ := bin_slice (eqIn_slice (P := P) (W := W) 9999 hb (some a0) xs.length c)
          exact OpR.eq hS e1 (rep_nl hy) hr (fun op => by rw [eqGuard_at_slice]; rfl) k1 k2 o ho
        · cases h
    · cases h
  · rename_i hdk
    rw [hdk] at hd2
    obtain ⟨ms, hb⟩ : ∃ ms, P.underlying t = some (.interface ms) := by cases d <;> simp [dkOf] at hd2; exact ⟨_, hd1⟩
    split at h
    · simp only [Option.map_eq_some_iff, Prod.mk.injEq] at h
      obtain ⟨r, hr, rfl, rfl⟩ := h
      obtain ⟨_, ty, z, e1⟩ := hx
      obtain ⟨k1, k2⟩ := bin_iface (eqIn_iface (P := P) (W := W) (ty := ty) (z := z) 9999 hb)
      exact OpR.eq hS e1 hy.2 hr (fun op => by rw [eqGuard_at_iface]; rfl) k1 k2 o ho
    · cases h
  · rename_i hdk
    rw [hdk] at hd2
    obtain ⟨ms, hb⟩ : ∃ ms, P.underlying t = some (.pointer ms) := by cases d <;> simp [dkOf] at hd2; exact ⟨_, hd1⟩
    split at h
    · simp only [Option.map_eq_some_iff, Prod.mk.injEq] at h
      obtain ⟨r, hr, rfl, rfl⟩ := h
      obtain ⟨k1, k2⟩ := bin_ptr (eqIn_ptr (P := P) (W := W) 9999 hb none)
      exact OpR.eq hS hx.2 hy.2 hr (fun op => by rw [eqGuard_at_pointer]; rfl) k1 k2 o ho
    · simp only [Option.map_eq_some_iff, Prod.mk.injEq] at h
      obtain ⟨r, hr, rfl, rfl⟩ := h
      obtain ⟨_, b, _, e1⟩ := hx
      obtain ⟨k1, k2⟩ := bin_ptr (eqIn_ptr (P := P) (W := W) 9999 hb (some ⟨b, _, none⟩))
      exact OpR.eq hS e1 hy.2 hr (fun op => by rw [eqGuard_at_pointer]; rfl) k1 k2 o ho
    · cases h
  · split at h
    · split at h
      · rename_i as bs ha hb
        split at h
        · rename_i hk
          obtain ⟨us, e1, h1⟩ := hx
          obtain ⟨vs, e2, h2⟩ := hy
          rw [intsOf_rep ha h1] at e1
          rw [intsOf_rep hb h2] at e2
          obtain ⟨g1, g2, g3, g4⟩ := (tab_row hP hti).2.2.2.2.1 hk.1 W x y as bs hk.2.1 hk.2.2
          simp only [Option.map_eq_some_iff, Prod.mk.injEq] at h
          obtain ⟨r, hr, rfl, rfl⟩ := h
          rcases isNil_rep hr with ⟨rfl, rfl⟩ | ⟨rfl, rfl⟩
          · exact OpR.pure hS (run_op2 g1 g3 a.eval e1 e2 o ho) (bool_rep _)
          · exact OpR.pure hS (run_op2 g2 g4 a.eval e1 e2 o ho) (bool_rep _)
        · cases h
      · cases h
    · cases h
  · cases h

theorem evBin_sound (hP : TabOK P tt) (hS : SimH H df W St ρ F) {op : BinOp} {t t' : TypeId} {x y : Operand} {a : Act} {C : List Prop} {c : CV} {sx sy : SV}
    (hx : RepS W St ρ sx (a.eval x)) (hy : RepS W St ρ sy (a.eval y)) (h : evBin tt H op t sx sy = some (C, c)) (hC : ∀ p ∈ C, p) (o : Oper) (ho : o.op = .binOp op t x y t') :
    OpR P (execOp a.eval o) H df W St ρ F (.v (.c c)) [] := by
  unfold evBin at h
  split at h
  · rename_i k a1 k' b1
    have e1 := rep_int hx
    have e2 := rep_int hy
    split at h
    · cases h
      exact OpR.pure hS (run_op2 (r := .int k (shlI k a1 b1)) (by rw [eqGuard_at_int]; rfl) (by rw [run_shift (.inl rfl) (hC _ (List.mem_singleton.2 rfl))]; rfl) a.eval e1 e2 o ho) (int_rep _ _)
    · cases h
      exact OpR.pure hS (run_op2 (r := .int k (shrI k a1 b1)) (by rw [eqGuard_at_int]; rfl) (by rw [run_shift (.inr rfl) (hC _ (List.mem_singleton.2 rfl))]; rfl) a.eval e1 e2 o ho) (int_rep _ _)
    · split at h
      · rename_i hk
        subst hk
        obtain ⟨u, k1, k2⟩ := run_binInt (P := P) (W := W) (St := St) (ρ := ρ) (t := t) h hC
        exact OpR.pure hS (run_op2 (by rw [eqGuard_at_int]; rfl) k1 a.eval e1 e2 o ho) k2
      · cases h
  · rename_i s1 s2
    have e1 := rep_str hx
    have e2 := rep_str hy
    split at h
    · cases h
      have hb : ¬ (((s1.size + s2.size : Nat) : Int) > 9223372036854775807) := by
        have := hC _ (List.mem_singleton.2 rfl)
        omega
      exact OpR.pure hS (run_op2 (r := .string (s1 ++ s2)) (by rw [eqGuard_at_string]; rfl) (by simp only [binOp, Op.stringOp, IntKind.max_i64, Sem.run_ite]; rw [if_neg hb]; rfl) a.eval e1 e2 o ho) (str_rep _)
    · cases h
      exact OpR.pure hS (run_op2 (by rw [eqGuard_at_string]; rfl) (by simp only [binOp, Op.stringOp]; rfl) a.eval e1 e2 o ho) (bool_rep _)
    · cases h
      exact OpR.pure hS (run_op2 (by rw [eqGuard_at_string]; rfl) (by simp only [binOp, Op.stringOp]; rfl) a.eval e1 e2 o ho) (bool_rep _)
    · cases h
  · split at h
    · rename_i hti
      exact evEq_sound hP hS hti hx hy h hC o ho
    · cases h

theorem evUn_sound (hS : SimH H df W St ρ F) {op : UnOp} {t : TypeId} {x : Operand} {a : Act} {c : CV} {sx : SV} (hx : RepS W St ρ sx (a.eval x)) (h : evUn op sx = some c)
    (o : Oper) (ho : o.op = .unOp op t x) : OpR P (execOp a.eval o) H df W St ρ F (.v (.c c)) [] := by
  unfold evUn at h
  split at h
  · cases h
    have e := rep_int hx
    refine OpR.pure hS ?_ (int_rep _ _)
    unfold execOp
    simp [ho, e, Op.unary, Op.intArith]
  · cases h
    have e := rep_bool hx
    refine OpR.pure hS ?_ (bool_rep _)
    unfold execOp
    simp [ho, e, Op.unary]
  · cases h
end
end Al
end Go.Proofs.Ytiplmapndahmmaa
