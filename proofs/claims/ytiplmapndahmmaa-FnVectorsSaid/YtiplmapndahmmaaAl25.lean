/- What printed walks use: tests, names, joins, loops. -/
import Derived.Test.YtiplmapndahmmaaAl24
namespace Go.Proofs.Ytiplmapndahmmaa
namespace Al
set_option linter.constructorNameAsVariable false
set_option linter.unusedVariables false
set_option linter.unusedSimpArgs false

/-- Go on, if C. -/
def chk {α : Type} (C : Prop) [Decidable C] (k : Option α) : Option α := if C then k else none

theorem chk_some {α : Type} {C : Prop} [Decidable C] {k : Option α} {r : α} (h : chk C k = some r) : C ∧ k = some r := by
  unfold chk at h
  split at h
  · rename_i hC; exact ⟨hC, h⟩
  · cases h

theorem chk_of {α : Type} {C : Prop} [Decidable C] {k : Option α} (h : C) : chk C k = k := if_pos h

/-- A call behind a guard. -/
def gcl {α : Type} (g : Bool) (x : Option α) (d : α) : Option α := match g with | true => x | false => some d

theorem gcl_some {α : Type} {g : Bool} {x : Option α} {d r : α} (h : gcl g x d = some r) (hg : g = true) : x = some r := by
  subst hg; exact h

theorem bind_some {α β : Type} {x : Option α} {f : α → Option β} {r : β} (h : x.bind f = some r) : ∃ a, x = some a ∧ f a = some r := by
  cases x with
  | none => cases h
  | some a => exact ⟨a, rfl, h⟩

theorem ite_t {α : Sort _} {b : Bool} (h : b = true) (x y : α) : (if b = true then x else y) = x := if_pos h
theorem ite_f {α : Sort _} {b : Bool} (h : b = false) (x y : α) : (if b = true then x else y) = y := if_neg (by rw [h]; exact Bool.false_ne_true)

section
variable {P : Program} {N : Nat} {kp : List Nat} {Q : Exit → Env → Hp → Prop}

/-- Behind a piece of code one of a family of states. -/
theorem aw_join {X : Type} (S : X → List (Nat × SV) × List (Nat × AObj)) (R : X → Prop) {a b : Code} {T : Env} {H : Hp} (hz : ∀ x, R x → AW P N kp b Q (envS (S x).1) (hpS (S x).2))
    (ha : AW P N kp a (Then (fun T' H' => ∃ x, R x ∧ envS (S x).1 = T' ∧ hpS (S x).2 = H') Q) T H) : AW P N kp (.seq a b) Q T H := by
  refine aw_seq (AW.mono ha fun e T' H' hp => ?_)
  cases e with
  | normal => obtain ⟨x, h1, h2, h3⟩ := hp; rw [← h2, ← h3]; exact hz x h1
  | exit id => exact hp
  | goto l => exact hp
  | ret => exact hp
  | panic c => exact hp
  | outgrown => exact hp

theorem aw_loopF {X : Type} (S : X → List (Nat × SV) × List (Nat × AObj)) (R : Nat → X → Prop) (n : Nat) (x : X) {c : Code} (hx : R n x)
    (round : ∀ n x, R n x → AW P N kp c (Then (fun T' H' => ∃ m y, m < n ∧ R m y ∧ envS (S y).1 = T' ∧ hpS (S y).2 = H') Q) (envS (S x).1) (hpS (S x).2)) : AW P N kp (.loop c) Q (envS (S x).1) (hpS (S x).2) := by
  refine aw_loop (α := { p : Nat × X // R p.1 p.2 }) (fun p => (envS (S p.1.2).1, hpS (S p.1.2).2)) (fun p => p.1.1) ⟨(n, x), hx⟩ rfl fun ⟨⟨n, x⟩, hx⟩ => ?_
  refine AW.mono (round n x hx) fun e T' H' hp => ?_
  cases e with
  | normal => obtain ⟨m, y, h1, h2, h3, h4⟩ := hp; exact ⟨⟨(m, y), h2⟩, h1, by rw [← h3, ← h4]⟩
  | exit id => exact hp
  | goto l => exact hp
  | ret => exact hp
  | panic c => exact hp
  | outgrown => exact hp
end

/-! ### A contract whose lists stay -/

def viewA (H : Hp) : AV → AV
  | .c x => match viewC H x with | some y => .c y | none => .c x
  | .ag cs => .ag (cs.map fun x => match viewC H x with | some y => y | none => x)

def viewS (H : Hp) : SV → SV
  | .v x => .v (viewA H x)
  | .tu xs => .tu (xs.map (viewA H))
  | x => x

/-- Without the objects of js. -/
def dropJ : Nat → List Nat → List AObj → List AObj
  | _, _, [] => []
  | i, js, x :: r => match js.contains i, dropJ (i + 1) js r with
    | false, t => x :: t
    | true, [] => []
    | true, t => .dd :: t

theorem dropJ_get (js : List Nat) : ∀ (l : List AObj) (i k : Nat), (dropJ i js l).getD k .dd = if js.contains (i + k) = true then .dd else l.getD k .dd
  | [], i, k => by simp [dropJ]
  | x :: l, i, k => by
    have ih := dropJ_get js l (i + 1)
    simp only [dropJ]
    cases hc : js.contains i with
    | false =>
      cases k with
      | zero => simp only [Nat.add_zero, hc, Bool.false_eq_true, if_false]; rfl
      | succ k =>
        have := ih k
        rw [show i + 1 + k = i + (k + 1) by omega] at this
        simpa [List.getD] using this
    | true =>
      cases ht : dropJ (i + 1) js l with
      | nil =>
        rw [ht] at ih
        cases k with
        | zero => simp only [Nat.add_zero, hc, if_true]; rfl
        | succ k =>
          have := ih k
          rw [show i + 1 + k = i + (k + 1) by omega] at this
          simpa [List.getD] using this
      | cons y t =>
        rw [ht] at ih
        cases k with
        | zero => simp only [Nat.add_zero, hc, if_true]; rfl
        | succ k =>
          have := ih k
          rw [show i + 1 + k = i + (k + 1) by omega] at this
          simpa [List.getD] using this

def viewR (js : List Nat) (r : SV) (Hout : List AObj) : Option (SV × List AObj) :=
  match frzL (hpD Hout) js with
  | some us => some (viewS (applyUs (hpD Hout) us) r, dropJ 0 js Hout)
  | none => none

section
variable {T : Env} {H : Hp} {tm : Array Value} {df : List Deferred} {W : World} {St : Nat → Nat → Prop} {ρ : Nat → Option Value} {F : Nat → Option Nat}

theorem viewA_rep (hS : SimH H df W St ρ F) {x : AV} {u : Value} (h : RepA W St ρ x u) : RepA W St ρ (viewA H x) u := by
  cases x with
  | c x =>
    simp only [viewA]
    split
    · rename_i y hy
      by_cases hu : x = .un
      · subst hu; simp [viewC] at hy
      · have h' : u.oneCell' = true ∧ RepC W St ρ x u := by cases x <;> first | exact absurd rfl hu | exact h
        exact RepA.of h'.1 (viewC_rep hS hy h'.2)
    · exact h
  | ag cs =>
    obtain ⟨us, h1, h2⟩ := h
    refine ⟨us, h1, ?_⟩
    clear h1
    induction cs generalizing us with
    | nil => exact h2
    | cons c cs ih =>
      obtain ⟨v, us', e, k1, k2, k3⟩ := h2
      refine ⟨v, us', e, k1, ?_, ih us' k3⟩
      show RepC W St ρ (match viewC H c with | some y => y | none => c) v
      split
      · rename_i y hy; exact viewC_rep hS hy k2
      · exact k2

theorem viewS_rep (hS : SimH H df W St ρ F) {x : SV} {u : Value} (h : RepS W St ρ x u) : RepS W St ρ (viewS H x) u := by
  cases x with
  | v x => exact viewA_rep hS h
  | tu xs =>
    obtain ⟨us, h1, h2⟩ := h
    refine ⟨us, h1, ?_⟩
    clear h1
    induction xs generalizing us with
    | nil => exact h2
    | cons c cs ih =>
      obtain ⟨v, us', e, k1, k2⟩ := h2
      exact ⟨v, us', e, viewA_rep hS k1, ih us' k2⟩
  | el o sz i d => exact h
  | gd b x => exact h

theorem frzL_at : ∀ {js : List Nat} {H : Hp} {us : List (Nat × AObj)}, frzL H js = some us → ∀ o, (o ∉ js → applyUs H us o = H o) ∧ (o ∈ js → ∃ t, ∃ xs : List t.den, applyUs H us o = .vz t xs)
  | [], H, us, h, o => by cases h; exact ⟨fun _ => rfl, fun h => by cases h⟩
  | j :: js, H, us, h, o => by
    simp only [frzL] at h
    split at h
    · rename_i e t xs ho
      split at h
      · rename_i us' hus
        cases h
        obtain ⟨k1, k2⟩ := frzL_at hus o
        have e1 : applyUs H ((j, .vz t xs) :: us') o = applyUs (upd H j (.vz t xs)) us' o := rfl
        rw [e1]
        refine ⟨fun hn => ?_, fun hm => ?_⟩
        · rw [List.mem_cons, not_or] at hn
          rw [k1 hn.2, upd_other _ _ hn.1]
        · by_cases h1 : o ∈ js
          · exact k2 h1
          · have hj : o = j := (List.mem_cons.1 hm).resolve_right h1
            subst hj
            rw [k1 h1, upd_same]
            exact ⟨t, xs, rfl⟩
      · cases h
    · cases h

theorem acall_view {P : Program} {f : FuncId} {args : List SV} {Hin : List AObj} {kp js : List Nat} {r r' : SV} {Hout Hout' : List AObj} (h : ACall P f args Hin kp r Hout) (hv : viewR js r Hout = some (r', Hout')) : ACall P f args Hin kp r' Hout' := by
  unfold viewR at hv
  split at hv
  · rename_i us hus
    cases hv
    refine ⟨h.1, fun n tm W St ρ F hsz hS => CallsIn.mono (h.2 n tm W St ρ F hsz hS) fun e W' hp => ?_⟩
    obtain ⟨v, St', ρ', F', rfl, hS', hE⟩ := hp
    · obtain ⟨St1, ρ1, F1, k1, k2, k3, k4⟩ := frzL_sound hus hS'
      refine ⟨v, St1, ρ1, F1, rfl, ⟨fun k => ?_, fun o => ?_, k1.dj, k1.lt, k1.nst, k1.st, trivial⟩, hE.trans (k4 kp)⟩
      · cases k with
        | zero => exact viewS_rep k1.h (k1.slot 0)
        | succ k => exact trivial
      · have ho := k1.obj o
        obtain ⟨g1, g2⟩ := frzL_at hus o
        have hd : hpD (dropJ 0 js Hout) o = if js.contains o = true then .dd else hpD Hout o := by
          have := dropJ_get js Hout 0 o
          rw [Nat.zero_add] at this
          exact this
        rw [hd]
        by_cases hm : o ∈ js
        · rw [if_pos (by simpa using hm)]
          obtain ⟨t, xs, e⟩ := g2 hm
          rw [e] at ho
          exact ho.2
        · rw [if_neg (by simpa using hm)]
          rw [g1 hm] at ho
          exact ho
  · cases hv
end

/-! ### Structs of numbers -/
/-- Structs of numbers are compared number by number. -/
theorem eqFact_of {P : Program} {t : TypeId} {n : Nat} (hm : P.eqGuardType P.depth t = false) (ht : P.underlying t = some (.struct (P.fieldsOf t))) (hp : P.stoodInHeld t = false)
    (hf : ∀ (W : World) (us vs : List Int), us.length = n → vs.length = n → (Op.eqFields 9999 (us.map (Value.int .i64)).toArray (vs.map (Value.int .i64)).toArray (P.fieldsOf t).toList).run P W = .ok (us == vs) W) : EqFact P t n := by
  intro W x y us vs ha hb
  have h1 : (Op.equalIn 10000 t (.agg (us.map (Value.int .i64)).toArray) (.agg (vs.map (Value.int .i64)).toArray)).run P W = .ok (us == vs) W := by
    rw [run_equalIn_struct W 9999 t _ _ ht hp]; exact hf W us vs ha hb
  exact ⟨run_eqGuard_agg W .eql t x y _ _ hm, run_eqGuard_agg W .neq t x y _ _ hm, by rw [run_eql_struct, h1]; rfl, by rw [run_neq_struct, h1]; rfl⟩
theorem part_int {P : Program} {W : World} {t : TypeId} {k : IntKind} (ht : P.underlying t = some (.int k)) (cs : Array Value) (o : Nat) (v : Value) (h : cs[o]? = some v) : (part t cs o).run P W = .ok v W := by
  simp [part, isAgg, run_underlying ht, h]
theorem eqStep {P : Program} {W : World} {xs ys : Array Value} {f : Field} {fs : List Field} {a b : Int} (hn : f.name ≠ "_") (ht : P.underlying f.type = some (.int .i64)) (ha : xs[f.offset]? = some (.int .i64 a)) (hb : ys[f.offset]? = some (.int .i64 b)) :
    (Op.eqFields 9999 xs ys (f :: fs)).run P W = if (a == b) = true then (Op.eqFields 9999 xs ys fs).run P W else .ok false W := by
  rw [Op.eqFields, if_pos hn]
  simp only [Sem.run_bind, part_int ht _ _ _ ha, part_int ht _ _ _ hb, Result.andThen_ok, run_equalIn_int W 9998 f.type .i64 .i64 a b ht]
  cases h : (a == b) <;> simp
end Al
end Go.Proofs.Ytiplmapndahmmaa
