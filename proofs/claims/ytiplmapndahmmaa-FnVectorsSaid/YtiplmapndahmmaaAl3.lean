/- Code over abstract states: the rules of sequence, test, block, loop, return; functions. -/
import Derived.Test.YtiplmapndahmmaaAl2
import Derived.RangeFuncLeaves
namespace Go.Proofs.Ytiplmapndahmmaa
namespace Al
set_option linter.constructorNameAsVariable false
set_option linter.unusedVariables false

def wideR (ro : Option Nat) : Fence := { Fence.wide with round := ro }

theorem fenced_wideR (P : Program) (ro : Option Nat) (m : Machine) : m.fenced P (wideR ro) := fenced_wide P m
theorem room_wideR (ro : Option Nat) (n : Nat) : (wideR ro).room n := fun _ h => by simp [wideR, Fence.wide] at h
theorem wideR_fn (ro : Option Nat) (f : FuncId) : (wideR ro).fn f := trivial

/-- What a call of a contract's fence comes to in any other: the fences let all by. -/
theorem callsIn_wideR {ro ro' : Option Nat} {n n' : Nat} {P : Program} {f : FuncId} {args : Array Value} {w : World} {R : Ending → World → Prop}
    (h : CallsIn (wideR ro) n P f args w R) : CallsIn (wideR ro') n' P f args w R :=
  ⟨trivial, fun cs _ => let ⟨e, w', fr, r, s, x⟩ := h.2 cs (room_wideR _ _); ⟨e, w', fr, r, s, x⟩⟩

/-- The marks that were pushed since. -/
def NewMarks (W : World) (df df' : List Deferred) : Prop := ∃ ms, df' = ms ++ df ∧ ∀ d ∈ ms, ∃ r, d = { target := .collected r, args := #[] } ∧ W.heap.size ≤ r
theorem NewMarks.refl (W : World) (df : List Deferred) : NewMarks W df df := ⟨[], rfl, fun _ h => by cases h⟩
theorem NewMarks.trans {W W' : World} {df df' df'' : List Deferred} (hs : W.heap.size ≤ W'.heap.size) (h : NewMarks W df df') (k : NewMarks W' df' df'') : NewMarks W df df'' := by
  obtain ⟨ms, rfl, h2⟩ := h
  obtain ⟨ms', rfl, k2⟩ := k
  refine ⟨ms' ++ ms, by simp, fun d hd => ?_⟩
  rcases List.mem_append.1 hd with hd | hd
  · obtain ⟨r, e, hr⟩ := k2 d hd; exact ⟨r, e, Nat.le_trans hs hr⟩
  · exact h2 d hd

def APost (N : Nat) (kp : List Nat) (Q : Exit → Env → Hp → Prop) (df : List Deferred) (W : World) (St : Nat → Nat → Prop) (ρ : Nat → Option Value) (F : Nat → Option Nat) :
    Exit → Act → World → Prop := fun e a W' =>
  e ≠ .outgrown ∧ a.tmps.size = N ∧ NewMarks W df a.defers ∧ ∃ T' H' St' ρ' F', Q e T' H' ∧ Sim T' H' a.tmps a.defers W' St' ρ' F' ∧ Evo kp W St ρ F W' St' ρ' F'

def AW (P : Program) (N : Nat) (kp : List Nat) (c : Code) (Q : Exit → Env → Hp → Prop) (T : Env) (H : Hp) : Prop :=
  ∀ (ro : Option Nat) (n : Nat) (tm : Array Value) (df : List Deferred) (W : World) (St : Nat → Nat → Prop) (ρ : Nat → Option Value) (F : Nat → Option Nat),
    tm.size = N → Sim T H tm df W St ρ F → c.wpIn (wideR ro) n P (APost N kp Q df W St ρ F) { tmps := tm, defers := df } W

section
variable {P : Program} {N : Nat} {kp : List Nat} {T : Env} {H : Hp} {Q Q' : Exit → Env → Hp → Prop}

theorem APost.mono {df : List Deferred} {W : World} {St : Nat → Nat → Prop} {ρ : Nat → Option Value} {F : Nat → Option Nat} (hq : ∀ e T H, Q e T H → Q' e T H)
    (e : Exit) (a : Act) (w : World) (h : APost N kp Q df W St ρ F e a w) : APost N kp Q' df W St ρ F e a w := by
  obtain ⟨h0, h1, h2, T', H', St', ρ', F', h3, h4, h5⟩ := h
  exact ⟨h0, h1, h2, T', H', St', ρ', F', hq _ _ _ h3, h4, h5⟩

/-- What stood behind an intermediate state is behind the first one. -/
theorem APost.step {df df' : List Deferred} {W W' : World} {St St' : Nat → Nat → Prop} {ρ ρ' : Nat → Option Value} {F F' : Nat → Option Nat}
    (hm : NewMarks W df df') (hv : Evo kp W St ρ F W' St' ρ' F')
    (e : Exit) (a : Act) (w : World) (h : APost N kp Q df' W' St' ρ' F' e a w) : APost N kp Q df W St ρ F e a w := by
  obtain ⟨h0, h1, h2, T', H', St'', ρ'', F'', h3, h4, h5⟩ := h
  exact ⟨h0, h1, hm.trans hv.size h2, T', H', St'', ρ'', F'', h3, h4, hv.trans h5⟩

theorem AW.mono {c : Code} (h : AW P N kp c Q T H) (hq : ∀ e T H, Q e T H → Q' e T H) : AW P N kp c Q' T H :=
  fun ro n tm df W St ρ F hN hS => wpIn_mono (h ro n tm df W St ρ F hN hS) (APost.mono hq)

theorem aw_skip (h : Q .normal T H) : AW P N kp .skip Q T H :=
  fun ro n tm df W St ρ F hN hS => wpIn_skip ⟨(fun e => by cases e), hN, .refl _ _, T, H, St, ρ, F, h, hS, .refl _ _ _ _ _⟩

theorem aw_label {l : Nat} (h : Q .normal T H) : AW P N kp (.label l) Q T H :=
  fun ro n tm df W St ρ F hN hS => wpIn_label ⟨(fun e => by cases e), hN, .refl _ _, T, H, St, ρ, F, h, hS, .refl _ _ _ _ _⟩

theorem aw_exit {id : Nat} (h : Q (.exit id) T H) : AW P N kp (.exit id) Q T H :=
  fun ro n tm df W St ρ F hN hS => wpIn_exit ⟨(fun e => by cases e), hN, .refl _ _, T, H, St, ρ, F, h, hS, .refl _ _ _ _ _⟩

theorem aw_ret (h : Q .ret T H) : AW P N kp .ret Q T H :=
  fun ro n tm df W St ρ F hN hS => wpIn_ret ⟨(fun e => by cases e), hN, .refl _ _, T, H, St, ρ, F, h, hS, .refl _ _ _ _ _⟩

def Then (next : Env → Hp → Prop) (Q : Exit → Env → Hp → Prop) : Exit → Env → Hp → Prop
  | .normal, T, H => next T H
  | e, T, H => Q e T H

theorem aw_seq {x y : Code} (h : AW P N kp x (Then (AW P N kp y Q) Q) T H) : AW P N kp (.seq x y) Q T H := by
  intro ro n tm df W St ρ F hN hS
  refine wpIn_seq (wpIn_mono (h ro n tm df W St ρ F hN hS) fun e a w hp => ?_)
  obtain ⟨h0, h1, h2, T', H', St', ρ', F', h3, h4, h5⟩ := hp
  · cases e with
    | normal => exact wpIn_mono (h3 ro n a.tmps a.defers w St' ρ' F' h1 h4) (APost.step h2 h5)
    | exit id => exact ⟨(fun e => by cases e), h1, h2, T', H', St', ρ', F', h3, h4, h5⟩
    | goto l => exact ⟨(fun e => by cases e), h1, h2, T', H', St', ρ', F', h3, h4, h5⟩
    | ret => exact ⟨(fun e => by cases e), h1, h2, T', H', St', ρ', F', h3, h4, h5⟩
    | panic c => exact ⟨(fun e => by cases e), h1, h2, T', H', St', ρ', F', h3, h4, h5⟩
    | outgrown => exact absurd rfl h0

/-- A constant. -/
def constS : Value → SV
  | .int k n => .v (.c (.int k n))
  | .bool b => .v (.c (.bool b))
  | .string s => .v (.c (.str s))
  | .slice none 0 0 => .v (.c .nl)
  | .pointer none => .v (.c .np)
  | .nilFunc => .v (.c .nf)
  | .nilIface => .v (.c .ni)
  | .map none => .v (.c .nm)
  | _ => .v (.c .un)

def evalS (T : Env) : Operand → SV
  | .tmp t => T t
  | .const v => constS v
  | .func f => .v (.c (.fn f []))
  | .global _ => .v (.c .un)

theorem constS_rep {W : World} {St : Nat → Nat → Prop} {ρ : Nat → Option Value} (v : Value) : RepS W St ρ (constS v) v := by
  unfold constS
  split <;> first | exact ⟨rfl, rfl⟩ | exact trivial

theorem evalS_rep {tm : Array Value} {df df' : List Deferred} {W : World} {St : Nat → Nat → Prop} {ρ : Nat → Option Value} {F : Nat → Option Nat}
    (h : Sim T H tm df W St ρ F) (x : Operand) : RepS W St ρ (evalS T x) (({ tmps := tm, defers := df' } : Act).eval x) := by
  cases x with
  | tmp t => exact h.slot t
  | const v => exact constS_rep v
  | func f => exact ⟨rfl, [], rfl, rfl⟩
  | global g => exact trivial

theorem aw_cond {c : Operand} {x y : Code} {b : Bool} (hc : evalS T c = .v (.c (.bool b))) (ht : b = true → AW P N kp x Q T H) (hf : b = false → AW P N kp y Q T H) :
    AW P N kp (.cond c x y) Q T H := by
  intro ro n tm df W St ρ F hN hS
  have h := evalS_rep (df' := df) hS c
  rw [hc] at h
  refine wpIn_cond_split (t := b) h.2 (fun e => ht e ro n tm df W St ρ F hN hS) (fun e => hf e ro n tm df W St ρ F hN hS)

def InBlock (id : Nat) (Q : Exit → Env → Hp → Prop) : Exit → Env → Hp → Prop
  | .exit id', T, H => if id' = id then Q .normal T H else Q (.exit id') T H
  | e, T, H => Q e T H

theorem aw_block {id : Nat} {c : Code} (h : AW P N kp c (InBlock id Q) T H) : AW P N kp (.block id c) Q T H := by
  intro ro n tm df W St ρ F hN hS
  refine wpIn_block (wpIn_mono (h ro n tm df W St ρ F hN hS) fun e a w hp => ?_)
  obtain ⟨h0, h1, h2, T', H', St', ρ', F', h3, h4, h5⟩ := hp
  · cases e with
    | exit id' =>
      simp only [InBlock] at h3
      simp only [Exit.inBlock]
      split
      · rename_i he; rw [if_pos he] at h3; exact ⟨(fun e => by cases e), h1, h2, T', H', St', ρ', F', h3, h4, h5⟩
      · rename_i he; rw [if_neg he] at h3; exact ⟨(fun e => by cases e), h1, h2, T', H', St', ρ', F', h3, h4, h5⟩
    | normal => exact ⟨(fun e => by cases e), h1, h2, T', H', St', ρ', F', h3, h4, h5⟩
    | goto l => exact ⟨(fun e => by cases e), h1, h2, T', H', St', ρ', F', h3, h4, h5⟩
    | ret => exact ⟨(fun e => by cases e), h1, h2, T', H', St', ρ', F', h3, h4, h5⟩
    | panic c => exact ⟨(fun e => by cases e), h1, h2, T', H', St', ρ', F', h3, h4, h5⟩
    | outgrown => exact absurd rfl h0

/-- A loop: at each round's head one of a family of states, and a number that each round lowers. -/
theorem aw_loop {α : Type} {c : Code} (S : α → Env × Hp) (m : α → Nat) (x : α) (hx : S x = (T, H))
    (round : ∀ x, AW P N kp c (Then (fun T' H' => ∃ y, m y < m x ∧ S y = (T', H')) Q) (S x).1 (S x).2) : AW P N kp (.loop c) Q T H := by
  intro ro n tm df W St ρ F hN hS b k cs hro hb hr
  have key : ∀ j x tm df' W' St' ρ' F', m x = j → tm.size = N → Sim (S x).1 (S x).2 tm df' W' St' ρ' F' → NewMarks W df df' → Evo kp W St ρ F W' St' ρ' F' →
      ∃ e a' w', APost N kp Q df W St ρ F e a' w' ∧ ArrivesIn (Machine.fenced P (wideR ro)) P (lone (b.atR { tmps := tm, defers := df' } (.code c :: .inLoop c :: k)) cs W') b k cs e a' w' := by
    intro j
    induction j using Nat.strongRecOn with
    | _ j ih =>
      intro x tm df' W' St' ρ' F' hj hN' hS' hm hv
      obtain ⟨e, a₁, w₁, hq, harr⟩ := round x ro n tm df' W' St' ρ' F' hN' hS' b (.inLoop c :: k) cs hro hb hr
      obtain ⟨h0, h1, h2, T1, H1, St1, ρ1, F1, h3, h4, h5⟩ := hq
      · cases e with
        | normal =>
          obtain ⟨y, hy, hSy⟩ := h3
          have e1 : (S y).1 = T1 := by rw [hSy]
          have e2 : (S y).2 = H1 := by rw [hSy]
          obtain ⟨e₂, a₂, w₂, hq₂, harr₂⟩ := ih (m y) (hj ▸ hy) y a₁.tmps a₁.defers w₁ St1 ρ1 F1 rfl h1 (by rw [e1, e2]; exact h4) (hm.trans hv.size h2) (hv.trans h5)
          exact ⟨e₂, a₂, w₂, hq₂, .of_steps (StepsIn.trans harr (.one (fenced_wideR P ro _) stepR_inLoop)) harr₂⟩
        | exit id => exact ⟨_, a₁, w₁, ⟨(fun e => by cases e), h1, hm.trans hv.size h2, T1, H1, St1, ρ1, F1, h3, h4, hv.trans h5⟩, .pass (x := .inLoop c) rfl (fun _ _ => .inl (by simp)) harr⟩
        | goto l => exact ⟨_, a₁, w₁, ⟨(fun e => by cases e), h1, hm.trans hv.size h2, T1, H1, St1, ρ1, F1, h3, h4, hv.trans h5⟩, .pass (x := .inLoop c) rfl (fun _ _ => .inl (by simp)) harr⟩
        | ret => exact ⟨_, a₁, w₁, ⟨(fun e => by cases e), h1, hm.trans hv.size h2, T1, H1, St1, ρ1, F1, h3, h4, hv.trans h5⟩, .pass (x := .inLoop c) rfl (fun _ _ => .inl (by simp)) harr⟩
        | panic ch => exact ⟨_, a₁, w₁, ⟨(fun e => by cases e), h1, hm.trans hv.size h2, T1, H1, St1, ρ1, F1, h3, h4, hv.trans h5⟩, .pass (x := .inLoop c) rfl (fun _ _ => .inl (by simp)) harr⟩
        | outgrown => exact absurd rfl h0
  obtain ⟨e, a', w', hq, harr⟩ := key _ x tm df W St ρ F rfl hN (by rw [hx]; exact hS) (.refl _ _) (.refl _ _ _ _ _)
  exact ⟨e, a', w', hq, .of_steps (.one (fenced_wideR P ro _) stepR_loop) harr⟩

/-- From one abstract state to another that the same frame and world meet (what is ghost may be made anew). -/
def Ent (kp : List Nat) (T : Env) (H : Hp) (T' : Env) (H' : Hp) : Prop :=
  ∀ tm df W St ρ F, Sim T H tm df W St ρ F → ∃ St' ρ' F', Sim T' H' tm df W St' ρ' F' ∧ Evo kp W St ρ F W St' ρ' F'

theorem Ent.refl (kp : List Nat) (T : Env) (H : Hp) : Ent kp T H T H := fun _ _ _ _ _ _ h => ⟨_, _, _, h, .refl _ _ _ _ _⟩
theorem Ent.trans {T' T'' : Env} {H' H'' : Hp} (h : Ent kp T H T' H') (k : Ent kp T' H' T'' H'') : Ent kp T H T'' H'' := fun tm df W St ρ F hS => by
  obtain ⟨St', ρ', F', h1, h2⟩ := h tm df W St ρ F hS
  obtain ⟨St'', ρ'', F'', k1, k2⟩ := k tm df W St' ρ' F' h1
  exact ⟨St'', ρ'', F'', k1, h2.trans k2⟩

theorem aw_ent {T' : Env} {H' : Hp} {c : Code} (h : Ent kp T H T' H') (k : AW P N kp c Q T' H') : AW P N kp c Q T H := by
  intro ro n tm df W St ρ F hN hS
  obtain ⟨St', ρ', F', h1, h2⟩ := h tm df W St ρ F hS
  exact wpIn_mono (k ro n tm df W St' ρ' F' hN h1) (APost.step (.refl _ _) h2)

/-- The same behind a piece of code. -/
theorem aw_post {c : Code} (h : AW P N kp c Q' T H) (hq : ∀ e T H, Q' e T H → ∃ T' H', Ent kp T H T' H' ∧ Q e T' H') : AW P N kp c Q T H := by
  intro ro n tm df W St ρ F hN hS
  refine wpIn_mono (h ro n tm df W St ρ F hN hS) fun e a w hp => ?_
  obtain ⟨h0, h1, h2, T1, H1, St1, ρ1, F1, h3, h4, h5⟩ := hp
  · obtain ⟨T2, H2, k1, k2⟩ := hq _ _ _ h3
    obtain ⟨St2, ρ2, F2, k3, k4⟩ := k1 _ _ _ _ _ _ h4
    exact ⟨h0, h1, h2, T2, H2, St2, ρ2, F2, k2, k3, h5.trans k4⟩
end

/-! ### Functions -/

def argE (args : List SV) : Env := fun k => args.getD k (.v (.c .un))
def resE (r : SV) : Env := fun k => if k = 0 then r else .v (.c .un)
def hpF (l : List AObj) : Hp := fun o => l.getD o .fr
def hpD (l : List AObj) : Hp := fun o => l.getD o .dd

/-- Called with such arguments and objects the function returns r and leaves the objects so; the objects in kp keep their values (an address stays an address). -/
def ACall (P : Program) (f : FuncId) (args : List SV) (Hin : List AObj) (kp : List Nat) (r : SV) (Hout : List AObj) : Prop :=
  (∃ fn, P.funcs[f]? = some fn ∧ (fn.name == "runtime.NumGoroutine") = false ∧ fn.body.isNone = false) ∧
  ∀ (n : Nat) (tm : Array Value) (W : World) (St : Nat → Nat → Prop) (ρ : Nat → Option Value) (F : Nat → Option Nat), tm.size = args.length →
    Sim (argE args) (hpF Hin) tm [] W St ρ F → CallsIn (wideR none) n P f tm W fun e W' =>
      ∃ v St' ρ' F', e = .returned v ∧ Sim (resE r) (hpD Hout) #[v] [] W' St' ρ' F' ∧ Evo kp W St ρ F W' St' ρ' F'

/-- What a result variable holds. -/
def resS (T : Env) (H : Hp) : ResultVar → Option AV
  | .tmp t => match T t with | .v x => some x | _ => none
  | .cell a _ => match T a with
    | .v (.c (.p o 0)) => match H o with | .bx cs => some (.ag cs) | _ => none
    | _ => none

def resAll (T : Env) (H : Hp) : List ResultVar → Option (List AV)
  | [] => some []
  | x :: xs => match resS T H x, resAll T H xs with | some y, some ys => some (y :: ys) | _, _ => none

def resR : List AV → SV
  | [x] => .v x
  | xs => .tu xs
end Al
end Go.Proofs.Ytiplmapndahmmaa
