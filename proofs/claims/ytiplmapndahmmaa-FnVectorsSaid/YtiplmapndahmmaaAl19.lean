/- One operation of a region, with its guard; regions in their own order. -/
import Derived.Test.YtiplmapndahmmaaAl18
namespace Go.Proofs.Ytiplmapndahmmaa
namespace Al
set_option linter.constructorNameAsVariable false
set_option linter.unusedVariables false
set_option linter.unusedSimpArgs false

/-- What an operation is told: the number of the object it makes, a call's contract, the lists that stay from here on. -/
structure Hint where
  id : Nat := 0
  call : Option CallH := none
  frz : List Nat := []

/-- Lists that stay from here on. -/
def frzL (H : Hp) : List Nat → Option (List (Nat × AObj))
  | [] => some []
  | o :: r => match H o with
    | .vc _ t xs => match frzL (upd H o (.vz t xs)) r with | some us => some ((o, .vz t xs) :: us) | none => none
    | _ => none

def ungd : SV → SV
  | .gd _ x => x
  | .v x => .v x
  | .tu xs => .tu xs
  | .el o sz i d => .el o sz i d

def gdP : SV → List Prop
  | .gd c _ => [c = true]
  | _ => []

def readsO : Operand → List Nat
  | .tmp t => [t]
  | _ => []

def reads (o : Oper) : List Nat := o.op.operands.toList.flatMap readsO

/-- What an operation sees of the slots. -/
def rdT (rs : List Nat) (T : Env) : Env := fun k => if rs.contains k = true then ungd (T k) else .v (.c .un)
def rdC (rs : List Nat) (T : Env) : List Prop := rs.flatMap fun k => gdP (T k)

def evPick (T : Env) (c x y : Operand) : Option Eff :=
  match ungd (evalS T c) with
  | .v (.c (.bool q)) =>
    match ungd (evalS T x), ungd (evalS T y) with
    | .v (.c (.bool a)), .v (.c (.bool b)) => some ⟨gdP (evalS T c) ++ ((gdP (evalS T x)).map fun p => q = true → p) ++ ((gdP (evalS T y)).map fun p => q = false → p), .v (.c (.bool (cond q a b))), []⟩
    | .v (.c (.int k a)), .v (.c (.int k' b)) => if k = k' then
        some ⟨gdP (evalS T c) ++ ((gdP (evalS T x)).map fun p => q = true → p) ++ ((gdP (evalS T y)).map fun p => q = false → p), .v (.c (.int k (cond q a b))), []⟩ else none
    | _, _ => none
  | _ => none

def coreE (P : Program) (tt : Tab) (h : Hint) (o : Oper) (T : Env) (H : Hp) : Option Eff :=
  match o.op with
  | .pick c x y => evPick T c x y
  | .call c =>
    match c.callee with
    | .value f =>
      match h.call with
      | some hc => match evCall P H hc (evalS (rdT (reads o) T)) f c.args.toList with | some E => some ⟨rdC (reads o) T ++ E.C, E.v, E.us⟩ | none => none
      | none => none
    | _ => match evOp tt H h.id (evalS (rdT (reads o) T)) o with | some E => some ⟨rdC (reads o) T ++ E.C, E.v, E.us⟩ | none => none
  | _ => match evOp tt H h.id (evalS (rdT (reads o) T)) o with | some E => some ⟨rdC (reads o) T ++ E.C, E.v, E.us⟩ | none => none

def guardV (ops : Array Oper) (T : Env) (j : Nat) (want : Bool) : Option Bool :=
  match (ops[j]?).bind (·.dst) with
  | some gs =>
    match T gs with
    | .v (.c (.bool b)) => some (b == want)
    | .gd c (.v (.c (.bool b))) => some (c && (b == want))
    | _ => none
  | none => none

def stepE (P : Program) (tt : Tab) (ops : Array Oper) (h : Hint) (o : Oper) (T : Env) (H : Hp) : Option Eff :=
  match o.guard with
  | none =>
    match frzL H h.frz with
    | some us => match coreE P tt h o T (applyUs H us) with | some E => some ⟨E.C, E.v, us ++ E.us⟩ | none => none
    | none => none
  | some (j, want) =>
    match guardV ops T j want, coreE P tt h o T H with
    | some g, some ⟨C, v, []⟩ => some ⟨C.map fun p => g = true → p, .gd g v, []⟩
    | _, _ => none

def putE (T : Env) : Option Tmp → SV → Env
  | none, _ => T
  | some d, v => upd T d v

section
variable {P : Program} {tt : Tab} {T : Env} {H : Hp} {df : List Deferred} {W : World} {St : Nat → Nat → Prop} {ρ : Nat → Option Value} {F : Nat → Option Nat}

theorem ungd_rep {x : SV} {u : Value} (h : RepS W St ρ x u) (hC : ∀ p ∈ gdP x, p) : RepS W St ρ (ungd x) u := by
  cases x with
  | gd c y => exact h.1 (hC _ (List.mem_singleton.2 rfl))
  | v x => exact h
  | tu xs => exact h
  | el o sz i d => exact h

theorem rdT_rep {a : Act} (hS : Sim T H a.tmps df W St ρ F) (rs : List Nat) (hC : ∀ p ∈ rdC rs T, p) (y : Operand) : RepS W St ρ (evalS (rdT rs T) y) (a.eval y) := by
  cases y with
  | tmp t =>
    show RepS W St ρ (if rs.contains t = true then ungd (T t) else .v (.c .un)) _
    split
    · rename_i hm
      exact ungd_rep (hS.slot t) (fun p hp => hC p (List.mem_flatMap.2 ⟨t, by simpa using hm, hp⟩))
    · trivial
  | const v => exact constS_rep v
  | func f => exact ⟨rfl, [], rfl, rfl⟩
  | global g => exact trivial

/-- What an operation's going on needs. -/
def Goes (H : Hp) (E : Eff) (o : Oper) (a : Act) (W : World) (St : Nat → Nat → Prop) (ρ : Nat → Option Value) (F : Nat → Option Nat) (K : Act → World → Prop) : Prop :=
  ∀ u W' St' ρ' F', RepS W' St' ρ' E.v u → SimH (applyUs H E.us) a.defers W' St' ρ' F' → Keeps W St W' St' → RLe ρ ρ' → (∀ kp, Evo kp W St ρ F W' St' ρ' F') → K (a.put o.dst u) W'

theorem opR_goes {E : Eff} {o : Oper} {a : Act} {K : Act → World → Prop} {Q : Exit → Act → World → Prop} {ro : Option Nat} {n : Nat} (hdf : ∀ c, o.op ≠ .defer c) (h : OpR P (execOp a.eval o) H a.defers W St ρ F E.v E.us) (hK : Goes H E o a W St ρ F K) :
    o.wpIn (wideR ro) n P a W K Q := by
  refine ⟨fun f _ => wideR_fn ro f, ?_⟩
  rw [Oper.semAt_eq _ _ _ hdf]
  obtain ⟨u, W', St', ρ', F', hr, h1, h2, h3, h4, h5⟩ := h
  rcases hr with hr | ⟨hr, rfl⟩
  · rw [hr]; exact hK u W' St' ρ' F' h1 h2 h3 h4 h5
  · rw [hr]; exact hK undef W' St' ρ' F' h1 h2 h3 h4 h5

theorem evOp_defer {id : Nat} {ev : Operand → SV} {o : Oper} {E : Eff} (h : evOp tt H id ev o = some E) (c : Call) : o.op ≠ .defer c := by
  intro e
  unfold evOp at h
  rw [e] at h
  cases h

theorem core_op (hP : TabOK P tt) {a : Act} (hS : Sim T H a.tmps a.defers W St ρ F) {id : Nat} {o : Oper} {E : Eff} {K : Act → World → Prop} {Q : Exit → Act → World → Prop} {ro : Option Nat} {n : Nat}
    (h : (match evOp tt H id (evalS (rdT (reads o) T)) o with | some E => some ⟨rdC (reads o) T ++ E.C, E.v, E.us⟩ | none => none : Option Eff) = some E) (hC : ∀ p ∈ E.C, p) (hK : Goes H E o a W St ρ F K) :
    o.wpIn (wideR ro) n P a W K Q := by
  split at h
  · rename_i E' he
    cases h
    exact opR_goes (evOp_defer he) (evOp_sound hP hS.h (rdT_rep hS (reads o) (fun p hp => hC p (List.mem_append_left _ hp))) o he (fun p hp => hC p (List.mem_append_right _ hp))) hK
  · cases h

theorem evalS_rep' {a : Act} (hS : Sim T H a.tmps a.defers W St ρ F) (x : Operand) : RepS W St ρ (evalS T x) (a.eval x) := evalS_rep (df' := a.defers) hS x

theorem pick_rep {a : Act} (hS : Sim T H a.tmps a.defers W St ρ F) {c x y : Operand} {E : Eff} (h : evPick T c x y = some E) (hC : ∀ p ∈ E.C, p) :
    ∃ q : Bool, a.eval c = .bool q ∧ RepS W St ρ E.v (if q then a.eval x else a.eval y) ∧ E.us = [] := by
  have ite_rep : ∀ {u v : SV} {q : Bool} {C : List Prop}, (∀ p ∈ gdP (evalS T c) ++ ((gdP (evalS T x)).map fun p => q = true → p) ++ ((gdP (evalS T y)).map fun p => q = false → p), p) →
      ungd (evalS T x) = u → ungd (evalS T y) = v → ungd (evalS T c) = .v (.c (.bool q)) → a.eval c = .bool q ∧ (q = true → RepS W St ρ u (a.eval x)) ∧ (q = false → RepS W St ρ v (a.eval y)) := fun {u v q C} hC hu hv hq => by
    refine ⟨?_, fun e => ?_, fun e => ?_⟩
    · have := ungd_rep (evalS_rep' hS c) (fun p hp => hC p (List.mem_append_left _ (List.mem_append_left _ hp)))
      rw [hq] at this
      exact rep_bool this
    · rw [← hu]
      exact ungd_rep (evalS_rep' hS x) (fun p hp => hC _ (List.mem_append_left _ (List.mem_append_right _ (List.mem_map.2 ⟨p, hp, rfl⟩))) e)
    · rw [← hv]
      exact ungd_rep (evalS_rep' hS y) (fun p hp => hC _ (List.mem_append_right _ (List.mem_map.2 ⟨p, hp, rfl⟩)) e)
  unfold evPick at h
  split at h
  · rename_i q hq
    split at h
    · rename_i p r hp hr
      cases h
      obtain ⟨k1, k2, k3⟩ := ite_rep (C := []) hC hp hr hq
      refine ⟨q, k1, ?_, rfl⟩
      cases q with
      | true => exact k2 rfl
      | false => exact k3 rfl
    · rename_i k p k' r hp hr
      split at h
      · rename_i hk
        subst hk
        cases h
        obtain ⟨k1, k2, k3⟩ := ite_rep (C := []) hC hp hr hq
        refine ⟨q, k1, ?_, rfl⟩
        cases q with
        | true => exact k2 rfl
        | false => exact k3 rfl
      · cases h
    · cases h
  · cases h

theorem core_sound (hP : TabOK P tt) {a : Act} (hS : Sim T H a.tmps a.defers W St ρ F) {h : Hint} {o : Oper} {E : Eff} {K : Act → World → Prop} {Q : Exit → Act → World → Prop} {ro : Option Nat} {n : Nat}
    (he : coreE P tt h o T H = some E) (hC : ∀ p ∈ E.C, p) (hK : Goes H E o a W St ρ F K) : o.wpIn (wideR ro) n P a W K Q := by
  unfold coreE at he
  split at he
  · rename_i c x y ho
    obtain ⟨q, h1, h2, h3⟩ := pick_rep hS he hC
    have hd : ∀ c, o.op ≠ .defer c := fun c e => by rw [ho] at e; cases e
    refine opR_goes hd ?_ hK
    rw [h3]
    exact OpR.pure hS.h (by simp [execOp, ho, h1, asBool]) h2
  · rename_i c ho
    split at he
    · rename_i f hf
      split at he
      · rename_i hc hhc
        split at he
        · rename_i E' hE
          cases he
          obtain ⟨os, k1, ⟨fn, k2, k3, k4⟩, k5⟩ := call_sound hS.h (rdT_rep hS (reads o) (fun p hp => hC p (List.mem_append_left _ hp))) hE (fun p hp => hC p (List.mem_append_right _ hp)) ro (n - 1)
          have hd : ∀ c, o.op ≠ .defer c := fun c e => by rw [ho] at e; cases e
          refine ⟨fun f _ => wideR_fn ro f, ?_⟩
          rw [Oper.semAt_eq _ _ _ hd]
          have hrun : (execOp a.eval o).run P W = .ok (.enter hc.f (c.args.map a.eval ++ os)) W := by
            have k3' : ¬ fn.name = "runtime.NumGoroutine" := by simpa using k3
            have k4' : ¬ fn.body = none := fun e => by rw [e] at k4; cases k4
            simp [execOp, ho, resolve, hf, k1, Deferred.ofValue, invoke, callFunc, k2, k3', k4']
          rw [hrun]
          have harg : (c.args.toList.map a.eval).toArray ++ os = c.args.map a.eval ++ os := by rw [← Array.toList_map]
          rw [harg] at k5
          refine ⟨fun h => by simp [wideR, Fence.wide] at h, CallsIn.mono k5 fun e W' hp => ?_⟩
          obtain ⟨v, St', ρ', F', rfl, g1, g2, g3, g4, g5⟩ := hp
          · exact hK v W' St' ρ' F' g1 g2 g3 g4 g5
        · cases he
      · cases he
    · exact core_op hP hS he hC hK
  · exact core_op hP hS he hC hK

theorem guardV_rep {ops : Array Oper} {a : Act} (hS : Sim T H a.tmps a.defers W St ρ F) {j : Nat} {want g : Bool} (h : guardV ops T j want = some g) : (yielded ops a.tmps j == some want) = g := by
  unfold guardV at h
  split at h
  · rename_i gs hgs
    have hy : yielded ops a.tmps j = match a.tmps.getD gs undef with | .bool b => some b | _ => none := by
      unfold yielded
      rw [hgs]
      simp only [Option.bind_some, Array.getD_eq_getD_getElem?]
      cases a.tmps[gs]? with
      | none => rfl
      | some v => cases v <;> rfl
    have hs := hS.slot gs
    split at h
    · rename_i b ht
      cases h
      rw [ht] at hs
      rw [hy, rep_bool hs]
      rfl
    · rename_i c b ht
      cases h
      rw [ht] at hs
      cases c with
      | true => rw [hy, rep_bool (hs.1 rfl)]; rfl
      | false => rw [hy, hs.2 rfl]; rfl
    · cases h
  · cases h

theorem vc_stays (hS : SimH H df W St ρ F) {o : Nat} {e : TypeId} {t : Ty} {xs : List t.den} (ho : H o = .vc e t xs) {St' : Nat → Nat → Prop} (hk : Keeps W St W St') (hst : ∀ b i, F o = some b → St' b i) :
    ∃ A c, ρ o = some (.slice A xs.length c) ∧ RepL W St' t.sz (fun x us => RepT W St' t x us) xs A c := by
  have hob := hS.obj o
  rw [ho] at hob
  obtain ⟨A, c, e1, h3⟩ := hob
  refine ⟨A, c, e1, ?_⟩
  rcases h3 with ⟨rfl, rfl, h3⟩ | ⟨b, cur, rfl, k1, k2, k3, k4, k5, k6⟩
  · exact ⟨Nat.le_refl _, Nat.zero_le _, fun _ => rfl, [], by simp, fun i x hx => by simp at hx, fun j u hj => by simp at hj⟩
  · refine ⟨k2, k3, (fun e => by cases e), cur.toList.take (xs.length * t.sz), ?_, fun i x hx => ?_, fun j u hj => ?_⟩
    · have : xs.length * t.sz ≤ c * t.sz := Nat.mul_le_mul_right _ k2
      have hcl : cur.toList.length = c * t.sz := by simpa using k4
      rw [List.length_take, hcl]
      omega
    · have hi := (List.getElem?_eq_some_iff.1 hx).1
      have hmul : (i + 1) * t.sz ≤ xs.length * t.sz := Nat.mul_le_mul_right _ hi
      rw [Nat.add_mul, Nat.one_mul] at hmul
      rw [List.drop_take, List.take_take, Nat.min_eq_left (by omega)]
      exact (k5 i x hx).keep hk _ _ _
    · rw [List.getElem?_take] at hj
      split at hj
      · exact ⟨b, 0, rfl, by rw [cell_at k1]; simpa using hj, hst b _ k6⟩
      · cases hj

/-- A list that stays from here on. -/
theorem frz_one {o : Nat} {e : TypeId} {t : Ty} {xs : List t.den} (ho : H o = .vc e t xs) {tm : Array Value} {df : List Deferred} (hS : Sim T H tm df W St ρ F) :
    ∃ St1 F1, Sim T (upd H o (.vz t xs)) tm df W St1 ρ F1 ∧ Keeps W St W St1 ∧ ∀ kp, Evo kp W St ρ F W St1 ρ F1 := by
  let St' : Nat → Nat → Prop := fun b i => St b i ∨ F o = some b
  have hk : Keeps W St W St' := fun b i hs => ⟨.inl hs, rfl⟩
  have hF : ∀ o' b, upd F o none o' = some b → o' ≠ o ∧ F o' = some b := fun o' b e => by
    by_cases h1 : o' = o
    · subst h1; rw [upd_same] at e; cases e
    · rw [upd_other _ _ h1] at e; exact ⟨h1, e⟩
  have hE : ∀ kp, Evo kp W St ρ F W St' ρ (upd F o none) := fun kp =>
    ⟨rfl, rfl, rfl, Nat.le_refl _, fun b hb hn => ⟨rfl, fun i hi => hi.elim id (fun e => absurd e (hn o))⟩, hk, fun o' b e => .inl ⟨o', (hF o' b e).2⟩, fun _ _ _ h => h⟩
  refine ⟨St', upd F o none, ⟨fun k => (hS.slot k).keep hk (RLe.refl _), fun o' => ?_, fun o1 o2 b e1 e2 => hS.dj o1 o2 b (hF _ _ e1).2 (hF _ _ e2).2, fun o' b e => hS.lt o' b (hF _ _ e).2, fun o' b i e hs => ?_, fun b i hs => ?_, Marks.keep (hE []) hS.mks⟩, hk, hE⟩
  · by_cases h1 : o' = o
    · subst h1
      rw [upd_same, upd_same]
      obtain ⟨A, c, k1, k2⟩ := vc_stays hS.h ho hk (fun b i e => .inr e)
      exact ⟨⟨A, c, k1, k2⟩, rfl⟩
    · rw [upd_other _ _ h1, upd_other _ _ h1]
      exact (hS.obj o').keep hk (RLe.refl _) (fun _ _ => rfl)
  · obtain ⟨h1, h2⟩ := hF _ _ e
    rcases hs with hs | hs
    · exact hS.nst o' b i h2 hs
    · exact h1 (hS.dj o' o b h2 hs)
  · rcases hs with hs | hs
    · exact hS.st b i hs
    · exact hS.lt o b hs

/-- From one state to another one that the same frame and world meet; what has a value keeps it. -/
theorem frzL_sound : ∀ {os : List Nat} {H : Hp} {us : List (Nat × AObj)}, frzL H os = some us → ∀ {tm : Array Value} {df : List Deferred} {W : World} {St : Nat → Nat → Prop} {ρ : Nat → Option Value} {F : Nat → Option Nat}, Sim T H tm df W St ρ F →
    ∃ St' ρ' F', Sim T (applyUs H us) tm df W St' ρ' F' ∧ Keeps W St W St' ∧ RLe ρ ρ' ∧ ∀ kp, Evo kp W St ρ F W St' ρ' F'
  | [], H, us, h, tm, df, W, St, ρ, F, hS => by
    cases h
    exact ⟨St, ρ, F, hS, Keeps.refl _ _, RLe.refl _, fun kp => Evo.refl _ _ _ _ _⟩
  | o :: os, H, us, h, tm, df, W, St, ρ, F, hS => by
    simp only [frzL] at h
    split at h
    · rename_i e t xs ho
      split at h
      · rename_i us' hus
        cases h
        obtain ⟨St1, F1, g1, g2, g3⟩ := frz_one ho hS
        obtain ⟨St2, ρ2, F2, k1, k2, k3, k4⟩ := frzL_sound hus g1
        exact ⟨St2, ρ2, F2, k1, g2.trans k2, k3, fun kp => (g3 kp).trans (k4 kp)⟩
      · cases h
    · cases h

theorem step_sound (hP : TabOK P tt) {ops : Array Oper} {i : Nat} {a : Act} (hS : Sim T H a.tmps a.defers W St ρ F) {h : Hint} {o : Oper} (hi : ops[i]? = some o) {E : Eff} {K : Act → World → Prop} {Q : Exit → Act → World → Prop} {ro : Option Nat} {n : Nat}
    (he : stepE P tt ops h o T H = some E) (hC : ∀ p ∈ E.C, p) (hK : Goes H E o a W St ρ F K) : wpOpIn (wideR ro) n P ops Q i K a W := by
  unfold wpOpIn
  simp only [hi]
  unfold stepE at he
  split at he
  · rename_i hg
    have hw : Region.wanted o (yielded ops a.tmps) = true := by simp [Region.wanted, hg]
    rw [if_pos hw]
    split at he
    · rename_i us hus
      split at he
      · rename_i E' hE
        cases he
        obtain ⟨St1, ρ1, F1, k1, k2, k3, k4⟩ := frzL_sound hus hS
        refine core_sound hP k1 hE hC fun u W' St' ρ' F' h1 h2 h3 h4 h5 => ?_
        rw [← applyUs_append] at h2
        exact hK u W' St' ρ' F' h1 h2 (k2.trans h3) (k3.trans h4) (fun kp => (k4 kp).trans (h5 kp))
      · cases he
    · cases he
  · rename_i j want hg
    split at he
    · rename_i g C v hgv hc
      cases he
      have hw : Region.wanted o (yielded ops a.tmps) = g := by
        simp only [Region.wanted, hg]
        exact guardV_rep hS hgv
      cases g with
      | true =>
        rw [if_pos hw]
        refine core_sound hP hS hc (fun p hp => hC _ (List.mem_map.2 ⟨p, hp, rfl⟩) rfl) fun u W' St' ρ' F' h1 h2 h3 h4 h5 => ?_
        exact hK u W' St' ρ' F' ⟨fun _ => h1, fun e => by cases e⟩ h2 h3 h4 h5
      | false =>
        rw [if_neg (by rw [hw]; exact Bool.false_ne_true)]
        refine ⟨fun f _ => wideR_fn ro f, ?_⟩
        exact hK undef W St ρ F ⟨fun e => (by cases e), fun _ => rfl⟩ hS.h (Keeps.refl _ _) (RLe.refl _) (fun kp => Evo.refl kp _ _ _ _)
    · cases he

/-- The state after an operation. -/
theorem sim_put {a : Act} (hS : Sim T H a.tmps a.defers W St ρ F) {o : Oper} {v : SV} {H' : Hp} {u : Value} {W' : World} {St' : Nat → Nat → Prop} {ρ' : Nat → Option Value} {F' : Nat → Option Nat} (hd : ∀ d, o.dst = some d → d < a.tmps.size)
    (h1 : RepS W' St' ρ' v u) (h2 : SimH H' a.defers W' St' ρ' F') (h3 : Keeps W St W' St') (h4 : RLe ρ ρ') :
    Sim (putE T o.dst v) H' (a.put o.dst u).tmps (a.put o.dst u).defers W' St' ρ' F' ∧ (a.put o.dst u).tmps.size = a.tmps.size ∧ (a.put o.dst u).defers = a.defers := by
  have hS' := hS.of h3 h4 h2
  cases hdst : o.dst with
  | none => exact ⟨hS', rfl, rfl⟩
  | some d => exact ⟨hS'.put (hd d hdst) h1, by simp [Act.put], rfl⟩

def conjL : List Prop → Prop → Prop
  | [], q => q
  | p :: ps, q => p ∧ conjL ps q

theorem conjL_spec : ∀ {l : List Prop} {q : Prop}, conjL l q → (∀ p ∈ l, p) ∧ q
  | [], q, h => ⟨(fun p hp => by cases hp), h⟩
  | p :: ps, q, ⟨h1, h2⟩ => ⟨(fun r hr => by
      rcases List.mem_cons.1 hr with rfl | hr
      · exact h1
      · exact (conjL_spec h2).1 r hr), (conjL_spec h2).2⟩

def dstOK (N : Nat) (o : Oper) : Bool :=
  match o.dst with
  | none => true
  | some d => decide (d < N)

theorem dstOK_spec {N : Nat} {o : Oper} (h : dstOK N o = true) (d : Nat) (e : o.dst = some d) : d < N := by
  unfold dstOK at h
  rw [e] at h
  exact of_decide_eq_true h

def hintOf : List (Nat × Hint) → Nat → Hint
  | [], _ => {}
  | (j, h) :: r, i => if j = i then h else hintOf r i

/-- Operations one behind the other. -/
def runR (P : Program) (tt : Tab) (N : Nat) (ops : Array Oper) (hs : List (Nat × Hint)) : List Nat → Env → Hp → Option (Prop × Env × Hp)
  | [], T, H => some (True, T, H)
  | i :: r, T, H =>
    match ops[i]? with
    | none => none
    | some o =>
      match stepE P tt ops (hintOf hs i) o T H, dstOK N o with
      | some E, true => match runR P tt N ops hs r (putE T o.dst E.v) (applyUs H E.us) with | some (C, T', H') => some (conjL E.C C, T', H') | none => none
      | _, _ => none

theorem runR_sound (hP : TabOK P tt) {N : Nat} {ops : Array Oper} {hs : List (Nat × Hint)} {kp : List Nat} {Q : Exit → Env → Hp → Prop} {Q1 : Exit → Act → World → Prop} {ro : Option Nat} {n : Nat} : ∀ (l : List Nat) (T : Env) (H : Hp) {C : Prop} {T' : Env} {H' : Hp} {a : Act} {W : World}
    {St : Nat → Nat → Prop} {ρ : Nat → Option Value} {F : Nat → Option Nat}, runR P tt N ops hs l T H = some (C, T', H') → C → Q .normal T' H' → a.tmps.size = N → Sim T H a.tmps a.defers W St ρ F →
    (∀ e b w, APost N kp Q a.defers W St ρ F e b w → Q1 e b w) → wpOpsIn (wideR ro) n P ops Q1 l a W
  | [], T, H, C, T', H', a, W, St, ρ, F, h, hC, hq, hN, hS, hQ => by
    simp only [runR, Option.some.injEq, Prod.mk.injEq] at h
    obtain ⟨_, rfl, rfl⟩ := h
    exact hQ _ _ _ (⟨(fun e => by cases e), hN, .refl _ _, T, H, St, ρ, F, hq, hS, .refl _ _ _ _ _⟩)
  | i :: l, T, H, C, T', H', a, W, St, ρ, F, h, hC, hq, hN, hS, hQ => by
    simp only [runR] at h
    split at h
    · cases h
    · rename_i o hi
      split at h
      · rename_i E he hd
        split at h
        · rename_i C' T1 H1 hr
          cases h
          obtain ⟨hC1, hC2⟩ := conjL_spec hC
          rw [wpOpsIn_cons]
          refine step_sound hP hS hi he hC1 fun u W' St' ρ' F' h1 h2 h3 h4 h5 => ?_
          obtain ⟨k1, k2, k3⟩ := sim_put hS (o := o) (fun d e => hN ▸ dstOK_spec hd d e) h1 h2 h3 h4
          refine runR_sound hP (kp := kp) (Q := Q) (ro := ro) (n := n) l _ _ hr hC2 hq (k2.trans hN) k1 fun e b w hp => ?_
          rw [k3] at hp
          exact hQ e b w (APost.step (.refl _ _) (h5 kp) e b w hp)
        · cases h
      · cases h

theorem aw_region_raw (hP : TabOK P tt) {N : Nat} {id : Nat} {ops : Array Oper} {hs : List (Nat × Hint)} {kp : List Nat} {Q : Exit → Env → Hp → Prop} {C : Prop} {T' : Env} {H' : Hp}
    (h : runR P tt N ops hs (List.range ops.size) T H = some (C, T', H')) (hC : C) (hq : Q .normal T' H') : AW P N kp (.region id ops false) Q T H :=
  fun ro n tm df W St ρ F hN hS => wpIn_region (runR_sound hP _ T H h hC hq (a := { tmps := tm, defers := df }) hN hS (fun _ _ _ h => h))
end
end Al
end Go.Proofs.Ytiplmapndahmmaa
