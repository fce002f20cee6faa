/- Functions: a contract from the body. -/
import Derived.Test.YtiplmapndahmmaaAl20
namespace Go.Proofs.Ytiplmapndahmmaa
namespace Al
set_option linter.constructorNameAsVariable false
set_option linter.unusedVariables false
set_option linter.unusedSimpArgs false

def enumL {α : Type} : Nat → List α → List (Nat × α)
  | _, [] => []
  | i, x :: xs => (i, x) :: enumL (i + 1) xs

theorem envS_enum : ∀ (i : Nat) (xs : List SV) (k : Nat), envS (enumL i xs) k = if k < i then .v (.c .un) else xs.getD (k - i) (.v (.c .un))
  | i, [], k => by simp [enumL, envS]
  | i, x :: xs, k => by
    simp only [enumL, envS]
    by_cases h : i = k
    · subst h; simp
    · rw [if_neg h, envS_enum (i + 1) xs k]
      by_cases h1 : k < i
      · rw [if_pos (by omega), if_pos h1]
      · rw [if_neg (by omega), if_neg h1, show k - i = (k - (i + 1)) + 1 by omega]
        simp [List.getD]

theorem hpS_enum : ∀ (i : Nat) (xs : List AObj) (k : Nat), hpS (enumL i xs) k = if k < i then .fr else xs.getD (k - i) .fr
  | i, [], k => by simp [enumL, hpS]
  | i, x :: xs, k => by
    simp only [enumL, hpS]
    by_cases h : i = k
    · subst h; simp
    · rw [if_neg h, hpS_enum (i + 1) xs k]
      by_cases h1 : k < i
      · rw [if_pos (by omega), if_pos h1]
      · rw [if_neg (by omega), if_neg h1, show k - i = (k - (i + 1)) + 1 by omega]
        simp [List.getD]

theorem argE_enum (xs : List SV) : envS (enumL 0 xs) = argE xs := by
  funext k; rw [envS_enum]; simp [argE]
theorem hpF_enum (xs : List AObj) : hpS (enumL 0 xs) = hpF xs := by
  funext k; rw [hpS_enum]; simp [hpF]

/-! ### What is returned -/

def rvS (tt : Tab) (T : Env) (H : Hp) : ResultVar → Option AV
  | .tmp t => match T t with | .v x => some x | _ => none
  | .cell a t => evLoad tt H t (T a)

def retR (tt : Tab) (rs : List ResultVar) (kp oks : List Nat) (T : Env) (H : Hp) : Option (SV × List AObj) :=
  if nodupB oks = true ∧ kp.all (fun j => match oks[j]? with | some o => o == j | none => false) = true then
    match mapO (rvS tt T H) rs with
    | some xs =>
      match (resR xs).ren (idxO oks), mapO (AObj.ren (idxO oks)) (oks.map H) with
      | some r, some hs => some (r, hs)
      | _, _ => none
    | none => none
  else none

section
variable {P : Program} {tt : Tab} {T : Env} {H : Hp} {tm : Array Value} {W : World} {St : Nat → Nat → Prop} {ρ : Nat → Option Value} {F : Nat → Option Nat}

def rvRun (tm : Array Value) : ResultVar → Sem Value
  | .tmp t => pure (tm.getD t undef)
  | .cell a t => do loadVar t (← asAddr (tm.getD a undef))

theorem results_eq (fn : Func) (tm : Array Value) : results fn tm = (do let vs ← fn.results.mapM (rvRun tm); pure (if h : vs.size = 1 then vs[0] else .tuple vs) : Sem Value) := by
  unfold results rvRun
  rfl

theorem run_rv (hP : TabOK P tt) {df : List Deferred} (hS : Sim T H tm df W St ρ F) {x : ResultVar} {y : AV} (h : rvS tt T H x = some y) :
    ∃ u, (rvRun tm x).run P W = .ok u W ∧ RepA W St ρ y u := by
  cases x with
  | tmp t =>
    simp only [rvS] at h
    split at h
    · rename_i z hz
      cases h
      have hs := hS.slot t
      rw [hz] at hs
      exact ⟨_, rfl, hs⟩
    · cases h
  | cell a t =>
    obtain ⟨ad, u, h1, h2, h3⟩ := evLoad_pure hP hS.h (hS.slot a) h
    exact ⟨u, by simp [rvRun, h1, asAddr, h2], h3⟩

theorem run_rvs (hP : TabOK P tt) {df : List Deferred} (hS : Sim T H tm df W St ρ F) : ∀ {rs : List ResultVar} {xs : List AV}, mapO (rvS tt T H) rs = some xs →
    ∃ us, (rs.mapM (rvRun tm)).run P W = .ok us W ∧ RepAs W St ρ xs us
  | [], xs, h => by cases h; exact ⟨[], rfl, rfl⟩
  | r :: rs, xs, h => by
    simp only [mapO] at h
    split at h
    · rename_i y ys h1 h2
      cases h
      obtain ⟨u, k1, k2⟩ := run_rv hP hS h1
      obtain ⟨us, k3, k4⟩ := run_rvs hP hS h2
      exact ⟨u :: us, by simp only [List.mapM_cons, Sem.run_bind, k1, Result.andThen_ok, k3, Sem.run_pure], u, us, rfl, k2, k4⟩
    · cases h

theorem RepAs.length : ∀ {xs : List AV} {us : List Value}, RepAs W St ρ xs us → us.length = xs.length
  | [], _, h => by rw [show _ = [] from h]; rfl
  | _ :: _, _, ⟨_, us', h, _, h2⟩ => by rw [h]; simp [RepAs.length h2]

theorem run_results (hP : TabOK P tt) {df : List Deferred} (hS : Sim T H tm df W St ρ F) {fn : Func} {xs : List AV} (h : mapO (rvS tt T H) fn.results.toList = some xs) :
    ∃ v, (results fn tm).run P W = .ok v W ∧ RepS W St ρ (resR xs) v := by
  obtain ⟨us, h1, h2⟩ := run_rvs hP hS h
  have hl := h2.length
  have hrun : (results fn tm).run P W = .ok (if h : us.toArray.size = 1 then us.toArray[0] else .tuple us.toArray) W := by
    rw [results_eq, Array.mapM_eq_mapM_toList]
    simp only [Sem.run_bind, Sem.run_map, h1, Result.andThen_ok, Sem.run_pure]
  refine ⟨_, hrun, ?_⟩
  match xs, us, h2, hl with
  | [x], [u], ⟨u', us', e, h3, h4⟩, _ =>
    simp only [List.cons.injEq] at e
    rw [← e.1] at h3
    show RepA W St ρ x u
    exact h3
  | [], [], _, _ => exact ⟨[], by simp, rfl⟩
  | x :: y :: xs, us, h2, hl =>
    have hne : ¬ us.toArray.size = 1 := by simp [hl]
    rw [dif_neg hne]
    exact ⟨us, rfl, h2⟩
  | [x], [], _, hl => simp at hl
  | [x], _ :: _ :: _, _, hl => simp at hl
  | [], _ :: _, _, hl => simp at hl

/-- The marks are taken: nothing else is touched. -/
theorem unmark (kp : List Nat) (n : Nat) (fn : Func) {R : Ending → World → Prop} {ro : Option Nat} : ∀ {df : List Deferred} {W : World} {W0 : World} {St0 : Nat → Nat → Prop} {ρ0 : Nat → Option Value} {F0 : Nat → Option Nat}, Sim T H tm df W St ρ F → Evo kp W0 St0 ρ0 F0 W St ρ F → NewMarks W0 [] df →
    (∀ W', Sim T H tm [] W' St ρ F → Evo kp W0 St0 ρ0 F0 W' St ρ F → ∃ v, (results fn tm).run P W' = .ok v W' ∧ R (.returned v) W') → LeavesInM (wideR ro) n P fn tm R df .returning W
  | [], W, W0, St0, ρ0, F0, hS, hE, hN, k => k W hS hE
  | d :: df, W, W0, St0, ρ0, F0, hS, hE, hN, k => by
    obtain ⟨⟨r, e1, e2, e3, e4⟩, hm⟩ := hS.mks
    obtain ⟨ms, hms, hmr⟩ := hN
    rw [List.append_nil] at hms
    subst hms
    obtain ⟨r', e5, hr⟩ := hmr d List.mem_cons_self
    rw [e1] at e5
    have hrr : r = r' := by cases e5; rfl
    subst hrr
    have hlt : r < W.heap.size := (Array.getElem?_eq_some_iff.1 e2).1
    let W' : World := { W with heap := W.heap.setIfInBounds r (.deferred none) }
    have hother : ∀ b, b ≠ r → W'.heap[b]? = W.heap[b]? := fun b hb => by
      show (W.heap.setIfInBounds r (.deferred none))[b]? = W.heap[b]?
      rw [Array.getElem?_setIfInBounds_ne (fun e => hb e.symm)]
    have hcell : ∀ b i, W'.cell? ⟨b, i, none⟩ = W.cell? ⟨b, i, none⟩ := fun b i => by
      by_cases hb : b = r
      · subst hb
        have h1 : W'.heap[b]? = some (.deferred none) := by
          show (W.heap.setIfInBounds b (.deferred none))[b]? = _
          simp [hlt]
        simp [World.cell?, h1, e2]
      · exact cell_of_block (hother b hb)
    have hk : Keeps W St W' St := fun b i hs => ⟨hs, hcell b i⟩
    have hsz : W'.heap.size = W.heap.size := by show (W.heap.setIfInBounds r _).size = _; simp
    have hMk : ∀ {ds : List Deferred}, Marks W F ds → (∀ d' ∈ ds, d' ≠ ({ target := .collected r, args := #[] } : Deferred)) → Marks W' F ds := by
      intro ds
      induction ds with
      | nil => intro _ _; trivial
      | cons d' ds ih =>
        intro h hd
        obtain ⟨⟨r2, g1, g2, g3, g4⟩, g5⟩ := h
        have hne : r2 ≠ r := fun e => by subst e; exact hd d' List.mem_cons_self g1
        exact ⟨⟨r2, g1, (hother r2 hne).trans g2, g3, g4⟩, ih g5 (fun x hx => hd x (List.mem_cons_of_mem _ hx))⟩
    have hS' : Sim T H tm df W' St ρ F := ⟨fun i => (hS.slot i).keep hk (RLe.refl _), fun o => (hS.obj o).keep hk (RLe.refl _) (fun b e => hother b (fun e' => by subst e'; exact e3 o e)), hS.dj, fun o b e => by rw [hsz]; exact hS.lt o b e, hS.nst,
      fun b i hs => by rw [hsz]; exact hS.st b i hs, hMk hm e4⟩
    have hE' : Evo kp W0 St0 ρ0 F0 W' St ρ F := ⟨hE.os, hE.tape, hE.output, by rw [hsz]; exact hE.size, fun b hb hn => ⟨(hother b (fun e => by omega)).trans (hE.old b hb hn).1, (hE.old b hb hn).2⟩,
      hE.keeps.trans hk, hE.own, hE.rho⟩
    refine ⟨(fun h => by cases h), .inl ⟨r, W', by rw [e1], ?_, unmark kp n fn hS' hE' ⟨df, by simp, fun d' hd' => hmr d' (List.mem_cons_of_mem _ hd')⟩ k⟩⟩
    simp [Instr.takeDeferred, getObj, setObj, Sem.run, e2, W']

def RetQ (tt : Tab) (fn : Func) (kp : List Nat) (r : SV) (Hout : List AObj) : Exit → Env → Hp → Prop := fun e T H => (e = .ret ∨ e = .normal) ∧ ∃ oks, retR tt fn.results.toList kp oks T H = some (r, Hout)

theorem ret_state {kp oks : List Nat} {rs : List ResultVar} {r : SV} {Hout : List AObj} {df : List Deferred} (h : retR tt rs kp oks T H = some (r, Hout)) : ∃ xs, mapO (rvS tt T H) rs = some xs ∧
    ∀ {tm : Array Value} {df : List Deferred} {W0 W : World} {St0 : Nat → Nat → Prop} {ρ0 : Nat → Option Value} {F0 : Nat → Option Nat} {St : Nat → Nat → Prop} {ρ : Nat → Option Value} {F : Nat → Option Nat} {v : Value},
      Sim T H tm df W St ρ F → Evo kp W0 St0 ρ0 F0 W St ρ F → RepS W St ρ (resR xs) v → ∃ ρ' F', Sim (resE r) (hpD Hout) #[v] [] W St ρ' F' ∧ Evo kp W0 St0 ρ0 F0 W St ρ' F' := by
  unfold retR at h
  split at h
  · rename_i hk
    obtain ⟨hn, hkp⟩ := hk
    split at h
    · rename_i xs hxs
      split at h
      · rename_i r' hs hr hhs
        cases h
        refine ⟨xs, hxs, fun {tm df W0 W St0 ρ0 F0 St ρ F v} hS hE hv => ?_⟩
        obtain ⟨hl, hg⟩ := mapO_some hhs
        have hm : ∀ o o' : Nat, idxO oks o = some o' → (oks[o']?).bind ρ = ρ o := fun o o' e => by rw [idxO_some e]; rfl
        have hF : ∀ j b : Nat, (oks[j]?).bind F = some b → ∃ o : Nat, oks[j]? = some o ∧ F o = some b := fun j b e => by
          cases hj : oks[j]? with
          | none => rw [hj] at e; cases e
          | some o => rw [hj] at e; exact ⟨o, rfl, e⟩
        have hE2 : Evo kp W St ρ F W St (fun (j : Nat) => (oks[j]?).bind ρ) (fun (j : Nat) => (oks[j]?).bind F) := ⟨rfl, rfl, rfl, Nat.le_refl _, fun _ _ _ => ⟨rfl, fun _ h => h⟩, Keeps.refl _ _, fun j b e => by
            obtain ⟨o, _, h⟩ := hF j b e; exact .inl ⟨o, h⟩, fun j hj u e => by
            have := List.all_eq_true.1 hkp j hj
            split at this
            · rename_i o ho
              simp only [beq_iff_eq] at this
              subst this
              rw [ho]; exact e
            · cases this⟩
        refine ⟨_, _, ⟨fun k => ?_, fun j => ?_, fun j1 j2 b e1 e2 => ?_, fun j b e => ?_, fun j b i e hs => ?_, hS.st, trivial⟩, hE.trans hE2⟩
        · cases k with
          | zero => exact RepS.ren hm hr hv
          | succ k => exact trivial
        · show RepO W St _ (Hout.getD j .dd) _ _
          cases hj : Hout[j]? with
          | none =>
            simp only [List.getD, hj, Option.getD_none]
            have : oks[j]? = none := by
              rw [List.getElem?_eq_none_iff] at hj ⊢
              rw [← hl, List.length_map] at hj
              exact hj
            show (oks[j]?).bind F = none
            rw [this]; rfl
          | some x =>
            simp only [List.getD, hj, Option.getD_some]
            obtain ⟨z, hz, hzx⟩ := hg j x hj
            rw [List.getElem?_map] at hz
            cases hsj : oks[j]? with
            | none => rw [hsj] at hz; cases hz
            | some o =>
              rw [hsj] at hz
              cases hz
              simp only [Option.bind_some]
              exact (hS.obj o).ren hm hzx
        · obtain ⟨o1, s1, f1⟩ := hF j1 b e1
          obtain ⟨o2, s2, f2⟩ := hF j2 b e2
          have := hS.dj o1 o2 b f1 f2
          subst this
          exact nodupB_inj hn s1 s2
        · obtain ⟨o, _, f1⟩ := hF j b e; exact hS.lt o b f1
        · obtain ⟨o, _, f1⟩ := hF j b e; exact hS.nst o b i f1 hs
      · cases h
    · cases h
  · cases h

theorem acall_of_aw (hP : TabOK P tt) {f : FuncId} {fn : Func} {c : Code} {N : Nat} {args : List SV} {Hin : List AObj} {kp : List Nat} {r : SV} {Hout : List AObj} (hf : P.funcs[f]? = some fn) (hname : (fn.name == "runtime.NumGoroutine") = false) (hb : fn.body = some c)
    (hN : fn.ntmps = N) (hl : args.length ≤ N) (h : AW P N kp c (RetQ tt fn kp r Hout) (envS (enumL 0 args)) (hpS (enumL 0 Hin))) : ACall P f args Hin kp r Hout := by
  refine ⟨⟨fn, hf, hname, by rw [hb]; rfl⟩, fun n tm W St ρ F hsz hS => callsIn_of_wp_marks hf hb trivial ?_⟩
  rw [argE_enum, hpF_enum] at h
  have hS' : Sim (argE args) (hpF Hin) (tm ++ Array.replicate (fn.ntmps - tm.size) undef) [] W St ρ F := by
    refine ⟨fun k => ?_, hS.obj, hS.dj, hS.lt, hS.nst, hS.st, hS.mks⟩
    have hk := hS.slot k
    by_cases hlt : k < tm.size
    · have : (tm ++ Array.replicate (fn.ntmps - tm.size) undef).getD k undef = tm.getD k undef := by
        rw [Array.getD_eq_getD_getElem?, Array.getD_eq_getD_getElem?, Array.getElem?_append_left hlt]
      rw [this]; exact hk
    · have : argE args k = .v (.c .un) := by simp [argE, List.getD, List.getElem?_eq_none (show args.length ≤ k by omega)]
      rw [this]; trivial
  have hN' : (tm ++ Array.replicate (fn.ntmps - tm.size) undef).size = N := by simp; omega
  refine wpIn_mono (h none n _ [] W St ρ F hN' hS') fun e a w hp => ?_
  obtain ⟨h0, h1, h2, T', H', St', ρ', F', ⟨he, oks, hret⟩, h4, h5⟩ := hp
  · obtain ⟨xs, hxs, hfin⟩ := ret_state (df := a.defers) hret
    have key : LeavesInM (wideR none) n P fn a.tmps (fun e W' => ∃ v St' ρ' F', e = .returned v ∧ Sim (resE r) (hpD Hout) #[v] [] W' St' ρ' F' ∧ Evo kp W St ρ F W' St' ρ' F') a.defers .returning w := by
      refine unmark kp n fn h4 h5 h2 fun W' hS2 hE2 => ?_
      obtain ⟨v, hv1, hv2⟩ := run_results hP hS2 hxs
      obtain ⟨ρ2, F2, g1, g2⟩ := hfin hS2 hE2 hv2
      exact ⟨v, hv1, ⟨v, St', ρ2, F2, rfl, g1, g2⟩⟩
    rcases he with rfl | rfl
    · exact key
    · exact key
end
end Al
end Go.Proofs.Ytiplmapndahmmaa
