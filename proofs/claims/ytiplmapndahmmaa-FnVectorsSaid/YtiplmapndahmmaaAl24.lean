/- Regions that draw their order, with their outcome; small rules for walks. -/
import Derived.Test.YtiplmapndahmmaaAl23
namespace Go.Proofs.Ytiplmapndahmmaa
namespace Al
set_option linter.constructorNameAsVariable false
set_option linter.unusedVariables false
set_option linter.unusedSimpArgs false

def drwR (P : Program) (tt : Tab) (N : Nat) (ops : Array Oper) (kp : List Nat) (hs : List (Nat × Hint)) (anc tch : List (Nat × List Nat)) (gs : List G) (rn : List (Nat × Nat)) (ks : List Nat) (os : List Nat) (l : List (Nat × SV)) (h : List (Nat × AObj)) :
    Option (Prop × List (Nat × SV) × List (Nat × AObj)) :=
  match drawR P tt N ops hs (tchOf anc) (tchOf tch) (List.range ops.size) (envS l) (hpS h) with
  | some (C, lt, lh) => match endR kp gs rn ks os (GS allS lt (envS l)) (GS allS lh (hpS h)) with | some (l', h') => some (C, l', h') | none => none
  | none => none

section
variable {P : Program} {tt : Tab} {N : Nat} {kp : List Nat} {Q : Exit → Env → Hp → Prop}

theorem Sim.drew {T : Env} {H : Hp} {tm : Array Value} {df : List Deferred} {W : World} {St : Nat → Nat → Prop} {ρ : Nat → Option Value} {F : Nat → Option Nat} (hS : Sim T H tm df W St ρ F) :
    Sim T H tm df { W with drawn := W.drawn + 1 } St ρ F ∧ Evo kp W St ρ F { W with drawn := W.drawn + 1 } St ρ F := by
  have hk : Keeps W St { W with drawn := W.drawn + 1 } St := fun b i hs => ⟨hs, rfl⟩
  have hE : ∀ kp, Evo kp W St ρ F { W with drawn := W.drawn + 1 } St ρ F := fun kp => ⟨rfl, rfl, rfl, Nat.le_refl _, fun _ _ _ => ⟨rfl, fun _ h => h⟩, hk, fun o b e => .inl ⟨o, e⟩, fun _ _ _ h => h⟩
  exact ⟨⟨fun i => (hS.slot i).keep hk (RLe.refl _), fun o => (hS.obj o).keep hk (RLe.refl _) (fun _ _ => rfl), hS.dj, hS.lt, hS.nst, hS.st, Marks.keep (hE []) hS.mks⟩, hE kp⟩

theorem aw_draw_raw (hP : TabOK P tt) (hm : P.follows .mixedOrders = true) {T : Env} {H : Hp} {id : Nat} {ops : Array Oper} {hs : List (Nat × Hint)} {anc tch : Nat → List Nat} {C : Prop} {lt : List (Nat × List (Nat × SV))} {lh : List (Nat × List (Nat × AObj))}
    (hr : drawR P tt N ops hs anc tch (List.range ops.size) T H = some (C, lt, lh)) (hC : C) (hq : Q .normal (GS allS lt T) (GS allS lh H)) : AW P N kp (.region id ops true) Q T H := by
  intro ro n tm df W St ρ F hN hS
  obtain ⟨hS', hE⟩ := hS.drew (kp := kp)
  refine wpIn_region_any hm ?_
  have h0 : lst (Array.replicate ops.size false) = fun _ => false := by
    funext i
    show (Array.replicate ops.size false).getD i false = false
    rw [Array.getD_eq_getD_getElem?, Array.getElem?_replicate]
    split <;> rfl
  have hT : ∀ {β : Type} (l : List (Nat × List (Nat × β))) (f : Nat → β), GS (fun _ => false) l f = f := fun l f => by
    funext k; exact GS_none (fun p _ _ => rfl)
  refine anyRun hP hr hC (kp := kp) hq ops.size (Array.replicate ops.size false) { tmps := tm, defers := df } _ St ρ F (by simp) (fun i o _ hl => by rw [h0] at hl; cases hl) ?_ hN (by rw [h0, hT, hT]; exact hS') (fun e b w hp => APost.step (.refl _ _) hE e b w hp)
  exact Nat.le_trans (List.length_filter_le _ _) (by simp)

theorem aw_draw (hP : TabOK P tt) (hm : P.follows .mixedOrders = true) {id : Nat} {ops : Array Oper} {hs : List (Nat × Hint)} {anc tch : List (Nat × List Nat)} {gs : List G} {rn : List (Nat × Nat)} {l : List (Nat × SV)} {h : List (Nat × AObj)} {C : Prop} {l' : List (Nat × SV)} {h' : List (Nat × AObj)}
    (hr : drwR P tt N ops kp hs anc tch gs rn (l'.map (·.1)) (h'.map (·.1)) l h = some (C, l', h')) (hC : C) (hq : Q .normal (envS l') (hpS h')) : AW P N kp (.region id ops true) Q (envS l) (hpS h) := by
  unfold drwR at hr
  split at hr
  · rename_i C1 lt lh h1
    split at hr
    · rename_i l1 h2 he
      cases hr
      have key : AW P N kp (.region id ops true) (fun e T' H' => e = .normal ∧ T' = GS allS lt (envS l) ∧ H' = GS allS lh (hpS h)) (envS l) (hpS h) := aw_draw_raw hP hm h1 hC ⟨rfl, rfl, rfl⟩
      exact aw_post key fun e T' H' ⟨e1, e2, e3⟩ => ⟨envS l', hpS h', by rw [e2, e3]; exact endR_sound he, by rw [e1]; exact hq⟩
    · cases hr
  · cases hr

/-- A test in a state that is a list. -/
theorem aw_if {c : Operand} {x y : Code} {l : List (Nat × SV)} {h : List (Nat × AObj)} (b : Bool) (hc : evalS (envS l) c = .v (.c (.bool b))) (ht : b = true → AW P N kp x Q (envS l) (hpS h)) (hf : b = false → AW P N kp y Q (envS l) (hpS h)) :
    AW P N kp (.cond c x y) Q (envS l) (hpS h) := aw_cond hc ht hf

/-- The function ends here. -/
theorem ret_ok {fn : Func} {r : SV} {Hout : List AObj} (oks : List Nat) {l : List (Nat × SV)} {h : List (Nat × AObj)} (hr : retR tt fn.results.toList kp oks (envS l) (hpS h) = some (r, Hout)) : RetQ tt fn kp r Hout .ret (envS l) (hpS h) := ⟨.inl rfl, oks, hr⟩
theorem end_ok {fn : Func} {r : SV} {Hout : List AObj} (oks : List Nat) {l : List (Nat × SV)} {h : List (Nat × AObj)} (hr : retR tt fn.results.toList kp oks (envS l) (hpS h) = some (r, Hout)) : RetQ tt fn kp r Hout .normal (envS l) (hpS h) := ⟨.inr rfl, oks, hr⟩
end
end Al
end Go.Proofs.Ytiplmapndahmmaa
