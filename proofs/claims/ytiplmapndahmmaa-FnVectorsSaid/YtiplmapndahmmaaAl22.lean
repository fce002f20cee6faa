/- Regions that draw their order: what each operation does, it does in whatever order. -/
import Derived.Test.YtiplmapndahmmaaAl21
namespace Go.Proofs.Ytiplmapndahmmaa
namespace Al
set_option linter.constructorNameAsVariable false
set_option linter.unusedVariables false
set_option linter.unusedSimpArgs false

/-! ### Changes, some of which have been made -/

section
variable {β : Type}

def app (f : Nat → β) (us : List (Nat × β)) : Nat → β := us.foldl (fun f p => upd f p.1 p.2) f
def keys (us : List (Nat × β)) : List Nat := us.map (·.1)

theorem app_cons (f : Nat → β) (p : Nat × β) (us : List (Nat × β)) : app f (p :: us) = app (upd f p.1 p.2) us := rfl

theorem app_other : ∀ {us : List (Nat × β)} {f : Nat → β} {k : Nat}, k ∉ keys us → app f us k = f k
  | [], _, _, _ => rfl
  | p :: us, f, k, h => by
    simp only [keys, List.map_cons, List.mem_cons, not_or] at h
    rw [app_cons, app_other (show k ∉ keys us from h.2), upd_other _ _ h.1]

theorem app_in : ∀ {us : List (Nat × β)} {f g : Nat → β} {k : Nat}, k ∈ keys us → app f us k = app g us k
  | [], _, _, _, h => by simp [keys] at h
  | p :: us, f, g, k, h => by
    rw [app_cons, app_cons]
    by_cases h1 : k ∈ keys us
    · exact app_in h1
    · simp only [keys, List.map_cons, List.mem_cons] at h
      have hk : k = p.1 := h.resolve_right h1
      subst hk
      rw [app_other h1, app_other h1, upd_same, upd_same]

/-- Those of the changes that have been made, in their order. -/
def GS (S : Nat → Bool) : List (Nat × List (Nat × β)) → (Nat → β) → Nat → β
  | [], f => f
  | (i, us) :: r, f => GS S r (if S i = true then app f us else f)

theorem GS_congr {S S' : Nat → Bool} {k : Nat} : ∀ {l : List (Nat × List (Nat × β))} {f f' : Nat → β}, (∀ p ∈ l, k ∈ keys p.2 → S p.1 = S' p.1) → f k = f' k → GS S l f k = GS S' l f' k
  | [], f, f', _, h => h
  | (i, us) :: r, f, f', hp, h => by
    simp only [GS]
    refine GS_congr (fun p hm => hp p (List.mem_cons_of_mem _ hm)) ?_
    by_cases hk : k ∈ keys us
    · have e := hp (i, us) List.mem_cons_self hk
      simp only at e
      rw [e]
      split
      · exact app_in hk
      · exact h
    · have h1 : ∀ b : Bool, ∀ g : Nat → β, (if b = true then app g us else g) k = g k := fun b g => by
        cases b
        · rfl
        · exact app_other hk
      rw [h1, h1, h]

theorem GS_append {S : Nat → Bool} : ∀ {l r : List (Nat × List (Nat × β))} {f : Nat → β}, GS S (l ++ r) f = GS S r (GS S l f)
  | [], _, _ => rfl
  | (i, us) :: l, r, f => by simp only [List.cons_append, GS]; exact GS_append

theorem GS_none {S : Nat → Bool} {k : Nat} : ∀ {l : List (Nat × List (Nat × β))} {f : Nat → β}, (∀ p ∈ l, k ∈ keys p.2 → S p.1 = false) → GS S l f k = f k
  | [], _, _ => rfl
  | (i, us) :: r, f, h => by
    simp only [GS]
    rw [GS_none (fun p hm => h p (List.mem_cons_of_mem _ hm))]
    by_cases hk : k ∈ keys us
    · have := h (i, us) List.mem_cons_self hk
      simp only at this
      rw [this]; rfl
    · split
      · exact app_other hk
      · rfl

def setB (S : Nat → Bool) (i : Nat) : Nat → Bool := fun j => if j = i then true else S j

/-- One more change is made. -/
theorem GS_set {S : Nat → Bool} {i : Nat} {us : List (Nat × β)} {l1 l2 : List (Nat × List (Nat × β))} {f : Nat → β} (h1 : ∀ p ∈ l1, p.1 ≠ i) (h2 : ∀ p ∈ l2, p.1 ≠ i) (hS : S i = false)
    (h3 : ∀ p ∈ l2, ∀ k ∈ keys us, k ∈ keys p.2 → S p.1 = false) : GS (setB S i) (l1 ++ (i, us) :: l2) f = app (GS S (l1 ++ (i, us) :: l2) f) us := by
  funext k
  have hne : ∀ j, j ≠ i → setB S i j = S j := fun j hj => by simp [setB, hj]
  by_cases hk : k ∈ keys us
  · rw [GS_append]
    simp only [GS]
    rw [GS_none (fun p hp hkp => by rw [hne _ (h2 p hp)]; exact h3 p hp k hk hkp)]
    have : setB S i i = true := by simp [setB]
    rw [if_pos this]
    exact app_in hk
  · rw [app_other hk]
    refine GS_congr (fun p hp hkp => ?_) rfl
    rcases List.mem_append.1 hp with hp | hp
    · exact hne _ (h1 p hp)
    · rcases List.mem_cons.1 hp with e | hp
      · subst e; exact absurd hkp hk
      · exact hne _ (h2 p hp)
end

/-! ### What less is known is reckoned alike -/

def HLe (H' H : Hp) : Prop := ∀ o, H' o = H o ∨ H' o = .dd

section
variable {tt : Tab} {H H' : Hp}

theorem HLe.eq (h : HLe H' H) {o : Nat} (hd : H' o ≠ .dd) : H o = H' o := by
  rcases h o with e | e
  · exact e.symm
  · exact absurd e hd

theorem ofCvs_mono (h : HLe H' H) : ∀ (t : Ty) (cs : List CV) (x : t.den), t.ofCvs H' cs = some x → t.ofCvs H cs = some x
  | .num k, cs, x, e => by
    match cs, e with
    | [.int k' n], e => exact e
  | .boo, cs, x, e => by
    match cs, e with
    | [.bool b], e => exact e
  | .st, cs, x, e => by
    match cs, e with
    | [.str b], e => exact e
  | .sl t, cs, x, e => by
    match cs, e with
    | [.nl], e => exact e
    | [.ls f u xs], e => exact e
    | [.ho o], e =>
      rcases h o with k | k
      · simp only [Ty.ofCvs] at e ⊢; rw [← k]; exact e
      · simp only [Ty.ofCvs, k] at e; cases e
  | .pr a b, cs, x, e => by
    simp only [Ty.ofCvs] at e ⊢
    split at e
    · rename_i y z h1 h2
      cases e
      rw [ofCvs_mono h a _ _ h1, ofCvs_mono h b _ _ h2]
    · cases e

theorem lstOf_mono (h : HLe H' H) {x : SV} {y : Lst} (e : lstOf H' x = some y) : lstOf H x = some y := by
  unfold lstOf at e ⊢
  split at e
  · exact e
  · rename_i o
    rcases h o with k | k
    · rw [← k]; exact e
    · rw [k] at e; cases e
  · cases e

theorem stayOf_mono (h : HLe H' H) {x : SV} {y : Lst} (e : stayOf H' x = some y) : stayOf H x = some y := by
  unfold stayOf at e ⊢
  split at e
  · exact e
  · rename_i o
    rcases h o with k | k
    · rw [← k]; exact e
    · rw [k] at e; cases e
  · cases e

theorem lenOf_mono (h : HLe H' H) {d : DK} {x : SV} {n : Int} (e : lenOf H' d x = some n) : lenOf H d x = some n := by
  unfold lenOf at e ⊢
  split at e
  · exact e
  · exact e
  · exact e
  · rename_i o
    rcases h o with k | k
    · rw [← k]; exact e
    · rw [k] at e; cases e
  · rename_i hne _
    split at e
    · rename_i u xs hl
      rw [lstOf_mono h hl]; exact e
    · cases e
  · cases e

theorem evEq_mono (h : HLe H' H) {op : BinOp} {ti : TI} {x y : SV} {r : List Prop × CV} (e : evEq H' op ti x y = some r) : evEq H op ti x y = some r := by
  unfold evEq at e ⊢
  split at e
  · exact e
  · split at e
    · split at e
      · exact e
      · rename_i hx _
        split at e
        · rename_i u xs hl
          have := lstOf_mono h hl
          simp only [this]; exact e
        · cases e
    · cases e
  · exact e
  · exact e
  · exact e
  · cases e

theorem evBin_mono (h : HLe H' H) {op : BinOp} {t : TypeId} {x y : SV} {r : List Prop × CV} (e : evBin tt H' op t x y = some r) : evBin tt H op t x y = some r := by
  unfold evBin at e ⊢
  split at e
  · exact e
  · exact e
  · split at e
    · exact evEq_mono h e
    · cases e

theorem evParts_mono (h : HLe H' H) (t : Ty) : ∀ (ps : List (Nat × SV)) (i : Nat) (xs : List t.den), evParts H' t i ps = some xs → evParts H t i ps = some xs
  | [], i, xs, e => e
  | (j, x) :: ps, i, xs, e => by
    cases x with
    | v x =>
      simp only [evParts] at e ⊢
      split at e
      · rename_i hk
        rw [if_pos hk]
        split at e
        · rename_i y ys h1 h2
          rw [ofCvs_mono h t _ _ h1, evParts_mono h t _ _ _ h2]; exact e
        · cases e
      · cases e
    | tu _ => simp [evParts] at e
    | el _ _ _ _ => simp [evParts] at e
    | gd _ _ => simp [evParts] at e

theorem evLoad_mono (h : HLe H' H) {t : TypeId} {x : SV} {y : AV} (e : evLoad tt H' t x = some y) : evLoad tt H t x = some y := by
  unfold evLoad at e ⊢
  split at e
  · cases e
  · split at e
    · rename_i o d
      rcases h o with k | k
      · rw [← k]; exact e
      · rw [k] at e; cases e
    · exact e
    · rename_i o sz i d
      rcases h o with k | k
      · rw [← k]; exact e
      · rw [k] at e; cases e
    · cases e

theorem evStore_mono (h : HLe H' H) {t : TypeId} {a x : SV} {us : List (Nat × AObj)} (e : evStore tt H' t a x = some us) : evStore tt H t a x = some us := by
  unfold evStore at e ⊢
  split at e
  · split at e
    · rename_i o d
      rcases h o with k | k
      · rw [← k]; exact e
      · rw [k] at e; cases e
    · rename_i o sz i d
      rcases h o with k | k
      · rw [← k]
        split at e
        · rename_i hv
          split at e
          · rename_i hc
            rw [if_pos hc]
            split at e
            · rename_i z hz
              rw [ofCvs_mono h _ _ _ hz]; exact e
            · cases e
          · cases e
        · cases e
      · rw [k] at e; cases e
    · cases e
  · cases e

theorem evIndexAddr_mono (h : HLe H' H) {t : TypeId} {x y : SV} {r : List Prop × SV} (e : evIndexAddr tt H' t x y = some r) : evIndexAddr tt H t x y = some r := by
  unfold evIndexAddr at e ⊢
  split at e
  · split at e
    · split at e
      · split at e
        · exact e
        · rename_i o
          rcases h o with k | k
          · rw [← k]; exact e
          · rw [k] at e; cases e
        · cases e
      · cases e
    · cases e
  · cases e

theorem evSlice_mono (h : HLe H' H) {t : TypeId} {x : SV} {lo hi mx : Option SV} {r : List Prop × CV} (e : evSlice tt H' t x lo hi mx = some r) : evSlice tt H t x lo hi mx = some r := by
  unfold evSlice at e ⊢
  split at e
  · split at e
    · exact e
    · rename_i e' hd _
      split at e
      · rename_i te u xs he' hst
        simp only [he', stayOf_mono h hst]
        exact e
      · cases e
    · cases e
  · cases e

theorem appArg_mono (h : HLe H' H) {el : Ty} {y : SV} {xs : List el.den} (e : appArg H' el y = some xs) : appArg H el y = some xs := by
  unfold appArg at e ⊢
  split at e
  · exact e
  · split at e
    · rename_i u ys hl
      simp only [lstOf_mono h hl]
      exact e
    · cases e

theorem evAppend_mono (h : HLe H' H) {t : TypeId} {o' : Nat} {x y : SV} {E : Eff} (e : evAppend tt H' t o' x y = some E) : evAppend tt H t o' x y = some E := by
  unfold evAppend at e ⊢
  split at e
  · split at e
    · split at e
      · rename_i te he hid
        have hid' : H o' = .fr := by rw [h.eq (by rw [hid]; intro e; cases e)]; exact hid
        simp only [he, hid']
        split at e
        · rename_i hk
          rw [if_pos hk]
          split at e
          · rename_i ys hys
            simp only [appArg_mono h hys]
            split at e
            · exact e
            · rename_i o
              rcases h o with k | k
              · rw [← k]; exact e
              · rw [k] at e; cases e
            · exact e
            · cases e
          · cases e
        · cases e
      · cases e
    · cases e
  · cases e

theorem fr_mono (h : HLe H' H) {o : Nat} (e : H' o = .fr) : H o = .fr := by rw [h.eq (by rw [e]; intro e; cases e)]; exact e

theorem evOp_mono (h : HLe H' H) {id : Nat} {ev : Operand → SV} {o : Oper} {E : Eff} (e : evOp tt H' id ev o = some E) : evOp tt H id ev o = some E := by
  unfold evOp at e ⊢
  split at e
  · exact e
  · exact e
  · split at e
    · rename_i ht hid; simp only [ht, fr_mono h hid]; exact e
    · cases e
  · split at e
    · rename_i ht hid; simp only [ht, fr_mono h hid]; exact e
    · cases e
  · exact e
  · split at e
    · rename_i ht hid
      simp only [ht, fr_mono h hid]
      split at e
      · rename_i e' hd
        (try simp only [hd])
        split at e
        · rename_i te he
          (try simp only [he])
          split at e
          · rename_i hk
            (try rw [if_pos hk])
            split at e
            · rename_i xs hxs
              simp only [evParts_mono h _ _ _ _ hxs]; exact e
            · cases e
          · cases e
        · cases e
      · cases e
    · cases e
  · split at e
    · rename_i x hx; simp only [evLoad_mono h hx]; exact e
    · cases e
  · split at e
    · rename_i x hx; simp only [evStore_mono h hx]; exact e
    · cases e
  · exact e
  · split at e
    · rename_i x y hx; simp only [evBin_mono h hx]; exact e
    · cases e
  · exact e
  · exact e
  · exact e
  · unfold evMakeSlice at e ⊢
    split at e
    · split at e
      · split at e
        · rename_i he hid; simp only [he, fr_mono h hid]; exact e
        · cases e
      · cases e
    · cases e
  · split at e
    · rename_i x y hx; simp only [evSlice_mono h hx]; exact e
    · cases e
  · exact e
  · exact e
  · split at e
    · rename_i x y hx; simp only [evIndexAddr_mono h hx]; exact e
    · cases e
  · exact e
  · exact e
  · split at e
    · split at e
      · split at e
        · simp only [evLen, Option.map_eq_some_iff] at e ⊢
          obtain ⟨n, hn, he⟩ := e
          exact ⟨n, lenOf_mono h hn, he⟩
        · cases e
      · cases e
    · split at e
      · rename_i hk
        rw [if_pos hk]
        split at e
        · exact evAppend_mono h e
        · cases e
      · cases e
    · exact e
    · exact e
    · cases e
  · cases e
end
end Al
end Go.Proofs.Ytiplmapndahmmaa
