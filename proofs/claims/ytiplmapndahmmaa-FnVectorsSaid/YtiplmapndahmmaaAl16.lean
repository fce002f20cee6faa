/- Objects under other numbers; calls. -/
import Derived.Test.YtiplmapndahmmaaAl15
namespace Go.Proofs.Ytiplmapndahmmaa
namespace Al
set_option linter.constructorNameAsVariable false
set_option linter.unusedVariables false
set_option linter.unusedSimpArgs false

/-! ### Renaming -/

def mapO {α β : Type} (f : α → Option β) : List α → Option (List β)
  | [] => some []
  | x :: xs => match f x, mapO f xs with | some y, some ys => some (y :: ys) | _, _ => none

theorem mapO_some {α β : Type} {f : α → Option β} : ∀ {xs : List α} {ys : List β}, mapO f xs = some ys → xs.length = ys.length ∧ ∀ (i : Nat) (y : β), ys[i]? = some y → ∃ x, xs[i]? = some x ∧ f x = some y
  | [], ys, h => by cases h; exact ⟨rfl, fun i y hy => by simp at hy⟩
  | x :: xs, ys, h => by
    simp only [mapO] at h
    split at h
    · rename_i y ys' h1 h2
      cases h
      obtain ⟨k1, k2⟩ := mapO_some h2
      refine ⟨by simp [k1], fun i y' hy => ?_⟩
      cases i with
      | zero => simp only [List.getElem?_cons_zero, Option.some.injEq] at hy ⊢; subst hy; exact ⟨x, rfl, h1⟩
      | succ i => simpa using k2 i y' (by simpa using hy)
    · cases h

def CV.ren (m : Nat → Option Nat) : CV → Option CV
  | .p o d => match m o with | some o' => some (.p o' d) | none => none
  | .ho o => match m o with | some o' => some (.ho o') | none => none
  | .fn f os => match mapO m os with | some os' => some (.fn f os') | none => none
  | .mp o => match m o with | some o' => some (.mp o') | none => none
  | .un => some .un
  | .int k n => some (.int k n)
  | .bool b => some (.bool b)
  | .str s => some (.str s)
  | .np => some .np
  | .cp t x => some (.cp t x)
  | .nl => some .nl
  | .ls f t xs => some (.ls f t xs)
  | .nf => some .nf
  | .ni => some .ni
  | .ie => some .ie
  | .nm => some .nm

def AV.ren (m : Nat → Option Nat) : AV → Option AV
  | .c x => match x.ren m with | some y => some (.c y) | none => none
  | .ag cs => match mapO (CV.ren m) cs with | some ds => some (.ag ds) | none => none

def SV.ren (m : Nat → Option Nat) : SV → Option SV
  | .v x => match x.ren m with | some y => some (.v y) | none => none
  | .tu xs => match mapO (AV.ren m) xs with | some ys => some (.tu ys) | none => none
  | .el o sz i d => match m o with | some o' => some (.el o' sz i d) | none => none
  | .gd b x => match x.ren m with | some y => some (.gd b y) | none => none

def AObj.ren (m : Nat → Option Nat) : AObj → Option AObj
  | .bx cs => match mapO (CV.ren m) cs with | some ds => some (.bx ds) | none => none
  | .fr => some .fr
  | .dd => some .dd
  | .vc e t xs => some (.vc e t xs)
  | .vz t xs => some (.vz t xs)
  | .mp k v kvs => some (.mp k v kvs)

section
variable {W : World} {St : Nat → Nat → Prop} {ρ ρ' : Nat → Option Value} {m : Nat → Option Nat}

theorem mapO_ρ (hm : ∀ o o', m o = some o' → ρ' o' = ρ o) : ∀ {os os' : List Nat}, mapO m os = some os' → os'.map ρ' = os.map ρ
  | [], os', h => by cases h; rfl
  | o :: os, os', h => by
    simp only [mapO] at h
    split at h
    · rename_i y ys h1 h2
      cases h
      simp [hm o y h1, mapO_ρ hm h2]
    · cases h

theorem RepC.ren (hm : ∀ o o', m o = some o' → ρ' o' = ρ o) {x y : CV} {u : Value} (hr : x.ren m = some y) (h : RepC W St ρ x u) : RepC W St ρ' y u := by
  cases x <;> simp only [CV.ren] at hr
  case p o d =>
    split at hr
    · rename_i o' ho
      cases hr
      obtain ⟨b, h1, h2⟩ := h
      exact ⟨b, (hm o o' ho).trans h1, h2⟩
    · cases hr
  case ho o =>
    split at hr
    · rename_i o' ho
      cases hr
      exact ⟨(hm o o' ho).trans h.1, h.2⟩
    · cases hr
  case fn f os =>
    split at hr
    · rename_i os' ho
      cases hr
      obtain ⟨vs, h1, h2⟩ := h
      exact ⟨vs, (mapO_ρ hm ho).trans h1, h2⟩
    · cases hr
  case mp o =>
    split at hr
    · rename_i o' ho
      cases hr
      exact ⟨(hm o o' ho).trans h.1, h.2⟩
    · cases hr
  all_goals (cases hr; exact h)

theorem CV.ren_un {x y : CV} (hr : x.ren m = some y) : x = .un ↔ y = .un := by
  cases x <;> simp only [CV.ren] at hr <;> (try split at hr) <;> cases hr <;> simp

theorem RepCs.ren (hm : ∀ o o', m o = some o' → ρ' o' = ρ o) : ∀ {cs ds : List CV} {us : List Value}, mapO (CV.ren m) cs = some ds → RepCs W St ρ cs us → RepCs W St ρ' ds us
  | [], ds, us, hr, h => by cases hr; exact h
  | c :: cs, ds, us, hr, ⟨u, us', h1, h2, h3, h4⟩ => by
    simp only [mapO] at hr
    split at hr
    · rename_i y ys k1 k2
      cases hr
      exact ⟨u, us', h1, h2, h3.ren hm k1, RepCs.ren hm k2 h4⟩
    · cases hr

theorem RepA.ren (hm : ∀ o o', m o = some o' → ρ' o' = ρ o) {x y : AV} {u : Value} (hr : x.ren m = some y) (h : RepA W St ρ x u) : RepA W St ρ' y u := by
  cases x with
  | c x =>
    simp only [AV.ren] at hr
    split at hr
    · rename_i z hz
      cases hr
      by_cases hx : x = .un
      · rw [(CV.ren_un hz).1 hx]; exact trivial
      · have h' : u.oneCell' = true ∧ RepC W St ρ x u := by cases x <;> first | exact absurd rfl hx | exact h
        exact RepA.of h'.1 (h'.2.ren hm hz)
    · cases hr
  | ag cs =>
    simp only [AV.ren] at hr
    split at hr
    · rename_i z hz
      cases hr
      obtain ⟨us, h1, h2⟩ := h
      exact ⟨us, h1, h2.ren hm hz⟩
    · cases hr

theorem RepAs.ren (hm : ∀ o o', m o = some o' → ρ' o' = ρ o) : ∀ {cs ds : List AV} {us : List Value}, mapO (AV.ren m) cs = some ds → RepAs W St ρ cs us → RepAs W St ρ' ds us
  | [], ds, us, hr, h => by cases hr; exact h
  | c :: cs, ds, us, hr, ⟨u, us', h1, h3, h4⟩ => by
    simp only [mapO] at hr
    split at hr
    · rename_i y ys k1 k2
      cases hr
      exact ⟨u, us', h1, h3.ren hm k1, RepAs.ren hm k2 h4⟩
    · cases hr

theorem RepS.ren (hm : ∀ o o', m o = some o' → ρ' o' = ρ o) : ∀ {x y : SV} {u : Value}, x.ren m = some y → RepS W St ρ x u → RepS W St ρ' y u
  | .v x, y, u, hr, h => by
    simp only [SV.ren] at hr
    split at hr
    · rename_i z hz
      cases hr
      exact RepA.ren hm hz h
    · cases hr
  | .tu xs, y, u, hr, h => by
    simp only [SV.ren] at hr
    split at hr
    · rename_i z hz
      cases hr
      obtain ⟨us, h1, h2⟩ := h
      exact ⟨us, h1, h2.ren hm hz⟩
    · cases hr
  | .el o sz i d, y, u, hr, h => by
    simp only [SV.ren] at hr
    split at hr
    · rename_i o' ho
      cases hr
      obtain ⟨b, n, c, h1, h2⟩ := h
      exact ⟨b, n, c, (hm o o' ho).trans h1, h2⟩
    · cases hr
  | .gd b x, y, u, hr, h => by
    simp only [SV.ren] at hr
    split at hr
    · rename_i z hz
      cases hr
      exact ⟨fun hb => RepS.ren hm hz (h.1 hb), h.2⟩
    · cases hr

theorem RepO.ren (hm : ∀ o o', m o = some o' → ρ' o' = ρ o) {x y : AObj} {r : Option Value} {F : Option Nat} (hr : x.ren m = some y) (h : RepO W St ρ x r F) : RepO W St ρ' y r F := by
  cases x with
  | bx cs =>
    simp only [AObj.ren] at hr
    split at hr
    · rename_i z hz
      cases hr
      obtain ⟨b, cur, e, h1, h2, h3, h4⟩ := h
      exact ⟨b, cur, e, h1, h2, h3.ren hm hz, h4⟩
    · cases hr
  | fr => cases hr; exact h
  | dd => cases hr; exact h
  | vc e t xs => cases hr; exact h
  | vz t xs => cases hr; exact h
  | mp k v kvs => cases hr; exact h

theorem AObj.ren_fr {x y : AObj} (hr : x.ren m = some y) : x = .fr ↔ y = .fr := by
  cases x <;> simp only [AObj.ren] at hr <;> (try split at hr) <;> cases hr <;> simp
end

/-! ### What does not depend on stable cells -/

def Ty.sf : Ty → Bool
  | .num _ | .boo | .st => true
  | .sl _ => false
  | .pr a b => a.sf && b.sf

def CV.sf : CV → Bool
  | .ls _ _ _ | .cp _ _ => false
  | _ => true

def AV.sf : AV → Bool
  | .c x => x.sf
  | .ag cs => cs.all CV.sf

def SV.sf : SV → Bool
  | .v x => x.sf
  | .tu xs => xs.all AV.sf
  | .el _ _ _ _ => true
  | .gd _ x => x.sf

def AObj.sf : AObj → Bool
  | .fr | .dd => true
  | .bx cs => cs.all CV.sf
  | .vc _ t _ => t.sf
  | .vz _ _ => false
  | .mp k v _ => k.sf && v.sf

section
variable {W : World} {St St' : Nat → Nat → Prop} {ρ : Nat → Option Value}

theorem RepT.free : ∀ {t : Ty} {x : t.den} {us : List Value}, t.sf = true → RepT W St t x us → RepT W St' t x us
  | .num _, _, _, _, h => h
  | .boo, _, _, _, h => h
  | .st, _, _, _, h => h
  | .pr a b, _, _, hs, ⟨c1, c2, h1, h2, h3⟩ => by
    simp only [Ty.sf, Bool.and_eq_true] at hs
    exact ⟨c1, c2, h1, RepT.free hs.1 h2, RepT.free hs.2 h3⟩

theorem RepC.free {x : CV} {u : Value} (hs : x.sf = true) (h : RepC W St ρ x u) : RepC W St' ρ x u := by
  cases x <;> first | exact h | (simp [CV.sf] at hs)

theorem RepCs.free : ∀ {cs : List CV} {us : List Value}, cs.all CV.sf = true → RepCs W St ρ cs us → RepCs W St' ρ cs us
  | [], _, _, h => h
  | _ :: _, _, hs, ⟨u, us', h1, h2, h3, h4⟩ => by
    simp only [List.all_cons, Bool.and_eq_true] at hs
    exact ⟨u, us', h1, h2, h3.free hs.1, RepCs.free hs.2 h4⟩

theorem RepA.free {x : AV} {u : Value} (hs : x.sf = true) (h : RepA W St ρ x u) : RepA W St' ρ x u := by
  cases x with
  | c x =>
    cases x <;> first | exact trivial | exact ⟨h.1, RepC.free hs h.2⟩
  | ag cs =>
    obtain ⟨us, h1, h2⟩ := h
    exact ⟨us, h1, h2.free hs⟩

theorem RepAs.free : ∀ {cs : List AV} {us : List Value}, cs.all AV.sf = true → RepAs W St ρ cs us → RepAs W St' ρ cs us
  | [], _, _, h => h
  | _ :: _, _, hs, ⟨u, us', h1, h3, h4⟩ => by
    simp only [List.all_cons, Bool.and_eq_true] at hs
    exact ⟨u, us', h1, h3.free hs.1, RepAs.free hs.2 h4⟩

theorem RepS.free : ∀ {x : SV} {u : Value}, x.sf = true → RepS W St ρ x u → RepS W St' ρ x u
  | .v x, _, hs, h => RepA.free (x := x) hs h
  | .tu xs, _, hs, ⟨us, h1, h2⟩ => ⟨us, h1, h2.free hs⟩
  | .el _ _ _ _, _, _, h => h
  | .gd _ x, _, hs, h => ⟨fun hb => RepS.free (x := x) hs (h.1 hb), h.2⟩

theorem RepO.free {x : AObj} {r : Option Value} {F : Option Nat} (hs : x.sf = true) (h : RepO W St ρ x r F) : RepO W St' ρ x r F := by
  cases x with
  | fr => exact h
  | dd => exact h
  | bx cs =>
    obtain ⟨b, cur, e, h1, h2, h3, h4⟩ := h
    exact ⟨b, cur, e, h1, h2, h3.free hs, h4⟩
  | vc e t xs =>
    obtain ⟨A, c, h1, h2⟩ := h
    refine ⟨A, c, h1, ?_⟩
    rcases h2 with h2 | ⟨b, cur, k1, k2, k3, k4, k5, k6, k7⟩
    · exact .inl h2
    · exact .inr ⟨b, cur, k1, k2, k3, k4, k5, fun i x hx => RepT.free hs (k6 i x hx), k7⟩
  | vz t xs => cases hs
  | mp k v kvs =>
    simp only [AObj.sf, Bool.and_eq_true] at hs
    obtain ⟨b, es, clk, h1, h2, h3, h4, h5⟩ := h
    refine ⟨b, es, clk, h1, h2, h3, h4, fun i kv hi => ?_⟩
    obtain ⟨en, g1, g2, g3, g4⟩ := h5 i kv hi
    exact ⟨en, g1, RepT.free hs.1 g2, RepT.free hs.2 g3, g4⟩
end
end Al
end Go.Proofs.Ytiplmapndahmmaa
