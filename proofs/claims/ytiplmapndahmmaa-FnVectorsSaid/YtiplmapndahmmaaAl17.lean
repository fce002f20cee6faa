/- Calls of Go functions, by their contracts. -/
import Derived.Test.YtiplmapndahmmaaAl16
namespace Go.Proofs.Ytiplmapndahmmaa
namespace Al
set_option linter.constructorNameAsVariable false
set_option linter.unusedVariables false
set_option linter.unusedSimpArgs false

/-- How an argument is handed over: as it is; a list as one that stays; nil as a list that stays. -/
inductive Cast where
  | same | view | nil (t : Ty)
  | ags (cs : List Cast)

/-- A call's contract: the objects that are handed over, those that are lent as lists that stay, those (callee's numbers) that keep their values, what is returned, the objects then, and their numbers here; 'quiet': the objects are left as they are. -/
structure CallH where
  f : FuncId
  casts : List Cast
  sel : List Nat := []
  lend : List Nat := []
  kp : List Nat := []
  r : SV
  Hout : List AObj := []
  ren : List Nat := []
  quiet : Bool := false

def castC (H : Hp) (lend : List Nat) : Cast → CV → Option CV
  | .same, x => some x
  | .view, .ls _ t xs => some (.ls false t xs)
  | .view, .ho o => match H o with
    | .vz t xs => some (.ls false t xs)
    | .vc _ t xs => if lend.contains o = true then some (.ls false t xs) else none
    | _ => none
  | .nil t, .nl => some (.ls false t [])
  | _, _ => none

def castCs (H : Hp) (lend : List Nat) : List Cast → List CV → Option (List CV)
  | [], [] => some []
  | c :: cs, x :: xs => match castC H lend c x, castCs H lend cs xs with | some y, some ys => some (y :: ys) | _, _ => none
  | _, _ => none

def castS (H : Hp) (lend : List Nat) : Cast → SV → Option SV
  | .same, x => some x
  | .ags cs, .v (.ag xs) => match castCs H lend cs xs with | some ys => some (.v (.ag ys)) | none => none
  | c, .v (.c x) => match castC H lend c x with | some y => some (.v (.c y)) | none => none
  | _, _ => none

def castAll (H : Hp) (lend : List Nat) : List Cast → List SV → Option (List SV)
  | [], [] => some []
  | c :: cs, x :: xs => match castS H lend c x, castAll H lend cs xs with | some y, some ys => some (y :: ys) | _, _ => none
  | _, _ => none

def idxO : List Nat → Nat → Option Nat
  | [], _ => none
  | a :: l, o => if a = o then some 0 else match idxO l o with | some j => some (j + 1) | none => none

theorem idxO_some : ∀ {l : List Nat} {o j : Nat}, idxO l o = some j → l[j]? = some o
  | a :: l, o, j, h => by
    simp only [idxO] at h
    split at h
    · rename_i e; cases h; simp [e]
    · split at h
      · rename_i j' hj
        cases h
        simpa using idxO_some hj
      · cases h

theorem idxO_none : ∀ {l : List Nat} {o : Nat}, idxO l o = none → o ∉ l
  | [], o, _, h => by cases h
  | a :: l, o, h, hm => by
    simp only [idxO] at h
    split at h
    · cases h
    · rename_i hne
      split at h
      · cases h
      · rename_i hn
        rcases List.mem_cons.1 hm with e | e
        · exact hne e.symm
        · exact idxO_none hn e

def nodupB : List Nat → Bool
  | [] => true
  | a :: l => !(l.contains a) && nodupB l

theorem idxO_nodup : ∀ {l : List Nat} {o j : Nat}, nodupB l = true → l[j]? = some o → idxO l o = some j
  | a :: l, o, 0, _, h => by
    simp only [List.getElem?_cons_zero, Option.some.injEq] at h
    simp [idxO, h]
  | a :: l, o, j + 1, hn, h => by
    simp only [nodupB, Bool.and_eq_true, Bool.not_eq_true'] at hn
    simp only [List.getElem?_cons_succ] at h
    have hm : o ∈ l := List.mem_of_getElem? h
    have hne : a ≠ o := fun e => by
      subst e
      have := hn.1
      simp at this
      exact this hm
    simp [idxO, hne, idxO_nodup hn.2 h]
  | [], _, _, _, h => by simp at h

def AObj.live : AObj → Bool
  | .fr | .dd => false
  | _ => true

def AObj.isBx : AObj → Bool
  | .bx _ => true
  | _ => false

def AObj.isFr : AObj → Bool
  | .fr => true
  | _ => false

theorem AObj.isFr_eq {x : AObj} (h : x.isFr = true) : x = .fr := by cases x <;> simp [AObj.isFr] at h; rfl

def renOK (H : Hp) (sel kp : List Nat) : Nat → List Nat → Bool
  | _, [] => true
  | j, o :: r => (if kp.contains j then (match sel[j]? with | some o' => o == o' | none => false) else (H o).isFr) && renOK H sel kp (j + 1) r

theorem renOK_spec {H : Hp} {sel kp : List Nat} : ∀ {l : List Nat} {i : Nat}, renOK H sel kp i l = true → ∀ (j o : Nat), l[j]? = some o → (i + j ∈ kp ∧ sel[i + j]? = some o) ∨ (i + j ∉ kp ∧ H o = .fr)
  | a :: l, i, h, 0, o, hj => by
    simp only [List.getElem?_cons_zero, Option.some.injEq] at hj
    subst hj
    simp only [renOK, Bool.and_eq_true] at h
    have h1 := h.1
    split at h1
    · rename_i hk
      split at h1
      · rename_i o' ho
        simp only [beq_iff_eq] at h1
        subst h1
        exact .inl ⟨by simpa using hk, ho⟩
      · cases h1
    · rename_i hk
      exact .inr ⟨by simpa using hk, AObj.isFr_eq h1⟩
  | a :: l, i, h, j + 1, o, hj => by
    simp only [renOK, Bool.and_eq_true] at h
    have := renOK_spec (i := i + 1) h.2 j o (by simpa using hj)
    rw [show i + (j + 1) = i + 1 + j by omega]
    exact this
  | [], _, _, j, o, hj => by simp at hj

def CallH.ok (H : Hp) (h : CallH) : Bool :=
  nodupB h.sel && nodupB h.ren && h.sel.all (fun o => (H o).live && !(h.lend.contains o)) && (h.ren.length == h.Hout.length) && renOK H h.sel h.kp 0 h.ren &&
    h.kp.all (fun j => decide (j < h.ren.length) && decide (j < h.sel.length)) && (h.lend.isEmpty || (h.r.sf && h.Hout.all AObj.sf))

/-- A call that leaves the objects as they are. -/
def CallH.hush (h : CallH) (Hin : List AObj) : CallH := { h with Hout := Hin, ren := h.sel, kp := List.range h.sel.length }

def evCall (P : Program) (H : Hp) (h : CallH) (ev : Operand → SV) (fop : Operand) (args : List Operand) : Option Eff :=
  match ev fop with
  | .v (.c (.fn f os)) =>
    if f = h.f ∧ os.all (fun o => (H o).isBx) = true then
      match castAll H h.lend h.casts (args.map ev) with
      | some xs =>
        match mapO (SV.ren (idxO h.sel)) (xs ++ os.map fun o => .v (.c (.p o 0))), mapO (AObj.ren (idxO h.sel)) (h.sel.map H) with
        | some ys, some Hin =>
          if h.quiet = true then
            if (h.hush Hin).ok H = true then
              match h.r.ren (fun j => h.sel[j]?) with
              | some r => some ⟨[ACall P f ys Hin (List.range h.sel.length) h.r Hin], r, []⟩
              | none => none
            else none
          else if h.ok H = true then
            match h.r.ren (fun j => h.ren[j]?), mapO (AObj.ren (fun j => h.ren[j]?)) h.Hout with
            | some r, some Ho => some ⟨[ACall P f ys Hin h.kp h.r h.Hout], r, (h.sel.map fun o => (o, .dd)) ++ h.ren.zip Ho⟩
            | _, _ => none
          else none
        | _, _ => none
      | none => none
    else none
  | _ => none

/-- Renamed and renamed back. -/
theorem mapO_back {α : Type} {f g : α → Option α} (h : ∀ x y, f x = some y → g y = some x) : ∀ {xs ys : List α}, mapO f xs = some ys → mapO g ys = some xs
  | [], ys, e => by cases e; rfl
  | x :: xs, ys, e => by
    simp only [mapO] at e
    split at e
    · rename_i y ys' h1 h2
      cases e
      simp only [mapO, h x y h1, mapO_back h h2]
    · cases e

theorem CV.back {m m' : Nat → Option Nat} (h : ∀ o o', m o = some o' → m' o' = some o) {x y : CV} (e : x.ren m = some y) : y.ren m' = some x := by
  cases x <;> simp only [CV.ren] at e
  case p o d => split at e; (rename_i o' ho; cases e; simp only [CV.ren, h o o' ho]); cases e
  case ho o => split at e; (rename_i o' ho; cases e; simp only [CV.ren, h o o' ho]); cases e
  case mp o => split at e; (rename_i o' ho; cases e; simp only [CV.ren, h o o' ho]); cases e
  case fn f os => split at e; (rename_i o' ho; cases e; simp only [CV.ren, mapO_back h ho]); cases e
  all_goals (cases e; rfl)

theorem AObj.back {m m' : Nat → Option Nat} (h : ∀ o o', m o = some o' → m' o' = some o) {x y : AObj} (e : x.ren m = some y) : y.ren m' = some x := by
  cases x with
  | bx cs =>
    simp only [AObj.ren] at e
    split at e
    · rename_i ds hds
      cases e
      simp only [AObj.ren, mapO_back (fun _ _ => CV.back h) hds]
    · cases e
  | fr => cases e; rfl
  | dd => cases e; rfl
  | vc e' t xs => cases e; rfl
  | vz t xs => cases e; rfl
  | mp k v kvs => cases e; rfl

theorem applyUs_append (H : Hp) (a b : List (Nat × AObj)) : applyUs H (a ++ b) = applyUs (applyUs H a) b := by simp [applyUs]

theorem applyUs_dd : ∀ (l : List Nat) (H : Hp) (o : Nat), applyUs H (l.map fun o => (o, AObj.dd)) o = if o ∈ l then .dd else H o
  | [], H, o => by simp [applyUs]
  | a :: l, H, o => by
    have := applyUs_dd l (upd H a .dd) o
    simp only [applyUs, List.map_cons, List.foldl_cons] at this ⊢
    rw [this]
    by_cases h1 : o ∈ l
    · simp [h1]
    · by_cases h2 : o = a
      · subst h2; simp [h1, upd_same]
      · simp [h1, h2, upd_other]

theorem applyUs_zip : ∀ (l : List Nat) (xs : List AObj) (H : Hp) (o : Nat), nodupB l = true → l.length = xs.length → applyUs H (l.zip xs) o = match idxO l o with | some j => xs.getD j .dd | none => H o
  | [], xs, H, o, _, _ => by simp [applyUs, idxO]
  | a :: l, [], H, o, _, h => by simp at h
  | a :: l, x :: xs, H, o, hn, hl => by
    simp only [nodupB, Bool.and_eq_true, Bool.not_eq_true'] at hn
    have := applyUs_zip l xs (upd H a x) o hn.2 (by simpa using hl)
    simp only [applyUs, List.zip_cons_cons, List.foldl_cons] at this ⊢
    rw [this]
    by_cases h2 : a = o
    · subst h2
      have hm : idxO l a = none := by
        cases h : idxO l a with
        | none => rfl
        | some j =>
          have h1 := List.mem_of_getElem? (idxO_some h)
          have h3 := hn.1
          simp at h3
          exact absurd h1 h3
      simp [idxO, hm, upd_same]
    · simp only [idxO, if_neg h2]
      cases h : idxO l o with
      | none => simp [upd_other _ _ (fun e => h2 e.symm)]
      | some j => simp

section
variable {P : Program} {tt : Tab} {H : Hp} {df : List Deferred} {W : World} {St : Nat → Nat → Prop} {ρ : Nat → Option Value} {F : Nat → Option Nat}

def lentSt (St : Nat → Nat → Prop) (F : Nat → Option Nat) (lend : List Nat) (b i : Nat) : Prop := St b i ∨ ∃ o ∈ lend, F o = some b

theorem keeps_lent (lend : List Nat) : Keeps W St W (lentSt St F lend) := fun b i h => ⟨.inl h, rfl⟩

theorem castC_rep (hS : SimH H df W St ρ F) {lend : List Nat} {c : Cast} {x y : CV} {u : Value} (h : castC H lend c x = some y) (hx : RepC W St ρ x u) : RepC W (lentSt St F lend) ρ y u := by
  have hk : Keeps W St W (lentSt St F lend) := keeps_lent lend
  unfold castC at h
  split at h
  · cases h; exact hx.keep hk (RLe.refl _)
  · cases h
    obtain ⟨A, c, h2, h3, h4⟩ := hx
    exact ⟨A, c, h2, h3.keep hk (fun x us => RepT.keep hk _ x us), fun e => by cases e⟩
  · rename_i o
    obtain ⟨h2, _⟩ := hx
    split at h
    · rename_i t xs ho
      cases h
      obtain ⟨A, c, e1, h3⟩ := vz_list hS ho h2
      exact ⟨A, c, e1, h3.keep hk (fun x us => RepT.keep hk _ x us), fun e => by cases e⟩
    · rename_i e t xs ho
      split at h
      · rename_i hl
        cases h
        have hob := hS.obj o
        rw [ho] at hob
        obtain ⟨A, c, e1, h3⟩ := hob
        rw [h2] at e1
        cases e1
        refine ⟨A, c, rfl, ?_, fun e => by cases e⟩
        rcases h3 with ⟨rfl, rfl, h3⟩ | ⟨b, cur, rfl, k1, k2, k3, k4, k5, k6⟩
        · exact ⟨Nat.le_refl _, Nat.zero_le _, fun _ => rfl, [], by simp, fun i x hx => by simp at hx, fun j u hj => by simp at hj⟩
        · refine ⟨k2, k3, (fun e => by cases e), cur.toList.take (xs.length * t.sz), ?_, fun i x hx => ?_, fun j u hj => ?_⟩
          · have : xs.length * t.sz ≤ c * t.sz := Nat.mul_le_mul_right _ k2
            have hcl : cur.toList.length = c * t.sz := by simpa using k4
            rw [List.length_take, hcl]
            omega
          · have hi := (List.getElem?_eq_some_iff.1 hx).1
            have hmul : (i + 1) * t.sz ≤ xs.length * t.sz := Nat.mul_le_mul_right _ hi
            rw [Nat.add_mul, Nat.one_mul] at hmul
            rw [List.drop_take, List.take_take, Nat.min_eq_left (by omega)]
            exact (k5 i x hx).keep hk _ _ _
          · rw [List.getElem?_take] at hj
            split at hj
            · exact ⟨b, 0, rfl, by rw [cell_at k1]; simpa using hj, .inr ⟨o, by simpa using hl, k6⟩⟩
            · cases hj
      · cases h
    · cases h
  · cases h
    exact ⟨none, 0, hx, nilL, fun e => by cases e⟩
  · cases h

theorem castCs_rep (hS : SimH H df W St ρ F) {lend : List Nat} : ∀ {cs : List Cast} {xs ys : List CV} {us : List Value}, castCs H lend cs xs = some ys → RepCs W St ρ xs us → RepCs W (lentSt St F lend) ρ ys us
  | [], [], ys, us, h, hx => by cases h; exact hx
  | c :: cs, x :: xs, ys, us, h, ⟨u, us', h1, h2, h3, h4⟩ => by
    simp only [castCs] at h
    split at h
    · rename_i y ys' k1 k2
      cases h
      exact ⟨u, us', h1, h2, castC_rep hS k1 h3, castCs_rep hS k2 h4⟩
    · cases h
  | [], _ :: _, _, _, h, _ => by simp [castCs] at h
  | _ :: _, [], _, _, h, _ => by simp [castCs] at h

theorem castS_rep (hS : SimH H df W St ρ F) {lend : List Nat} {c : Cast} {x y : SV} {u : Value} (h : castS H lend c x = some y) (hx : RepS W St ρ x u) : RepS W (lentSt St F lend) ρ y u := by
  have hk : Keeps W St W (lentSt St F lend) := keeps_lent lend
  unfold castS at h
  split at h
  · cases h; exact hx.keep hk (RLe.refl _)
  · split at h
    · rename_i ys hys
      cases h
      obtain ⟨us, h1, h2⟩ := hx
      exact ⟨us, h1, castCs_rep hS hys h2⟩
    · cases h
  · rename_i c x hne
    split at h
    · rename_i y hy
      cases h
      by_cases hu : x = .un
      · subst hu; cases c <;> simp [castC] at hy

      · have h' : u.oneCell' = true ∧ RepC W St ρ x u := by cases x <;> first | exact absurd rfl hu | exact hx
        exact RepA.of h'.1 (castC_rep hS hy h'.2)
    · cases h
  · cases h

theorem castAll_rep (hS : SimH H df W St ρ F) {lend : List Nat} : ∀ {cs : List Cast} {xs ys : List SV} {us : List Value}, castAll H lend cs xs = some ys → xs.length = us.length →
    (∀ (i : Nat) (x : SV) (u : Value), xs[i]? = some x → us[i]? = some u → RepS W St ρ x u) → ys.length = us.length ∧ ∀ (i : Nat) (y : SV) (u : Value), ys[i]? = some y → us[i]? = some u → RepS W (lentSt St F lend) ρ y u
  | [], [], ys, us, h, hl, _ => by cases h; exact ⟨hl, fun i y u hy => by simp at hy⟩
  | c :: cs, x :: xs, ys, [], h, hl, _ => by simp at hl
  | c :: cs, x :: xs, ys, u :: us, h, hl, hr => by
    simp only [castAll] at h
    split at h
    · rename_i y ys' h1 h2
      cases h
      obtain ⟨k1, k2⟩ := castAll_rep hS h2 (us := us) (by simpa using hl) (fun i x u hx hu => hr (i + 1) x u hx hu)
      refine ⟨by simp [k1], fun i y' u' hy hu => ?_⟩
      cases i with
      | zero =>
        simp only [List.getElem?_cons_zero, Option.some.injEq] at hy hu
        subst hy hu
        exact castS_rep hS h1 (hr 0 x u rfl rfl)
      | succ i => exact k2 i y' u' (by simpa using hy) (by simpa using hu)
    · cases h
  | [], _ :: _, _, _, h, _, _ => by simp [castAll] at h
  | _ :: _, [], _, _, h, _, _ => by simp [castAll] at h

theorem osOf_ps {os : List Nat} {vs : List Value} (h : os.map ρ = vs.map some) : os.length = vs.length ∧ ∀ (i : Nat) (o : Nat), os[i]? = some o → ∃ v, vs[i]? = some v ∧ ρ o = some v := by
  have hl : os.length = vs.length := by have := congrArg List.length h; simpa using this
  refine ⟨hl, fun i o ho => ?_⟩
  have := congrArg (fun l => l[i]?) h
  simp only [List.getElem?_map, ho, Option.map_some] at this
  cases hv : vs[i]? with
  | none => rw [hv] at this; cases this
  | some v => rw [hv] at this; exact ⟨v, rfl, by simpa using this⟩
end
end Al
end Go.Proofs.Ytiplmapndahmmaa
