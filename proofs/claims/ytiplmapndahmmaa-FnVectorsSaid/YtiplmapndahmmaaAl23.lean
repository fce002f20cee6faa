/- Regions that draw their order: the rule. -/
import Derived.Test.YtiplmapndahmmaaAl22
namespace Go.Proofs.Ytiplmapndahmmaa
namespace Al
set_option linter.constructorNameAsVariable false
set_option linter.unusedVariables false
set_option linter.unusedSimpArgs false

section
variable {P : Program} {tt : Tab} {H H' : Hp}

theorem castC_mono (h : HLe H' H) {lend : List Nat} {c : Cast} {x y : CV} (e : castC H' lend c x = some y) : castC H lend c x = some y := by
  unfold castC at e ⊢
  split at e
  · exact e
  · exact e
  · rename_i o
    rcases h o with k | k
    · rw [← k]; exact e
    · rw [k] at e; cases e
  · exact e
  · cases e

theorem castCs_mono (h : HLe H' H) {lend : List Nat} : ∀ {cs : List Cast} {xs ys : List CV}, castCs H' lend cs xs = some ys → castCs H lend cs xs = some ys
  | [], [], _, e => e
  | c :: cs, x :: xs, ys, e => by
    simp only [castCs] at e ⊢
    split at e
    · rename_i y ys' h1 h2
      rw [castC_mono h h1, castCs_mono h h2]; exact e
    · cases e
  | [], _ :: _, _, e => by simp [castCs] at e
  | _ :: _, [], _, e => by simp [castCs] at e

theorem castS_mono (h : HLe H' H) {lend : List Nat} {c : Cast} {x y : SV} (e : castS H' lend c x = some y) : castS H lend c x = some y := by
  unfold castS at e ⊢
  split at e
  · exact e
  · split at e
    · rename_i hys; rw [castCs_mono h hys]; exact e
    · cases e
  · split at e
    · rename_i hy; simp only [castC_mono h hy]; exact e
    · cases e
  · cases e

theorem castAll_mono (h : HLe H' H) {lend : List Nat} : ∀ {cs : List Cast} {xs ys : List SV}, castAll H' lend cs xs = some ys → castAll H lend cs xs = some ys
  | [], [], _, e => e
  | c :: cs, x :: xs, ys, e => by
    simp only [castAll] at e ⊢
    split at e
    · rename_i y ys' h1 h2
      rw [castS_mono h h1, castAll_mono h h2]; exact e
    · cases e
  | [], _ :: _, _, e => by simp [castAll] at e
  | _ :: _, [], _, e => by simp [castAll] at e

theorem renOK_mono (h : HLe H' H) {sel kp : List Nat} : ∀ {l : List Nat} {i : Nat}, renOK H' sel kp i l = true → renOK H sel kp i l = true
  | [], _, _ => rfl
  | o :: l, i, e => by
    simp only [renOK, Bool.and_eq_true] at e ⊢
    refine ⟨?_, renOK_mono h e.2⟩
    have e1 := e.1
    split at e1
    · rename_i hk; rw [if_pos hk]; exact e1
    · rename_i hk
      rw [if_neg hk, fr_mono h (AObj.isFr_eq e1)]; rfl

theorem live_eq (h : HLe H' H) {o : Nat} (e : (H' o).live = true) : H o = H' o := h.eq (fun hd => by rw [hd] at e; cases e)

theorem ok_mono (h : HLe H' H) {c : CallH} (e : c.ok H' = true) : c.ok H = true := by
  simp only [CallH.ok, Bool.and_eq_true] at e ⊢
  obtain ⟨⟨⟨⟨⟨⟨e1, e2⟩, e3⟩, e4⟩, e5⟩, e6⟩, e7⟩ := e
  refine ⟨⟨⟨⟨⟨⟨e1, e2⟩, ?_⟩, e4⟩, renOK_mono h e5⟩, e6⟩, e7⟩
  rw [List.all_eq_true] at e3 ⊢
  intro o ho
  have := e3 o ho
  simp only [Bool.and_eq_true] at this ⊢
  exact ⟨by rw [live_eq h this.1]; exact this.1, this.2⟩

theorem evCall_mono (h : HLe H' H) {c : CallH} {ev : Operand → SV} {f : Operand} {args : List Operand} {E : Eff} (e : evCall P H' c ev f args = some E) : evCall P H c ev f args = some E := by
  have hselOf : ∀ {c' : CallH}, c'.sel = c.sel → c'.ok H' = true → c.sel.map H = c.sel.map H' := fun {c'} hs k2 => by
    apply List.map_congr_left
    intro o ho
    rw [← hs] at ho
    simp only [CallH.ok, Bool.and_eq_true] at k2
    obtain ⟨⟨⟨⟨⟨⟨_, _⟩, e3⟩, _⟩, _⟩, _⟩, _⟩ := k2
    rw [List.all_eq_true] at e3
    have := e3 o ho
    simp only [Bool.and_eq_true] at this
    exact live_eq h this.1
  unfold evCall at e ⊢
  split at e
  · rename_i f0 f hf
    split at e
    · rename_i hk
      obtain ⟨k1, k3⟩ := hk
      have hbx : f.all (fun o => (H o).isBx) = true := by
        rw [List.all_eq_true] at k3 ⊢
        intro o ho
        have := k3 o ho
        rw [h.eq (fun hd => by rw [hd] at this; cases this)]
        exact this
      rw [if_pos ⟨k1, hbx⟩]
      split at e
      · rename_i xs hxs
        rw [castAll_mono h hxs]
        simp only
        split at e
        · rename_i ys Hin hys hHin
          split at e
          · rename_i hq
            split at e
            · rename_i hok
              rw [hselOf (c' := c.hush Hin) rfl hok, hys, hHin]
              simp only
              rw [if_pos hq, if_pos (ok_mono h hok)]
              exact e
            · cases e
          · rename_i hq
            split at e
            · rename_i hok
              rw [hselOf (c' := c) rfl hok, hys, hHin]
              simp only
              rw [if_neg hq, if_pos (ok_mono h hok)]
              exact e
            · cases e
        · cases e
      · cases e
    · cases e
  · cases e

theorem coreE_mono (h : HLe H' H) {hn : Hint} {o : Oper} {T : Env} {E : Eff} (e : coreE P tt hn o T H' = some E) : coreE P tt hn o T H = some E := by
  unfold coreE at e ⊢
  split at e
  · exact e
  · split at e
    · split at e
      · split at e
        · rename_i hc; rw [evCall_mono h hc]; exact e
        · cases e
      · cases e
    · split at e
      · rename_i hc; rw [evOp_mono h hc]; exact e
      · cases e
  · split at e
    · rename_i hc; rw [evOp_mono h hc]; exact e
    · cases e

theorem frzL_mono : ∀ {os : List Nat} {H' H : Hp} {us : List (Nat × AObj)}, HLe H' H → frzL H' os = some us → frzL H os = some us ∧ HLe (applyUs H' us) (applyUs H us)
  | [], H', H, us, h, e => by cases e; exact ⟨rfl, h⟩
  | o :: os, H', H, us, h, e => by
    simp only [frzL] at e ⊢
    split at e
    · rename_i e' t xs ho
      split at e
      · rename_i us' hus
        cases e
        have ho' : H o = .vc e' t xs := by rw [h.eq (by rw [ho]; intro e; cases e)]; exact ho
        have hle : HLe (upd H' o (.vz t xs)) (upd H o (.vz t xs)) := fun q => by
          by_cases hq : q = o
          · subst hq; rw [upd_same, upd_same]; exact .inl rfl
          · rw [upd_other _ _ hq, upd_other _ _ hq]; exact h q
        obtain ⟨k1, k2⟩ := frzL_mono hle hus
        simp only [ho', k1]
        exact ⟨trivial, k2⟩
      · cases e
    · cases e

theorem stepE_mono (h : HLe H' H) {ops : Array Oper} {hn : Hint} {o : Oper} {T : Env} {E : Eff} (e : stepE P tt ops hn o T H' = some E) : stepE P tt ops hn o T H = some E := by
  unfold stepE at e ⊢
  split at e
  · split at e
    · rename_i us hus
      obtain ⟨k1, k2⟩ := frzL_mono h hus
      split at e
      · rename_i E' hE
        rw [k1]
        simp only [coreE_mono k2 hE]
        exact e
      · cases e
    · cases e
  · split at e
    · rename_i hg hc
      rw [hg, coreE_mono h hc]; exact e
    · cases e

/-- The slots that an operation looks at, its guard's too. -/
def looks (ops : Array Oper) (o : Oper) : List Nat :=
  reads o ++ match o.guard with
  | some (j, _) => (match (ops[j]?).bind (·.dst) with | some d => [d] | none => [])
  | none => []

theorem evalS_congr {T T' : Env} {o : Oper} {x : Operand} (hx : x ∈ o.op.operands.toList) (h : ∀ k ∈ reads o, T k = T' k) : evalS T x = evalS T' x := by
  cases x with
  | tmp t => exact h t (List.mem_flatMap.2 ⟨.tmp t, hx, by simp [readsO]⟩)
  | const v => rfl
  | func f => rfl
  | global g => rfl

theorem rdT_congr {T T' : Env} {rs : List Nat} (h : ∀ k ∈ rs, T k = T' k) : rdT rs T = rdT rs T' := by
  funext k
  unfold rdT
  split
  · rename_i hk; rw [h k (by simpa using hk)]
  · rfl

theorem flatMap_congr' {α β : Type} {l : List α} {f g : α → List β} (h : ∀ a ∈ l, f a = g a) : l.flatMap f = l.flatMap g := by
  induction l with
  | nil => rfl
  | cons a l ih => simp only [List.flatMap_cons, h a List.mem_cons_self, ih (fun b hb => h b (List.mem_cons_of_mem _ hb))]

theorem coreE_congr {hn : Hint} {o : Oper} {T T' : Env} (h : ∀ k ∈ reads o, T k = T' k) : coreE P tt hn o T H = coreE P tt hn o T' H := by
  have h1 := rdT_congr h
  have h2 : rdC (reads o) T = rdC (reads o) T' := flatMap_congr' (fun k hk => by rw [h k hk])
  unfold coreE
  rw [h1, h2]
  split
  · rename_i c x y ho
    have hm : ∀ z, z = c ∨ z = x ∨ z = y → evalS T z = evalS T' z := fun z hz => evalS_congr (by rw [ho]; rcases hz with rfl | rfl | rfl <;> simp [Op.operands]) h
    unfold evPick
    rw [hm c (.inl rfl), hm x (.inr (.inl rfl)), hm y (.inr (.inr rfl))]
  · rfl
  · rfl

theorem stepE_congr {ops : Array Oper} {hn : Hint} {o : Oper} {T T' : Env} (h : ∀ k ∈ looks ops o, T k = T' k) : stepE P tt ops hn o T H = stepE P tt ops hn o T' H := by
  have hcore : ∀ H, coreE P tt hn o T H = coreE P tt hn o T' H := fun H => coreE_congr (fun k hk => h k (List.mem_append_left _ hk))
  unfold stepE
  simp only [hcore]
  split
  · rfl
  · rename_i j want hg
    have : guardV ops T j want = guardV ops T' j want := by
      unfold guardV
      split
      · rename_i gs hgs
        rw [h gs (List.mem_append_right _ (by rw [hg]; simp [hgs]))]
      · rfl
    rw [this]
end

/-! ### The run in the text's order, with what each operation may lean on -/

def edges (o : Oper) : List Nat := (o.after.toList.filter (Region.binds .any)).map (·.on)

def dstL (o : Oper) : List Nat := match o.dst with | some d => [d] | none => []

/-- One behind the other: i before j. -/
def inOrder (ops : Array Oper) (anc : Nat → List Nat) (i j : Nat) : Bool := match ops[j]? with | some o => (edges o).contains i || (anc j).contains i | none => false

/-- What is said to come before, does. -/
def ancOK (ops : Array Oper) (anc : Nat → List Nat) (j : Nat) : Bool := match ops[j]? with | some o => (anc j).all fun i => (edges o).any fun e => e == i || (anc e).contains i | none => true

def disj (a b : List Nat) : Bool := a.all fun k => !(b.contains k)

/-- Operations i and j, i before j in the text: either the later one waits for the earlier one, or neither looks at nor writes what the other writes. -/
def apartOK (ops : Array Oper) (anc tch : Nat → List Nat) (i j : Nat) : Bool :=
  match ops[i]?, ops[j]? with
  | some oi, some oj => inOrder ops anc i j || (disj (dstL oi) (looks ops oj) && disj (dstL oj) (looks ops oi) && disj (dstL oi) (dstL oj) && disj (tch i) (tch j))
  | _, _ => false

/-- What of the objects operation i may lean on: what no operation touches that may come before or behind it. -/
def leanH (ops : Array Oper) (anc tch : Nat → List Nat) (i : Nat) (H : Hp) : Hp := fun o =>
  if (List.range ops.size).all (fun j => !((tch j).contains o) || j == i || (if j < i then inOrder ops anc j i else inOrder ops anc i j)) = true then H o else .dd

def tchOf : List (Nat × List Nat) → Nat → List Nat
  | [], _ => []
  | (j, l) :: r, i => if j = i then l else tchOf r i

def drawR (P : Program) (tt : Tab) (N : Nat) (ops : Array Oper) (hs : List (Nat × Hint)) (anc tch : Nat → List Nat) : List Nat → Env → Hp → Option (Prop × List (Nat × List (Nat × SV)) × List (Nat × List (Nat × AObj)))
  | [], T, H => some (True, [], [])
  | i :: r, T, H =>
    match ops[i]? with
    | none => none
    | some o =>
      match stepE P tt ops (hintOf hs i) o T (leanH ops anc tch i H) with
      | some E =>
        if dstOK N o = true ∧ (edges o).all (fun j => decide (j < i)) = true ∧ ancOK ops anc i = true ∧ (E.us.map (·.1)).all (fun k => (tch i).contains k) = true ∧ (List.range i).all (fun j => apartOK ops anc tch j i) = true then
          match drawR P tt N ops hs anc tch r (putE T o.dst E.v) (applyUs H E.us) with
          | some (C, lt, lh) => some (conjL E.C C, (i, (dstL o).map fun d => (d, E.v)) :: lt, (i, E.us) :: lh)
          | none => none
        else none
      | none => none

section
variable {P : Program} {tt : Tab} {N : Nat} {ops : Array Oper} {hs : List (Nat × Hint)} {anc tch : Nat → List Nat}

def allS : Nat → Bool := fun _ => true

theorem putE_app (T : Env) (o : Oper) (v : SV) : putE T o.dst v = app T ((dstL o).map fun d => (d, v)) := by
  unfold dstL
  cases o.dst <;> rfl

theorem keys_dst (o : Oper) (v : SV) : keys ((dstL o).map fun d => (d, v)) = dstL o := by
  unfold dstL
  cases o.dst <;> rfl

structure Stp (P : Program) (tt : Tab) (N : Nat) (ops : Array Oper) (hs : List (Nat × Hint)) (anc tch : Nat → List Nat) (T : Env) (H : Hp) (lt : List (Nat × List (Nat × SV))) (lh : List (Nat × List (Nat × AObj))) (r1 : List Nat) (i : Nat) (r2 : List Nat) (o : Oper) (E : Eff)
    (lt1 lt2 : List (Nat × List (Nat × SV))) (lh1 lh2 : List (Nat × List (Nat × AObj))) : Prop where
  op : ops[i]? = some o
  t : lt = lt1 ++ (i, (dstL o).map fun d => (d, E.v)) :: lt2
  h : lh = lh1 ++ (i, E.us) :: lh2
  t1 : lt1.map (·.1) = r1
  t2 : lt2.map (·.1) = r2
  h1 : lh1.map (·.1) = r1
  h2 : lh2.map (·.1) = r2
  e : stepE P tt ops (hintOf hs i) o (GS allS lt1 T) (leanH ops anc tch i (GS allS lh1 H)) = some E
  C : ∀ p ∈ E.C, p
  d : dstOK N o = true
  ed : (edges o).all (fun j => decide (j < i)) = true
  an : ancOK ops anc i = true
  us : (E.us.map (·.1)).all (fun k => (tch i).contains k) = true
  ap : (List.range i).all (fun j => apartOK ops anc tch j i) = true

theorem drawR_spec : ∀ (r : List Nat) (T : Env) (H : Hp) {C : Prop} {lt : List (Nat × List (Nat × SV))} {lh : List (Nat × List (Nat × AObj))}, drawR P tt N ops hs anc tch r T H = some (C, lt, lh) → C →
    lt.map (·.1) = r ∧ lh.map (·.1) = r ∧ ∀ (r1 : List Nat) (i : Nat) (r2 : List Nat), r = r1 ++ i :: r2 → ∃ o E lt1 lt2 lh1 lh2, Stp P tt N ops hs anc tch T H lt lh r1 i r2 o E lt1 lt2 lh1 lh2
  | [], T, H, C, lt, lh, h, hC => by
    simp only [drawR, Option.some.injEq, Prod.mk.injEq] at h
    obtain ⟨_, rfl, rfl⟩ := h
    exact ⟨rfl, rfl, fun r1 i r2 e => by simp at e⟩
  | i0 :: r, T, H, C, lt, lh, h, hC => by
    simp only [drawR] at h
    split at h
    · cases h
    · rename_i o hi
      split at h
      · rename_i E he
        split at h
        · rename_i hk
          obtain ⟨k1, k2, k2', k3, k4⟩ := hk
          split at h
          · rename_i C' lt' lh' hr
            cases h
            obtain ⟨hC1, hC2⟩ := conjL_spec hC
            obtain ⟨g1, g2, g3⟩ := drawR_spec r _ _ hr hC2
            refine ⟨by simp [g1], by simp [g2], fun r1 i r2 e => ?_⟩
            cases r1 with
            | nil =>
              simp only [List.nil_append, List.cons.injEq] at e
              obtain ⟨rfl, rfl⟩ := e
              exact ⟨o, E, [], lt', [], lh', ⟨hi, rfl, rfl, rfl, g1, rfl, g2, he, hC1, k1, k2, k2', k3, k4⟩⟩
            | cons j r1 =>
              simp only [List.cons_append, List.cons.injEq] at e
              obtain ⟨rfl, e⟩ := e
              obtain ⟨o', E', lt1, lt2, lh1, lh2, s⟩ := g3 r1 i r2 e
              refine ⟨o', E', (i0, (dstL o).map fun d => (d, E.v)) :: lt1, lt2, (i0, E.us) :: lh1, lh2, ⟨s.op, by rw [s.t]; rfl, by rw [s.h]; rfl, by simp [s.t1], s.t2, by simp [s.h1], s.h2, ?_, s.C, s.d, s.ed, s.an, s.us, s.ap⟩⟩
              have := s.e
              rw [putE_app] at this
              exact this
          · cases h
        · cases h
      · cases h

theorem disj_spec {a b : List Nat} (h : disj a b = true) {k : Nat} (ha : k ∈ a) (hb : k ∈ b) : False := by
  unfold disj at h
  rw [List.all_eq_true] at h
  have := h k ha
  simp at this
  exact this hb

theorem cnt_lt {p p' : Nat → Bool} {i : Nat} : ∀ {l : List Nat}, (∀ j ∈ l, p' j = true → p j = true) → i ∈ l → p i = true → p' i = false → (l.filter p').length < (l.filter p).length
  | [], _, h, _, _ => by cases h
  | a :: l, hp, hi, h1, h2 => by
    have hle : (l.filter p').length ≤ (l.filter p).length := by
      clear hi
      have hp' : ∀ j ∈ l, p' j = true → p j = true := fun j hj => hp j (List.mem_cons_of_mem _ hj)
      clear hp
      induction l with
      | nil => exact Nat.le_refl _
      | cons b l ih =>
        have ih := ih (fun j hj => hp' j (List.mem_cons_of_mem _ hj))
        have hb := hp' b List.mem_cons_self
        simp only [List.filter_cons]
        cases hb1 : p' b
        · cases hb2 : p b <;> simp <;> omega
        · rw [hb hb1]; simp; omega
    by_cases hai : a = i
    · subst hai
      simp only [List.filter_cons, h1, h2, if_true, Bool.false_eq_true, if_false, List.length_cons]
      omega
    · have hil : i ∈ l := (List.mem_cons.1 hi).resolve_left (fun e => hai e.symm)
      have ih := cnt_lt (fun j hj => hp j (List.mem_cons_of_mem _ hj)) hil h1 h2
      have ha := hp a List.mem_cons_self
      simp only [List.filter_cons]
      cases hb1 : p' a
      · cases hb2 : p a <;> simp <;> omega
      · rw [ha hb1]; simp; omega

def lst (listed : Array Bool) : Nat → Bool := fun i => listed.getD i false

theorem ready_spec {listed : Array Bool} {i : Nat} {o : Oper} (ho : ops[i]? = some o) : i ∈ Region.ready .any ops listed ↔ i < ops.size ∧ listed.getD i true = false ∧ ∀ j ∈ edges o, lst listed j = true := by
  unfold Region.ready
  simp only [List.mem_filter, List.mem_range, ho, Option.map_some, Option.getD_some, Bool.and_eq_true, Bool.not_eq_true', Array.all_eq_true', Bool.or_eq_true]
  constructor
  · rintro ⟨h1, h2, h3⟩
    refine ⟨h1, h2, fun j hj => ?_⟩
    obtain ⟨e, he, rfl⟩ := List.mem_map.1 hj
    obtain ⟨he1, he2⟩ := List.mem_filter.1 he
    rcases h3 e (by simpa using he1) with h | h
    · rw [he2] at h; cases h
    · exact h
  · rintro ⟨h1, h2, h3⟩
    refine ⟨h1, h2, fun e he => ?_⟩
    cases hb : Region.binds .any e with
    | false => exact .inl rfl
    | true => exact .inr (h3 e.on (List.mem_map.2 ⟨e, List.mem_filter.2 ⟨by simpa using he, hb⟩, rfl⟩))

theorem lst_set {listed : Array Bool} {i : Nat} (hi : i < listed.size) : lst (listed.setIfInBounds i true) = setB (lst listed) i := by
  funext j
  show (listed.setIfInBounds i true).getD j false = if j = i then true else listed.getD j false
  rw [Array.getD_eq_getD_getElem?, Array.getD_eq_getD_getElem?, Array.getElem?_setIfInBounds]
  by_cases h : i = j
  · subst h; simp [hi]
  · rw [if_neg h, if_neg (fun e => h e.symm)]

theorem anyRun (hP : TabOK P tt) {T0 : Env} {H0 : Hp} {C : Prop} {lt : List (Nat × List (Nat × SV))} {lh : List (Nat × List (Nat × AObj))} (hr : drawR P tt N ops hs anc tch (List.range ops.size) T0 H0 = some (C, lt, lh)) (hC : C) {kp : List Nat} {Q : Exit → Env → Hp → Prop}
    (hq : Q .normal (GS allS lt T0) (GS allS lh H0)) {Q1 : Exit → Act → World → Prop} {ro : Option Nat} {n : Nat} : ∀ (fuel : Nat) (listed : Array Bool) (a : Act) (W : World) (St : Nat → Nat → Prop) (ρ : Nat → Option Value) (F : Nat → Option Nat),
    listed.size = ops.size → (∀ i o, ops[i]? = some o → lst listed i = true → ∀ j ∈ edges o, lst listed j = true) → ((List.range ops.size).filter (fun i => !lst listed i)).length ≤ fuel → a.tmps.size = N →
    Sim (GS (lst listed) lt T0) (GS (lst listed) lh H0) a.tmps a.defers W St ρ F → (∀ e b w, APost N kp Q a.defers W St ρ F e b w → Q1 e b w) → wpAnyIn (wideR ro) n P .any ops Q1 fuel listed a W := by
  obtain ⟨gt, gh, gs⟩ := drawR_spec _ _ _ hr hC
  have hget : ∀ i, i < ops.size → ∃ o E lt1 lt2 lh1 lh2, Stp P tt N ops hs anc tch T0 H0 lt lh (List.range i) i ((List.range (ops.size - i - 1)).map (· + (i + 1))) o E lt1 lt2 lh1 lh2 := fun i hi => by
    refine gs (List.range i) i _ ?_
    apply List.ext_getElem?
    intro k
    by_cases h1 : k < i
    · rw [List.getElem?_append_left (by simpa using h1)]
      simp [h1, Nat.lt_trans h1 hi]
    · rw [List.getElem?_append_right (by simpa using h1)]
      simp only [List.length_range]
      by_cases h2 : k = i
      · subst h2; simp [hi]
      · rw [show k - i = (k - i - 1) + 1 by omega, List.getElem?_cons_succ]
        by_cases h3 : k < ops.size
        · have : k - i - 1 < ops.size - i - 1 := by omega
          rw [List.getElem?_range h3, List.getElem?_map, List.getElem?_range this, Option.map_some]
          congr 1
          omega
        · rw [List.getElem?_eq_none (by simp; omega), List.getElem?_eq_none (by simp; omega)]
  have hanc : ∀ listed : Array Bool, (∀ i o, ops[i]? = some o → lst listed i = true → ∀ j ∈ edges o, lst listed j = true) → ∀ j, j < ops.size → (∀ o, ops[j]? = some o → ∀ e ∈ edges o, lst listed e = true) → ∀ i ∈ anc j, lst listed i = true := fun listed hcl j => by
    induction j using Nat.strongRecOn with
    | _ j ih =>
      intro hj hed i hi
      obtain ⟨o, E, _, _, _, _, s⟩ := hget j hj
      have ha := s.an
      unfold ancOK at ha
      rw [s.op] at ha
      have h1 := List.all_eq_true.1 ha i hi
      obtain ⟨e, he, h2⟩ := List.any_eq_true.1 h1
      have hle := hed o s.op e he
      simp only [Bool.or_eq_true, beq_iff_eq] at h2
      rcases h2 with h2 | h2
      · rw [← h2]; exact hle
      · have hej : e < j := of_decide_eq_true (List.all_eq_true.1 s.ed e he)
        exact ih e hej (by omega) (fun o' ho' e' he' => hcl e o' ho' hle e' he') i (by simpa using h2)
  -- all have been taken where none is ready
  have hdone : ∀ listed : Array Bool, listed.size = ops.size → Region.ready .any ops listed = [] → ∀ i, i < ops.size → lst listed i = true := fun listed hsz hrd i => by
    induction i using Nat.strongRecOn with
    | _ i ih =>
      intro hi
      cases hl : lst listed i with
      | true => rfl
      | false =>
        obtain ⟨o, E, _, _, _, _, s⟩ := hget i hi
        have hm : i ∈ Region.ready .any ops listed := (ready_spec s.op).2 ⟨hi, by
            unfold lst at hl
            rw [Array.getD_eq_getD_getElem?] at hl ⊢
            have : i < listed.size := by omega
            simpa [this] using hl, fun j hj => by
            have := List.all_eq_true.1 s.ed j hj
            have hji : j < i := of_decide_eq_true this
            exact ih j hji (by omega)⟩
        rw [hrd] at hm; cases hm
  have hall : ∀ listed : Array Bool, (∀ i, i < ops.size → lst listed i = true) → GS (lst listed) lt T0 = GS allS lt T0 ∧ GS (lst listed) lh H0 = GS allS lh H0 := fun listed h => by
    constructor
    · funext k
      refine GS_congr (fun p hp _ => ?_) rfl
      have hm : p.1 ∈ List.range ops.size := by rw [← gt]; exact List.mem_map_of_mem hp
      exact h p.1 (by simpa using hm)
    · funext k
      refine GS_congr (fun p hp _ => ?_) rfl
      have hm : p.1 ∈ List.range ops.size := by rw [← gh]; exact List.mem_map_of_mem hp
      exact h p.1 (by simpa using hm)
  have hfin : ∀ (listed : Array Bool) (a : Act) (W : World) (St : Nat → Nat → Prop) (ρ : Nat → Option Value) (F : Nat → Option Nat), (∀ i, i < ops.size → lst listed i = true) → a.tmps.size = N →
      Sim (GS (lst listed) lt T0) (GS (lst listed) lh H0) a.tmps a.defers W St ρ F → (∀ e b w, APost N kp Q a.defers W St ρ F e b w → Q1 e b w) → Q1 .normal a W := fun listed a W St ρ F h hN hS hQ => by
    obtain ⟨e1, e2⟩ := hall listed h
    rw [e1, e2] at hS
    exact hQ _ _ _ (⟨(fun e => by cases e), hN, .refl _ _, _, _, St, ρ, F, hq, hS, .refl _ _ _ _ _⟩)
  intro fuel
  induction fuel with
  | zero =>
    intro listed a W St ρ F hsz hcl hf hN hS hQ
    have h0 : ∀ i, i < ops.size → lst listed i = true := fun i hi => by
      cases hl : lst listed i with
      | true => rfl
      | false =>
        have : i ∈ (List.range ops.size).filter (fun i => !lst listed i) := List.mem_filter.2 ⟨by simpa using hi, by simp [hl]⟩
        have := List.length_pos_of_mem this
        omega
    refine ⟨?_, hfin listed a W St ρ F h0 hN hS hQ⟩
    apply List.eq_nil_iff_forall_not_mem.2
    intro i hi
    have hlt : i < ops.size := by
      unfold Region.ready at hi
      have := (List.mem_filter.1 hi).1
      simpa using this
    obtain ⟨o, _, _, _, _, _, s⟩ := hget i hlt
    have h1 := ((ready_spec s.op).1 hi).2.1
    have h2 := h0 i hlt
    unfold lst at h2
    rw [Array.getD_eq_getD_getElem?] at h1 h2
    have : i < listed.size := by omega
    simp [this] at h1 h2
    rw [h1] at h2; cases h2
  | succ fuel ih =>
    intro listed a W St ρ F hsz hcl hf hN hS hQ
    refine ⟨fun hrd => hfin listed a W St ρ F (hdone listed hsz hrd) hN hS hQ, fun i hi => ?_⟩
    have hlt : i < ops.size := by
      unfold Region.ready at hi
      have := (List.mem_filter.1 hi).1
      simpa using this
    obtain ⟨o, E, lt1, lt2, lh1, lh2, s⟩ := hget i hlt
    obtain ⟨_, hun, hed⟩ := (ready_spec s.op).1 hi
    have hSi : lst listed i = false := by
      unfold lst
      rw [Array.getD_eq_getD_getElem?] at hun ⊢
      have : i < listed.size := by omega
      simpa [this] using hun
    -- what stands before, what behind
    have hbef : ∀ j, j < i → inOrder ops anc j i = true → lst listed j = true := fun j hj ho => by
      unfold inOrder at ho
      rw [s.op] at ho
      simp only [Bool.or_eq_true] at ho
      rcases ho with ho | ho
      · exact hed j (by simpa using ho)
      · exact hanc listed hcl i hlt (fun o' ho' => by rw [s.op] at ho'; cases ho'; exact hed) j (by simpa using ho)
    have haft : ∀ j, inOrder ops anc i j = true → lst listed j = false := fun j ho => by
      unfold inOrder at ho
      cases hj : ops[j]? with
      | none => rw [hj] at ho; cases ho
      | some oj =>
        rw [hj] at ho
        cases hl : lst listed j with
        | false => rfl
        | true =>
          simp only [Bool.or_eq_true] at ho
          have hjl : j < ops.size := (Array.getElem?_eq_some_iff.1 hj).1
          have : lst listed i = true := by
            rcases ho with ho | ho
            · exact hcl j oj hj hl i (by simpa using ho)
            · exact hanc listed hcl j hjl (fun o' ho' => hcl j o' ho' hl) i (by simpa using ho)
          rw [hSi] at this; cases this
    have hkt : ∀ p ∈ lt, ∃ oj Ej, ops[p.1]? = some oj ∧ keys p.2 = dstL oj ∧ (∀ j, j < p.1 → apartOK ops anc tch j p.1 = true) ∧ p.1 < ops.size := fun p hp => by
      have hm : p.1 ∈ List.range ops.size := by rw [← gt]; exact List.mem_map_of_mem hp
      have hpl : p.1 < ops.size := by simpa using hm
      obtain ⟨oj, Ej, a1, a2, _, _, sj⟩ := hget p.1 hpl
      refine ⟨oj, Ej, sj.op, ?_, fun j hj => by have := List.all_eq_true.1 sj.ap j (by simpa using hj); exact this, hpl⟩
      have hu : p = (p.1, (dstL oj).map fun d => (d, Ej.v)) := by
        have hp' := hp
        rw [sj.t] at hp'
        rcases List.mem_append.1 hp' with h | h
        · have : p.1 ∈ List.range p.1 := by rw [← sj.t1]; exact List.mem_map_of_mem h
          simp at this
        · rcases List.mem_cons.1 h with h | h
          · exact h
          · have : p.1 ∈ (List.range (ops.size - p.1 - 1)).map (· + (p.1 + 1)) := by rw [← sj.t2]; exact List.mem_map_of_mem h
            obtain ⟨x, _, hx⟩ := List.mem_map.1 this
            omega
      rw [hu]
      exact keys_dst oj Ej.v
    have hkh : ∀ p ∈ lh, (∀ k ∈ keys p.2, k ∈ tch p.1) ∧ (∀ j, j < p.1 → apartOK ops anc tch j p.1 = true) ∧ p.1 < ops.size := fun p hp => by
      have hm : p.1 ∈ List.range ops.size := by rw [← gh]; exact List.mem_map_of_mem hp
      have hpl : p.1 < ops.size := by simpa using hm
      obtain ⟨oj, Ej, _, _, a1, a2, sj⟩ := hget p.1 hpl
      refine ⟨fun k hk => ?_, fun j hj => by have := List.all_eq_true.1 sj.ap j (by simpa using hj); exact this, hpl⟩
      have hu : p = (p.1, Ej.us) := by
        have hp' := hp
        rw [sj.h] at hp'
        rcases List.mem_append.1 hp' with h | h
        · have : p.1 ∈ List.range p.1 := by rw [← sj.h1]; exact List.mem_map_of_mem h
          simp at this
        · rcases List.mem_cons.1 h with h | h
          · exact h
          · have : p.1 ∈ (List.range (ops.size - p.1 - 1)).map (· + (p.1 + 1)) := by rw [← sj.h2]; exact List.mem_map_of_mem h
            obtain ⟨x, _, hx⟩ := List.mem_map.1 this
            omega
      rw [hu] at hk
      have := List.all_eq_true.1 sj.us k hk
      simpa using this
    have hap := fun j (hj : j < i) => (show apartOK ops anc tch j i = true from List.all_eq_true.1 s.ap j (by simpa using hj))
    have in1 : ∀ p ∈ lt1, p.1 < i ∧ p ∈ lt := fun p hp => by
      have hm : p.1 ∈ List.range i := by rw [← s.t1]; exact List.mem_map_of_mem hp
      exact ⟨by simpa using hm, by rw [s.t]; exact List.mem_append_left _ hp⟩
    have in2 : ∀ p ∈ lt2, i < p.1 ∧ p ∈ lt := fun p hp => by
      have hm : p.1 ∈ (List.range (ops.size - i - 1)).map (· + (i + 1)) := by rw [← s.t2]; exact List.mem_map_of_mem hp
      obtain ⟨x, _, hx⟩ := List.mem_map.1 hm
      exact ⟨by omega, by rw [s.t]; exact List.mem_append_right _ (List.mem_cons_of_mem _ hp)⟩
    have ih1 : ∀ p ∈ lh1, p.1 < i ∧ p ∈ lh := fun p hp => by
      have hm : p.1 ∈ List.range i := by rw [← s.h1]; exact List.mem_map_of_mem hp
      exact ⟨by simpa using hm, by rw [s.h]; exact List.mem_append_left _ hp⟩
    have ih2 : ∀ p ∈ lh2, i < p.1 ∧ p ∈ lh := fun p hp => by
      have hm : p.1 ∈ (List.range (ops.size - i - 1)).map (· + (i + 1)) := by rw [← s.h2]; exact List.mem_map_of_mem hp
      obtain ⟨x, _, hx⟩ := List.mem_map.1 hm
      exact ⟨by omega, by rw [s.h]; exact List.mem_append_right _ (List.mem_cons_of_mem _ hp)⟩
    have hT : ∀ k ∈ looks ops o, GS allS lt1 T0 k = GS (lst listed) lt T0 k := fun k hk => by
      rw [s.t, GS_append]
      have e2 : GS (lst listed) ((i, (dstL o).map fun d => (d, E.v)) :: lt2) (GS (lst listed) lt1 T0) k = GS (lst listed) lt1 T0 k := by
        refine GS_none fun p hp hkp => ?_
        rcases List.mem_cons.1 hp with rfl | hp
        · exact hSi
        · obtain ⟨hlt', hpl⟩ := in2 p hp
          obtain ⟨oj, _, ho, hkd, hapj, _⟩ := hkt p hpl
          have ha := hapj i hlt'
          unfold apartOK at ha
          rw [s.op, ho] at ha
          simp only [Bool.or_eq_true, Bool.and_eq_true] at ha
          rcases ha with ha | ⟨⟨⟨_, ha⟩, _⟩, _⟩
          · exact haft p.1 ha
          · exact (disj_spec ha (by rw [← hkd]; exact hkp) hk).elim
      rw [e2]
      refine GS_congr (fun p hp hkp => ?_) rfl
      obtain ⟨hlt', hpl⟩ := in1 p hp
      obtain ⟨oj, _, ho, hkd, _, _⟩ := hkt p hpl
      have ha := hap p.1 hlt'
      unfold apartOK at ha
      rw [ho, s.op] at ha
      simp only [Bool.or_eq_true, Bool.and_eq_true] at ha
      rcases ha with ha | ⟨⟨⟨ha, _⟩, _⟩, _⟩
      · exact (hbef p.1 hlt' ha).symm
      · exact (disj_spec ha (by rw [← hkd]; exact hkp) hk).elim
    have hH : HLe (leanH ops anc tch i (GS allS lh1 H0)) (GS (lst listed) lh H0) := fun q => by
      unfold leanH
      split
      · rename_i hl
        left
        rw [List.all_eq_true] at hl
        have hlo : ∀ j, j < ops.size → q ∈ tch j → j ≠ i → (j < i → inOrder ops anc j i = true) ∧ (¬ j < i → inOrder ops anc i j = true) := fun j hj hq hne => by
          have := hl j (by simpa using hj)
          simp only [Bool.or_eq_true, Bool.not_eq_true', beq_iff_eq] at this
          rcases this with (h | h) | h
          · simp at h; exact absurd hq h
          · exact absurd h hne
          · split at h
            · rename_i hji; exact ⟨fun _ => h, fun hn => absurd hji hn⟩
            · rename_i hji; exact ⟨fun hn => absurd hn hji, fun _ => h⟩
        rw [s.h, GS_append]
        have e2 : GS (lst listed) ((i, E.us) :: lh2) (GS (lst listed) lh1 H0) q = GS (lst listed) lh1 H0 q := by
          refine GS_none fun p hp hkp => ?_
          rcases List.mem_cons.1 hp with rfl | hp
          · exact hSi
          · obtain ⟨hlt', hpl⟩ := ih2 p hp
            obtain ⟨hk1, _, hk3⟩ := hkh p hpl
            exact haft p.1 ((hlo p.1 hk3 (hk1 q hkp) (by omega)).2 (by omega))
        rw [e2]
        refine GS_congr (fun p hp hkp => ?_) rfl
        obtain ⟨hlt', hpl⟩ := ih1 p hp
        obtain ⟨hk1, _, hk3⟩ := hkh p hpl
        exact (hbef p.1 hlt' ((hlo p.1 hk3 (hk1 q hkp) (by omega)).1 hlt')).symm
      · exact .inr rfl
    have hstep : stepE P tt ops (hintOf hs i) o (GS (lst listed) lt T0) (GS (lst listed) lh H0) = some E := by
      rw [← stepE_congr (T := GS allS lt1 T0) hT]
      exact stepE_mono hH s.e
    refine step_sound hP hS s.op hstep s.C fun u W' St' ρ' F' g1 g2 g3 g4 g5 => ?_
    obtain ⟨k1, k2, k3⟩ := sim_put hS (o := o) (fun d e => hN ▸ dstOK_spec s.d d e) g1 g2 g3 g4
    have hli : i < listed.size := by omega
    have hset := lst_set (listed := listed) hli
    have eT : putE (GS (lst listed) lt T0) o.dst E.v = GS (lst (listed.setIfInBounds i true)) lt T0 := by
      rw [hset, putE_app, s.t]
      refine (GS_set (fun p hp => Nat.ne_of_lt (in1 p hp).1) (fun p hp => (Nat.ne_of_lt (in2 p hp).1).symm) hSi fun p hp k hk hkp => ?_).symm
      obtain ⟨hlt', hpl⟩ := in2 p hp
      obtain ⟨oj, _, ho, hkd, hapj, _⟩ := hkt p hpl
      have ha := hapj i hlt'
      unfold apartOK at ha
      rw [s.op, ho] at ha
      simp only [Bool.or_eq_true, Bool.and_eq_true] at ha
      rw [keys_dst] at hk
      rcases ha with ha | ⟨⟨_, ha⟩, _⟩
      · exact haft p.1 ha
      · exact (disj_spec ha hk (by rw [← hkd]; exact hkp)).elim
    have eH : applyUs (GS (lst listed) lh H0) E.us = GS (lst (listed.setIfInBounds i true)) lh H0 := by
      rw [hset, s.h]
      refine (GS_set (fun p hp => Nat.ne_of_lt (ih1 p hp).1) (fun p hp => (Nat.ne_of_lt (ih2 p hp).1).symm) hSi fun p hp k hk hkp => ?_).symm
      obtain ⟨hlt', hpl⟩ := ih2 p hp
      obtain ⟨hk1, hapj, _⟩ := hkh p hpl
      have ha := hapj i hlt'
      unfold apartOK at ha
      have hik : k ∈ tch i := by
        have := List.all_eq_true.1 s.us k hk
        simpa using this
      cases hoj : ops[p.1]? with
      | none => rw [s.op, hoj] at ha; cases ha
      | some oj =>
        rw [s.op, hoj] at ha
        simp only [Bool.or_eq_true, Bool.and_eq_true] at ha
        rcases ha with ha | ⟨_, ha⟩
        · exact haft p.1 ha
        · exact (disj_spec ha hik (hk1 k hkp)).elim
    rw [eT, eH] at k1
    refine ih (listed.setIfInBounds i true) _ W' St' ρ' F' (by simpa using hsz) (fun j oj hj hl q hq => ?_) ?_ (k2.trans hN) k1 fun e b w hp => ?_
    · rw [hset] at hl ⊢
      unfold setB at hl ⊢
      split
      · rfl
      · split at hl
        · rename_i e
          subst e
          rw [s.op] at hj
          cases hj
          exact hed q hq
        · exact hcl j oj hj hl q hq
    · have := cnt_lt (p := fun j => !lst listed j) (p' := fun j => !lst (listed.setIfInBounds i true) j) (i := i) (l := List.range ops.size) (fun j _ h => by
          rw [hset] at h
          unfold setB at h
          split at h
          · cases h
          · exact h) (by simpa using hlt) (by simp [hSi]) (by rw [hset]; simp [setB])
      omega
    · rw [k3] at hp
      exact hQ e b w (APost.step (.refl _ _) (g5 kp) e b w hp)
end
end Al
end Go.Proofs.Ytiplmapndahmmaa
