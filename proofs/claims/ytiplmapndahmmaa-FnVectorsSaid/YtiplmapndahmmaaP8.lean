/- Plain laws: plans turned round, by the program and by the reference. -/
import Derived.Test.YtiplmapndahmmaaP7
namespace Go.Proofs.Ytiplmapndahmmaa
open Al
set_option linter.unusedVariables false
set_option linter.unusedSimpArgs false
namespace Pu

def incAt (l : List Int) (v : Int) : List Int := l.set v.toNat (l.getD v.toNat 0 + 1)
def valsOf (ss : List Stp) (os : List Int) : List Int := (ss.flatMap fun s => [s.1, s.2]) ++ os
def usesOf (n : Int) (ss : List Stp) (os : List Int) : List Int := (valsOf ss os).foldl incAt (List.replicate (n + ss.length).toNat 0)
def canT (n : Int) (ss : List Stp) (os : List Int) : Bool := decide (os.length > 0) && !(usesOf n ss os).any (· == 0)

theorem incAt_len (l : List Int) (v : Int) : (incAt l v).length = l.length := by simp [incAt]
def InB (B : Int) (l : List Int) : Prop := ∀ x ∈ l, 0 ≤ x ∧ x ≤ B
theorem InB.get {B : Int} {l : List Int} (h : InB B l) (hB : 0 ≤ B) (i : Nat) : 0 ≤ l.getD i 0 ∧ l.getD i 0 ≤ B := by
  by_cases hi : i < l.length
  · exact h _ (getD_mem hi)
  · rw [List.getD_eq_getElem?_getD, List.getElem?_eq_none (by omega)]; exact ⟨Int.le_refl _, hB⟩
theorem InB.inc {B : Int} {l : List Int} (h : InB B l) (hB : 0 ≤ B) (v : Int) : InB (B + 1) (incAt l v) := by
  intro x hx
  rcases List.mem_or_eq_of_mem_set hx with hx | rfl
  · have := h x hx; omega
  · have := h.get hB v.toNat; omega

theorem stepsOk_get : ∀ (ss : List Stp) (m : Int) (i : Nat), stepsOk m ss = true → i < ss.length → 0 ≤ (ss.getD i (0, 0)).1 ∧ (ss.getD i (0, 0)).1 ≤ (ss.getD i (0, 0)).2 ∧ (ss.getD i (0, 0)).2 < m + i
  | s :: ss, m, 0, h, _ => by simp [stepsOk] at h; simpa using h.1
  | s :: ss, m, i + 1, h, hi => by
    simp only [stepsOk, Bool.and_eq_true] at h
    have := stepsOk_get ss (m + 1) i h.2 (by simpa using hi)
    rw [List.getD_cons_succ]; omega
  | [], _, _, _, hi => by simp at hi

theorem F_i_Plan_uses_wzeL3_eq (fu : Nat) (os : List Int) (M : Nat) (hM : M ≤ 100) (ho : os.length ≤ 6) (hos : os.all (inR 0 ((M : Int) - 1)) = true) :
    ∀ (m : Nat) (i : Int) (l : List Int), 0 ≤ i → i ≤ (os.length : Int) → (os.length : Int) - i < m → l.length = M → InB (100 + i) l →
      F_i_Plan_uses_wzeL3 fu os m i l = some ((os.drop i.toNat).foldl incAt l) := by
  intro m
  induction m with
  | zero => intros; omega
  | succ m ih =>
    intro i l i0 i1 hm hl hb
    by_cases h : i < (os.length : Int)
    · have hv := inR_iff.1 (List.all_eq_true.1 hos _ (getD_mem (xs := os) (k := i.toNat) (by omega)))
      have hg := hb.get (by omega) (os.getD i.toNat 0).toNat
      rw [F_i_Plan_uses_wzeL3, itd_t h, chk_of ⟨i0, h⟩, chk_of (by omega), w64 (x := i + 1) (by omega), w64 (x := _ + 1) (by omega), drop_cons' os 0 i0 h, List.foldl_cons]
      exact ih (i + 1) _ (by omega) (by omega) (by omega) (by simp [hl]) (by have := hb.inc (by omega) (os.getD i.toNat 0); rwa [Int.add_assoc] at this)
    · rw [F_i_Plan_uses_wzeL3, itd_f h, drop_end os (by omega)]; rfl

theorem F_i_Plan_uses_wzeL4_eq (fu : Nat) (ss : List Stp) (os : List Int) (n : Int) (M : Nat) (hf : 1000 ≤ fu) (hn : 0 ≤ n) (hM : (M : Int) = n + ss.length) (hM' : M ≤ 46) (hs : ss.length ≤ 40) (hss : stepsOk n ss = true) (ho : os.length ≤ 6) (hos : os.all (inR 0 ((M : Int) - 1)) = true) :
    ∀ (m : Nat) (i : Int) (l : List Int), 0 ≤ i → i ≤ (ss.length : Int) → (ss.length : Int) - i < m → l.length = M → InB (2 * i) l →
      F_i_Plan_uses_wzeL4 fu ss os m i l = some ((valsOf (ss.drop i.toNat) os).foldl incAt l) := by
  intro m
  induction m with
  | zero => intros; omega
  | succ m ih =>
    intro i l i0 i1 hm hl hb
    by_cases h : i < (ss.length : Int)
    · have hv := stepsOk_get ss n i.toNat hss (by omega)
      rw [drop_cons' ss (0, 0) i0 h, F_i_Plan_uses_wzeL4, itd_t h, chk_of ⟨i0, h⟩]
      generalize ss.getD i.toNat (0, 0) = s at hv
      have hg := hb.get (by omega) s.1.toNat
      rw [chk_of (by omega), w64 (x := l.getD s.1.toNat 0 + 1) (by omega)]
      have hb2 := hb.inc (by omega) s.1
      have hg2 := hb2.get (by omega) s.2.toNat
      rw [chk_of (by simp only [List.length_append, List.length_cons, List.length_nil, List.length_replicate, List.length_set, List.length_map, List.length_range, List.length_take, List.length_drop, List.length_zipWith, List.length_reverse]; omega)]
      have e : l.set s.1.toNat (l.getD s.1.toNat 0 + 1) = incAt l s.1 := rfl
      rw [e, w64 (x := (incAt l s.1).getD s.2.toNat 0 + 1) (by omega), w64 (x := i + 1) (by omega)]
      have e2 : (incAt l s.1).set s.2.toNat ((incAt l s.1).getD s.2.toNat 0 + 1) = incAt (incAt l s.1) s.2 := rfl
      rw [e2, ih (i + 1) _ (by omega) (by omega) (by omega) (by rw [incAt_len, incAt_len, hl]) (by have := hb2.inc (by omega) s.2; rwa [show 2 * i + 1 + 1 = 2 * (i + 1) by omega] at this)]
      rfl
    · rw [F_i_Plan_uses_wzeL4, itd_f h, drop_end ss (by omega), F_i_Plan_uses_wzeJ1, F_i_Plan_uses_wzeL3_eq fu os M (by omega) ho hos fu 0 l (by omega) (by omega) (by omega) hl (fun x hx => by have := hb x hx; omega)]
      rfl

theorem F_i_Plan_uses_wze_eq (fu : Nat) (n : Int) (ss : List Stp) (os : List Int) (hf : 1000 ≤ fu) (h : formOk n ss os = true) : F_i_Plan_uses_wze fu n ss os = some (usesOf n ss os) := by
  obtain ⟨⟨h0, h6⟩, hl, ho, hs, hos⟩ := formOk_iff.1 h
  have hc : (((n + ss.length).toNat : Nat) : Int) = n + ss.length := by omega
  rw [F_i_Plan_uses_wze, F_i_Plan_many_wze_eq fu n ss os (by omega) (by omega), Option.bind_some, chk_of (by omega), F_i_Plan_uses_wzeL4_eq fu ss os n (n + ss.length).toNat hf (by omega) hc (by omega) hl hs ho (by rw [hc]; exact hos) fu 0 _ (by omega) (by omega) (by omega) (by simp) (fun x hx => by rw [(List.mem_replicate.1 hx).2]; omega)]
  rfl

theorem F_s_duUsesL3_eq (fu : Nat) (os : List Int) (M : Nat) (hM : M ≤ 100) (ho : os.length ≤ 6) (hos : os.all (inR 0 ((M : Int) - 1)) = true) :
    ∀ (m : Nat) (i : Int) (l : List Int), 0 ≤ i → i ≤ (os.length : Int) → (os.length : Int) - i < m → l.length = M → InB (100 + i) l →
      F_s_duUsesL3 fu os m i l = some ((os.drop i.toNat).foldl incAt l) := by
  intro m
  induction m with
  | zero => intros; omega
  | succ m ih =>
    intro i l i0 i1 hm hl hb
    by_cases h : i < (os.length : Int)
    · have hv := inR_iff.1 (List.all_eq_true.1 hos _ (getD_mem (xs := os) (k := i.toNat) (by omega)))
      have hg := hb.get (by omega) (os.getD i.toNat 0).toNat
      rw [F_s_duUsesL3, itd_t h, chk_of ⟨i0, h⟩, chk_of (by omega), w64 (x := i + 1) (by omega), w64 (x := _ + 1) (by omega), drop_cons' os 0 i0 h, List.foldl_cons]
      exact ih (i + 1) _ (by omega) (by omega) (by omega) (by simp [hl]) (by have := hb.inc (by omega) (os.getD i.toNat 0); rwa [Int.add_assoc] at this)
    · rw [F_s_duUsesL3, itd_f h, drop_end os (by omega)]; rfl

theorem F_s_duUsesL4_eq (fu : Nat) (ss : List Stp) (os : List Int) (n : Int) (M : Nat) (hf : 1000 ≤ fu) (hn : 0 ≤ n) (hM : (M : Int) = n + ss.length) (hM' : M ≤ 46) (hs : ss.length ≤ 40) (hss : stepsOk n ss = true) (ho : os.length ≤ 6) (hos : os.all (inR 0 ((M : Int) - 1)) = true) :
    ∀ (m : Nat) (i : Int) (l : List Int), 0 ≤ i → i ≤ (ss.length : Int) → (ss.length : Int) - i < m → l.length = M → InB (2 * i) l →
      F_s_duUsesL4 fu ss os m i l = some ((valsOf (ss.drop i.toNat) os).foldl incAt l) := by
  intro m
  induction m with
  | zero => intros; omega
  | succ m ih =>
    intro i l i0 i1 hm hl hb
    by_cases h : i < (ss.length : Int)
    · have hv := stepsOk_get ss n i.toNat hss (by omega)
      rw [drop_cons' ss (0, 0) i0 h, F_s_duUsesL4, itd_t h, chk_of ⟨i0, h⟩]
      generalize ss.getD i.toNat (0, 0) = s at hv
      have hg := hb.get (by omega) s.1.toNat
      rw [chk_of (by omega), w64 (x := l.getD s.1.toNat 0 + 1) (by omega)]
      have hb2 := hb.inc (by omega) s.1
      have hg2 := hb2.get (by omega) s.2.toNat
      rw [chk_of (by simp only [List.length_append, List.length_cons, List.length_nil, List.length_replicate, List.length_set, List.length_map, List.length_range, List.length_take, List.length_drop, List.length_zipWith, List.length_reverse]; omega)]
      have e : l.set s.1.toNat (l.getD s.1.toNat 0 + 1) = incAt l s.1 := rfl
      rw [e, w64 (x := (incAt l s.1).getD s.2.toNat 0 + 1) (by omega), w64 (x := i + 1) (by omega)]
      have e2 : (incAt l s.1).set s.2.toNat ((incAt l s.1).getD s.2.toNat 0 + 1) = incAt (incAt l s.1) s.2 := rfl
      rw [e2, ih (i + 1) _ (by omega) (by omega) (by omega) (by rw [incAt_len, incAt_len, hl]) (by have := hb2.inc (by omega) s.2; rwa [show 2 * i + 1 + 1 = 2 * (i + 1) by omega] at this)]
      rfl
    · rw [F_s_duUsesL4, itd_f h, drop_end ss (by omega), F_s_duUsesJ1, F_s_duUsesL3_eq fu os M (by omega) ho hos fu 0 l (by omega) (by omega) (by omega) hl (fun x hx => by have := hb x hx; omega)]
      rfl

theorem F_s_duUses_eq (fu : Nat) (n : Int) (ss : List Stp) (os : List Int) (hf : 1000 ≤ fu) (h : formOk n ss os = true) : F_s_duUses fu n ss os = some (usesOf n ss os) := by
  obtain ⟨⟨h0, h6⟩, hl, ho, hs, hos⟩ := formOk_iff.1 h
  have hc : (((n + ss.length).toNat : Nat) : Int) = n + ss.length := by omega
  rw [F_s_duUses, w64 (by omega), chk_of (by omega), F_s_duUsesL4_eq fu ss os n (n + ss.length).toNat hf (by omega) hc (by omega) hl hs ho (by rw [hc]; exact hos) fu 0 _ (by omega) (by omega) (by omega) (by simp) (fun x hx => by rw [(List.mem_replicate.1 hx).2]; omega)]
  rfl

theorem F_slices_Contains_Lint_int_eq (fu : Nat) (xs : List Int) (v : Int) (hx : xs.length ≤ 1000000000) (hf : xs.length < fu) : F_slices_Contains_Lint_int fu xs v = some (xs.any (· == v)) := by
  obtain ⟨r, e, hr⟩ : ∃ r, F_slices_Index_Lint_int fu xs v = some r ∧ decide (r ≥ 0) = xs.any (· == v) := by
    unfold F_slices_Index_Lint_int
    refine scan_find (L := F_slices_Index_Lint_intL2 fu xs v) xs 0 _ (fun k i h0 h => ?_) (fun n => ?_) fu 0 (by omega) (by omega) (by omega)
    · rw [F_slices_Index_Lint_intL2, itd_t h, chk_of ⟨h0, h⟩, w64 (by omega), Bool.beq_comm]
    · simp (disch := omega) only [F_slices_Index_Lint_intL2, itd_f, F_slices_Index_Lint_intJ1]
  simp only [F_slices_Contains_Lint_int, e, Option.bind_some, hr]
theorem F_s_l1Has_eq (fu : Nat) (xs : List Int) (v : Int) (hx : xs.length ≤ 1000000000) (hf : xs.length < fu) : F_s_l1Has fu xs v = some (xs.any (· == v)) := by
  unfold F_s_l1Has
  refine (scan_any (L := F_s_l1HasL2 fu xs v) (A := some true) (B := some false) xs 0 (· == v) (fun n i h0 h => ?_) (fun n => ?_) fu 0 (by omega) (by omega) (by omega)).trans ?_
  · rw [F_s_l1HasL2, itd_t h, chk_of ⟨h0, h⟩, w64 (by omega)]
  · rw [F_s_l1HasL2, itd_f (by omega), F_s_l1HasJ1]
  · rw [Int.toNat_zero, List.drop_zero]; cases List.any xs _ <;> simp

theorem usesOf_len (n : Int) (ss : List Stp) (os : List Int) : (usesOf n ss os).length = (n + ss.length).toNat := by
  have : ∀ (vs l : List Int), (vs.foldl incAt l).length = l.length := by
    intro vs
    induction vs with
    | nil => intro l; rfl
    | cons v vs ih => intro l; rw [List.foldl_cons, ih, incAt_len]
  rw [usesOf, this]; simp

theorem F_i_Plan_canTurn_wze_eq (fu : Nat) (n : Int) (ss : List Stp) (os : List Int) (hf : 1000 ≤ fu) (h : formOk n ss os = true) : F_i_Plan_canTurn_wze fu n ss os = some (canT n ss os) := by
  obtain ⟨⟨h0, h6⟩, hl, ho, hs, hos⟩ := formOk_iff.1 h
  have hul := usesOf_len n ss os
  unfold F_i_Plan_canTurn_wze canT
  by_cases hc : os.length > 0
  · rw [decide_eq_true (by omega : (os.length : Int) > 0), decide_eq_true hc]
    simp only [BEq.rfl, gcl_t, F_i_Plan_uses_wze_eq fu n ss os hf h, Option.bind_some, F_slices_Contains_Lint_int_eq fu (usesOf n ss os) 0 (by omega) (by omega), cond_true, Bool.true_and]
  · rw [decide_eq_false (by omega : ¬ (os.length : Int) > 0), decide_eq_false hc]; rfl
theorem F_s_duCan_eq (fu : Nat) (n : Int) (ss : List Stp) (os : List Int) (hf : 1000 ≤ fu) (h : formOk n ss os = true) : F_s_duCan fu n ss os = some (canT n ss os) := by
  obtain ⟨⟨h0, h6⟩, hl, ho, hs, hos⟩ := formOk_iff.1 h
  have hul := usesOf_len n ss os
  unfold F_s_duCan canT
  by_cases hc : os.length > 0
  · rw [decide_eq_true (by omega : (os.length : Int) > 0), decide_eq_true hc]
    simp only [BEq.rfl, gcl_t, F_s_duUses_eq fu n ss os hf h, Option.bind_some, F_s_l1Has_eq fu (usesOf n ss os) 0 (by omega) (by omega), cond_true, Bool.true_and]
  · rw [decide_eq_false (by omega : ¬ (os.length : Int) > 0), decide_eq_false hc]; rfl

def outF (v : Int) : Int → List Int → List Int
  | _, [] => []
  | i, o :: os => if o = v then i :: outF v (i + 1) os else outF v (i + 1) os
def stF (v : Int) (bl : List Int) : Int → List Stp → List Int
  | _, [] => []
  | k, s :: ss => (if s.1 = v then [bl.getD k.toNat 0] else []) ++ ((if s.2 = v then [bl.getD k.toNat 0] else []) ++ stF v bl (k + 1) ss)
def facs (n : Int) (ss : List Stp) (os : List Int) (bl : List Int) (v : Int) : List Int := outF v 0 os ++ stF v bl n ss
/-- Multiplied to what there is. -/
def tm (N : Int) (st : Int × List Stp) (f : Int) : Int × List Stp := if st.1 < 0 then (f, st.2) else mulS N st.2 st.1 f
def tms (N : Int) (ts : List Stp) (fs : List Int) : Int × List Stp := fs.foldl (tm N) (-1, ts)
/-- From value v - 1 down. -/
def turnL (n : Int) (ss : List Stp) (os : List Int) (N : Int) : Nat → List Int × List Stp → List Int × List Stp
  | 0, r => r
  | v + 1, r => turnL n ss os N v (r.1.set v (tms N r.2 (facs n ss os r.1 v)).1, (tms N r.2 (facs n ss os r.1 v)).2)
def turnR (n : Int) (ss : List Stp) (os : List Int) : List Int × List Stp := turnL n ss os os.length (n + ss.length).toNat (List.replicate (n + ss.length).toNat 0, [])

theorem tm_len (N : Int) (st : Int × List Stp) (f : Int) : (tm N st f).2.length ≤ st.2.length + 1 := by
  unfold tm; split
  · simp
  · rw [mulS_len]; omega
theorem foldl_tm_len (N : Int) : ∀ (fs : List Int) (st : Int × List Stp), (fs.foldl (tm N) st).2.length ≤ st.2.length + fs.length
  | [], _ => Nat.le_refl _
  | f :: fs, st => by
    rw [List.foldl_cons]
    have h1 := foldl_tm_len N fs (tm N st f)
    have h2 := tm_len N st f
    simp only [List.length_append, List.length_cons, List.length_nil, List.length_replicate, List.length_set, List.length_map, List.length_range, List.length_take, List.length_drop, List.length_zipWith, List.length_reverse]; omega
theorem outF_len (v : Int) : ∀ (os : List Int) (i : Int), (outF v i os).length ≤ os.length
  | [], _ => Nat.le_refl _
  | o :: os, i => by
    have := outF_len v os (i + 1)
    rw [outF]; split <;> simp only [List.length_append, List.length_cons, List.length_nil, List.length_replicate, List.length_set, List.length_map, List.length_range, List.length_take, List.length_drop, List.length_zipWith, List.length_reverse] <;> omega
theorem stF_len (v : Int) (bl : List Int) : ∀ (ss : List Stp) (k : Int), (stF v bl k ss).length ≤ 2 * ss.length
  | [], _ => Nat.le_refl _
  | s :: ss, k => by
    have := stF_len v bl ss (k + 1)
    rw [stF]; split <;> split <;> simp only [List.length_append, List.length_cons, List.length_nil, List.length_replicate, List.length_set, List.length_map, List.length_range, List.length_take, List.length_drop, List.length_zipWith, List.length_reverse] <;> omega
theorem facs_len (n : Int) (ss : List Stp) (os : List Int) (bl : List Int) (v : Int) : (facs n ss os bl v).length ≤ os.length + 2 * ss.length := by
  have h1 := outF_len v os 0
  have h2 := stF_len v bl ss n
  unfold facs; simp only [List.length_append, List.length_cons, List.length_nil, List.length_replicate, List.length_set, List.length_map, List.length_range, List.length_take, List.length_drop, List.length_zipWith, List.length_reverse]; omega

abbrev Turned := Int × List Stp × List Int

/-- The two factors of a step. -/
theorem F_i_Plan_turned_wzeL8_eq (fu : Nat) (ss : List Stp) (i v n N : Int) (bl : List Int) (K : Int → Int → Int → Int → Int → Int → List Int → List Stp → Option Turned) (l o : Int)
    (hf : 1000 ≤ fu) (hi : 0 ≤ i ∧ i < (ss.length : Int)) (hn : 0 ≤ n ∧ n ≤ 6) (hl : ss.length ≤ 40) (hbl : (bl.length : Int) = n + ss.length) (hN : 0 ≤ N ∧ N ≤ 1000) (at_ : Int) (ts : List Stp) (ht : ts.length ≤ 100000) :
    F_i_Plan_turned_wzeL8 fu ss i v n bl N K l o fu at_ 0 ts =
      (let st := ((if (ss.getD i.toNat (0, 0)).1 = v then [bl.getD (n + i).toNat 0] else []) ++ (if (ss.getD i.toNat (0, 0)).2 = v then [bl.getD (n + i).toNat 0] else [])).foldl (tm N) (at_, ts)
       K v st.1 l (i + 1) o N bl st.2) := by
  obtain ⟨f1, rfl⟩ : ∃ f1, fu = f1 + 3 := ⟨fu - 3, by omega⟩
  have hw : IntKind.i64.wrap (n + i) = n + i := w64 (by omega)
  have e9 : ∀ (m : Nat) x y z, F_i_Plan_turned_wzeJ9 (f1 + 3) (F_i_Plan_turned_wzeL8 (f1 + 3) ss i v n bl N K l o m) x y z = F_i_Plan_turned_wzeL8 (f1 + 3) ss i v n bl N K l o m y (IntKind.i64.wrap (x + 1)) z := fun _ _ _ _ => rfl
  have one : ∀ (m : Nat) (j at_ : Int) (ts : List Stp) (x : Int), 0 ≤ j → j < 2 → List.getD [(ss.getD i.toNat (0, 0)).1, (ss.getD i.toNat (0, 0)).2] j.toNat 0 = x → ts.length ≤ 100001 →
      F_i_Plan_turned_wzeL8 (f1 + 3) ss i v n bl N K l o (m + 1) at_ j ts = F_i_Plan_turned_wzeL8 (f1 + 3) ss i v n bl N K l o m ((if x = v then [bl.getD (n + i).toNat 0] else []).foldl (tm N) (at_, ts)).1 (j + 1) ((if x = v then [bl.getD (n + i).toNat 0] else []).foldl (tm N) (at_, ts)).2 := by
    intro m j at_ ts x j0 j1 hx ht
    rw [F_i_Plan_turned_wzeL8, itd_t (by simp only [List.length_append, List.length_cons, List.length_nil, List.length_replicate, List.length_set, List.length_map, List.length_range, List.length_take, List.length_drop, List.length_zipWith, List.length_reverse]; omega), chk_of (by simp only [List.length_append, List.length_cons, List.length_nil, List.length_replicate, List.length_set, List.length_map, List.length_range, List.length_take, List.length_drop, List.length_zipWith, List.length_reverse]; omega), hx]
    simp only [e9, hw]
    rw [w64 (x := j + 1) (by omega)]
    by_cases hxv : x = v
    · rw [if_pos (by simpa using hxv), chk_of (by omega), F_i_maker_times_frg_eq _ _ _ _ _ (by omega) (by omega), Option.bind_some, if_pos hxv]
      rfl
    · rw [if_neg (by simpa using hxv), if_neg hxv]
      rfl
  rw [one (f1 + 2) 0 at_ ts (ss.getD i.toNat (0, 0)).1 (by omega) (by omega) rfl (by omega)]
  have hlen := foldl_tm_len N (if (ss.getD i.toNat (0, 0)).1 = v then [bl.getD (n + i).toNat 0] else []) (at_, ts)
  have hlen2 : (if (ss.getD i.toNat (0, 0)).1 = v then [bl.getD (n + i).toNat 0] else []).length ≤ 1 := by split <;> simp
  dsimp only at hlen
  rw [one (f1 + 1) (0 + 1) _ _ (ss.getD i.toNat (0, 0)).2 (by omega) (by omega) rfl (by omega), F_i_Plan_turned_wzeL8, itd_f (by simp only [List.length_append, List.length_cons, List.length_nil, List.length_replicate, List.length_set, List.length_map, List.length_range, List.length_take, List.length_drop, List.length_zipWith, List.length_reverse]; omega), F_i_Plan_turned_wzeJ7, w64 (by omega)]
  simp only [List.foldl_append]

theorem F_i_Plan_turned_wzeL6_eq (fu : Nat) (ss : List Stp) (v n N : Int) (bl : List Int) (K : Int → Int → Int → List Int → List Stp → Option Turned) (o : Int)
    (hf : 1000 ≤ fu) (hn : 0 ≤ n ∧ n ≤ 6) (hl : ss.length ≤ 40) (hbl : (bl.length : Int) = n + ss.length) (hN : 0 ≤ N ∧ N ≤ 1000) :
    ∀ (m : Nat) (i at_ : Int) (ts : List Stp), 0 ≤ i → i ≤ (ss.length : Int) → (ss.length : Int) - i < m → ts.length + 2 * (ss.length - i.toNat) ≤ 100000 →
      F_i_Plan_turned_wzeL6 fu ss n K m v at_ (ss.length : Int) i o N bl ts = (let st := (stF v bl (n + i) (ss.drop i.toNat)).foldl (tm N) (at_, ts); F_i_Plan_turned_wzeJ5 fu K v st.1 o N bl st.2) := by
  intro m
  induction m with
  | zero => intros; omega
  | succ m ih =>
    intro i at_ ts i0 i1 hm ht
    by_cases h : i < (ss.length : Int)
    · rw [F_i_Plan_turned_wzeL6, itd_t h, chk_of ⟨i0, h⟩, F_i_Plan_turned_wzeL8_eq fu ss i v n N bl _ _ o hf ⟨i0, h⟩ hn hl hbl hN at_ ts (by omega), drop_cons' ss (0, 0) i0 h]
      generalize ss.getD i.toNat (0, 0) = s
      have hlen := foldl_tm_len N ((if s.1 = v then [bl.getD (n + i).toNat 0] else []) ++ (if s.2 = v then [bl.getD (n + i).toNat 0] else [])) (at_, ts)
      have hlen2 : ((if s.1 = v then [bl.getD (n + i).toNat 0] else []) ++ (if s.2 = v then [bl.getD (n + i).toNat 0] else [])).length ≤ 2 := by split <;> split <;> simp
      dsimp only at hlen ⊢
      rw [ih (i + 1) _ _ (by omega) (by omega) (by omega) (by omega)]
      simp only [stF, List.foldl_append, Int.add_assoc]
    · rw [F_i_Plan_turned_wzeL6, itd_f h, drop_end ss (by omega)]
      rfl

theorem F_i_Plan_turned_wzeL10_eq (fu : Nat) (ss : List Stp) (os : List Int) (v n N : Int) (bl : List Int) (K : Int → Int → Int → List Int → List Stp → Option Turned) (o : Int)
    (hf : 1000 ≤ fu) (hn : 0 ≤ n ∧ n ≤ 6) (hl : ss.length ≤ 40) (ho : os.length ≤ 6) (hbl : (bl.length : Int) = n + ss.length) (hN : 0 ≤ N ∧ N ≤ 1000) :
    ∀ (m : Nat) (i at_ : Int) (ts : List Stp), 0 ≤ i → i ≤ (os.length : Int) → (os.length : Int) - i < m → ts.length + (os.length - i.toNat) ≤ 90000 →
      F_i_Plan_turned_wzeL10 fu os v N ss n K o bl m at_ i ts = (let st := (outF v i (os.drop i.toNat) ++ stF v bl n ss).foldl (tm N) (at_, ts); F_i_Plan_turned_wzeJ5 fu K v st.1 o N bl st.2) := by
  intro m
  induction m with
  | zero => intros; omega
  | succ m ih =>
    intro i at_ ts i0 i1 hm ht
    by_cases h : i < (os.length : Int)
    · rw [F_i_Plan_turned_wzeL10, itd_t h, chk_of ⟨i0, h⟩, drop_cons' os 0 i0 h]
      generalize os.getD i.toNat 0 = w
      rw [outF]
      by_cases hw : w = v
      · rw [if_pos (by simpa using hw), if_pos hw, F_i_maker_times_frg_eq _ _ _ _ _ (by omega) (by omega), Option.bind_some, F_i_Plan_turned_wzeJ11, w64 (by omega)]
        have := tm_len N (at_, ts) i
        dsimp only at this
        exact ih (i + 1) (tm N (at_, ts) i).1 (tm N (at_, ts) i).2 (by omega) (by omega) (by omega) (by omega)
      · rw [if_neg (by simpa using hw), if_neg hw, F_i_Plan_turned_wzeJ11, w64 (by omega)]
        exact ih (i + 1) _ _ (by omega) (by omega) (by omega) (by omega)
    · rw [F_i_Plan_turned_wzeL10, itd_f h, drop_end os (by omega), F_i_Plan_turned_wzeJ4, F_i_Plan_turned_wzeL6_eq fu ss v n N bl K o hf hn hl hbl hN fu 0 at_ ts (by omega) (by omega) (by omega) (by omega)]
      simp only [Int.add_zero, Int.toNat_zero, List.drop_zero, outF, List.nil_append]

theorem F_i_Plan_turned_wzeL2_eq (fu : Nat) (ss : List Stp) (os : List Int) (n N o : Int) (hf : 1000 ≤ fu) (hn : 0 ≤ n ∧ n ≤ 6) (hl : ss.length ≤ 40) (ho : os.length ≤ 6) (hN : 0 ≤ N ∧ N ≤ 1000) :
    ∀ (m v : Nat) (bl : List Int) (ts : List Stp), v < m → (bl.length : Int) = n + ss.length → (v : Int) ≤ n + ss.length → ts.length + 100 * v ≤ 50000 →
      F_i_Plan_turned_wzeL2 fu os ss n m ((v : Int) - 1) o N bl ts = F_i_Plan_turned_wzeJ1 fu n o N (turnL n ss os N v (bl, ts)).1 (turnL n ss os N v (bl, ts)).2 := by
  intro m
  induction m with
  | zero => intros; omega
  | succ m ih =>
    intro v bl ts hv hbl hvl ht
    cases v with
    | zero => rw [F_i_Plan_turned_wzeL2, itd_f (by omega)]; rfl
    | succ v =>
      have hfl := facs_len n ss os bl v
      have hlen := foldl_tm_len N (facs n ss os bl v) (-1, ts)
      dsimp only at hlen
      rw [F_i_Plan_turned_wzeL2, show ((v + 1 : Nat) : Int) - 1 = (v : Int) by omega, itd_t (by omega), F_i_Plan_turned_wzeL10_eq fu ss os v n N bl _ o hf hn hl ho hbl hN fu 0 (-1) ts (by omega) (by omega) (by omega) (by omega)]
      simp only [Int.toNat_zero, List.drop_zero]
      show F_i_Plan_turned_wzeJ5 fu _ (v : Int) ((facs n ss os bl v).foldl (tm N) (-1, ts)).1 o N bl ((facs n ss os bl v).foldl (tm N) (-1, ts)).2 = _
      rw [F_i_Plan_turned_wzeJ5, chk_of (by omega), F_i_Plan_turned_wzeJ3, w64 (by omega), Int.toNat_natCast, ih v _ _ (by omega) (by simp only [List.length_append, List.length_cons, List.length_nil, List.length_replicate, List.length_set, List.length_map, List.length_range, List.length_take, List.length_drop, List.length_zipWith, List.length_reverse]; omega) (by omega) (by omega)]
      rfl

theorem turnL_len (n : Int) (ss : List Stp) (os : List Int) (N : Int) : ∀ (v : Nat) (r : List Int × List Stp), (turnL n ss os N v r).1.length = r.1.length
  | 0, _ => rfl
  | v + 1, r => by rw [turnL, turnL_len]; simp

/-- The turned plan. -/
def turnP (n : Int) (ss : List Stp) (os : List Int) : Turned := ((os.length : Int), (turnR n ss os).2, (turnR n ss os).1.take n.toNat)

theorem F_i_Plan_turned_wze_eq (fu : Nat) (n : Int) (ss : List Stp) (os : List Int) (hf : 1000 ≤ fu) (h : formOk n ss os = true) : F_i_Plan_turned_wze fu n ss os = some (turnP n ss os) := by
  obtain ⟨⟨h0, h6⟩, hl, ho, hs, hos⟩ := formOk_iff.1 h
  have hc : (((n + ss.length).toNat : Nat) : Int) = n + ss.length := by omega
  have htl := turnL_len n ss os os.length (n + ss.length).toNat (List.replicate (n + ss.length).toNat 0, [])
  rw [F_i_Plan_turned_wze, F_i_newMaker_eq, Option.bind_some, F_i_Plan_many_wze_eq fu n ss os (by omega) (by omega), Option.bind_some, chk_of (by omega), Option.bind_some, w64 (by omega)]
  have := F_i_Plan_turned_wzeL2_eq fu ss os n os.length 0 hf (by omega) hl ho (by omega) fu (n + ss.length).toNat (List.replicate (n + ss.length).toNat 0) [] (by omega) (by simp only [List.length_append, List.length_cons, List.length_nil, List.length_replicate, List.length_set, List.length_map, List.length_range, List.length_take, List.length_drop, List.length_zipWith, List.length_reverse]; omega) (by omega) (by simp only [List.length_append, List.length_cons, List.length_nil, List.length_replicate, List.length_set, List.length_map, List.length_range, List.length_take, List.length_drop, List.length_zipWith, List.length_reverse]; omega)
  rw [hc] at this
  rw [this, F_i_Plan_turned_wzeJ1, chk_of ⟨by omega, by omega, by rw [htl]; simp only [List.length_append, List.length_cons, List.length_nil, List.length_replicate, List.length_set, List.length_map, List.length_range, List.length_take, List.length_drop, List.length_zipWith, List.length_reverse]; omega, rfl, rfl⟩, F_i_maker_plan_dzy, Option.bind_some]
  rfl

def turn (n : Int) (ss : List Stp) (os : List Int) : Tell := if plan n ss os = true ∧ canT n ss os = true then tellP (turnP n ss os).1 (turnP n ss os).2.1 (turnP n ss os).2.2 else (false, 0, [], [])

theorem plan_form {n : Int} {ss : List Stp} {os : List Int} (h : plan n ss os = true) : formOk n ss os = true := by
  simp [plan] at h; exact h.1

theorem F_i_TurnPlan_eq (fu : Nat) (n : Int) (ss : List Stp) (os : List Int) (hf : 1000 ≤ fu) : F_i_TurnPlan fu n ss os = some (turn n ss os) := by
  rw [F_i_TurnPlan, F_i_IsPlan_eq fu n ss os hf, Option.bind_some, turn]
  cases hp : plan n ss os with
  | false => simp [gcl_f]
  | true =>
    have hform := plan_form hp
    simp only [Bool.not_true, BEq.rfl, gcl_t, F_i_Plan_canTurn_wze_eq fu n ss os hf hform, Option.bind_some, cond_false, true_and]
    cases hc : canT n ss os with
    | false => simp
    | true =>
      rw [if_neg (by simp), F_i_Plan_turned_wze_eq fu n ss os hf hform, Option.bind_some, F_i_told_eq fu _ _ _ (by omega)]
      simp

theorem F_s_duFactorsL3_eq (fu : Nat) (ss : List Stp) (v n : Int) (bl : List Int) (hn : 0 ≤ n ∧ n ≤ 6) (hl : ss.length ≤ 40) (hbl : (bl.length : Int) = n + ss.length) :
    ∀ (m : Nat) (i : Int) (acc : List Int), 0 ≤ i → i ≤ (ss.length : Int) → (ss.length : Int) - i < m → acc.length + 2 * (ss.length - i.toNat) ≤ 1000 →
      F_s_duFactorsL3 fu ss v n bl m i acc = some (acc ++ stF v bl (n + i) (ss.drop i.toNat)) := by
  intro m
  induction m with
  | zero => intros; omega
  | succ m ih =>
    intro i acc i0 i1 hm ha
    by_cases h : i < (ss.length : Int)
    · have hw : IntKind.i64.wrap (n + i) = n + i := w64 (by omega)
      have five : ∀ acc : List Int, acc.length + 1 + 2 * (ss.length - (i + 1).toNat) ≤ 1000 → F_s_duFactorsJ5 fu ss i v n bl (F_s_duFactorsL3 fu ss v n bl m) acc = some (acc ++ ((if (ss.getD i.toNat (0, 0)).2 = v then [bl.getD (n + i).toNat 0] else []) ++ stF v bl (n + i + 1) (ss.drop (i + 1).toNat))) := by
        intro acc ha
        rw [F_s_duFactorsJ5]
        by_cases h2 : (ss.getD i.toNat (0, 0)).2 = v
        · rw [if_pos (by simpa using h2), if_pos h2, hw, chk_of ⟨by omega, by simp only [List.length_append, List.length_cons, List.length_nil, List.length_replicate, List.length_set, List.length_map, List.length_range, List.length_take, List.length_drop, List.length_zipWith, List.length_reverse]; omega⟩, F_s_duFactorsJ4, w64 (by omega), ih (i + 1) _ (by omega) (by omega) (by omega) (by simp only [List.length_append, List.length_cons, List.length_nil, List.length_replicate, List.length_set, List.length_map, List.length_range, List.length_take, List.length_drop, List.length_zipWith, List.length_reverse]; omega), List.append_assoc, Int.add_assoc]
        · rw [if_neg (by simpa using h2), if_neg h2, F_s_duFactorsJ4, w64 (by omega), ih (i + 1) _ (by omega) (by omega) (by omega) (by omega), List.nil_append, Int.add_assoc]
      rw [F_s_duFactorsL3, itd_t h, chk_of ⟨i0, h⟩, drop_cons' ss (0, 0) i0 h, stF]
      by_cases h1 : (ss.getD i.toNat (0, 0)).1 = v
      · rw [if_pos (by simpa using h1), if_pos h1, hw, chk_of ⟨by omega, by simp only [List.length_append, List.length_cons, List.length_nil, List.length_replicate, List.length_set, List.length_map, List.length_range, List.length_take, List.length_drop, List.length_zipWith, List.length_reverse]; omega⟩, five _ (by simp only [List.length_append, List.length_cons, List.length_nil, List.length_replicate, List.length_set, List.length_map, List.length_range, List.length_take, List.length_drop, List.length_zipWith, List.length_reverse]; omega), List.append_assoc]
      · rw [if_neg (by simpa using h1), if_neg h1, five _ (by omega), List.nil_append]
    · rw [F_s_duFactorsL3, itd_f h, drop_end ss (by omega), F_s_duFactorsJ2, stF, List.append_nil]

theorem F_s_duFactors_eq (fu : Nat) (n : Int) (ss : List Stp) (os : List Int) (v : Int) (bl : List Int) (hf : 1000 ≤ fu) (hn : 0 ≤ n ∧ n ≤ 6) (hl : ss.length ≤ 40) (ho : os.length ≤ 6) (hbl : (bl.length : Int) = n + ss.length) :
    F_s_duFactors fu n ss os v bl = some (facs n ss os bl v) := by
  have key : ∀ (m : Nat) (i : Int) (acc : List Int), 0 ≤ i → i ≤ (os.length : Int) → (os.length : Int) - i < m → acc.length + (os.length - i.toNat) ≤ 100 →
      F_s_duFactorsL6 fu os v ss n bl m i acc = some (acc ++ (outF v i (os.drop i.toNat) ++ stF v bl n ss)) := by
    intro m
    induction m with
    | zero => intros; omega
    | succ m ih =>
      intro i acc i0 i1 hm ha
      by_cases h : i < (os.length : Int)
      · rw [F_s_duFactorsL6, itd_t h, chk_of ⟨i0, h⟩, drop_cons' os 0 i0 h, outF]
        by_cases hw : os.getD i.toNat 0 = v
        · rw [if_pos (by simpa using hw), if_pos hw, chk_of (by simp only [List.length_append, List.length_cons, List.length_nil, List.length_replicate, List.length_set, List.length_map, List.length_range, List.length_take, List.length_drop, List.length_zipWith, List.length_reverse]; omega), F_s_duFactorsJ7, w64 (by omega), ih (i + 1) _ (by omega) (by omega) (by omega) (by simp only [List.length_append, List.length_cons, List.length_nil, List.length_replicate, List.length_set, List.length_map, List.length_range, List.length_take, List.length_drop, List.length_zipWith, List.length_reverse]; omega)]
          simp
        · rw [if_neg (by simpa using hw), if_neg hw, F_s_duFactorsJ7, w64 (by omega), ih (i + 1) _ (by omega) (by omega) (by omega) (by omega)]
      · rw [F_s_duFactorsL6, itd_f h, drop_end os (by omega), F_s_duFactorsJ1, F_s_duFactorsL3_eq fu ss v n bl hn hl hbl fu 0 acc (by omega) (by omega) (by omega) (by omega)]
        simp [outF]
  unfold F_s_duFactors
  rw [key fu 0 [] (by omega) (by omega) (by omega) (by simp only [List.length_append, List.length_cons, List.length_nil, List.length_replicate, List.length_set, List.length_map, List.length_range, List.length_take, List.length_drop, List.length_zipWith, List.length_reverse]; omega)]
  rfl

theorem outF_nonneg (v : Int) : ∀ (os : List Int) (i : Int), 0 ≤ i → ∀ f ∈ outF v i os, 0 ≤ f ∧ f < i + os.length
  | [], _, _, f, h => by simp [outF] at h
  | o :: os, i, hi, f, h => by
    have ih := outF_nonneg v os (i + 1) (by omega)
    simp only [List.length_append, List.length_cons, List.length_nil, List.length_replicate, List.length_set, List.length_map, List.length_range, List.length_take, List.length_drop, List.length_zipWith, List.length_reverse]
    rw [outF] at h
    split at h
    · rcases List.mem_cons.1 h with rfl | h
      · omega
      · have := ih f h; omega
    · have := ih f h; omega
theorem stF_mem (v : Int) (bl : List Int) : ∀ (ss : List Stp) (k : Int) (f : Int), stepsOk k ss = true → 0 ≤ k → f ∈ stF v bl k ss → ∃ j : Int, v < j ∧ k ≤ j ∧ j < k + ss.length ∧ f = bl.getD j.toNat 0
  | [], _, f, _, _, h => by simp [stF] at h
  | s :: ss, k, f, hs, hk, h => by
    simp only [stepsOk, Bool.and_eq_true, decide_eq_true_eq] at hs
    simp only [List.length_append, List.length_cons, List.length_nil, List.length_replicate, List.length_set, List.length_map, List.length_range, List.length_take, List.length_drop, List.length_zipWith, List.length_reverse]
    rw [stF, List.mem_append, List.mem_append] at h
    rcases h with h | h | h
    · split at h
      · rename_i e; exact ⟨k, by omega, by omega, by omega, by simpa using h⟩
      · simp at h
    · split at h
      · rename_i e; exact ⟨k, by omega, by omega, by omega, by simpa using h⟩
      · simp at h
    · obtain ⟨j, a, b, c, d⟩ := stF_mem v bl ss (k + 1) f hs.2 (by omega) h
      exact ⟨j, a, by omega, by omega, d⟩

theorem outF_ne (v : Int) : ∀ (os : List Int) (i : Int), v ∈ os → outF v i os ≠ []
  | o :: os, i, h => by
    rw [outF]
    by_cases ho : o = v
    · rw [if_pos ho]; simp
    · rw [if_neg ho]
      rcases List.mem_cons.1 h with rfl | h
      · exact absurd rfl ho
      · exact outF_ne v os (i + 1) h
theorem stF_ne (v : Int) (bl : List Int) : ∀ (ss : List Stp) (k : Int), (v ∈ ss.flatMap fun s => [s.1, s.2]) → stF v bl k ss ≠ []
  | s :: ss, k, h => by
    rw [stF]
    simp only [List.flatMap_cons, List.mem_append, List.mem_cons, List.not_mem_nil, or_false] at h
    rcases h with (h | h) | h
    · rw [if_pos h.symm]; simp
    · rw [if_pos h.symm]; simp
    · have := stF_ne v bl ss (k + 1) h
      intro hc
      rw [List.append_eq_nil_iff, List.append_eq_nil_iff] at hc
      exact this hc.2.2

theorem foldl_inc_other (v : Nat) : ∀ (vs l : List Int), (∀ x ∈ vs, x.toNat ≠ v) → (vs.foldl incAt l).getD v 0 = l.getD v 0
  | [], _, _ => rfl
  | x :: vs, l, h => by
    rw [List.foldl_cons, foldl_inc_other v vs _ fun y hy => h y (List.mem_cons_of_mem _ hy)]
    have := h x (List.mem_cons_self)
    simp [incAt, List.getD_eq_getElem?_getD, List.getElem?_set_ne this]

theorem canT_used {n : Int} {ss : List Stp} {os : List Int} (hform : formOk n ss os = true) (h : canT n ss os = true) (bl : List Int) {v : Nat} (hv : (v : Int) < n + ss.length) : facs n ss os bl v ≠ [] := by
  obtain ⟨⟨h0, h6⟩, hl, ho, hs, hos⟩ := formOk_iff.1 hform
  simp only [canT, Bool.and_eq_true, Bool.not_eq_true', List.any_eq_false, beq_iff_eq] at h
  have hmem : (v : Int) ∈ valsOf ss os := by
    by_cases hc : (v : Int) ∈ valsOf ss os
    · exact hc
    · have hz := foldl_inc_other v (valsOf ss os) (List.replicate (n + ss.length).toNat 0) (fun x hx hxv => by
        have hx0 : 0 ≤ x := by
          unfold valsOf at hx
          rcases List.mem_append.1 hx with hx | hx
          · rw [List.mem_flatMap] at hx
            obtain ⟨s, hs', hxs⟩ := hx
            obtain ⟨j, hj, e⟩ := List.mem_iff_getElem.1 hs'
            have := stepsOk_get ss n j hs hj
            rw [List.getD_eq_getElem?_getD, List.getElem?_eq_getElem hj] at this
            simp only [Option.getD_some, e] at this
            simp only [List.mem_cons, List.not_mem_nil, or_false] at hxs
            omega
          · exact (inR_iff.1 (List.all_eq_true.1 hos x hx)).1
        exact hc (by rw [← hxv, Int.toNat_of_nonneg hx0]; exact hx))
      have hlen := usesOf_len n ss os
      have hm := getD_mem (xs := usesOf n ss os) (k := v) (by omega)
      refine absurd ?_ (h.2 _ hm)
      refine hz.trans ?_
      simp [List.getD_eq_getElem?_getD, List.getElem?_replicate]
      split <;> rfl
  unfold valsOf at hmem
  unfold facs
  intro hc
  rw [List.append_eq_nil_iff] at hc
  rcases List.mem_append.1 hmem with hm | hm
  · exact stF_ne _ bl ss n hm hc.2
  · exact outF_ne _ os 0 hm hc.1

theorem foldl_tm_nonneg (N : Int) (hN : 0 ≤ N) : ∀ (fs : List Int) (st : Int × List Stp), 0 ≤ st.1 → (∀ f ∈ fs, 0 ≤ f) → 0 ≤ (fs.foldl (tm N) st).1
  | [], _, h, _ => h
  | f :: fs, st, h, hf => by
    rw [List.foldl_cons]
    refine foldl_tm_nonneg N hN fs _ ?_ fun g hg => hf g (List.mem_cons_of_mem _ hg)
    unfold tm
    rw [if_neg (by omega)]
    simp only [mulS]; omega
theorem tms_nonneg (N : Int) (hN : 0 ≤ N) (ts : List Stp) {fs : List Int} (hne : fs ≠ []) (hf : ∀ f ∈ fs, 0 ≤ f) : 0 ≤ (tms N ts fs).1 := by
  cases fs with
  | nil => exact absurd rfl hne
  | cons f fs =>
    have h0 := hf f (List.mem_cons_self)
    unfold tms
    rw [List.foldl_cons]
    refine foldl_tm_nonneg N hN fs _ ?_ fun g hg => hf g (List.mem_cons_of_mem _ hg)
    unfold tm
    rw [if_pos (by simp)]; exact h0

/-- What belongs to the values from v on is there. -/
def Set_ (v : Nat) (bl : List Int) : Prop := ∀ j : Nat, v ≤ j → j < bl.length → 0 ≤ bl.getD j 0

theorem facs_nonneg {n : Int} {ss : List Stp} {os : List Int} (hn : 0 ≤ n) (hs : stepsOk n ss = true) {bl : List Int} (hbl : (bl.length : Int) = n + ss.length) {v : Nat} (hb : Set_ (v + 1) bl) : ∀ f ∈ facs n ss os bl v, 0 ≤ f := by
  intro f hf
  rcases List.mem_append.1 hf with hf | hf
  · exact (outF_nonneg _ os 0 (by omega) f hf).1
  · obtain ⟨j, a, b, c, d⟩ := stF_mem _ bl ss n f hs hn hf
    rw [d]; exact hb _ (by omega) (by omega)
theorem Set_.put {v : Nat} {bl : List Int} (h : Set_ (v + 1) bl) {x : Int} (hx : 0 ≤ x) : Set_ v (bl.set v x) := by
  intro j h1 h2
  simp only [List.length_append, List.length_cons, List.length_nil, List.length_replicate, List.length_set, List.length_map, List.length_range, List.length_take, List.length_drop, List.length_zipWith, List.length_reverse] at h2
  by_cases hj : j = v
  · subst hj; simp [List.getD_eq_getElem?_getD, List.getElem?_set_self h2, hx]
  · have := h j (by omega) h2
    simpa [List.getD_eq_getElem?_getD, List.getElem?_set_ne (Ne.symm hj)] using this

theorem F_s_duTurnL5_eq (fu : Nat) (fs : List Int) (N v o : Int) (bl : List Int) (K : Int → Int → Int → List Stp → List Int → Option Turned) (hN : 0 ≤ N ∧ N ≤ 1000) (hfl : fs.length ≤ 1000) (h1 : 1 ≤ fs.length) :
    ∀ (m : Nat) (i at_ : Int) (ts : List Stp), 0 ≤ i → i ≤ (fs.length : Int) - 1 → (fs.length : Int) - 1 - i < m → 0 ≤ at_ → ts.length + fs.length ≤ 100000 + i →
      F_s_duTurnL5 fu fs N K v o bl m at_ i ts = (let st := (fs.drop (i + 1).toNat).foldl (tm N) (at_, ts); F_s_duTurnJ4 fu K v st.1 o N st.2 bl) := by
  intro m
  have hd : List.drop ((1 : Int)).toNat (List.take ((List.length fs : Int)).toNat fs) = fs.drop 1 := by
    rw [Int.toNat_natCast, List.take_length]; rfl
  induction m with
  | zero => intros; omega
  | succ m ih =>
    intro i at_ ts i0 i1 hm ha ht
    rw [F_s_duTurnL5]
    by_cases h : i < (fs.length : Int) - 1
    · have hg : (fs.drop 1).getD i.toNat 0 = fs.getD (i + 1).toNat 0 := by
        rw [List.getD_eq_getElem?_getD, List.getElem?_drop, List.getD_eq_getElem?_getD, show 1 + i.toNat = (i + 1).toNat by omega]
      rw [itd_t (by rw [hd]; simp only [List.length_append, List.length_cons, List.length_nil, List.length_replicate, List.length_set, List.length_map, List.length_range, List.length_take, List.length_drop, List.length_zipWith, List.length_reverse]; omega), chk_of (by rw [hd]; simp only [List.length_append, List.length_cons, List.length_nil, List.length_replicate, List.length_set, List.length_map, List.length_range, List.length_take, List.length_drop, List.length_zipWith, List.length_reverse]; omega), hd, hg, F_s_meTimes_eq fu _ _ _ _ _ (by omega) (by omega), Option.bind_some, w64 (by omega), drop_cons' fs 0 (by omega) (by omega), List.foldl_cons]
      have e : tm N (at_, ts) (fs.getD (i + 1).toNat 0) = mulS N ts at_ (fs.getD (i + 1).toNat 0) := by unfold tm; rw [if_neg (by simp; omega)]
      rw [e]
      exact ih (i + 1) _ _ (by omega) (by omega) (by omega) (by simp only [mulS]; omega) (by rw [mulS_len]; omega)
    · rw [itd_f (by rw [hd]; simp only [List.length_append, List.length_cons, List.length_nil, List.length_replicate, List.length_set, List.length_map, List.length_range, List.length_take, List.length_drop, List.length_zipWith, List.length_reverse]; omega), drop_end fs (by omega)]
      rfl

theorem F_s_duTurnL2_eq (fu : Nat) (ss : List Stp) (os : List Int) (n N o : Int) (hf : 2000 ≤ fu) (hform : formOk n ss os = true) (hcan : canT n ss os = true) (hN : 0 ≤ N ∧ N ≤ 1000) :
    ∀ (m v : Nat) (bl : List Int) (ts : List Stp), v < m → (bl.length : Int) = n + ss.length → (v : Int) ≤ n + ss.length → ts.length + 100 * v ≤ 50000 → Set_ v bl →
      F_s_duTurnL2 fu n ss os m ((v : Int) - 1) o N ts bl = F_s_duTurnJ1 fu n o N (turnL n ss os N v (bl, ts)).2 (turnL n ss os N v (bl, ts)).1 := by
  obtain ⟨⟨h0, h6⟩, hl, ho, hs, hos⟩ := formOk_iff.1 hform
  intro m
  induction m with
  | zero => intros; omega
  | succ m ih =>
    intro v bl ts hv hbl hvl ht hb
    cases v with
    | zero => rw [F_s_duTurnL2, itd_f (by omega)]; rfl
    | succ v =>
      have hfl := facs_len n ss os bl v
      have hne := canT_used hform hcan bl (v := v) (by omega)
      have hnn := facs_nonneg (os := os) (by omega) hs hbl hb
      have hlen := foldl_tm_len N (facs n ss os bl v) (-1, ts)
      dsimp only at hlen
      have hpos : 1 ≤ (facs n ss os bl v).length := List.length_pos_iff.2 hne
      rw [F_s_duTurnL2, show ((v + 1 : Nat) : Int) - 1 = (v : Int) by omega, itd_t (by omega), F_s_duFactors_eq fu n ss os v bl (by omega) (by omega) hl ho hbl, Option.bind_some, chk_of (by omega), chk_of (by omega)]
      have hg : 0 ≤ (facs n ss os bl v).getD ((0 : Int)).toNat 0 := hnn _ (getD_mem (k := 0) (by omega))
      rw [F_s_duTurnL5_eq fu _ N v o bl _ hN (by omega) hpos fu 0 ((facs n ss os bl v).getD ((0 : Int)).toNat 0) ts (by omega) (by omega) (by omega) hg (by omega)]
      have e : ((facs n ss os bl v).drop ((0 : Int) + 1).toNat).foldl (tm N) ((facs n ss os bl v).getD ((0 : Int)).toNat 0, ts) = tms N ts (facs n ss os bl v) := by
        generalize facs n ss os bl v = fs at *
        cases fs with
        | nil => exact absurd rfl hne
        | cons f fs => rfl
      have hat := tms_nonneg N hN.1 ts hne hnn
      dsimp only
      rw [e, F_s_duTurnJ4, chk_of (by omega), F_s_duTurnJ3, w64 (by omega), Int.toNat_natCast, ih v _ _ (by omega) (by simp only [List.length_append, List.length_cons, List.length_nil, List.length_replicate, List.length_set, List.length_map, List.length_range, List.length_take, List.length_drop, List.length_zipWith, List.length_reverse]; omega) (by omega) (by have : (tms N ts (facs n ss os bl v)).2.length ≤ ts.length + (facs n ss os bl v).length := hlen; omega) (hb.put hat)]
      rfl

theorem F_s_duTurn_eq (fu : Nat) (n : Int) (ss : List Stp) (os : List Int) (hf : 2000 ≤ fu) (h : formOk n ss os = true) (hcan : canT n ss os = true) : F_s_duTurn fu n ss os = some (turnP n ss os) := by
  obtain ⟨⟨h0, h6⟩, hl, ho, hs, hos⟩ := formOk_iff.1 h
  have hc : (((n + ss.length).toNat : Nat) : Int) = n + ss.length := by omega
  have htl := turnL_len n ss os os.length (n + ss.length).toNat (List.replicate (n + ss.length).toNat 0, [])
  rw [F_s_duTurn]
  rw [w64 (x := n + _) (by omega), chk_of (by omega), w64 (by simp only [List.length_append, List.length_cons, List.length_nil, List.length_replicate, List.length_set, List.length_map, List.length_range, List.length_take, List.length_drop, List.length_zipWith, List.length_reverse]; omega)]
  have := F_s_duTurnL2_eq fu ss os n os.length 0 hf h hcan (by omega) fu (n + ss.length).toNat (List.replicate (n + ss.length).toNat 0) [] (by omega) (by simp only [List.length_append, List.length_cons, List.length_nil, List.length_replicate, List.length_set, List.length_map, List.length_range, List.length_take, List.length_drop, List.length_zipWith, List.length_reverse]; omega) (by omega) (by simp only [List.length_append, List.length_cons, List.length_nil, List.length_replicate, List.length_set, List.length_map, List.length_range, List.length_take, List.length_drop, List.length_zipWith, List.length_reverse]; omega) (fun j h1 h2 => by simp only [List.length_append, List.length_cons, List.length_nil, List.length_replicate, List.length_set, List.length_map, List.length_range, List.length_take, List.length_drop, List.length_zipWith, List.length_reverse] at h2; omega)
  rw [show ((List.replicate (n + (ss.length : Int)).toNat (0 : Int)).length : Int) = (((n + ss.length).toNat : Nat) : Int) by simp only [List.length_append, List.length_cons, List.length_nil, List.length_replicate, List.length_set, List.length_map, List.length_range, List.length_take, List.length_drop, List.length_zipWith, List.length_reverse], this, F_s_duTurnJ1, chk_of ⟨by omega, by omega, by rw [htl]; simp only [List.length_append, List.length_cons, List.length_nil, List.length_replicate, List.length_set, List.length_map, List.length_range, List.length_take, List.length_drop, List.length_zipWith, List.length_reverse]; omega⟩, F_s_l1Own, chk_of (by simp only [List.length_append, List.length_cons, List.length_nil, List.length_replicate, List.length_set, List.length_map, List.length_range, List.length_take, List.length_drop, List.length_zipWith, List.length_reverse]; rw [htl]; simp only [List.length_append, List.length_cons, List.length_nil, List.length_replicate, List.length_set, List.length_map, List.length_range, List.length_take, List.length_drop, List.length_zipWith, List.length_reverse]; omega), Option.bind_some]
  rfl

theorem F_s_TurnPlan_eq (fu : Nat) (n : Int) (ss : List Stp) (os : List Int) (hf : 2000 ≤ fu) : F_s_TurnPlan fu n ss os = some (turn n ss os) := by
  rw [F_s_TurnPlan, F_s_plGood_eq fu n ss os (by omega), Option.bind_some, turn]
  cases hp : plan n ss os with
  | false => simp [gcl_f]
  | true =>
    have hform := plan_form hp
    simp only [Bool.not_true, BEq.rfl, gcl_t, F_s_duCan_eq fu n ss os (by omega) hform, Option.bind_some, cond_false, true_and]
    cases hc : canT n ss os with
    | false => simp
    | true =>
      rw [if_neg (by simp), F_s_duTurn_eq fu n ss os hf hform hc, Option.bind_some, F_s_plIf_eq fu _ _ _ (by omega)]
      simp
end Pu
end Go.Proofs.Ytiplmapndahmmaa
