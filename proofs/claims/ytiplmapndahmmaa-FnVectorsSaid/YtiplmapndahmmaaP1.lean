/- Plain laws: small functions, and what is a plan. -/
import Derived.Test.YtiplmapndahmmaaP0
namespace Go.Proofs.Ytiplmapndahmmaa
open Al
set_option linter.unusedVariables false
set_option linter.unusedSimpArgs false
namespace Pu

def inR (b c a : Int) : Bool := decide (b ≤ a ∧ a ≤ c)
theorem inR_iff {b c a : Int} : inR b c a = true ↔ b ≤ a ∧ a ≤ c := by simp [inR]
theorem F_i_in_eq (fu : Nat) (a b c : Int) : F_i_in fu a b c = some (inR b c a) := by
  unfold F_i_in inR; congr 1; by_cases h : a ≥ b <;> simp [h] <;> omega
theorem F_s_l1In_eq (fu : Nat) (a b c : Int) : F_s_l1In fu a b c = some (inR b c a) := by
  unfold F_s_l1In inR; congr 1; by_cases h : a ≥ b <;> simp [h] <;> omega
theorem F_i_TogetherPlan_c1_eq (fu : Nat) (a : Int) : F_i_TogetherPlan_c1 fu a = some (!inR 0 1000000 a) := by
  simp only [F_i_TogetherPlan_c1, F_i_in_eq, Option.bind_some]
theorem F_i_isNumber_eq (fu : Nat) (a : Int) : F_i_isNumber fu a = some (inR 1 1000000 a) := by
  simp only [F_i_isNumber, F_i_in_eq, Option.bind_some]
theorem F_s_l1Most_eq (fu : Nat) (a b : Int) : F_s_l1Most fu a b = some (max a b) := by
  unfold F_s_l1Most; grind
theorem F_s_l1Least_eq (fu : Nat) (a b : Int) : F_s_l1Least fu a b = some (min a b) := by
  unfold F_s_l1Least; grind
theorem F_i_step_eq (fu : Nat) (a b : Int) : F_i_step fu a b = some (min a b, max a b) := by
  unfold F_i_step; grind
theorem F_s_plStep_eq (fu : Nat) (a b : Int) : F_s_plStep fu a b = some (min a b, max a b) := by
  simp only [F_s_plStep, F_s_l1Least_eq, F_s_l1Most_eq, Option.bind_some]
theorem F_i_newMaker_eq (fu : Nat) (a : Int) : F_i_newMaker fu a = some () := rfl

/-- The greatest one, at least 0. -/
def mx (xs : List Int) : Int := xs.foldl max 0

theorem foldl_max_max : ∀ (xs : List Int) (a b : Int), xs.foldl max (max a b) = max a (xs.foldl max b)
  | [], _, _ => rfl
  | x :: xs, a, b => by rw [List.foldl_cons, List.foldl_cons, ← foldl_max_max xs a]; congr 1; omega
theorem mx_nil : mx [] = 0 := rfl
theorem mx_cons (x : Int) (xs : List Int) : mx (x :: xs) = max x (mx xs) := by
  unfold mx; rw [List.foldl_cons, ← foldl_max_max, Int.max_comm]
theorem mx_nonneg : ∀ xs, 0 ≤ mx xs
  | [] => Int.le_refl _
  | x :: xs => by rw [mx_cons]; have := mx_nonneg xs; omega
theorem le_mx {x : Int} : ∀ {xs : List Int}, x ∈ xs → x ≤ mx xs
  | y :: ys, h => by
    rw [mx_cons]
    rcases List.mem_cons.1 h with rfl | h
    · omega
    · have := le_mx h; omega
theorem mx_mem : ∀ {xs : List Int}, 0 < mx xs → mx xs ∈ xs
  | [], h => by simp [mx_nil] at h
  | x :: xs, h => by
    rw [mx_cons] at h ⊢
    by_cases hx : mx xs ≤ x
    · rw [Int.max_eq_left hx]; exact List.mem_cons_self
    · rw [Int.max_eq_right (by omega)] at h ⊢; exact List.mem_cons_of_mem _ (mx_mem h)
theorem mx_le {m : Int} (hm : 0 ≤ m) : ∀ {xs : List Int}, (∀ x ∈ xs, x ≤ m) → mx xs ≤ m
  | [], _ => hm
  | x :: xs, h => by
    rw [mx_cons]
    have h1 := h x (List.mem_cons_self)
    have h2 := mx_le hm (xs := xs) fun y hy => h y (List.mem_cons_of_mem _ hy)
    omega

theorem F_s_meGreatest_eq (fu : Nat) (xs : List Int) (hx : xs.length ≤ 1000000000) (hf : xs.length < fu) : F_s_meGreatest fu xs = some (mx xs) := by
  unfold F_s_meGreatest
  refine (scan_fold (L := fun n i s => F_s_meGreatestL2 fu xs n s i) (K := some) xs 0 max (fun n i s h0 h => ?_) (fun n s => ?_) fu 0 0 (by omega) (by omega) (by omega))
  · simp (disch := omega) only [F_s_meGreatestL2, itd_t, chk_of, F_s_l1Most_eq, Option.bind_some, w64]
  · simp (disch := omega) only [F_s_meGreatestL2, itd_f, F_s_meGreatestJ1]

theorem F_slices_Max_Lint_int_eq (fu : Nat) (xs : List Int) (hx : xs.length ≤ 1000000000) (hf : xs.length < fu) (hn : 1 ≤ xs.length) (h0 : ∀ x ∈ xs, 0 ≤ x) : F_slices_Max_Lint_int fu xs = some (mx xs) := by
  unfold F_slices_Max_Lint_int
  rw [itd_f (by omega), chk_of (by omega)]
  refine (scan_fold (L := fun n i s => F_slices_Max_Lint_intL2 fu xs n s i) (K := some) xs 0 max (fun n i s h0 h => ?_) (fun n s => ?_) fu 1 _ (by omega) (by omega) (by omega)).trans ?_
  · simp (disch := omega) only [F_slices_Max_Lint_intL2, itd_t, chk_of, w64]
    congr 1; grind
  · simp (disch := omega) only [F_slices_Max_Lint_intL2, itd_f, F_slices_Max_Lint_intJ1]
  · cases xs with
    | nil => simp at hn
    | cons x xs =>
      have := h0 x (List.mem_cons_self)
      unfold mx
      simp only [List.foldl_cons, Int.max_eq_right this]
      rfl

theorem F_slices_IndexFunc_Lint_int_fms_eq (fu : Nat) (xs : List Int) (hx : xs.length ≤ 1000000000) (hf : xs.length < fu) : ∃ r, F_slices_IndexFunc_Lint_int_fms fu xs = some r ∧ decide (r ≥ 0) = xs.any (fun x => !inR 0 1000000 x) := by
  unfold F_slices_IndexFunc_Lint_int_fms
  refine scan_find (L := F_slices_IndexFunc_Lint_int_fmsL2 fu xs) xs 0 _ (fun n i h0 h => ?_) (fun n => ?_) fu 0 (by omega) (by omega) (by omega)
  · simp (disch := omega) only [F_slices_IndexFunc_Lint_int_fmsL2, itd_t, chk_of, F_i_TogetherPlan_c1_eq, Option.bind_some, w64]
  · simp (disch := omega) only [F_slices_IndexFunc_Lint_int_fmsL2, itd_f, F_slices_IndexFunc_Lint_int_fmsJ1]
theorem F_slices_ContainsFunc_Lint_int_fms_eq (fu : Nat) (xs : List Int) (hx : xs.length ≤ 1000000000) (hf : xs.length < fu) : F_slices_ContainsFunc_Lint_int_fms fu xs = some (xs.any (fun x => !inR 0 1000000 x)) := by
  obtain ⟨r, e, h⟩ := F_slices_IndexFunc_Lint_int_fms_eq fu xs hx hf
  simp only [F_slices_ContainsFunc_Lint_int_fms, e, Option.bind_some, h]

theorem F_s_l1All_eq (fu : Nat) (xs : List Int) (b c : Int) (hx : xs.length ≤ 1000000000) (hf : xs.length < fu) : F_s_l1All fu xs b c = some (xs.all (inR b c)) := by
  unfold F_s_l1All
  refine (scan_any (L := F_s_l1AllL2 fu xs b c) (A := some false) (B := some true) xs 0 (fun x => !inR b c x) (fun n i h0 h => ?_) (fun n => ?_) fu 0 (by omega) (by omega) (by omega)).trans ?_
  · simp (disch := omega) only [F_s_l1AllL2, itd_t, chk_of, F_s_l1In_eq, Option.bind_some, w64]
  · simp (disch := omega) only [F_s_l1AllL2, itd_f, F_s_l1AllJ1]
  · rw [Int.toNat_zero, List.drop_zero, List.all_eq_not_any_not]
    cases List.any xs _ <;> simp

abbrev Stp := Int × Int
def unitR (n i : Nat) : List Int := (List.replicate n (0 : Int)).set i 1
def unitRows (n : Nat) : List (List Int) := (List.range n).map (unitR n)
def addR (a b : List Int) : List Int := List.zipWith (fun x y => min (x + y) 1000001) a b
def expsF (rs : List (List Int)) (ss : List Stp) : List (List Int) := ss.foldl (fun rs s => rs ++ [addR (rs.getD s.1.toNat []) (rs.getD s.2.toNat [])]) rs
def exps (n : Int) (ss : List Stp) : List (List Int) := expsF (unitRows n.toNat) ss
def stepsOk : Int → List Stp → Bool
  | _, [] => true
  | m, s :: r => decide (0 ≤ s.1 ∧ s.1 ≤ s.2 ∧ s.2 < m) && stepsOk (m + 1) r
def formOk (n : Int) (ss : List Stp) (os : List Int) : Bool := inR 1 6 n && decide (ss.length ≤ 40) && decide (os.length ≤ 6) && stepsOk n ss && os.all (inR 0 (n + ss.length - 1))
def rowsOk (rs : List (List Int)) : Bool := rs.all fun r => r.all (inR 0 1000000)
def plan (n : Int) (ss : List Stp) (os : List Int) : Bool := formOk n ss os && rowsOk (exps n ss)

/-- All rows have n numbers, none less than 0 or greater than 1000001. -/
def Rows0 (n : Nat) (rs : List (List Int)) : Prop := ∀ r ∈ rs, r.length = n ∧ ∀ x ∈ r, 0 ≤ x ∧ x ≤ 1000001

theorem Rows0.get {n : Nat} {rs : List (List Int)} (h : Rows0 n rs) {i : Int} (h0 : 0 ≤ i) (h1 : i < (rs.length : Int)) : (rs.getD i.toNat []).length = n ∧ ∀ x ∈ rs.getD i.toNat [], 0 ≤ x ∧ x ≤ 1000001 := by
  have hi : i.toNat < rs.length := by omega
  have e : rs.getD i.toNat [] = rs[i.toNat] := by simp [List.getD_eq_getElem?_getD, List.getElem?_eq_getElem hi]
  rw [e]
  exact h _ (List.getElem_mem hi)

theorem addR_rows {n : Nat} {a b : List Int} (ha : a.length = n ∧ ∀ x ∈ a, 0 ≤ x ∧ x ≤ 1000001) (hb : b.length = n ∧ ∀ x ∈ b, 0 ≤ x ∧ x ≤ 1000001) : (addR a b).length = n ∧ ∀ x ∈ addR a b, 0 ≤ x ∧ x ≤ 1000001 := by
  refine ⟨by simp [addR, ha.1, hb.1], fun x hx => ?_⟩
  obtain ⟨i, hi, e⟩ := List.mem_iff_getElem.1 hx
  simp only [addR, List.getElem_zipWith] at e
  have hl : i < a.length ∧ i < b.length := by simp only [addR, List.length_zipWith] at hi; omega
  have h1 := ha.2 a[i] (List.getElem_mem hl.1)
  have h2 := hb.2 b[i] (List.getElem_mem hl.2)
  omega

theorem Rows0.push {n : Nat} {rs : List (List Int)} (h : Rows0 n rs) {a b : Int} (ha : 0 ≤ a) (ha' : a < (rs.length : Int)) (hb : 0 ≤ b) (hb' : b < (rs.length : Int)) : Rows0 n (rs ++ [addR (rs.getD a.toNat []) (rs.getD b.toNat [])]) := by
  intro r hr
  rcases List.mem_append.1 hr with hr | hr
  · exact h r hr
  · rw [List.mem_singleton.1 hr]; exact addR_rows (h.get ha ha') (h.get hb hb')

theorem unitRows_rows (n : Nat) : Rows0 n (unitRows n) := by
  intro r hr
  simp only [unitRows, List.mem_map, List.mem_range] at hr
  obtain ⟨i, hi, rfl⟩ := hr
  refine ⟨by simp [unitR], fun x hx => ?_⟩
  rcases List.mem_or_eq_of_mem_set hx with hx | rfl
  · rw [List.mem_replicate] at hx; omega
  · omega

theorem expsF_rows {n : Nat} : ∀ (ss : List Stp) (rs : List (List Int)) (m : Int), m = rs.length → Rows0 n rs → stepsOk m ss = true → Rows0 n (expsF rs ss) ∧ (expsF rs ss).length = rs.length + ss.length
  | [], rs, m, _, h, _ => ⟨h, rfl⟩
  | s :: ss, rs, m, hm, h, hs => by
    simp only [stepsOk, Bool.and_eq_true, decide_eq_true_eq] at hs
    have := expsF_rows ss (rs ++ [addR (rs.getD s.1.toNat []) (rs.getD s.2.toNat [])]) (m + 1) (by simp only [List.length_append, List.length_cons, List.length_nil, List.length_replicate, List.length_set, List.length_map, List.length_range, List.length_take, List.length_drop, List.length_zipWith, List.length_reverse]; omega) (h.push (by omega) (by omega) (by omega) (by omega)) hs.2
    refine ⟨this.1, this.2.trans ?_⟩
    simp; omega

theorem exps_rows {n : Int} {ss : List Stp} (h0 : 0 ≤ n) (hs : stepsOk n ss = true) : Rows0 n.toNat (exps n ss) ∧ (exps n ss).length = n.toNat + ss.length := by
  have := expsF_rows (n := n.toNat) ss (unitRows n.toNat) n (by simp [unitRows]; omega) (unitRows_rows _) hs
  simpa [exps, unitRows] using this
end Pu
end Go.Proofs.Ytiplmapndahmmaa
