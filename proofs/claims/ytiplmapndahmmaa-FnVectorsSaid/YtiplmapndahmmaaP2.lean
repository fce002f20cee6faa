/- Plain laws: what a plan is, by the program and by the reference. -/
import Derived.Test.YtiplmapndahmmaaP1
namespace Go.Proofs.Ytiplmapndahmmaa
open Al
set_option linter.unusedVariables false
set_option linter.unusedSimpArgs false
namespace Pu

theorem unitRows_snoc (n : Int) (rs : List (List Int)) (h0 : 0 ≤ n) {i : Int} (hi : 0 ≤ i) (hn : i < n) :
    ((List.range n.toNat).take i.toNat).map (unitR n.toNat) ++ [List.set (List.replicate n.toNat (0 : Int)) i.toNat 1] = ((List.range n.toNat).take (i + 1).toNat).map (unitR n.toNat) := by
  rw [show (i + 1).toNat = i.toNat + 1 by omega, List.take_add_one, List.map_append]
  congr 1
  rw [List.getElem?_range (by omega)]
  rfl

/-- The sum of two rows from a number on. -/
theorem addR_drop {n : Nat} {a b : List Int} (ha : a.length = n) (hb : b.length = n) {i : Int} (h0 : 0 ≤ i) (h : i < (a.length : Int)) :
    addR (a.drop i.toNat) (b.drop i.toNat) = min (a.getD i.toNat 0 + b.getD i.toNat 0) 1000001 :: addR (a.drop (i + 1).toNat) (b.drop (i + 1).toNat) := by
  rw [drop_cons' a 0 h0 h, drop_cons' b 0 h0 (by omega)]; rfl

theorem getD_mem_range {n : Nat} {a : List Int} (ha : a.length = n ∧ ∀ x ∈ a, 0 ≤ x ∧ x ≤ 1000001) (i : Nat) : 0 ≤ a.getD i 0 ∧ a.getD i 0 ≤ 1000001 := by
  rw [List.getD_eq_getElem?_getD]
  cases h : a[i]? with
  | none => simp
  | some x => simp only [Option.getD_some]; exact ha.2 x (List.mem_of_getElem? h)

theorem F_i_Plan_exponents_wzeL6_eq (fu : Nat) (rs : List (List Int)) (ss : List Stp) (i : Int) (K : Int → Int → List (List Int) → Option (List (List Int))) (l : Int) {m : Nat} (hm : m ≤ 6) (hl : rs.length ≤ 100)
    (h0 : 0 ≤ (ss.getD i.toNat (0, 0)).1) (h1 : (ss.getD i.toNat (0, 0)).1 < (rs.length : Int)) (h2 : 0 ≤ (ss.getD i.toNat (0, 0)).2) (h3 : (ss.getD i.toNat (0, 0)).2 < (rs.length : Int)) (hr : Rows0 m rs) (hi : 0 ≤ i ∧ i ≤ 100) :
    ∀ (n : Nat) (j : Int) (acc : List Int), 0 ≤ j → j ≤ (m : Int) → (m : Int) - j < n → (acc.length : Int) = j →
    F_i_Plan_exponents_wzeL6 fu rs ss i K l n j acc = K l (i + 1) (rs ++ [acc ++ addR ((rs.getD (ss.getD i.toNat (0, 0)).1.toNat []).drop j.toNat) ((rs.getD (ss.getD i.toNat (0, 0)).2.toNat []).drop j.toNat)]) := by
  have ga := hr.get h0 h1
  have gb := hr.get h2 h3
  intro n
  induction n with
  | zero => intros; omega
  | succ n ih =>
    intro j acc j0 j1 hn hj
    have gA := getD_mem_range ga j.toNat
    have gB := getD_mem_range gb j.toNat
    by_cases h : j < (m : Int)
    · rw [addR_drop ga.1 gb.1 j0 (by omega), F_i_Plan_exponents_wzeL6]
      rw [itd_t (by omega), chk_of (by omega), chk_of (by simp only [List.length_append, List.length_cons, List.length_nil, List.length_replicate, List.length_set, List.length_map, List.length_range, List.length_take, List.length_drop, List.length_zipWith, List.length_reverse]; omega), ih _ _ (by rw [w64] <;> omega) (by rw [w64] <;> omega) (by rw [w64] <;> omega) (by simp; rw [w64] <;> omega)]
      rw [w64 (x := j + 1) (by omega), w64 (x := _ + _) (by omega)]
      have e : ∀ x : Int, (if 1000001 < x then 1000001 else x) = min x 1000001 := by intro x; grind
      rw [e, List.append_assoc, List.singleton_append]
    · have : j = (m : Int) := by omega
      subst this
      rw [F_i_Plan_exponents_wzeL6]
      rw [itd_f (by omega), F_i_Plan_exponents_wzeJ5, F_i_Plan_exponents_wzeJ4, chk_of (by simp only [List.length_append, List.length_cons, List.length_nil, List.length_replicate, List.length_set, List.length_map, List.length_range, List.length_take, List.length_drop, List.length_zipWith, List.length_reverse]; omega), w64 (by omega), List.drop_eq_nil_of_le (by omega)]
      simp [addR]

theorem F_i_Plan_exponents_wzeL3_eq (fu : Nat) (ss : List Stp) {m : Nat} (hf : 1000 ≤ fu) (hm : m ≤ 6) (hl : ss.length ≤ 40) :
    ∀ (n : Nat) (i : Int) (rs : List (List Int)), 0 ≤ i → i ≤ (ss.length : Int) → (ss.length : Int) - i < n → (rs.length : Int) = m + i → Rows0 m rs → stepsOk (m + i) (ss.drop i.toNat) = true →
    F_i_Plan_exponents_wzeL3 fu ss n (ss.length : Int) i rs = some (expsF rs (ss.drop i.toNat)) := by
  intro n
  induction n with
  | zero => intros; omega
  | succ n ih =>
    intro i rs h0 h1 hn hlen hr hs
    by_cases h : i < (ss.length : Int)
    · rw [drop_cons' ss (0, 0) h0 h] at hs ⊢
      simp only [stepsOk, Bool.and_eq_true, decide_eq_true_eq] at hs
      obtain ⟨⟨s0, s1, s2⟩, hs⟩ := hs
      rw [F_i_Plan_exponents_wzeL3, itd_t (by omega), chk_of (by omega), chk_of (by omega), F_i_Plan_exponents_wzeL6_eq fu rs ss i _ _ hm (by omega) (by omega) (by omega) (by omega) (by omega) hr (by omega) fu 0 [] (by omega) (by omega) (by omega) (by simp)]
      simp only [Int.toNat_zero, List.drop_zero, List.nil_append]
      rw [ih (i + 1) _ (by omega) (by omega) (by omega) (by simp only [List.length_append, List.length_cons, List.length_nil, List.length_replicate, List.length_set, List.length_map, List.length_range, List.length_take, List.length_drop, List.length_zipWith, List.length_reverse]; omega) (hr.push (by omega) (by omega) (by omega) (by omega)) (by rw [← hs]; congr 1; omega)]
      rfl
    · rw [F_i_Plan_exponents_wzeL3, itd_f (by omega), F_i_Plan_exponents_wzeJ2, drop_end ss (by omega)]
      rfl

theorem F_i_Plan_exponents_wzeL7_eq (fu : Nat) (nn : Int) (ss : List Stp) (hf : 1000 ≤ fu) (h0 : 1 ≤ nn) (h6 : nn ≤ 6) (hl : ss.length ≤ 40) (hs : stepsOk nn ss = true) :
    ∀ (n : Nat) (i : Int) (rs : List (List Int)), 0 ≤ i → i ≤ nn → nn - i < n → rs = ((List.range nn.toNat).take i.toNat).map (unitR nn.toNat) → F_i_Plan_exponents_wzeL7 fu nn ss n i rs = some (exps nn ss) := by
  intro n
  induction n with
  | zero => intros; omega
  | succ n ih =>
    intro i rs i0 i1 hn hr
    have hlr : rs.length = i.toNat := by rw [hr]; simp; omega
    by_cases h : i < nn
    · rw [F_i_Plan_exponents_wzeL7, itd_t (by omega), chk_of (by omega), chk_of (by simp only [List.length_append, List.length_cons, List.length_nil, List.length_replicate, List.length_set, List.length_map, List.length_range, List.length_take, List.length_drop, List.length_zipWith, List.length_reverse]; omega), chk_of (by simp only [List.length_append, List.length_cons, List.length_nil, List.length_replicate, List.length_set, List.length_map, List.length_range, List.length_take, List.length_drop, List.length_zipWith, List.length_reverse]; omega)]
      rw [w64 (by omega)]
      refine ih (i + 1) _ (by omega) (by omega) (by omega) ?_
      rw [hr, unitRows_snoc nn rs (by omega) i0 h]
    · have : i = nn := by omega
      subst this
      rw [F_i_Plan_exponents_wzeL7, itd_f (by omega), F_i_Plan_exponents_wzeJ1]
      have e : rs = unitRows i.toNat := by rw [hr, List.take_of_length_le (by simp)]; rfl
      rw [F_i_Plan_exponents_wzeL3_eq fu ss (m := i.toNat) hf (by omega) hl fu 0 rs (by omega) (by omega) (by omega) (by omega) (by rw [e]; exact unitRows_rows _) (by rw [← hs]; simp only [Int.toNat_zero, List.drop_zero]; congr 1; omega)]
      simp only [Int.toNat_zero, List.drop_zero]
      rw [e]; rfl

theorem F_i_Plan_exponents_wze_eq (fu : Nat) (n : Int) (ss : List Stp) (os : List Int) (hf : 1000 ≤ fu) (h0 : 1 ≤ n) (h6 : n ≤ 6) (hl : ss.length ≤ 40) (hs : stepsOk n ss = true) : F_i_Plan_exponents_wze fu n ss os = some (exps n ss) := by
  unfold F_i_Plan_exponents_wze
  exact F_i_Plan_exponents_wzeL7_eq fu n ss hf h0 h6 hl hs fu 0 [] (by omega) (by omega) (by omega) (by simp)

theorem F_i_Plan_many_wze_eq (fu : Nat) (n : Int) (ss : List Stp) (os : List Int) (h : -1000000000 ≤ n ∧ n ≤ 1000000000) (hs : ss.length ≤ 1000000000) : F_i_Plan_many_wze fu n ss os = some (n + ss.length) := by
  unfold F_i_Plan_many_wze; rw [w64 (by omega)]

theorem F_slices_ContainsFunc_Lint_int_zff_eq (fu : Nat) (xs : List Int) (n : Int) (ss : List Stp) (os : List Int) (hx : xs.length ≤ 1000000000) (hf : xs.length < fu) (h : -1000000000 ≤ n ∧ n ≤ 1000000000) (hs : ss.length ≤ 1000000000) :
    F_slices_ContainsFunc_Lint_int_zff fu xs n ss os = some (xs.any (fun x => !inR 0 (n + ss.length - 1) x)) := by
  obtain ⟨r, e, hr⟩ : ∃ r, F_slices_IndexFunc_Lint_int_zff fu xs n ss os = some r ∧ decide (r ≥ 0) = xs.any (fun x => !inR 0 (n + ss.length - 1) x) := by
    unfold F_slices_IndexFunc_Lint_int_zff
    refine scan_find (L := F_slices_IndexFunc_Lint_int_zffL2 fu xs n ss os) xs 0 _ (fun k i h0 h => ?_) (fun n => ?_) fu 0 (by omega) (by omega) (by omega)
    · simp (disch := omega) only [F_slices_IndexFunc_Lint_int_zffL2, itd_t, chk_of, F_i_Plan_formed_c1_foh, F_i_Plan_many_wze_eq, F_i_in_eq, Option.bind_some, w64]
    · simp (disch := omega) only [F_slices_IndexFunc_Lint_int_zffL2, itd_f, F_slices_IndexFunc_Lint_int_zffJ1]
  simp only [F_slices_ContainsFunc_Lint_int_zff, e, Option.bind_some, hr]

theorem any_not_all {α : Type} (xs : List α) (p : α → Bool) : (!xs.any fun x => !p x) = xs.all p := by
  rw [List.all_eq_not_any_not]

theorem F_i_Plan_formed_wzeL2_eq (fu : Nat) (ss : List Stp) (n : Int) (os : List Int) (hf : 1000 ≤ fu) (h0 : 1 ≤ n) (h6 : n ≤ 6) (hl : ss.length ≤ 40) (ho : os.length ≤ 6) :
    ∀ (k : Nat) (i : Int), 0 ≤ i → i ≤ (ss.length : Int) → (ss.length : Int) - i < k → F_i_Plan_formed_wzeL2 fu ss n os k i = some (stepsOk (n + i) (ss.drop i.toNat) && os.all (inR 0 (n + ss.length - 1))) := by
  intro k
  induction k with
  | zero => intros; omega
  | succ k ih =>
    intro i i0 i1 hn
    by_cases h : i < (ss.length : Int)
    · rw [drop_cons' ss (0, 0) i0 h, F_i_Plan_formed_wzeL2, itd_t (by omega), chk_of (by omega), w64 (x := n + i) (by omega), w64 (x := i + 1) (by omega), ih (i + 1) (by omega) (by omega) (by omega)]
      generalize ss.getD i.toNat (0, 0) = s
      simp only [stepsOk]
      rw [Int.add_assoc]
      by_cases hs : 0 ≤ s.1 ∧ s.1 ≤ s.2 ∧ s.2 < n + i
      · have e1 : decide (s.1 < 0) = false := by simp; omega
        have e2 : decide (s.1 > s.2) = false := by simp; omega
        have e3 : decide (s.2 ≥ n + i) = false := by simp; omega
        simp [e1, e2, e3, hs]
      · have : (decide (s.1 < 0) || decide (s.1 > s.2) || decide (s.2 ≥ n + i)) = true := by simp; omega
        have e : ∀ a b : Bool, cond a true b = (a || b) := by intro a b; cases a <;> rfl
        simp [e, this, hs]
    · rw [F_i_Plan_formed_wzeL2, itd_f (by omega), F_i_Plan_formed_wzeJ1, drop_end ss (by omega), F_slices_ContainsFunc_Lint_int_zff_eq fu os n ss os (by omega) (by omega) (by omega) (by omega), Option.bind_some, any_not_all]
      simp [stepsOk]

theorem cond_or (a b : Bool) : cond a true b = (a || b) := by cases a <;> rfl
theorem F_i_Plan_formed_wze_eq (fu : Nat) (n : Int) (ss : List Stp) (os : List Int) (hf : 1000 ≤ fu) : F_i_Plan_formed_wze fu n ss os = some (formOk n ss os) := by
  unfold F_i_Plan_formed_wze formOk
  simp only [F_i_in_eq, Option.bind_some, cond_or]
  by_cases h1 : inR 1 6 n = true
  · by_cases h2 : ss.length ≤ 40
    · by_cases h3 : os.length ≤ 6
      · have := inR_iff.1 h1
        rw [if_neg (by simp [h1]; omega), F_i_Plan_formed_wzeL2_eq fu ss n os hf this.1 this.2 h2 h3 fu 0 (by omega) (by omega) (by omega)]
        simp [h1, h2, h3]
      · rw [if_pos (by simp; omega)]; simp [h3]
    · rw [if_pos (by simp; omega)]; simp [h2]
  · rw [Bool.not_eq_true] at h1
    simp [h1]

theorem F_rowsBad_eq (fu : Nat) (rs : List (List Int)) {m : Nat} (hm : 1 ≤ m) (hm6 : m ≤ 6) (hr : Rows0 m rs) (hl : rs.length ≤ 100) (hf : 1000 ≤ fu) : F_slices_ContainsFunc_LLint_Lint_ftu fu rs = some (!rowsOk rs) := by
  obtain ⟨r, e, h⟩ : ∃ r, F_slices_IndexFunc_LLint_Lint_ftu fu rs = some r ∧ decide (r ≥ 0) = rs.any (fun x => !x.all (inR 0 1000000)) := by
    unfold F_slices_IndexFunc_LLint_Lint_ftu
    refine scan_find (L := F_slices_IndexFunc_LLint_Lint_ftuL2 fu rs) rs [] _ (fun k i h0 h => ?_) (fun n => ?_) fu 0 (by omega) (by omega) (by omega)
    · have g := hr.get h0 h
      rw [F_slices_IndexFunc_LLint_Lint_ftuL2, itd_t (by omega), chk_of (by omega), w64 (by omega)]
      have e : F_i_IsPlan_c1 fu (rs.getD i.toNat []) = some (!(rs.getD i.toNat []).all (inR 0 1000000)) := by
        rw [F_i_IsPlan_c1, F_slices_Max_Lint_int_eq fu _ (by omega) (by omega) (by omega) (fun x hx => (g.2 x hx).1), Option.bind_some]
        congr 1
        clear h0 h
        generalize rs.getD i.toNat [] = r at g
        by_cases hx : mx r > 1000000
        · have hm := mx_mem (xs := r) (by omega)
          have : r.all (inR 0 1000000) = false := by
            rw [List.all_eq_false]; exact ⟨_, hm, by simp [inR]; omega⟩
          simp [this, hx]
        · have : r.all (inR 0 1000000) = true := by
            rw [List.all_eq_true]; intro x hx'; have := le_mx hx'; have := (g.2 x hx').1; simp [inR]; omega
          simp [this, hx]
      rw [e, Option.bind_some]
    · simp (disch := omega) only [F_slices_IndexFunc_LLint_Lint_ftuL2, itd_f, F_slices_IndexFunc_LLint_Lint_ftuJ1]
  simp only [F_slices_ContainsFunc_LLint_Lint_ftu, e, Option.bind_some, h]
  congr 1
  rw [rowsOk, List.all_eq_not_any_not, Bool.not_not]

theorem formOk_iff {n : Int} {ss : List Stp} {os : List Int} : formOk n ss os = true ↔ (1 ≤ n ∧ n ≤ 6) ∧ ss.length ≤ 40 ∧ os.length ≤ 6 ∧ stepsOk n ss = true ∧ os.all (inR 0 (n + ss.length - 1)) = true := by
  simp [formOk, inR_iff, and_assoc]

theorem F_i_IsPlan_eq (fu : Nat) (n : Int) (ss : List Stp) (os : List Int) (hf : 1000 ≤ fu) : F_i_IsPlan fu n ss os = some (plan n ss os) := by
  unfold F_i_IsPlan plan
  rw [F_i_Plan_formed_wze_eq fu n ss os hf, Option.bind_some]
  cases hform : formOk n ss os with
  | false => rfl
  | true =>
    obtain ⟨⟨h0, h6⟩, hl, ho, hs, _⟩ := formOk_iff.1 hform
    obtain ⟨hr, hrl⟩ := exps_rows (by omega) hs
    simp only [BEq.rfl, gcl_t, F_i_Plan_exponents_wze_eq fu n ss os hf h0 h6 hl hs, Option.bind_some, F_rowsBad_eq fu (exps n ss) (m := n.toNat) (by omega) (by omega) hr (by omega) hf]
    simp

theorem F_s_plSum_eq (fu : Nat) (a b : List Int) {m : Nat} (hm : m ≤ 100) (ha : a.length = m ∧ ∀ x ∈ a, 0 ≤ x ∧ x ≤ 1000001) (hb : b.length = m ∧ ∀ x ∈ b, 0 ≤ x ∧ x ≤ 1000001) (hf : 1000 ≤ fu) : F_s_plSum fu a b = some (addR a b) := by
  have key : ∀ (n : Nat) (j : Int) (acc : List Int), 0 ≤ j → j ≤ (a.length : Int) → (a.length : Int) - j < n → (acc.length : Int) = j → F_s_plSumL2 fu a b n j acc = some (acc ++ addR (a.drop j.toNat) (b.drop j.toNat)) := by
    intro n
    induction n with
    | zero => intros; omega
    | succ n ih =>
      intro j acc j0 j1 hn hj
      have gA := getD_mem_range ha j.toNat
      have gB := getD_mem_range hb j.toNat
      by_cases h : j < (a.length : Int)
      · rw [addR_drop ha.1 hb.1 j0 h, F_s_plSumL2, itd_t (by omega), chk_of (by omega), w64 (x := _ + _) (by omega), F_s_l1Least_eq, Option.bind_some, chk_of (by simp only [List.length_append, List.length_cons, List.length_nil, List.length_replicate, List.length_set, List.length_map, List.length_range, List.length_take, List.length_drop, List.length_zipWith, List.length_reverse]; omega), w64 (by omega), ih (j + 1) _ (by omega) (by omega) (by omega) (by simp only [List.length_append, List.length_cons, List.length_nil, List.length_replicate, List.length_set, List.length_map, List.length_range, List.length_take, List.length_drop, List.length_zipWith, List.length_reverse]; omega)]
        rw [List.append_assoc, List.singleton_append]
      · rw [F_s_plSumL2, itd_f (by omega), F_s_plSumJ1, drop_end a (by omega)]
        simp [addR]
  unfold F_s_plSum
  rw [key fu 0 [] (by omega) (by omega) (by omega) (by simp)]
  simp

theorem F_s_plExponentsL3_eq (fu : Nat) (ss : List Stp) {m : Nat} (hf : 1000 ≤ fu) (hm : m ≤ 6) (hl : ss.length ≤ 40) :
    ∀ (n : Nat) (i : Int) (rs : List (List Int)), 0 ≤ i → i ≤ (ss.length : Int) → (ss.length : Int) - i < n → (rs.length : Int) = m + i → Rows0 m rs → stepsOk (m + i) (ss.drop i.toNat) = true →
    F_s_plExponentsL3 fu ss n i rs = some (expsF rs (ss.drop i.toNat)) := by
  intro n
  induction n with
  | zero => intros; omega
  | succ n ih =>
    intro i rs h0 h1 hn hlen hr hs
    by_cases h : i < (ss.length : Int)
    · rw [drop_cons' ss (0, 0) h0 h] at hs ⊢
      simp only [stepsOk, Bool.and_eq_true, decide_eq_true_eq] at hs
      obtain ⟨⟨s0, s1, s2⟩, hs⟩ := hs
      rw [F_s_plExponentsL3, itd_t (by omega), chk_of (by omega), chk_of (by omega)]
      rw [F_s_plSum_eq fu _ _ (m := m) (by omega) (hr.get (by omega) (by omega)) (hr.get (by omega) (by omega)) hf, Option.bind_some, chk_of (by simp only [List.length_append, List.length_cons, List.length_nil, List.length_replicate, List.length_set, List.length_map, List.length_range, List.length_take, List.length_drop, List.length_zipWith, List.length_reverse]; omega), w64 (by omega)]
      rw [ih (i + 1) _ (by omega) (by omega) (by omega) (by simp only [List.length_append, List.length_cons, List.length_nil, List.length_replicate, List.length_set, List.length_map, List.length_range, List.length_take, List.length_drop, List.length_zipWith, List.length_reverse]; omega) (hr.push (by omega) (by omega) (by omega) (by omega)) (by rw [← hs]; congr 1; omega)]
      rfl
    · rw [F_s_plExponentsL3, itd_f (by omega), F_s_plExponentsJ2, drop_end ss (by omega)]
      rfl

theorem F_s_plExponentsL4_eq (fu : Nat) (nn : Int) (ss : List Stp) (hf : 1000 ≤ fu) (h0 : 1 ≤ nn) (h6 : nn ≤ 6) (hl : ss.length ≤ 40) (hs : stepsOk nn ss = true) :
    ∀ (n : Nat) (i : Int) (rs : List (List Int)), 0 ≤ i → i ≤ nn → nn - i < n → rs = ((List.range nn.toNat).take i.toNat).map (unitR nn.toNat) → F_s_plExponentsL4 fu nn ss n i rs = some (exps nn ss) := by
  intro n
  induction n with
  | zero => intros; omega
  | succ n ih =>
    intro i rs i0 i1 hn hr
    have hlr : rs.length = i.toNat := by rw [hr]; simp; omega
    by_cases h : i < nn
    · rw [F_s_plExponentsL4, itd_t (by omega), chk_of (by omega), chk_of (by simp only [List.length_append, List.length_cons, List.length_nil, List.length_replicate, List.length_set, List.length_map, List.length_range, List.length_take, List.length_drop, List.length_zipWith, List.length_reverse]; omega), chk_of (by simp only [List.length_append, List.length_cons, List.length_nil, List.length_replicate, List.length_set, List.length_map, List.length_range, List.length_take, List.length_drop, List.length_zipWith, List.length_reverse]; omega)]
      rw [w64 (by omega)]
      refine ih (i + 1) _ (by omega) (by omega) (by omega) ?_
      rw [hr, unitRows_snoc nn rs (by omega) i0 h]
    · have : i = nn := by omega
      subst this
      rw [F_s_plExponentsL4, itd_f (by omega), F_s_plExponentsJ1]
      have e : rs = unitRows i.toNat := by rw [hr, List.take_of_length_le (by simp)]; rfl
      rw [F_s_plExponentsL3_eq fu ss (m := i.toNat) hf (by omega) hl fu 0 rs (by omega) (by omega) (by omega) (by omega) (by rw [e]; exact unitRows_rows _) (by rw [← hs]; simp only [Int.toNat_zero, List.drop_zero]; congr 1; omega)]
      simp only [Int.toNat_zero, List.drop_zero]
      rw [e]; rfl

theorem F_s_plExponents_eq (fu : Nat) (n : Int) (ss : List Stp) (os : List Int) (hf : 1000 ≤ fu) (h0 : 1 ≤ n) (h6 : n ≤ 6) (hl : ss.length ≤ 40) (hs : stepsOk n ss = true) : F_s_plExponents fu n ss os = some (exps n ss) := by
  unfold F_s_plExponents
  exact F_s_plExponentsL4_eq fu n ss hf h0 h6 hl hs fu 0 [] (by omega) (by omega) (by omega) (by simp)

theorem F_s_plGoodJ1_eq (fu : Nat) (n : Int) (ss : List Stp) (os : List Int) (hf : 1000 ≤ fu) (h0 : 1 ≤ n) (h6 : n ≤ 6) (hl : ss.length ≤ 40) (ho : os.length ≤ 6) (hs : stepsOk n ss = true) :
    F_s_plGoodJ1 fu n ss os = some (rowsOk (exps n ss) && os.all (inR 0 (n + ss.length - 1))) := by
  obtain ⟨hr, hrl⟩ := exps_rows (by omega) hs
  rw [F_s_plGoodJ1, F_s_plExponents_eq fu n ss os hf h0 h6 hl hs, Option.bind_some]
  refine (scan_any (L := F_s_plGoodL3 fu (exps n ss) os n ss) (A := some false) (B := F_s_plGoodJ2 fu os n ss) (exps n ss) [] (fun r => !r.all (inR 0 1000000)) (fun k i i0 h => ?_) (fun k => ?_) fu 0 (by omega) (by omega) (by omega)).trans ?_
  · have g := hr.get i0 h
    rw [F_s_plGoodL3, itd_t (by omega), chk_of (by omega), F_s_l1All_eq fu _ _ _ (by omega) (by omega), Option.bind_some, w64 (by omega)]
  · rw [F_s_plGoodL3, itd_f (by omega)]
  · rw [Int.toNat_zero, List.drop_zero, F_s_plGoodJ2, w64 (x := n + _) (by omega), w64 (by omega), F_s_l1All_eq fu _ _ _ (by omega) (by omega), Option.bind_some]
    have : rowsOk (exps n ss) = !(exps n ss).any fun r => !r.all (inR 0 1000000) := by rw [rowsOk, List.all_eq_not_any_not]
    rw [this]
    cases (exps n ss).any fun r => !r.all (inR 0 1000000) <;> simp

theorem F_s_plGoodL4_eq (fu : Nat) (ss : List Stp) (n : Int) (os : List Int) (hf : 1000 ≤ fu) (h0 : 1 ≤ n) (h6 : n ≤ 6) (hl : ss.length ≤ 40) (ho : os.length ≤ 6) :
    ∀ (k : Nat) (i : Int), 0 ≤ i → i ≤ (ss.length : Int) → (ss.length : Int) - i < k → (stepsOk n ss = stepsOk (n + i) (ss.drop i.toNat)) →
    F_s_plGoodL4 fu ss n os k i = some (stepsOk n ss && (rowsOk (exps n ss) && os.all (inR 0 (n + ss.length - 1)))) := by
  intro k
  induction k with
  | zero => intros; omega
  | succ k ih =>
    intro i i0 i1 hn hs
    by_cases h : i < (ss.length : Int)
    · rw [drop_cons' ss (0, 0) i0 h] at hs
      simp only [stepsOk] at hs
      rw [F_s_plGoodL4, itd_t (by omega), chk_of (by omega), F_s_l1In_eq, Option.bind_some, w64 (x := n + i) (by omega), w64 (x := i + 1) (by omega)]
      generalize ss.getD i.toNat (0, 0) = s at hs
      rw [cond_or]
      by_cases hc : 0 ≤ s.1 ∧ s.1 ≤ s.2 ∧ s.2 < n + i
      · have e1 : inR 0 s.2 s.1 = true := by simp [inR]; omega
        have e3 : decide (s.2 ≥ n + i) = false := by simp; omega
        simp only [e1, e3, Bool.not_true, Bool.or_false, Bool.false_eq_true, if_false]
        refine ih (i + 1) (by omega) (by omega) (by omega) ?_
        rw [hs, decide_eq_true hc, Bool.true_and, Int.add_assoc]
      · have e : (!inR 0 s.2 s.1 || decide (s.2 ≥ n + i)) = true := by simp [inR]; omega
        rw [if_pos e, hs, decide_eq_false hc]; simp
    · have : i = (ss.length : Int) := by omega
      subst this
      rw [drop_end ss (Int.le_refl _)] at hs
      simp only [stepsOk] at hs
      rw [F_s_plGoodL4, itd_f (by omega), F_s_plGoodJ1_eq fu n ss os hf h0 h6 hl ho hs, hs, Bool.true_and]

theorem F_s_plGood_eq (fu : Nat) (n : Int) (ss : List Stp) (os : List Int) (hf : 1000 ≤ fu) : F_s_plGood fu n ss os = some (plan n ss os) := by
  unfold F_s_plGood plan formOk
  simp only [F_s_l1In_eq, Option.bind_some, cond_or]
  by_cases h1 : inR 1 6 n = true
  · by_cases h2 : ss.length ≤ 40
    · by_cases h3 : os.length ≤ 6
      · have := inR_iff.1 h1
        rw [if_neg (by simp [h1]; omega), F_s_plGoodL4_eq fu ss n os hf this.1 this.2 h2 h3 fu 0 (by omega) (by omega) (by omega) (by simp)]
        congr 1
        simp only [h1, h2, h3, decide_true, Bool.true_and]
        cases stepsOk n ss <;> cases rowsOk (exps n ss) <;> simp
      · rw [if_pos (by simp; omega)]; simp [h3]
    · rw [if_pos (by simp; omega)]; simp [h2]
  · rw [Bool.not_eq_true] at h1
    simp [h1]

/-- A plan, if it is one. -/
def tellP (n : Int) (ss : List Stp) (os : List Int) : Bool × Int × List Stp × List Int := if plan n ss os = true then (true, n, ss, os) else (false, 0, [], [])
theorem F_i_told_eq (fu : Nat) (n : Int) (ss : List Stp) (os : List Int) (hf : 1000 ≤ fu) : F_i_told fu n ss os = some (tellP n ss os) := by
  rw [F_i_told, F_i_IsPlan_eq fu n ss os hf, Option.bind_some, tellP]; cases plan n ss os <;> simp
theorem F_s_plIf_eq (fu : Nat) (n : Int) (ss : List Stp) (os : List Int) (hf : 1000 ≤ fu) : F_s_plIf fu n ss os = some (tellP n ss os) := by
  rw [F_s_plIf, F_s_plGood_eq fu n ss os hf, Option.bind_some, tellP]; cases plan n ss os <;> simp
end Pu
end Go.Proofs.Ytiplmapndahmmaa
