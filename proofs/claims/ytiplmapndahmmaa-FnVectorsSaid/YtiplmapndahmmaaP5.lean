/- Plain laws: digits that are 1 as the library counts them; texts of bytes drawn; lists compared. -/
import Derived.Test.YtiplmapndahmmaaP4
namespace Go.Proofs.Ytiplmapndahmmaa
open Al
set_option linter.unusedVariables false
set_option linter.unusedSimpArgs false
namespace Pu

theorem popc_step (n : Nat) : popc n = n % 2 + popc (n / 2) := by
  by_cases h : n = 0
  · subst h; simp [popc_zero]
  · rw [popc, dif_neg h]
def g1 (a : Nat) : Nat := ((a / 2) &&& 85) + (a &&& 85)
def g2 (a : Nat) : Nat := ((a / 4) &&& 51) + (a &&& 51)
theorem F_l_pSameInts_refl (fu : Nat) (xs : List Int) (hx : xs.length ≤ 1000000000) (hf : xs.length < fu) : F_l_pSameInts fu xs xs = some true := by
  unfold F_l_pSameInts
  rw [if_neg (by simp)]
  refine (scan_any (L := F_l_pSameIntsL2 fu xs xs) (A := some false) (B := some true) xs 0 (fun _ => false) (fun n i h0 h => ?_) (fun n => ?_) fu 0 (by omega) (by omega) (by omega)).trans (by simp)
  · simp (disch := omega) only [F_l_pSameIntsL2, itd_t, chk_of, w64, bne_self_eq_false]
  · simp (disch := omega) only [F_l_pSameIntsL2, itd_f, F_l_pSameIntsJ1]
theorem F_l_pSameSteps_refl (fu : Nat) (xs : List Stp) (hx : xs.length ≤ 1000000000) (hf : xs.length < fu) : F_l_pSameSteps fu xs xs = some true := by
  unfold F_l_pSameSteps
  rw [if_neg (by simp)]
  refine (scan_any (L := F_l_pSameStepsL2 fu xs xs) (A := some false) (B := some true) xs (0, 0) (fun _ => false) (fun n i h0 h => ?_) (fun n => ?_) fu 0 (by omega) (by omega) (by omega)).trans (by simp)
  · simp (disch := omega) only [F_l_pSameStepsL2, itd_t, chk_of, w64, BEq.rfl, Bool.not_true]
  · simp (disch := omega) only [F_l_pSameStepsL2, itd_f, F_l_pSameStepsJ1]
theorem F_l_pSamePlan_refl (fu : Nat) (n : Int) (ss : List Stp) (os : List Int) (hs : ss.length ≤ 1000000) (ho : os.length ≤ 1000000) (hf : 2000000 ≤ fu) : F_l_pSamePlan fu n ss os n ss os = some true := by
  unfold F_l_pSamePlan
  simp only [BEq.rfl, gcl_t, F_l_pSameSteps_refl fu ss (by omega) (by omega), Option.bind_some, cond_true, F_l_pSameInts_refl fu os (by omega) (by omega)]

theorem F_i_Plan_outputExponents_wze_eq (fu : Nat) (n : Int) (ss : List Stp) (os : List Int) (hf : 1000 ≤ fu) (h : plan n ss os = true) : F_i_Plan_outputExponents_wze fu n ss os = some (os.map fun v => (exps n ss).getD v.toNat []) := by
  obtain ⟨hform, hrows⟩ : formOk n ss os = true ∧ rowsOk (exps n ss) = true := by simpa [plan] using h
  obtain ⟨⟨h0, h6⟩, hl, ho, hs, hos⟩ := formOk_iff.1 hform
  obtain ⟨hr, hrl⟩ := exps_rows (by omega) hs
  unfold F_i_Plan_outputExponents_wze
  rw [F_i_Plan_exponents_wze_eq fu n ss os hf h0 h6 hl hs, Option.bind_some]
  have key : ∀ (m : Nat) (i : Int) (acc : List (List Int)), 0 ≤ i → i ≤ (os.length : Int) → (os.length : Int) - i < m → (acc.length : Int) = i →
      F_i_Plan_outputExponents_wzeL2 fu os (exps n ss) m i acc = some (acc ++ (os.drop i.toNat).map fun v => (exps n ss).getD v.toNat []) := by
    intro m
    induction m with
    | zero => intros; omega
    | succ m ih =>
      intro i acc i0 i1 hm hacc
      by_cases hi : i < (os.length : Int)
      · have hv := inR_iff.1 (List.all_eq_true.1 hos _ (getD_mem (k := i.toNat) (by omega)))
        have hg := hr.get (i := os.getD i.toNat 0) (by omega) (by omega)
        rw [F_i_Plan_outputExponents_wzeL2, itd_t hi, chk_of ⟨i0, hi⟩, chk_of (by omega), F_slices_Clone_Lint_int, chk_of (by omega), chk_of (by simp only [List.length_append, List.length_cons, List.length_nil, List.length_replicate, List.length_set, List.length_map, List.length_range, List.length_take, List.length_drop, List.length_zipWith, List.length_reverse]; omega), Option.bind_some, List.nil_append, chk_of (by simp only [List.length_append, List.length_cons, List.length_nil, List.length_replicate, List.length_set, List.length_map, List.length_range, List.length_take, List.length_drop, List.length_zipWith, List.length_reverse]; omega), w64 (by omega), ih (i + 1) _ (by omega) (by omega) (by omega) (by simp only [List.length_append, List.length_cons, List.length_nil, List.length_replicate, List.length_set, List.length_map, List.length_range, List.length_take, List.length_drop, List.length_zipWith, List.length_reverse]; omega), drop_cons' os 0 i0 hi, List.map_cons, List.append_assoc, List.singleton_append]
      · rw [F_i_Plan_outputExponents_wzeL2, itd_f hi, F_i_Plan_outputExponents_wzeJ1, drop_end os (by omega)]; simp
  rw [key fu 0 [] (by omega) (by omega) (by omega) rfl]
  simp

theorem F_i_OutputExponents_eq (fu : Nat) (n : Int) (ss : List Stp) (os : List Int) (hf : 1000 ≤ fu) : F_i_OutputExponents fu n ss os = some (if plan n ss os = true then (true, os.map fun v => (exps n ss).getD v.toNat []) else (false, [])) := by
  rw [F_i_OutputExponents, F_i_IsPlan_eq fu n ss os hf, Option.bind_some]
  cases h : plan n ss os with
  | false => rfl
  | true => rw [if_neg (by simp), F_i_Plan_outputExponents_wze_eq fu n ss os hf h, Option.bind_some, if_pos rfl]

def Bytes (code : List Int) : Prop := ∀ x ∈ code, 0 ≤ x ∧ x ≤ 255

theorem next_ok (fu : Nat) (code : List Int) (p s : Int) (hc : Bytes code) (hl : code.length ≤ 2000000) (h0 : 0 ≤ p) (h1 : p ≤ 1000000000) : ∃ v s', F_s_l1Cur_next_vln fu code p s = some (v, s') ∧ 0 ≤ v ∧ v ≤ 255 := by
  have key : ∀ b : Int, 0 ≤ b → b ≤ 255 → ∃ v s', F_s_l1Cur_next_vlnJ1 fu p code s b = some (v, s') ∧ 0 ≤ v ∧ v ≤ 255 := by
    intro b b0 b1
    rw [F_s_l1Cur_next_vlnJ1, w64 (x := p + 1) (by omega)]
    by_cases h : p + 1 ≤ (code.length : Int)
    · rw [itd_t h]; exact ⟨_, _, rfl, b0, b1⟩
    · rw [itd_f h]
      generalize IntKind.u64.wrap _ = z
      refine ⟨_, _, rfl, ?_⟩
      have : ∀ y : Int, 0 ≤ bits .and .u64 y 255 ∧ bits .and .u64 y 255 ≤ 255 := by
        intro y
        have e : bits .and .u64 y 255 = IntKind.u64.wrap ((BitVec.ofInt 64 y &&& BitVec.ofInt 64 255).toNat : Int) := rfl
        rw [e, BitVec.toNat_and]
        have : (BitVec.ofInt 64 y).toNat &&& (BitVec.ofInt 64 255).toNat ≤ 255 := Nat.le_trans Nat.and_le_right (by decide)
        rw [wu64 (by omega)]; omega
      have := this (shrI .u64 z 40)
      rw [w64 (by omega)]; exact this
  rw [F_s_l1Cur_next_vln]
  by_cases h : p < (code.length : Int)
  · have hm := hc _ (getD_mem (xs := code) (k := p.toNat) (by omega))
    rw [itd_t h, chk_of ⟨h0, h⟩, w64 (by omega)]
    exact key _ hm.1 hm.2
  · rw [itd_f h]; exact key 0 (by omega) (by omega)

/-- A number is picked. -/
theorem pick_ok (fu : Nat) (n : Int) (code : List Int) (p s : Int) (hc : Bytes code) (hl : code.length ≤ 2000000) (h0 : 0 ≤ p) (h1 : p ≤ 900000000) :
    ∃ v p' s', F_s_l1Cur_pick_vrs fu n code p s = some (v, p', s') ∧ 0 ≤ v ∧ (0 < n → v < n) ∧ p ≤ p' ∧ p' ≤ p + 2 := by
  rw [F_s_l1Cur_pick_vrs]
  by_cases h : n ≤ 1
  · rw [itd_t h]; exact ⟨_, _, _, rfl, by omega, by omega, by omega, by omega⟩
  · rw [itd_f h]
    obtain ⟨v, s1, e, v0, v1⟩ := next_ok fu code p s hc hl h0 (by omega)
    have fin : ∀ (x q t : Int), 0 ≤ x → p ≤ q → q ≤ p + 2 → ∃ v p' s', F_s_l1Cur_pick_vrsJ1 fu n x q t = some (v, p', s') ∧ 0 ≤ v ∧ (0 < n → v < n) ∧ p ≤ p' ∧ p' ≤ p + 2 := by
      intro x q t x0 q0 q1
      rw [F_s_l1Cur_pick_vrsJ1, chk_of (by omega)]
      refine ⟨_, _, _, rfl, Int.tmod_nonneg _ x0, fun hn => Int.tmod_lt_of_pos _ hn, q0, q1⟩
    rw [e, Option.bind_some]
    dsimp only
    rw [w64 (x := p + 1) (by omega)]
    by_cases h2 : n > 200
    · rw [itd_t h2]
      obtain ⟨w, s2, e2, w0, w1⟩ := next_ok fu code (p + 1) s1 hc hl (by omega) (by omega)
      rw [e2, Option.bind_some]
      dsimp only
      rw [w64 (x := v * 256) (by omega), w64 (x := v * 256 + w) (by omega), w64 (x := p + 1 + 1) (by omega)]
      exact fin _ _ _ (by omega) (by omega) (by omega)
    · rw [itd_f h2]; exact fin _ _ _ v0 (by omega) (by omega)
end Pu
end Go.Proofs.Ytiplmapndahmmaa
