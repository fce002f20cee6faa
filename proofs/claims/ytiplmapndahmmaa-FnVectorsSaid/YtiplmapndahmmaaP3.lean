/- Plain laws: bit lengths, single bits, makers, a plan for several powers by the program and by the reference. -/
import Derived.Test.YtiplmapndahmmaaP2
namespace Go.Proofs.Ytiplmapndahmmaa
open Al
set_option linter.unusedVariables false
set_option linter.unusedSimpArgs false
namespace Pu

def blen (n : Nat) : Nat := if n = 0 then 0 else n.log2 + 1
theorem blen_iff (n b : Nat) : n < 2 ^ b ↔ blen n ≤ b := by
  unfold blen
  by_cases h : n = 0
  · subst h; simp [Nat.two_pow_pos]
  · rw [if_neg h, ← Nat.log2_lt h]; omega
theorem blen_shift (n k : Nat) (h : n / 2 ^ k ≠ 0) : blen n = k + blen (n / 2 ^ k) := by
  have h1 : ∀ b, blen n ≤ k + b ↔ blen (n / 2 ^ k) ≤ b := by
    intro b
    rw [← blen_iff, ← blen_iff, Nat.pow_add, Nat.div_lt_iff_lt_mul (Nat.two_pow_pos k), Nat.mul_comm]
  have a := (h1 (blen (n / 2 ^ k))).2 (Nat.le_refl _)
  have hk : k ≤ blen n := by
    by_cases hlt : blen n ≤ k
    · rw [← blen_iff] at hlt; exact absurd (Nat.div_eq_of_lt hlt) h
    · omega
  have b := (h1 (blen n - k)).1 (by omega)
  omega
theorem blen_pos {n : Nat} (h : n ≠ 0) : 0 < blen n := by unfold blen; rw [if_neg h]; omega

theorem tab_get : ∀ n : Fin 256, (strtab_gddnig.data.toList.getD n.val 0).toNat = blen n.val := by decide +kernel
theorem tab_size : strtab_gddnig.size = 256 := by decide +kernel

theorem tab_at (n : Nat) (h : n < 256) : (strtab_gddnig.data.toList.getD n 0).toNat = blen n := tab_get ⟨n, h⟩

theorem F_bits_Len64J3_eq (fu : Nat) (x : Nat) (y : Int) (hx : x < 256) (hy : 0 ≤ y ∧ y ≤ 1000) : F_bits_Len64J3 fu (x : Int) y = some (y + (blen x : Int)) := by
  have hb : blen x ≤ 8 := (blen_iff x 8).1 (by omega)
  rw [F_bits_Len64J3, wu8 (by omega), chk_of (by rw [tab_size]; omega), Int.toNat_natCast, tab_at x hx, w64 (x := ((blen x : Nat) : Int)) (by omega), w64 (by omega)]
theorem F_bits_Len64J2_eq (fu : Nat) (x : Nat) (y : Int) (hx : x < 65536) (hy : 0 ≤ y ∧ y ≤ 500) : F_bits_Len64J2 fu (x : Int) y = some (y + (blen x : Int)) := by
  rw [F_bits_Len64J2]
  by_cases h : 256 ≤ x
  · have h8 : x / 2 ^ 8 ≠ 0 := by omega
    rw [itd_t (by omega), w64 (by omega), show (8 : Int) = ((8 : Nat) : Int) by rfl, shru64 x 8 (by omega), F_bits_Len64J3_eq fu _ _ (by omega) (by omega), blen_shift x 8 h8]
    congr 1; omega
  · rw [itd_f (by omega), F_bits_Len64J3_eq fu x y (by omega) (by omega)]
theorem F_bits_Len64J1_eq (fu : Nat) (x : Nat) (y : Int) (hx : x < 4294967296) (hy : 0 ≤ y ∧ y ≤ 100) : F_bits_Len64J1 fu (x : Int) y = some (y + (blen x : Int)) := by
  rw [F_bits_Len64J1]
  by_cases h : 65536 ≤ x
  · have h8 : x / 2 ^ 16 ≠ 0 := by omega
    rw [itd_t (by omega), w64 (by omega), show (16 : Int) = ((16 : Nat) : Int) by rfl, shru64 x 16 (by omega), F_bits_Len64J2_eq fu _ _ (by omega) (by omega), blen_shift x 16 h8]
    congr 1; omega
  · rw [itd_f (by omega), F_bits_Len64J2_eq fu x y (by omega) (by omega)]
theorem F_bits_Len_eq (fu : Nat) (x : Int) (h0 : 0 ≤ x) (h : x < 9223372036854775808) : F_bits_Len fu (IntKind.u64.wrap x) = some (blen x.toNat : Int) := by
  obtain ⟨n, rfl⟩ : ∃ n : Nat, x = (n : Int) := ⟨x.toNat, by omega⟩
  rw [wu64 (by omega), F_bits_Len, F_bits_Len64, Int.toNat_natCast]
  by_cases h8 : 4294967296 ≤ n
  · have h9 : n / 2 ^ 32 ≠ 0 := by omega
    rw [itd_t (by omega), show (32 : Int) = ((32 : Nat) : Int) by rfl, shru64 n 32 (by omega), F_bits_Len64J1_eq fu _ _ (by omega) (by omega), blen_shift n 32 h9, Option.bind_some]
    congr 1
  · rw [itd_f (by omega), F_bits_Len64J1_eq fu n 0 (by omega) (by omega), Option.bind_some]
    congr 1; omega

theorem shrI_eq {x i : Int} (h0 : 0 ≤ x) (h : x < 9223372036854775808) (hi : 0 ≤ i) : shrI .i64 x i = ((x.toNat / 2 ^ i.toNat : Nat) : Int) := by
  have := shr64 x.toNat i.toNat (by omega)
  rwa [Int.toNat_of_nonneg h0, Int.toNat_of_nonneg hi] at this

theorem F_s_chLength_eq (fu : Nat) (x : Int) (h0 : 0 ≤ x) (h : x < 9223372036854775808) (hf : 100 < fu) : F_s_chLength fu x = some (blen x.toNat : Int) := by
  have key : ∀ (n : Nat) (i : Int), 0 ≤ i → i ≤ blen x.toNat → (blen x.toNat : Int) - i < n → F_s_chLengthL2 fu x n i = some (blen x.toNat : Int) := by
    have hb : blen x.toNat ≤ 63 := (blen_iff _ 63).1 (by omega)
    intro n
    induction n with
    | zero => intros; omega
    | succ n ih =>
      intro i i0 i1 hn
      rw [F_s_chLengthL2, chk_of i0, shrI_eq h0 h i0]
      by_cases hi : i < blen x.toNat
      · have : 0 < x.toNat / 2 ^ i.toNat := by
          have h2 : ¬ x.toNat < 2 ^ i.toNat := by rw [blen_iff]; omega
          exact Nat.div_pos (by omega) (Nat.two_pow_pos _)
        rw [itd_t (by omega), w64 (by omega), ih (i + 1) (by omega) (by omega) (by omega)]
      · have : x.toNat / 2 ^ i.toNat = 0 := Nat.div_eq_of_lt ((blen_iff _ _).2 (by omega))
        rw [itd_f (by omega), F_s_chLengthJ1]
        congr 1; omega
  have hb : blen x.toNat ≤ 63 := (blen_iff _ 63).1 (by omega)
  unfold F_s_chLength
  exact key fu 0 (by omega) (by omega) (by omega)

/-- Bit i of x. -/
def bit (x : Int) (i : Nat) : Bool := x.toNat / 2 ^ i % 2 == 1

theorem bit_and {x i : Int} (h0 : 0 ≤ x) (h : x < 9223372036854775808) (hi : 0 ≤ i) : ((bits .and .i64 (shrI .i64 x i) (1 : Int)) == (1 : Int)) = bit x i.toNat := by
  have : x.toNat / 2 ^ i.toNat ≤ x.toNat := Nat.div_le_self _ _
  rw [shrI_eq h0 h hi, and_one _ (by omega), bit]
  generalize x.toNat / 2 ^ i.toNat = y
  rw [Bool.eq_iff_iff]; simp; omega
/-- A product more. -/
def mulS (n : Int) (ss : List Stp) (a b : Int) : Int × List Stp := (n + ss.length, ss ++ [(min a b, max a b)])

theorem F_i_maker_multiply_frg_eq (fu : Nat) (a b n : Int) (ss : List Stp) (hn : 0 ≤ n ∧ n ≤ 1000) (hs : ss.length ≤ 1000000) : F_i_maker_multiply_frg fu a b n ss = some (mulS n ss a b) := by
  rw [F_i_maker_multiply_frg, F_i_step_eq, Option.bind_some, chk_of (by simp only [List.length_append, List.length_cons, List.length_nil, List.length_replicate, List.length_set, List.length_map, List.length_range, List.length_take, List.length_drop, List.length_zipWith, List.length_reverse]; omega), F_i_Plan_many_ugk]
  simp only [List.length_append, List.length_cons, List.length_nil, List.length_replicate, List.length_set, List.length_map, List.length_range, List.length_take, List.length_drop, List.length_zipWith, List.length_reverse, Option.bind_some]
  rw [w64 (x := n + _) (by omega), w64 (by omega), mulS]
  congr 2; omega

theorem F_i_maker_times_frg_eq (fu : Nat) (a b n : Int) (ss : List Stp) (hn : 0 ≤ n ∧ n ≤ 1000) (hs : ss.length ≤ 1000000) : F_i_maker_times_frg fu a b n ss = some (if a < 0 then (b, ss) else mulS n ss a b) := by
  rw [F_i_maker_times_frg]
  by_cases h : a < 0
  · rw [itd_t h, if_pos h]
  · rw [itd_f h, if_neg h, F_i_maker_multiply_frg_eq fu a b n ss hn hs, Option.bind_some]

theorem F_s_meTimes_eq (fu : Nat) (n : Int) (ss : List Stp) (os : List Int) (a b : Int) (hn : 0 ≤ n ∧ n ≤ 1000) (hs : ss.length ≤ 1000000) : F_s_meTimes fu n ss os a b = some (mulS n ss a b) := by
  rw [F_s_meTimes, F_s_plStep_eq, chk_of (by simp only [List.length_append, List.length_cons, List.length_nil, List.length_replicate, List.length_set, List.length_map, List.length_range, List.length_take, List.length_drop, List.length_zipWith, List.length_reverse]; omega), Option.bind_some, chk_of (by simp only [List.length_append, List.length_cons, List.length_nil, List.length_replicate, List.length_set, List.length_map, List.length_range, List.length_take, List.length_drop, List.length_zipWith, List.length_reverse]; omega), w64 (by omega), mulS]
  rfl

def tIn (n : Int) (i : Nat) : List Int → Int → Int × List Stp → Int × List Stp
  | [], _, st => st
  | p :: r, k, st => tIn n i r (k + 1) (if bit p i = true then (if st.1 < 0 then (k, st.2) else mulS n st.2 st.1 k) else st)
def tSq (n : Int) (st : Int × List Stp) : Int × List Stp := if st.1 ≥ 0 then mulS n st.2 st.1 st.1 else st
def tOut (n : Int) (ps : List Int) : Nat → Int × List Stp → Int × List Stp
  | 0, st => st
  | i + 1, st => tOut n ps i (tIn n i ps 0 (tSq n st))

theorem mulS_len (n : Int) (ss : List Stp) (a b : Int) : (mulS n ss a b).2.length = ss.length + 1 := by simp [mulS]
theorem tIn_len (n : Int) (i : Nat) : ∀ (ps : List Int) (k : Int) (st : Int × List Stp), (tIn n i ps k st).2.length ≤ st.2.length + ps.length
  | [], _, _ => Nat.le_refl _
  | p :: r, k, st => by
    refine Nat.le_trans (tIn_len n i r (k + 1) _) ?_
    split
    · split
      · simp
      · rw [mulS_len]; simp; omega
    · simp
theorem tSq_len (n : Int) (st : Int × List Stp) : (tSq n st).2.length ≤ st.2.length + 1 := by
  unfold tSq; split
  · rw [mulS_len]; omega
  · omega

def InPow (ps : List Int) : Prop := ∀ x ∈ ps, 0 ≤ x ∧ x ≤ 1000000

theorem InPow.get {ps : List Int} (h : InPow ps) {i : Int} (h0 : 0 ≤ i) (h1 : i < (ps.length : Int)) : 0 ≤ ps.getD i.toNat 0 ∧ ps.getD i.toNat 0 ≤ 1000000 := by
  refine h _ ?_
  rw [List.getD_eq_getElem?_getD, List.getElem?_eq_getElem (by omega)]
  exact List.getElem_mem _

abbrev Tell := Bool × Int × List Stp × List Int

theorem F_i_TogetherPlanL5_eq (fu : Nat) (ps : List Int) (i n : Int) (K : Int → Int → Int → Int → List Stp → Option Tell) (o : Int) (hp : InPow ps) (hl : ps.length ≤ 6) (hn : 0 ≤ n ∧ n ≤ 6) (hi : 0 ≤ i ∧ i ≤ 100) :
    ∀ (m : Nat) (at_ k : Int) (ss : List Stp), 0 ≤ k → k ≤ (ps.length : Int) → (ps.length : Int) - k < m → ss.length + (ps.length - k.toNat) ≤ 1000 →
      F_i_TogetherPlanL5 fu ps i n K o m at_ k ss = (let r := tIn n i.toNat (ps.drop k.toNat) k (at_, ss); K r.1 (i - 1) o n r.2) := by
  intro m
  induction m with
  | zero => intros; omega
  | succ m ih =>
    intro at_ k ss k0 k1 hm hs
    by_cases h : k < (ps.length : Int)
    · have hpk := hp.get k0 h
      rw [drop_cons' ps 0 k0 h, F_i_TogetherPlanL5, itd_t h, chk_of ⟨k0, h⟩, chk_of hi.1, bit_and hpk.1 (by omega) hi.1]
      simp only [tIn]
      cases hb : bit (ps.getD k.toNat 0) i.toNat with
      | false =>
        simp only [Bool.false_eq_true, if_false, F_i_TogetherPlanJ6]
        rw [w64 (by omega), ih at_ (k + 1) ss (by omega) (by omega) (by omega) (by omega)]
      | true =>
        simp only [if_true, F_i_TogetherPlanJ6]
        rw [F_i_maker_times_frg_eq fu _ _ _ _ (by omega) (by omega), Option.bind_some, w64 (by omega)]
        by_cases ha : at_ < 0
        · simp only [if_pos ha]
          rw [ih k (k + 1) ss (by omega) (by omega) (by omega) (by omega)]
        · simp only [if_neg ha]
          rw [ih _ (k + 1) _ (by omega) (by omega) (by omega) (by rw [mulS_len]; omega)]
    · rw [drop_end ps (by omega), F_i_TogetherPlanL5, itd_f h, F_i_TogetherPlanJ3, w64 (by omega)]
      rfl

theorem F_i_TogetherPlanL2_eq (fu : Nat) (ps : List Int) (o n : Int) (hp : InPow ps) (hl : ps.length ≤ 6) (hn : 0 ≤ n ∧ n ≤ 6) (hf : 1000 ≤ fu) :
    ∀ (m : Nat) (i : Nat) (at_ : Int) (ss : List Stp), i < m → i ≤ 20 → ss.length + i * 7 ≤ 300 →
      F_i_TogetherPlanL2 fu ps m at_ ((i : Int) - 1) o n ss = F_i_TogetherPlanJ1 fu (tOut n ps i (at_, ss)).1 o n (tOut n ps i (at_, ss)).2 := by
  intro m
  induction m with
  | zero => intros; omega
  | succ m ih =>
    intro i at_ ss hm hi hs
    cases i with
    | zero => rw [F_i_TogetherPlanL2, itd_f (by omega)]; rfl
    | succ i =>
      have e : F_i_TogetherPlanL2 fu ps (m + 1) at_ (((i + 1 : Nat) : Int) - 1) o n ss = F_i_TogetherPlanJ4 fu ps (i : Int) n (F_i_TogetherPlanL2 fu ps m) o (tSq n (at_, ss)).1 (tSq n (at_, ss)).2 := by
        rw [F_i_TogetherPlanL2, show ((i + 1 : Nat) : Int) - 1 = (i : Int) by omega, itd_t (by omega), tSq]
        by_cases ha : at_ ≥ 0
        · rw [itd_t ha, if_pos ha, F_i_maker_multiply_frg_eq fu _ _ _ _ (by omega) (by omega), Option.bind_some]
        · rw [itd_f ha, if_neg ha]
      have l1 := tSq_len n (at_, ss)
      have l2 := tIn_len n i ps 0 ((tSq n (at_, ss)).1, (tSq n (at_, ss)).2)
      dsimp only at l1 l2
      rw [e, F_i_TogetherPlanJ4, F_i_TogetherPlanL5_eq fu ps i n _ o hp hl hn (by omega) fu _ 0 _ (by omega) (by omega) (by omega) (by omega)]
      simp only [Int.toNat_zero, List.drop_zero, Int.toNat_natCast]
      rw [ih i _ _ (by omega) (by omega) (by omega)]
      rfl

/-- A plan for several powers. -/
def tog (ps : List Int) : Tell :=
  if inR 1 6 ps.length = true ∧ ps.all (inR 0 1000000) = true ∧ mx ps ≠ 0 then
    tellP ps.length (tOut ps.length ps (blen (mx ps).toNat) (-1, [])).2 [(tOut ps.length ps (blen (mx ps).toNat) (-1, [])).1]
  else (false, 0, [], [])

theorem inPow_of {ps : List Int} (h : ps.all (inR 0 1000000) = true) : InPow ps := fun x hx => inR_iff.1 (List.all_eq_true.1 h x hx)

theorem mx_blen {ps : List Int} (hp : InPow ps) : blen (mx ps).toNat ≤ 20 := by
  have h1 := mx_nonneg ps
  have h2 := mx_le (m := 1000000) (by omega) fun x hx => (hp x hx).2
  exact (blen_iff _ 20).1 (by omega)

theorem F_i_TogetherPlan_eq (fu : Nat) (ps : List Int) (hl : ps.length ≤ 1000) (hf : 2000 ≤ fu) : F_i_TogetherPlan fu ps = some (tog ps) := by
  unfold F_i_TogetherPlan tog
  rw [F_i_in_eq, Option.bind_some]
  cases h1 : inR 1 6 (ps.length : Int) with
  | false => simp [gcl_f]
  | true =>
    have h1' := inR_iff.1 h1
    simp only [Bool.not_true, BEq.rfl, gcl_t, F_slices_ContainsFunc_Lint_int_fms_eq fu ps (by omega) (by omega), Option.bind_some, cond_false]
    have e := any_not_all ps (inR 0 1000000)
    cases h2 : ps.any (fun x => !inR 0 1000000 x) with
    | true => rw [h2] at e; simp [← e, gcl_f]
    | false =>
      rw [h2] at e
      have hp := inPow_of e.symm
      have hm := mx_nonneg ps
      have hm' := mx_le (m := 1000000) (by omega) fun x hx => (hp x hx).2
      simp only [BEq.rfl, gcl_t, F_slices_Max_Lint_int_eq fu ps (by omega) (by omega) (by omega) (fun x hx => (hp x hx).1), Option.bind_some, F_i_newMaker_eq, F_bits_Len_eq fu (mx ps) hm (by omega)]
      by_cases h3 : mx ps = 0
      · simp [h3]
      · have hb := mx_blen hp
        rw [cond_or, Bool.false_or, if_neg (by simpa using h3), if_pos ⟨trivial, e.symm, h3⟩, w64 (by omega), F_i_TogetherPlanL2_eq fu ps 0 _ hp (by omega) (by omega) (by omega) fu _ _ _ (by omega) hb (by simp; omega), F_i_TogetherPlanJ1, F_i_told_eq fu _ _ _ (by omega)]
        rfl

end Pu
end Go.Proofs.Ytiplmapndahmmaa
