/- Plain laws: what is drawn; the statement on several powers. -/
import Derived.Test.YticeepbgbefmaaaP5
namespace Go.Proofs.Yticeepbgbefmaaa
open Al
set_option linter.unusedVariables false
set_option linter.unusedSimpArgs false
namespace Pu

theorem F_l_big_eq (fu : Nat) (a b : List Int) : F_l_big fu a b = some (decide (a.length + b.length > 1048576)) := by
  unfold F_l_big
  congr 1
  by_cases h : a.length > 1048576
  · rw [decide_eq_true (by omega : (a.length : Int) > 1048576), cond_true, decide_eq_true (by omega : a.length + b.length > 1048576)]
  · rw [decide_eq_false (by omega : ¬ (a.length : Int) > 1048576), w64 (by omega), cond_false]
    rw [decide_eq_decide]; omega

theorem among_ok (fu : Nat) (l : List Int) (code : List Int) (p s : Int) (hc : Bytes code) (hl : code.length ≤ 2000000) (h0 : 0 ≤ p) (h1 : p ≤ 900000000) (hn : 1 ≤ l.length) :
    ∃ v p' s', F_s_l1Cur_among_nsu fu l code p s = some (v, p', s') ∧ v ∈ l ∧ p ≤ p' ∧ p' ≤ p + 2 := by
  obtain ⟨v, p', s', e, v0, v1, p0, p1⟩ := pick_ok fu (l.length : Int) code p s hc hl h0 h1
  have := v1 (by omega)
  rw [F_s_l1Cur_among_nsu, e, Option.bind_some, chk_of ⟨v0, this⟩]
  exact ⟨_, _, _, rfl, getD_mem (by omega), p0, p1⟩

theorem number_ok (fu : Nat) (code : List Int) (p s : Int) (hc : Bytes code) (hl : code.length ≤ 2000000) (h0 : 0 ≤ p) (h1 : p ≤ 800000000) :
    ∃ v p' s', F_s_l1Cur_number_vln fu code p s = some (v, p', s') ∧ -1 ≤ v ∧ v ≤ 1000001 ∧ p ≤ p' ∧ p' ≤ p + 4 := by
  obtain ⟨v, p', s', e, v0, v1, p0, p1⟩ := pick_ok fu 8 code p s hc hl h0 (by omega)
  rw [F_s_l1Cur_number_vln, e, Option.bind_some]
  dsimp only
  split
  · obtain ⟨w, q, t, e2, wm, q0, q1⟩ := among_ok fu [-1, 0, 1, 2, 1000000, 1000001] code p' s' hc hl (by omega) (by omega) (by decide)
    rw [e2, Option.bind_some]
    refine ⟨_, _, _, rfl, ?_, ?_, by dsimp only; omega, by dsimp only; omega⟩ <;> simp only [List.mem_cons, List.not_mem_nil, or_false] at wm <;> dsimp only <;> omega
  · split
    · obtain ⟨w, q, t, e2, w0, w1, q0, q1⟩ := pick_ok fu 1000000 code p' s' hc hl (by omega) (by omega)
      rw [e2, Option.bind_some]
      dsimp only
      rw [w64 (by omega)]
      exact ⟨_, _, _, rfl, by omega, by omega, by omega, by omega⟩
    · obtain ⟨w, q, t, e2, w0, w1, q0, q1⟩ := pick_ok fu 120 code p' s' hc hl (by omega) (by omega)
      rw [e2, Option.bind_some]
      dsimp only
      rw [w64 (by omega)]
      exact ⟨_, _, _, rfl, by omega, by omega, by omega, by omega⟩

theorem powers_ok (fu : Nat) (m : Int) (code : List Int) (s : Int) (hc : Bytes code) (hl : code.length ≤ 2000000) (hm : 1 ≤ m) (hm' : m ≤ 100) (hf : 1000 ≤ fu) :
    ∃ p' s' l, F_s_l1Cur_powers_vrs fu m code 0 s = some (p', s', l) ∧ l.length ≤ 200 := by
  obtain ⟨v, p', s', e, v0, v1, p0, p1⟩ := pick_ok fu m code 0 s hc hl (by omega) (by omega)
  rw [F_s_l1Cur_powers_vrs, e, Option.bind_some]
  dsimp only
  have := v1 (by omega)
  rw [w64 (by omega)]
  have key : ∀ (n : Nat) (i p t : Int) (l : List Int), 0 ≤ i → i < n → 0 ≤ p → p + 2 * i ≤ 1000 → (l.length : Int) + i ≤ 110 → 1 ≤ (l.length : Int) + i →
      ∃ p' s' l', F_s_l1Cur_powers_vrsL3 fu code n i p t l = some (p', s', l') ∧ l'.length ≤ 200 := by
    intro n
    induction n with
    | zero => intros; omega
    | succ n ih =>
      intro i p t l i0 i1 p0 pb lb l1
      rw [F_s_l1Cur_powers_vrsL3]
      by_cases hi : i > 0
      · rw [itd_t hi]
        obtain ⟨v, p', s', e, v0, v1, q0, q1⟩ := pick_ok fu 40 code p t hc hl p0 (by omega)
        rw [e, Option.bind_some, chk_of (by simp only [List.length_append, List.length_cons, List.length_nil, List.length_replicate, List.length_set, List.length_map, List.length_range, List.length_take, List.length_drop, List.length_zipWith, List.length_reverse]; omega), w64 (by omega)]
        exact ih (i - 1) _ _ _ (by omega) (by omega) (by dsimp only; omega) (by dsimp only; omega) (by simp only [List.length_append, List.length_cons, List.length_nil, List.length_replicate, List.length_set, List.length_map, List.length_range, List.length_take, List.length_drop, List.length_zipWith, List.length_reverse]; omega) (by simp only [List.length_append, List.length_cons, List.length_nil, List.length_replicate, List.length_set, List.length_map, List.length_range, List.length_take, List.length_drop, List.length_zipWith, List.length_reverse]; omega)
      · rw [itd_f hi, F_s_l1Cur_powers_vrsJ1]
        obtain ⟨v, p', s', e, v0, v1, q0, q1⟩ := pick_ok fu 12 code p t hc hl p0 (by omega)
        rw [e, Option.bind_some]
        dsimp only
        split
        · obtain ⟨w, q, u, e2, _, _, _, _⟩ := number_ok fu code p' s' hc hl (by omega) (by omega)
          rw [e2, Option.bind_some, chk_of (by simp only [List.length_append, List.length_cons, List.length_nil, List.length_replicate, List.length_set, List.length_map, List.length_range, List.length_take, List.length_drop, List.length_zipWith, List.length_reverse]; omega)]
          exact ⟨_, _, _, rfl, by simp only [List.length_append, List.length_cons, List.length_nil, List.length_replicate, List.length_set, List.length_map, List.length_range, List.length_take, List.length_drop, List.length_zipWith, List.length_reverse]; omega⟩
        · split
          · obtain ⟨w, q, u, e2, w0, w1, _, _⟩ := pick_ok fu 9 code p' s' hc hl (by omega) (by omega)
            rw [e2, Option.bind_some]
            dsimp only
            rw [chk_of (by omega)]
            exact ⟨_, _, _, rfl, by simp only [List.length_append, List.length_cons, List.length_nil, List.length_replicate, List.length_set, List.length_map, List.length_range, List.length_take, List.length_drop, List.length_zipWith, List.length_reverse]; omega⟩
          · split
            · obtain ⟨w, q, u, e2, w0, w1, _, _⟩ := pick_ok fu 1000000 code p' s' hc hl (by omega) (by omega)
              rw [e2, Option.bind_some, chk_of (by omega)]
              exact ⟨_, _, _, rfl, by simp only [List.length_append, List.length_cons, List.length_nil, List.length_replicate, List.length_set, List.length_map, List.length_range, List.length_take, List.length_drop, List.length_zipWith, List.length_reverse]; omega⟩
            · exact ⟨_, _, _, rfl, by omega⟩
  exact key fu _ _ _ [] (by omega) (by omega) (by omega) (by omega) (by simp only [List.length_append, List.length_cons, List.length_nil, List.length_replicate, List.length_set, List.length_map, List.length_range, List.length_take, List.length_drop, List.length_zipWith, List.length_reverse]; omega) (by simp only [List.length_append, List.length_cons, List.length_nil, List.length_replicate, List.length_set, List.length_map, List.length_range, List.length_take, List.length_drop, List.length_zipWith, List.length_reverse]; omega)

theorem F_s_DrawTogetherPlan_ok (fu : Nat) (code : List Int) (hc : Bytes code) (hl : code.length ≤ 2000000) (hf : 1000 ≤ fu) : ∃ l, F_s_DrawTogetherPlan fu code = some l ∧ l.length ≤ 200 := by
  obtain ⟨p, s, l, e, h⟩ := powers_ok fu 4 code 0 hc hl (by omega) (by omega) hf
  rw [F_s_DrawTogetherPlan, e, Option.bind_some]; exact ⟨l, rfl, h⟩

def mxl (ps : List Int) (m : Int) : Int := ps.foldl (fun m p => if p = 0 then m else max m (blen p.toNat : Int)) m

theorem mxl_ge (ps : List Int) : ∀ m, m ≤ mxl ps m ∧ ∀ p ∈ ps, p ≠ 0 → (blen p.toNat : Int) ≤ mxl ps m := by
  induction ps with
  | nil => intro m; exact ⟨Int.le_refl _, fun _ h => by cases h⟩
  | cons p ps ih =>
    intro m
    have h := ih (if p = 0 then m else max m (blen p.toNat : Int))
    show _ ≤ mxl ps (if p = 0 then m else max m (blen p.toNat : Int)) ∧ ∀ q ∈ p :: ps, _ → _ ≤ mxl ps (if p = 0 then m else max m (blen p.toNat : Int))
    refine ⟨by have h1 := h.1; generalize mxl ps _ = z at *; split at h1 <;> omega, fun q hq hq0 => ?_⟩
    rcases List.mem_cons.1 hq with rfl | hq
    · rw [if_neg hq0] at h ⊢; omega
    · exact h.2 q hq hq0
theorem mxl_le (ps : List Int) (b : Int) (h : ∀ p ∈ ps, (blen p.toNat : Int) ≤ b) : ∀ m, m ≤ b → mxl ps m ≤ b := by
  induction ps with
  | nil => intro m hm; exact hm
  | cons p ps ih =>
    intro m hm
    show mxl ps (if p = 0 then m else max m (blen p.toNat : Int)) ≤ b
    have := h p (List.mem_cons_self)
    exact ih (fun q hq => h q (List.mem_cons_of_mem _ hq)) _ (by split <;> omega)
theorem blen_mono {a b : Nat} (h : a ≤ b) : blen a ≤ blen b := by
  rw [← blen_iff]
  exact Nat.lt_of_le_of_lt h ((blen_iff b _).2 (Nat.le_refl _))
theorem mxl_eq {ps : List Int} (hp : InPow ps) (h0 : mx ps ≠ 0) : mxl ps 0 = (blen (mx ps).toNat : Int) := by
  have hm := mx_nonneg ps
  have h1 := (mxl_ge ps 0).2 _ (mx_mem (by omega)) h0
  have h2 := mxl_le ps (blen (mx ps).toNat : Int) (fun p h => by
    have := le_mx h
    have := blen_mono (a := p.toNat) (b := (mx ps).toNat) (by omega)
    omega) 0 (by omega)
  omega

theorem popc_le (n : Nat) : ∀ k, n < 2 ^ k → popc n ≤ k := by
  intro k
  induction k generalizing n with
  | zero => intro h; have : n = 0 := by omega
            subst this; rw [popc_zero]; exact Nat.le_refl _
  | succ k ih =>
    intro h
    rw [popc_step]
    have := ih (n / 2) (by rw [Nat.pow_succ] at h; omega)
    omega

theorem F_l_FnPowersTogetherL2_eq (fu : Nat) (ps : List Int) (v : Tell) (hp : InPow ps) (hl : ps.length ≤ 6) :
    ∀ (m : Nat) (a b i : Int), 0 ≤ i → i ≤ (ps.length : Int) → (ps.length : Int) - i < m → 0 ≤ a → a ≤ 1000 → 0 ≤ b → b ≤ 100 * i →
      F_l_FnPowersTogetherL2 fu ps v m a b i = F_l_FnPowersTogetherJ1 fu (mxl (ps.drop i.toNat) a) (b + cnt (ps.drop i.toNat)) v.2.1 v.2.2.1 v.2.2.2 := by
  intro m
  induction m with
  | zero => intros; omega
  | succ m ih =>
    intro a b i i0 i1 hm a0 a1 b0 b1
    by_cases h : i < (ps.length : Int)
    · have hg := hp.get i0 h
      rw [F_l_FnPowersTogetherL2, itd_t h, chk_of ⟨i0, h⟩, drop_cons' ps 0 i0 h, cnt_cons]
      generalize ps.getD i.toNat 0 = p at hg
      rw [F_i_BitLength_eq, F_i_DigitSum_eq]
      show _ = F_l_FnPowersTogetherJ1 fu (mxl (ps.drop (i + 1).toNat) (if p = 0 then a else max a (blen p.toNat : Int))) _ _ _ _
      have hb : blen p.toNat ≤ 20 := (blen_iff _ _).1 (by omega)
      have hq := popc_le p.toNat 20 (by omega)
      by_cases hz : p = 0
      · subst hz
        rw [if_pos (by rfl), if_pos rfl, F_l_FnPowersTogetherJ3, w64 (by omega), ih a b (i + 1) (by omega) (by omega) (by omega) a0 a1 b0 (by omega)]
        congr 1
        rw [show (0 : Int).toNat = 0 by rfl, popc_zero]; omega
      · rw [if_neg (by simpa using hz), if_neg hz, if_pos ⟨by omega, hg.2⟩, if_pos ⟨by omega, hg.2⟩]
        simp only [Option.bind_some, Bool.not_true, cond_false, Bool.false_eq_true, if_false]
        rw [w64 (x := b + _) (by omega)]
        by_cases hc : (blen p.toNat : Int) > a
        · rw [itd_t hc, F_l_FnPowersTogetherJ3, w64 (by omega), ih _ _ (i + 1) (by omega) (by omega) (by omega) (by omega) (by omega) (by omega) (by omega), Int.max_eq_right (by omega)]
          congr 1; omega
        · rw [itd_f hc, F_l_FnPowersTogetherJ3, w64 (by omega), ih _ _ (i + 1) (by omega) (by omega) (by omega) (by omega) (by omega) (by omega) (by omega), Int.max_eq_left (by omega)]
          congr 1; omega
    · rw [F_l_FnPowersTogetherL2, itd_f h, drop_end ps (by omega), cnt_nil]
      show F_l_FnPowersTogetherJ1 _ _ _ _ _ _ = F_l_FnPowersTogetherJ1 _ a _ _ _ _
      congr 1; omega

theorem cnt_le : ∀ {ps : List Int}, InPow ps → cnt ps ≤ 20 * ps.length
  | [], _ => Nat.zero_le _
  | p :: ps, h => by
    have h1 := cnt_le (ps := ps) fun x hx => h x (List.mem_cons_of_mem _ hx)
    have h2 := h p (List.mem_cons_self)
    have := popc_le p.toNat 20 (by omega)
    rw [cnt_cons]; simp only [List.length_append, List.length_cons, List.length_nil, List.length_replicate, List.length_set, List.length_map, List.length_range, List.length_take, List.length_drop, List.length_zipWith, List.length_reverse]; omega

theorem F_l_FnPowersTogether_true (fu : Nat) (code more : List Int) (hc : Bytes code) (hf : 3000000 ≤ fu) : F_l_FnPowersTogether fu code more = some true := by
  unfold F_l_FnPowersTogether
  rw [F_l_big_eq fu _ _, Option.bind_some]
  by_cases hb : code.length + more.length > 1048576
  · rw [if_pos (decide_eq_true hb)]
  · rw [if_neg (by simpa using hb)]
    obtain ⟨ps, e, hl⟩ := F_s_DrawTogetherPlan_ok fu code hc (by omega) (by omega)
    rw [e, Option.bind_some, F_i_TogetherPlan_eq fu ps (by omega) (by omega), Option.bind_some, F_s_TogetherPlan_eq fu ps (by omega) (by omega), Option.bind_some]
    simp only [BEq.rfl, Bool.not_true, gcl_t]
    rw [tog]
    by_cases hcond : inR 1 6 (ps.length : Int) = true ∧ ps.all (inR 0 1000000) = true ∧ mx ps ≠ 0
    · rw [if_pos hcond]
      obtain ⟨hn, hall, h0⟩ := hcond
      have hn' := inR_iff.1 hn
      have hp := inPow_of hall
      obtain ⟨p0, p1, p2, p3⟩ := tog_inv ps hp h0
      generalize tOut ps.length ps (blen (mx ps).toNat) (-1, []) = st at *
      rw [tellP]
      cases hpl : plan ps.length st.2 [st.1] with
      | false =>
        rw [if_neg (by simp)]
        simp only []
        rw [F_l_pSamePlan_refl fu _ _ _ (by simp) (by simp) (by omega), Option.bind_some]; rfl
      | true =>
        obtain ⟨hform, _⟩ : formOk ps.length st.2 [st.1] = true ∧ rowsOk (exps ps.length st.2) = true := by simpa [plan] using hpl
        have hss := (formOk_iff.1 hform).2.1
        rw [if_pos rfl]
        simp only []
        rw [F_l_pSamePlan_refl fu _ _ _ (by omega) (by simp) (by omega), Option.bind_some, if_neg (by simp), if_neg (by simp), F_i_OutputExponents_eq fu _ _ _ (by omega), if_pos hpl, Option.bind_some]
        simp only [List.map_cons, List.map_nil, List.length_cons, List.length_nil, List.getD_cons_zero, Int.toNat_zero, p2, Bool.not_true, cond_false]
        rw [show (((0 + 1 : Nat) : Int) != 1) = false by rfl, chk_of (by intro _; omega)]
        simp only [BEq.rfl, gcl_t]
        rw [F_l_pSameInts_refl fu ps (by omega) (by omega), Option.bind_some, if_neg (by simp), F_l_FnPowersTogetherL2_eq fu ps _ hp (by omega) fu 0 0 0 (by omega) (by omega) (by omega) (by omega) (by omega) (by omega) (by omega)]
        simp only [Int.toNat_zero, List.drop_zero]
        rw [mxl_eq hp h0, F_l_FnPowersTogetherJ1]
        have hbl := mx_blen hp
        have hcn := cnt_le hp
        have hbp := blen_pos (n := (mx ps).toNat) (by have := mx_nonneg ps; omega)
        rw [w64 (x := ((blen (mx ps).toNat : Nat) : Int) - 1) (by omega), w64 (x := ((blen (mx ps).toNat : Nat) : Int) - 1 + (0 + _)) (by omega), w64 (by omega)]
        congr 1
        rw [beq_iff_eq]
        omega
    · rw [if_neg hcond]
      simp only []
      rw [F_l_pSamePlan_refl fu _ _ _ (by simp) (by simp) (by omega), Option.bind_some]
      rfl
end Pu
end Go.Proofs.Yticeepbgbefmaaa
