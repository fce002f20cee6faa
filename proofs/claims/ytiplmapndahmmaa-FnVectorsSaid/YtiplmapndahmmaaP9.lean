/- Plain laws: the exponents of a plan that is turned round. -/
import Derived.Test.YtiplmapndahmmaaP8
namespace Go.Proofs.Ytiplmapndahmmaa
open Al
set_option linter.unusedVariables false
set_option linter.unusedSimpArgs false
namespace Pu

def ent (n : Int) (ss : List Stp) (k : Int) (j : Nat) : Int := ((exps n ss).getD k.toNat []).getD j 0

theorem expsF_append (rs : List (List Int)) (a b : List Stp) : expsF rs (a ++ b) = expsF (expsF rs a) b := by simp [expsF, List.foldl_append]
theorem exps_prefix (n : Nat) (a b : List Stp) {i : Nat} (h : i < n + a.length) : (exps n (a ++ b)).getD i [] = (exps n a).getD i [] := by
  unfold exps
  rw [expsF_append, expsF_prefix]
  have := exps_len n a
  unfold exps at this
  omega
theorem ent_prefix (n : Nat) (a b : List Stp) {k : Int} (h0 : 0 ≤ k) (h : k < n + a.length) (j : Nat) : ent n (a ++ b) k j = ent n a k j := by
  unfold ent; rw [exps_prefix n a b (by omega)]
theorem ent_unit (n : Nat) (ss : List Stp) {k : Int} (h0 : 0 ≤ k) (hk : k < n) {j : Nat} (hj : j < n) : ent n ss k j = if k = (j : Int) then 1 else 0 := by
  unfold ent
  rw [exps_unit n ss (by omega)]
  unfold unitR
  rw [List.getD_eq_getElem?_getD]
  by_cases h : k = (j : Int)
  · subst h; simp [hj]
  · rw [List.getElem?_set_ne (by omega), if_neg h]; simp [hj]

theorem getD_all {rs : List (List Int)} (h : rowsOk rs = true) (k j : Nat) : 0 ≤ (rs.getD k []).getD j 0 ∧ (rs.getD k []).getD j 0 ≤ 1000000 := by
  by_cases hk : k < rs.length
  · have h1 : rs.getD k [] ∈ rs := by rw [List.getD_eq_getElem?_getD, List.getElem?_eq_getElem hk]; exact List.getElem_mem hk
    have h2 := List.all_eq_true.1 h _ h1
    by_cases hj : j < (rs.getD k []).length
    · exact inR_iff.1 (List.all_eq_true.1 h2 _ (getD_mem hj))
    · rw [List.getD_eq_getElem?_getD (l := rs.getD k []), List.getElem?_eq_none (by omega)]; simp
  · rw [List.getD_eq_getElem?_getD (l := rs), List.getElem?_eq_none (by omega)]; simp

theorem getD_addR {n : Nat} {a b : List Int} (ha : a.length = n) (hb : b.length = n) {j : Nat} (hj : j < n) : (addR a b).getD j 0 = min (a.getD j 0 + b.getD j 0) 1000001 := by
  simp only [addR, List.getD_eq_getElem?_getD]
  rw [List.getElem?_zipWith, List.getElem?_eq_getElem (by omega), List.getElem?_eq_getElem (by omega)]
  simp

/-- A step's entries are sums, where all are small. -/
theorem ent_step (n : Nat) (a : List Stp) (s : Stp) (b : List Stp) (hs : stepsOk n (a ++ s :: b) = true) (hr : rowsOk (exps n (a ++ s :: b)) = true) {j : Nat} (hj : j < n) :
    ent n (a ++ s :: b) ((n : Int) + a.length) j = ent n (a ++ s :: b) s.1 j + ent n (a ++ s :: b) s.2 j := by
  have hv := stepsOk_get (a ++ s :: b) n a.length hs (by simp)
  have hget : (a ++ s :: b).getD a.length (0, 0) = s := by simp [List.getD_eq_getElem?_getD]
  rw [hget] at hv
  have e : a ++ s :: b = (a ++ [s]) ++ b := by simp
  have hsa : stepsOk n a = true := by
    have : ∀ (x y : List Stp) (m : Int), stepsOk m (x ++ y) = true → stepsOk m x = true := by
      intro x
      induction x with
      | nil => intros; rfl
      | cons t x ih => intro y m h; simp only [List.cons_append, stepsOk, Bool.and_eq_true] at h ⊢; exact ⟨h.1, ih y _ h.2⟩
    exact this a _ _ hs
  have hrows := (exps_rows (n := n) (by omega) hsa).1
  have hl := exps_len n a
  have h1 : ent n (a ++ s :: b) ((n : Int) + a.length) j = min (ent n a s.1 j + ent n a s.2 j) 1000001 := by
    rw [e, ent_prefix n (a ++ [s]) b (by omega) (by simp only [List.length_append, List.length_cons, List.length_nil, List.length_replicate, List.length_set, List.length_map, List.length_range, List.length_take, List.length_drop, List.length_zipWith, List.length_reverse]; omega)]
    unfold ent
    rw [exps_snoc, getD_append_last _ _ _ (by rw [hl]; omega)]
    have g1 := hrows.get (i := s.1) (by omega) (by omega)
    have g2 := hrows.get (i := s.2) (by omega) (by omega)
    rw [Int.toNat_natCast] at g1 g2
    exact getD_addR g1.1 g2.1 hj
  have h2 := ent_prefix n a (s :: b) (k := s.1) (by omega) (by omega) j
  have h3 := ent_prefix n a (s :: b) (k := s.2) (by omega) (by omega) j
  have hb := getD_all hr ((n : Int) + a.length).toNat j
  have : ent n (a ++ s :: b) ((n : Int) + a.length) j ≤ 1000000 := hb.2
  rw [h2, h3]
  omega

def sumL (g : Int → Int) (fs : List Int) : Int := (fs.map g).sum
theorem sumL_cons (g : Int → Int) (f : Int) (fs : List Int) : sumL g (f :: fs) = g f + sumL g fs := by simp [sumL]
theorem sumL_nil (g : Int → Int) : sumL g [] = 0 := rfl
theorem sumL_append (g : Int → Int) (a b : List Int) : sumL g (a ++ b) = sumL g a + sumL g b := by simp [sumL]

/-- What is made behind ts, and what it has as exponents in the end. -/
structure Made (N : Nat) (ts : List Stp) (fs : List Int) (st : Int × List Stp) : Prop where
  ok : stepsOk N st.2 = true
  pre : ∃ x, st.2 = ts ++ x
  at0 : 0 ≤ st.1
  at1 : st.1 < N + st.2.length
  len : st.2.length + 1 = ts.length + fs.length
  sum : ∀ z j, j < N → stepsOk N (st.2 ++ z) = true → rowsOk (exps N (st.2 ++ z)) = true → ent N (st.2 ++ z) st.1 j = sumL (fun f => ent N (st.2 ++ z) f j) fs

theorem made_fold (N : Nat) (ts : List Stp) : ∀ (fs gs : List Int) (st : Int × List Stp), Made N ts gs st → (∀ f ∈ fs, 0 ≤ f ∧ f < N + ts.length) → Made N ts (gs ++ fs) (fs.foldl (tm N) st)
  | [], gs, st, h, _ => by simpa using h
  | f :: fs, gs, st, h, hf => by
    have hf0 := hf f (List.mem_cons_self)
    obtain ⟨x, hx⟩ := h.pre
    have hlen : st.2.length = ts.length + x.length := by rw [hx]; simp
    have h0 := h.at0
    have h1 := h.at1
    have e : tm N st f = mulS N st.2 st.1 f := by unfold tm; rw [if_neg (by omega)]
    rw [List.foldl_cons, e, show gs ++ f :: fs = (gs ++ [f]) ++ fs by simp]
    refine made_fold N ts fs (gs ++ [f]) _ ⟨?_, ⟨x ++ [(min st.1 f, max st.1 f)], by simp [mulS, hx]⟩, ?_, ?_, ?_, ?_⟩ fun g hg => hf g (List.mem_cons_of_mem _ hg)
    · simp only [mulS]; rw [stepsOk_snoc, h.ok, decide_eq_true (by omega)]; rfl
    · simp only [mulS]; omega
    · simp only [mulS, List.length_append, List.length_cons, List.length_nil, List.length_replicate, List.length_set, List.length_map, List.length_range, List.length_take, List.length_drop, List.length_zipWith, List.length_reverse]; omega
    · have := h.len; simp only [mulS, List.length_append, List.length_cons, List.length_nil, List.length_replicate, List.length_set, List.length_map, List.length_range, List.length_take, List.length_drop, List.length_zipWith, List.length_reverse]; omega
    · intro z j hj hs hr
      simp only [mulS, List.append_assoc, List.singleton_append] at hs hr ⊢
      rw [ent_step N st.2 _ z hs hr hj, sumL_append, sumL_cons, sumL_nil]
      rw [← h.sum ((min st.1 f, max st.1 f) :: z) j hj hs hr]
      dsimp only
      rcases Int.le_total st.1 f with hle | hle
      · rw [Int.min_eq_left hle, Int.max_eq_right hle]; omega
      · rw [Int.min_eq_right hle, Int.max_eq_left hle]; omega

theorem made_tms (N : Nat) (ts : List Stp) (hs : stepsOk N ts = true) {fs : List Int} (hne : fs ≠ []) (hf : ∀ f ∈ fs, 0 ≤ f ∧ f < N + ts.length) : Made N ts fs (tms N ts fs) := by
  cases fs with
  | nil => exact absurd rfl hne
  | cons f fs =>
    have hf0 := hf f (List.mem_cons_self)
    unfold tms
    rw [List.foldl_cons]
    have e : tm N (-1, ts) f = (f, ts) := by unfold tm; rw [if_pos (by simp)]
    rw [e]
    exact made_fold N ts fs [f] (f, ts) ⟨hs, ⟨[], by simp⟩, hf0.1, hf0.2, by simp, fun z j _ _ _ => by simp [sumL]⟩ fun g hg => hf g (List.mem_cons_of_mem _ hg)

/-- Factors depend on what belongs to later values alone. -/
theorem stF_congr (v : Int) (bl bl' : List Int) : ∀ (ss : List Stp) (k : Int), stepsOk k ss = true → 0 ≤ k → (∀ j : Nat, v < j → bl.getD j 0 = bl'.getD j 0) → stF v bl k ss = stF v bl' k ss
  | [], _, _, _, _ => rfl
  | s :: ss, k, hs, hk, h => by
    simp only [stepsOk, Bool.and_eq_true, decide_eq_true_eq] at hs
    rw [stF, stF, stF_congr v bl bl' ss (k + 1) hs.2 (by omega) h]
    by_cases h1 : s.1 = v
    · rw [h k.toNat (by omega)]
    · by_cases h2 : s.2 = v
      · rw [h k.toNat (by omega)]
      · rw [if_neg h1, if_neg h1, if_neg h2, if_neg h2]

/-- All that is made for the values below v. -/
structure TurnS (n : Nat) (ss : List Stp) (os : List Int) (N : Nat) (v : Nat) (bl : List Int) (ts : List Stp) (R : List Int × List Stp) : Prop where
  ok : stepsOk N R.2 = true
  pre : ∃ x, R.2 = ts ++ x
  len : R.1.length = bl.length
  old : ∀ j, v ≤ j → R.1.getD j 0 = bl.getD j 0
  pos : ∀ j, j < v → 0 ≤ R.1.getD j 0 ∧ R.1.getD j 0 < N + R.2.length
  cost : (R.2.length : Int) = ts.length + sumL (fun k => ((facs n ss os R.1 k).length : Int) - 1) (sqV v)
  sum : rowsOk (exps N R.2) = true → ∀ k j, k < v → j < N → ent N R.2 (R.1.getD k 0) j = sumL (fun f => ent N R.2 f j) (facs n ss os R.1 k)

theorem turnL_spec (n : Nat) (ss : List Stp) (os : List Int) (hform : formOk n ss os = true) (hcan : canT n ss os = true) : ∀ (v : Nat) (bl : List Int) (ts : List Stp), (bl.length : Int) = n + ss.length → (v : Int) ≤ n + ss.length →
    stepsOk os.length ts = true → (∀ j : Nat, v ≤ j → (j : Int) < n + ss.length → 0 ≤ bl.getD j 0 ∧ bl.getD j 0 < os.length + ts.length) → TurnS n ss os os.length v bl ts (turnL n ss os os.length v (bl, ts))
  | 0, bl, ts, hbl, _, hok, hb => ⟨hok, ⟨[], by simp [turnL]⟩, rfl, fun _ _ => rfl, fun _ h => by omega, by simp [turnL, sqV, sumL], fun _ _ _ h => by omega⟩
  | v + 1, bl, ts, hbl, hv, hok, hb => by
    obtain ⟨⟨h0, h6⟩, hl, ho, hs, hos⟩ := formOk_iff.1 hform
    have hne := canT_used hform hcan bl (v := v) (by omega)
    have hfb : ∀ f ∈ facs n ss os bl v, 0 ≤ f ∧ f < os.length + ts.length := by
      intro f hf
      rcases List.mem_append.1 hf with hf | hf
      · have := outF_nonneg _ os 0 (by omega) f hf; omega
      · obtain ⟨j, a, b, c, d⟩ := stF_mem _ bl ss n f hs (by omega) hf
        have := hb j.toNat (by omega) (by omega)
        rw [d]; exact this
    have hm := made_tms os.length ts hok hne hfb
    obtain ⟨x, hx⟩ := hm.pre
    rw [turnL]
    generalize hst : tms os.length ts (facs n ss os bl v) = st at hm hx ⊢
    have hvl : v < bl.length := by omega
    have ih := turnL_spec n ss os hform hcan v (bl.set v st.1) st.2 (by simp only [List.length_append, List.length_cons, List.length_nil, List.length_replicate, List.length_set, List.length_map, List.length_range, List.length_take, List.length_drop, List.length_zipWith, List.length_reverse]; omega) (by omega) hm.ok (fun j h1 h2 => by
      have hlen : st.2.length = ts.length + x.length := by rw [hx]; simp
      by_cases hj : j = v
      · subst hj
        have a := hm.at0
        have b := hm.at1
        simp only [List.getD_eq_getElem?_getD, List.getElem?_set_self hvl, Option.getD_some]; omega
      · have := hb j (by omega) h2
        simp only [List.getD_eq_getElem?_getD, List.getElem?_set_ne (Ne.symm hj)] at this ⊢; omega)
    generalize turnL n ss os os.length v (bl.set v st.1, st.2) = R at ih ⊢
    obtain ⟨y, hy⟩ := ih.pre
    have hRv : R.1.getD v 0 = st.1 := by rw [ih.old v (Nat.le_refl _)]; simp [List.getD_eq_getElem?_getD, List.getElem?_set_self hvl]
    have hRlater : ∀ j : Nat, v < j → R.1.getD j 0 = bl.getD j 0 := fun j hj => by
      rw [ih.old j (by omega)]; simp [List.getD_eq_getElem?_getD, List.getElem?_set_ne (by omega : v ≠ j)]
    have hfac : facs n ss os R.1 v = facs n ss os bl v := by
      unfold facs
      rw [stF_congr v R.1 bl ss n hs (by omega) fun j hj => hRlater j (by omega)]
    have hlenR : R.2.length = st.2.length + y.length := by rw [hy]; simp
    refine ⟨ih.ok, ⟨x ++ y, by rw [hy, hx, List.append_assoc]⟩, by rw [ih.len]; simp, fun j hj => hRlater j (by omega), fun j hj => ?_, ?_, fun hr k j hk hj => ?_⟩
    · by_cases hjv : j = v
      · subst hjv
        rw [hRv]; have a := hm.at0; have b := hm.at1; omega
      · exact ih.pos j (by omega)
    · have hc := ih.cost
      have hml := hm.len
      rw [sqV_snoc, sumL_append, sumL_cons, sumL_nil, hfac, hc]
      omega
    · by_cases hkv : k = v
      · subst hkv
        rw [hRv, hfac, hy]
        rw [hy] at hr
        exact hm.sum y j hj (by rw [← hy]; exact ih.ok) hr
      · exact ih.sum hr k j (by omega) hj

def sumN : Nat → (Nat → Int) → Int
  | 0, _ => 0
  | m + 1, g => sumN m g + g m
theorem sumN_congr (m : Nat) {g h : Nat → Int} (e : ∀ v, v < m → g v = h v) : sumN m g = sumN m h := by
  induction m with
  | zero => rfl
  | succ m ih => rw [sumN, sumN, ih fun v hv => e v (by omega), e m (by omega)]
theorem sumN_add (m : Nat) (g h : Nat → Int) : sumN m (fun v => g v + h v) = sumN m g + sumN m h := by
  induction m with
  | zero => rfl
  | succ m ih => simp only [sumN]; rw [ih]; omega
theorem sumN_zero (m : Nat) : sumN m (fun _ => 0) = 0 := by
  induction m with
  | zero => rfl
  | succ m ih => simp only [sumN]; rw [ih]; rfl
theorem sumN_delta (m : Nat) (a : Int) (g : Nat → Int) (h0 : 0 ≤ a) (h1 : a < m) : sumN m (fun v => if a = (v : Int) then g v else 0) = g a.toNat := by
  induction m with
  | zero => omega
  | succ m ih =>
    simp only [sumN]
    by_cases h : a = (m : Int)
    · rw [if_pos h, sumN_congr m (h := fun _ => 0) fun v hv => if_neg (by omega), sumN_zero, Int.zero_add]
      congr 1; omega
    · rw [if_neg h, ih (by omega), Int.add_zero]

/-- How often a step's factors are v, weighed. -/
def cS (D : Nat → Int) (v : Int) : Nat → List Stp → Int
  | _, [] => 0
  | k, s :: ss => ((if s.1 = v then D k else 0) + (if s.2 = v then D k else 0)) + cS D v (k + 1) ss
def dS (D U : Nat → Int) : Nat → List Stp → Int
  | _, [] => 0
  | k, s :: ss => D k * (U s.1.toNat + U s.2.toNat) + dS D U (k + 1) ss

theorem sum_swap (D U : Nat → Int) (M : Nat) : ∀ (ss : List Stp) (k : Nat), (∀ s ∈ ss, 0 ≤ s.1 ∧ s.1 < M ∧ 0 ≤ s.2 ∧ s.2 < M) → sumN M (fun v => cS D v k ss * U v) = dS D U k ss
  | [], k, _ => by simp only [cS, dS, Int.zero_mul]; exact sumN_zero M
  | s :: ss, k, h => by
    have hs := h s (List.mem_cons_self)
    have ih := sum_swap D U M ss (k + 1) fun t ht => h t (List.mem_cons_of_mem _ ht)
    have e : ∀ v : Nat, cS D v k (s :: ss) * U v = ((if s.1 = (v : Int) then D k * U v else 0) + (if s.2 = (v : Int) then D k * U v else 0)) + cS D v (k + 1) ss * U v := by
      intro v
      rw [cS, Int.add_mul, Int.add_mul]
      congr 1
      congr 1 <;> split <;> simp
    rw [sumN_congr M fun v _ => e v, sumN_add, sumN_add, sumN_delta M s.1 (fun v => D k * U v) hs.1 hs.2.1, sumN_delta M s.2 (fun v => D k * U v) hs.2.2.1 hs.2.2.2, ih, dS, Int.mul_add]

theorem sumN_split (g : Nat → Int) (n : Nat) : ∀ m, sumN (n + m) g = sumN n g + sumN m (fun t => g (n + t))
  | 0 => by simp [sumN]
  | m + 1 => by rw [← Nat.add_assoc, sumN, sumN, sumN_split g n m]; omega
theorem dS_eq (D U : Nat → Int) : ∀ (ss : List Stp) (k : Nat), (∀ i, i < ss.length → U (k + i) = U (ss.getD i (0, 0)).1.toNat + U (ss.getD i (0, 0)).2.toNat) → dS D U k ss = sumN ss.length (fun t => D (k + t) * U (k + t))
  | [], k, _ => rfl
  | s :: ss, k, h => by
    have h0 := h 0 (by simp)
    have ih := dS_eq D U ss (k + 1) fun i hi => by
      have := h (i + 1) (by simp; omega)
      rw [List.getD_cons_succ, show k + (i + 1) = k + 1 + i by omega] at this
      exact this
    simp only [List.getD_cons_zero, Nat.add_zero] at h0
    rw [dS, ih, ← h0]
    have := sumN_split (fun t => D (k + t) * U (k + t)) 1 ss.length
    simp only [List.length_cons]
    rw [Nat.add_comm ss.length 1, this]
    simp only [sumN, Int.zero_add, Nat.add_zero]
    congr 1
    exact sumN_congr _ fun t _ => by rw [show k + (1 + t) = k + 1 + t by omega]

/-- The two ways of counting agree. -/
theorem dual (n : Nat) (ss : List Stp) (D U : Nat → Int) (o : Int) (i : Nat) (hi : i < n) (ho : 0 ≤ o) (ho' : o < n + ss.length)
    (hss : ∀ s ∈ ss, 0 ≤ s.1 ∧ s.1 < n + ss.length ∧ 0 ≤ s.2 ∧ s.2 < n + ss.length)
    (hU0 : ∀ v, v < n → U v = if v = i then 1 else 0) (hU : ∀ t, t < ss.length → U (n + t) = U (ss.getD t (0, 0)).1.toNat + U (ss.getD t (0, 0)).2.toNat)
    (hD : ∀ v, v < n + ss.length → D v = (if o = (v : Int) then 1 else 0) + cS D v n ss) : D i = U o.toNat := by
  have h1 : sumN (n + ss.length) (fun v => D v * U v) = U o.toNat + dS D U n ss := by
    have e : ∀ v, v < n + ss.length → D v * U v = (if o = (v : Int) then U v else 0) + cS D v n ss * U v := by
      intro v hv
      rw [show D v * U v = ((if o = (v : Int) then 1 else 0) + cS D v n ss) * U v by rw [← hD v hv], Int.add_mul]
      congr 1; split <;> simp
    rw [sumN_congr _ e, sumN_add, sumN_delta (n + ss.length) o U ho (by omega), sum_swap D U (n + ss.length) ss n (by simpa using hss)]
  have h2 : sumN (n + ss.length) (fun v => D v * U v) = D i + dS D U n ss := by
    rw [sumN_split, dS_eq D U ss n hU]
    congr 1
    have e : ∀ v, v < n → D v * U v = if (i : Int) = (v : Int) then D v else 0 := by
      intro v hv
      rw [hU0 v hv]
      by_cases h : v = i
      · subst h; simp
      · rw [if_neg h, if_neg (by omega), Int.mul_zero]
    rw [sumN_congr _ e, sumN_delta n i D (by omega) (by omega), Int.toNat_natCast]
  omega
end Pu
end Go.Proofs.Ytiplmapndahmmaa
