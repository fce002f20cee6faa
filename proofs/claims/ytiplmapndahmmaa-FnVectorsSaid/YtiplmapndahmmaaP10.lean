/- Plain laws: exponents and cost of turned plans; the squares' exponents; the statement on vectors. -/
import Derived.Test.YtiplmapndahmmaaP9
namespace Go.Proofs.Ytiplmapndahmmaa
open Al
set_option linter.unusedVariables false
set_option linter.unusedSimpArgs false
namespace Pu

theorem sumL_sqV (g : Int → Int) : ∀ v, sumL g (sqV v) = sumN v (fun k => g k)
  | 0 => by simp [sqV, sumL, sumN]
  | v + 1 => by rw [sqV_snoc, sumL_append, sumL_cons, sumL_nil, sumL_sqV g v, sumN]; omega

theorem sum_outF (v j : Int) (g : Int → Int) : ∀ (os : List Int) (i : Int), 0 ≤ i → (∀ f, i ≤ f → f < i + os.length → g f = if f = j then 1 else 0) →
    sumL g (outF v i os) = if i ≤ j ∧ j < i + os.length ∧ os.getD (j - i).toNat 0 = v then 1 else 0
  | [], i, _, _ => by rw [outF, sumL_nil, if_neg]; simp only [List.length_append, List.length_cons, List.length_nil, List.length_replicate, List.length_set, List.length_map, List.length_range, List.length_take, List.length_drop, List.length_zipWith, List.length_reverse]; omega
  | o :: os, i, hi, hg => by
    simp only [List.length_append, List.length_cons, List.length_nil, List.length_replicate, List.length_set, List.length_map, List.length_range, List.length_take, List.length_drop, List.length_zipWith, List.length_reverse] at hg ⊢
    have ih := sum_outF v j g os (i + 1) (by omega) fun f h1 h2 => hg f (by omega) (by omega)
    have hgi := hg i (by omega) (by omega)
    have e : i ≠ j → (i + 1 ≤ j ∧ j < i + 1 + os.length ∧ os.getD (j - (i + 1)).toNat 0 = v ↔ i ≤ j ∧ j < i + ((os.length + 1 : Nat) : Int) ∧ (o :: os).getD (j - i).toNat 0 = v) := by
      intro hne
      by_cases h : i + 1 ≤ j
      · rw [show (j - i).toNat = (j - (i + 1)).toNat + 1 by omega, List.getD_cons_succ]
        constructor
        · rintro ⟨a, b, c⟩; exact ⟨by omega, by omega, c⟩
        · rintro ⟨a, b, c⟩; exact ⟨by omega, by omega, c⟩
      · constructor <;> rintro ⟨a, b, c⟩ <;> omega
    rw [outF]
    by_cases ho : o = v
    · rw [if_pos ho, sumL_cons, ih, hgi]
      by_cases hij : i = j
      · subst hij
        rw [if_pos rfl, if_neg (by omega), if_pos ⟨by omega, by omega, by simp [ho]⟩]; rfl
      · rw [if_neg hij, Int.zero_add]
        by_cases hc : i + 1 ≤ j ∧ j < i + 1 + os.length ∧ os.getD (j - (i + 1)).toNat 0 = v
        · rw [if_pos hc, if_pos ((e hij).1 hc)]
        · rw [if_neg hc, if_neg (fun h => hc ((e hij).2 h))]
    · rw [if_neg ho, ih]
      by_cases hij : i = j
      · subst hij
        rw [if_neg (by omega), if_neg]
        rintro ⟨_, _, h⟩
        simp at h; exact ho h
      · by_cases hc : i + 1 ≤ j ∧ j < i + 1 + os.length ∧ os.getD (j - (i + 1)).toNat 0 = v
        · rw [if_pos hc, if_pos ((e hij).1 hc)]
        · rw [if_neg hc, if_neg (fun h => hc ((e hij).2 h))]

theorem sum_stF (v : Int) (bl : List Int) (g : Int → Int) : ∀ (ss : List Stp) (k : Nat), sumL g (stF v bl k ss) = cS (fun k => g (bl.getD k 0)) v k ss
  | [], k => by rw [stF, sumL_nil, cS]
  | s :: ss, k => by
    have ih := sum_stF v bl g ss (k + 1)
    rw [stF, sumL_append, sumL_append, cS, show ((k : Int) + 1) = ((k + 1 : Nat) : Int) by omega, ih, Int.toNat_natCast]
    rw [← Int.add_assoc]
    congr 1
    congr 1 <;> split <;> simp [sumL]

theorem split_at {ss : List Stp} {t : Nat} (h : t < ss.length) : ss = ss.take t ++ ss.getD t (0, 0) :: ss.drop (t + 1) := by
  rw [← drop_cons ss (0, 0) h, List.take_append_drop]

theorem ent_at (n : Nat) (ss : List Stp) (hs : stepsOk n ss = true) (hr : rowsOk (exps n ss) = true) {t : Nat} (ht : t < ss.length) {j : Nat} (hj : j < n) :
    ent n ss ((n : Int) + t) j = ent n ss (ss.getD t (0, 0)).1 j + ent n ss (ss.getD t (0, 0)).2 j := by
  have e := split_at ht
  have hl : (ss.take t).length = t := by simp only [List.length_append, List.length_cons, List.length_nil, List.length_replicate, List.length_set, List.length_map, List.length_range, List.length_take, List.length_drop, List.length_zipWith, List.length_reverse]; omega
  generalize ss.getD t (0, 0) = s at e ⊢
  generalize ss.take t = a at e hl
  generalize ss.drop (t + 1) = b at e
  subst e
  have := ent_step n a s b hs hr hj
  rw [hl] at this
  exact this

theorem plan_iff {n : Int} {ss : List Stp} {os : List Int} : plan n ss os = true ↔ formOk n ss os = true ∧ rowsOk (exps n ss) = true := by simp [plan]

theorem steps_mem {n : Nat} {ss : List Stp} (hs : stepsOk n ss = true) : ∀ s ∈ ss, 0 ≤ s.1 ∧ s.1 < n + ss.length ∧ 0 ≤ s.2 ∧ s.2 < n + ss.length := by
  intro s h
  obtain ⟨i, hi, e⟩ := List.mem_iff_getElem.1 h
  have := stepsOk_get ss n i hs hi
  rw [List.getD_eq_getElem?_getD, List.getElem?_eq_getElem hi] at this
  simp only [Option.getD_some, e] at this
  omega

/-- The exponents of a turned plan are those of the plan, exchanged; its cost is told by the numbers of inputs and outputs. -/
theorem turn_exps (n : Nat) (ss : List Stp) (os : List Int) (hp : plan n ss os = true) (hcan : canT n ss os = true)
    (hq : rowsOk (exps (turnP n ss os).1 (turnP n ss os).2.1) = true) :
    (∀ i, i < n → (exps (turnP n ss os).1 (turnP n ss os).2.1).getD ((turnP n ss os).2.2.getD i 0).toNat [] = os.map (fun o => ent n ss o i)) ∧
    ((turnP n ss os).2.1.length : Int) = os.length + ss.length - n := by
  obtain ⟨hform, hrows⟩ := plan_iff.1 hp
  obtain ⟨⟨h0, h6⟩, hl, ho, hs, hos⟩ := formOk_iff.1 hform
  have hM : ((n : Int) + ss.length).toNat = n + ss.length := by omega
  have hS := turnL_spec n ss os hform hcan (n + ss.length) (List.replicate (n + ss.length) 0) [] (by simp) (by omega) rfl (fun j h1 h2 => by omega)
  have eR : turnR n ss os = turnL n ss os os.length (n + ss.length) (List.replicate (n + ss.length) 0, []) := by unfold turnR; rw [hM]
  have e1 : (turnP n ss os).1 = ((os.length : Nat) : Int) := rfl
  have e2 : (turnP n ss os).2.1 = (turnR n ss os).2 := rfl
  have e3 : (turnP n ss os).2.2 = (turnR n ss os).1.take n := by show (turnR n ss os).1.take ((n : Int)).toNat = _; rw [Int.toNat_natCast]
  rw [e1, e2] at hq
  rw [e1, e2, e3]
  rw [eR] at hq ⊢
  generalize turnL n ss os os.length (n + ss.length) (List.replicate (n + ss.length) 0, []) = R at hS hq ⊢
  have hRl : R.1.length = n + ss.length := by rw [hS.len]; simp
  constructor
  · intro i hi
    have hget : (R.1.take n).getD i 0 = R.1.getD i 0 := by
      simp [List.getD_eq_getElem?_getD, List.getElem?_take, hi]
    rw [hget]
    have hpos := hS.pos i (by omega)
    have hrl := (exps_rows (n := (os.length : Int)) (by omega) hS.ok).1
    have hxl := exps_len os.length R.2
    have hg := hrl.get (i := R.1.getD i 0) hpos.1 (by omega)
    rw [Int.toNat_natCast] at hg
    apply List.ext_getElem
    · rw [hg.1]; simp
    · intro j hj1 hj2
      have hj : j < os.length := by simpa using hj2
      have hdual := dual n ss (fun v => ent os.length R.2 (R.1.getD v 0) j) (fun v => ent n ss (v : Int) i) (os.getD j 0) i hi
        (inR_iff.1 (List.all_eq_true.1 hos _ (getD_mem hj))).1 (by have := (inR_iff.1 (List.all_eq_true.1 hos _ (getD_mem hj))).2; omega) (steps_mem hs)
        (fun v hv => by rw [ent_unit n ss (by omega) (by omega) hi]; by_cases h : v = i <;> simp [h] <;> omega)
        (fun t ht => by
          have hv := stepsOk_get ss n t hs ht
          have := ent_at n ss hs hrows ht hi
          rw [show ((n + t : Nat) : Int) = (n : Int) + t by omega, this, Int.toNat_of_nonneg hv.1, Int.toNat_of_nonneg (by omega)])
        (fun v hv => by
          have := hS.sum hq v j hv hj
          rw [this]
          unfold facs
          rw [sumL_append, sum_outF (v : Int) (j : Int) (fun f => ent os.length R.2 f j) os 0 (by omega) (fun f h1 h2 => by rw [ent_unit os.length R.2 h1 (by omega) hj])]
          rw [sum_stF (v : Int) R.1 (fun f => ent os.length R.2 f j) ss n]
          congr 1
          rw [show ((j : Int) - 0).toNat = j by omega]
          by_cases h : os.getD j 0 = (v : Int)
          · rw [if_pos ⟨by omega, by omega, h⟩, if_pos h]
          · rw [if_neg (fun hc => h hc.2.2), if_neg h])
      have ej : os[j] = os.getD j 0 := by rw [List.getD_eq_getElem?_getD, List.getElem?_eq_getElem hj]; rfl
      have hoj := inR_iff.1 (List.all_eq_true.1 hos _ (getD_mem hj))
      simp only [List.getElem_map, ej]
      have : ent n ss (os.getD j 0) i = ent n ss (((os.getD j 0).toNat : Nat) : Int) i := by rw [Int.toNat_of_nonneg hoj.1]
      rw [this, ← hdual]
      unfold ent
      rw [List.getD_eq_getElem?_getD (i := j), List.getElem?_eq_getElem hj1]; rfl
  · rw [hS.cost, sumL_sqV]
    have a1 : ∀ v : Nat, ((facs n ss os R.1 v).length : Int) = sumL (fun _ => 1) (outF v 0 os) + sumL (fun _ => 1) (stF v R.1 n ss) := by
      intro v
      have hlen : ∀ fs : List Int, sumL (fun _ => 1) fs = (fs.length : Int) := by
        intro fs
        induction fs with
        | nil => rfl
        | cons f fs ih => rw [sumL_cons, ih]; simp only [List.length_append, List.length_cons, List.length_nil, List.length_replicate, List.length_set, List.length_map, List.length_range, List.length_take, List.length_drop, List.length_zipWith, List.length_reverse]; omega
      rw [hlen, hlen]; unfold facs; simp only [List.length_append, List.length_cons, List.length_nil, List.length_replicate, List.length_set, List.length_map, List.length_range, List.length_take, List.length_drop, List.length_zipWith, List.length_reverse]; omega
    have a2 : sumN (n + ss.length) (fun v => sumL (fun _ => 1) (outF v 0 os)) = os.length := by
      have key : ∀ (os : List Int) (i : Int), (os.all (inR 0 ((n : Int) + ss.length - 1)) = true) → sumN (n + ss.length) (fun v => sumL (fun _ => 1) (outF v i os)) = os.length := by
        intro os
        induction os with
        | nil => intro i _; simp only [outF, sumL_nil]; exact sumN_zero _
        | cons o os ih =>
          intro i h
          simp only [List.all_cons, Bool.and_eq_true] at h
          have ho := inR_iff.1 h.1
          have e : ∀ v : Nat, sumL (fun _ => 1) (outF v i (o :: os)) = (if o = (v : Int) then 1 else 0) + sumL (fun _ => 1) (outF v (i + 1) os) := by
            intro v; rw [outF]; split
            · rw [sumL_cons]
            · omega
          rw [sumN_congr _ fun v _ => e v, sumN_add, sumN_delta (n + ss.length) o (fun _ => 1) ho.1 (by omega), ih (i + 1) h.2]; simp only [List.length_append, List.length_cons, List.length_nil, List.length_replicate, List.length_set, List.length_map, List.length_range, List.length_take, List.length_drop, List.length_zipWith, List.length_reverse]; omega
      exact key os 0 hos
    have a3 : sumN (n + ss.length) (fun v => sumL (fun _ => 1) (stF v R.1 n ss)) = 2 * ss.length := by
      have e : ∀ v : Nat, sumL (fun _ => 1) (stF v R.1 n ss) = cS (fun _ => 1) v n ss * (fun _ => (1 : Int)) v := by intro v; rw [sum_stF]; simp
      rw [sumN_congr _ fun v _ => e v, sum_swap (fun _ => 1) (fun _ => 1) (n + ss.length) ss n (by simpa using steps_mem hs)]
      have key : ∀ (ss : List Stp) (k : Nat), dS (fun _ => 1) (fun _ => 1) k ss = 2 * (ss.length : Int) := by
        intro ss
        induction ss with
        | nil => intro k; rfl
        | cons s ss ih => intro k; rw [dS, ih]; simp only [List.length_append, List.length_cons, List.length_nil, List.length_replicate, List.length_set, List.length_map, List.length_range, List.length_take, List.length_drop, List.length_zipWith, List.length_reverse]; omega
      exact key ss n
    have a4 : sumN (n + ss.length) (fun v => ((facs n ss os R.1 v).length : Int) - 1) = os.length + 2 * ss.length - (n + ss.length) := by
      have e : ∀ v : Nat, ((facs n ss os R.1 v).length : Int) - 1 = (sumL (fun _ => 1) (outF v 0 os) + sumL (fun _ => 1) (stF v R.1 n ss)) + (-1) := by intro v; rw [a1]; omega
      have c : ∀ m : Nat, sumN m (fun _ => (-1 : Int)) = -(m : Int) := by
        intro m
        induction m with
        | zero => rfl
        | succ m ih => simp only [sumN]; rw [ih]; omega
      rw [sumN_congr _ fun v _ => e v, sumN_add, sumN_add, a2, a3, c]; omega
    rw [a4]; simp only [List.length_append, List.length_cons, List.length_nil, List.length_replicate, List.length_set, List.length_map, List.length_range, List.length_take, List.length_drop, List.length_zipWith, List.length_reverse]; omega

def bitsL (p : Int) : Nat → Nat → List Int
  | 0, _ => []
  | c + 1, i => (if bit p i = true then [(i : Int)] else []) ++ bitsL p c (i + 1)
theorem sIn_tm (p : Int) : ∀ (c i : Nat) (st : Int × List Stp), sIn p c i st = (bitsL p c i).foldl (tm 1) st
  | 0, _, _ => rfl
  | c + 1, i, st => by
    rw [sIn, sIn_tm p c (i + 1), bitsL, List.foldl_append]
    congr 1
    split
    · rw [List.foldl_cons, List.foldl_nil]; rfl
    · rfl
theorem bitsL_range (p : Int) : ∀ (c i : Nat), ∀ f ∈ bitsL p c i, (i : Int) ≤ f ∧ f < i + c
  | 0, _, f, h => by simp [bitsL] at h
  | c + 1, i, f, h => by
    rw [bitsL, List.mem_append] at h
    rcases h with h | h
    · split at h
      · simp at h; omega
      · simp at h
    · have := bitsL_range p c (i + 1) f h; omega
theorem bitsL_sum (p : Int) (g : Int → Int) : ∀ (c i : Nat), (∀ k : Nat, k < i + c → g k = 2 ^ k) → sumL g (bitsL p c i) = ((p.toNat / 2 ^ i % 2 ^ c * 2 ^ i : Nat) : Int)
  | 0, i, _ => by simp [bitsL, sumL, Nat.mod_one]
  | c + 1, i, h => by
    have ih := bitsL_sum p g c (i + 1) fun k hk => h k (by omega)
    rw [bitsL, sumL_append, ih]
    have e1 : p.toNat / 2 ^ (i + 1) = p.toNat / 2 ^ i / 2 := by rw [Nat.pow_succ, ← Nat.div_div_eq_div_mul]
    rw [e1]
    unfold bit
    generalize p.toNat / 2 ^ i = y
    have e2 : y % 2 ^ (c + 1) = y % 2 + 2 * (y / 2 % 2 ^ c) := by
      rw [Nat.pow_succ, Nat.mul_comm (2 ^ c) 2, Nat.mod_mul]
    have e3 : y / 2 % 2 ^ c * 2 ^ (i + 1) = 2 * (y / 2 % 2 ^ c) * 2 ^ i := by rw [Nat.pow_succ, Nat.mul_comm (2 ^ i) 2, ← Nat.mul_assoc, Nat.mul_comm _ 2]
    rw [e2, e3, Nat.add_mul]
    by_cases hy : y % 2 = 1
    · rw [if_pos (by simp [hy]), sumL_cons, sumL_nil, h i (by omega), hy]; push_cast; omega
    · have hy0 : y % 2 = 0 := by omega
      rw [if_neg (by simp [hy0]), sumL_nil, hy0]; simp
theorem bitsL_len (p : Int) : ∀ (c i : Nat), p.toNat / 2 ^ i < 2 ^ c → (bitsL p c i).length = popc (p.toNat / 2 ^ i)
  | 0, i, h => by rw [show p.toNat / 2 ^ i = 0 from Nat.lt_one_iff.1 (by simpa using h), popc_zero]; rfl
  | c + 1, i, h => by
    have e1 : p.toNat / 2 ^ (i + 1) = p.toNat / 2 ^ i / 2 := by rw [Nat.pow_succ, ← Nat.div_div_eq_div_mul]
    have ih := bitsL_len p c (i + 1) (by rw [e1]; rw [Nat.pow_succ] at h; omega)
    rw [bitsL, List.length_append, ih, e1, popc_step (p.toNat / 2 ^ i)]
    unfold bit
    generalize p.toNat / 2 ^ i = y
    rcases Nat.mod_two_eq_zero_or_one y with hy | hy <;> simp [hy]

/-- All of a list's parts lie in the plan that is made. -/
structure SqS (b : Nat) (ts : List Int) (ss : List Stp) (os : List Int) (R : List Stp × List Int) : Prop where
  ok : stepsOk 1 R.1 = true
  pre : ∃ x, R.1 = ss ++ x
  cost : R.1.length + ts.length = ss.length + cnt ts
  outs : R.2.length = os.length + ts.length
  old : ∀ j, j < os.length → R.2.getD j 0 = os.getD j 0
  rng : ∀ j, j < ts.length → 0 ≤ R.2.getD (os.length + j) 0 ∧ R.2.getD (os.length + j) 0 < 1 + R.1.length
  sum : rowsOk (exps 1 R.1) = true → ∀ j, j < ts.length → ent 1 R.1 (R.2.getD (os.length + j) 0) 0 = ts.getD j 0

theorem sq_ent (b : Nat) (ss : List Stp) (hpre : ∃ x, ss = sqS b ++ x) (hs : stepsOk 1 ss = true) (hr : rowsOk (exps 1 ss) = true) : ∀ k : Nat, k < b → ent 1 ss k 0 = 2 ^ k
  | 0, _ => by
    have := ent_unit 1 ss (k := 0) (by omega) (by omega) (j := 0) (by omega)
    simpa using this
  | k + 1, hk => by
    have ih := sq_ent b ss hpre hs hr k (by omega)
    obtain ⟨x, hx⟩ := hpre
    have hl : k < ss.length := by rw [hx]; simp only [List.length_append, List.length_cons, List.length_nil, List.length_replicate, List.length_set, List.length_map, List.length_range, List.length_take, List.length_drop, List.length_zipWith, List.length_reverse, sqS_len]; omega
    have hg : ss.getD k (0, 0) = ((k : Int), (k : Int)) := by
      rw [hx, List.getD_eq_getElem?_getD, List.getElem?_append_left (by rw [sqS_len]; omega)]
      simp [sqS, List.getElem?_range (show k < b - 1 by omega)]
    have := ent_at 1 ss hs hr hl (j := 0) (by omega)
    rw [hg] at this
    have this : ent 1 ss ((1 : Int) + (k : Int)) 0 = ent 1 ss (k : Int) 0 + ent 1 ss (k : Int) 0 := this
    rw [ih] at this
    rw [show ((k + 1 : Nat) : Int) = (1 : Int) + (k : Int) by omega, this, Int.pow_succ]; omega

theorem sOut_spec (b : Nat) (hb1 : 1 ≤ b) : ∀ (ts : List Int) (ss : List Stp) (os : List Int), InNum ts → (∀ p ∈ ts, blen p.toNat ≤ b) → (∃ x, ss = sqS b ++ x) → stepsOk 1 ss = true → SqS b ts ss os (sOut b ts (ss, os))
  | [], ss, os, _, _, _, hok => ⟨hok, ⟨[], by simp [sOut]⟩, by simp [sOut, cnt_nil], by simp [sOut], fun _ _ => rfl, fun _ h => by simp at h, fun _ _ h => by simp at h⟩
  | p :: ts, ss, os, ht, hbt, hpre, hok => by
    obtain ⟨x0, hx0⟩ := hpre
    have hp := ht p (List.mem_cons_self)
    have hpb := hbt p (List.mem_cons_self)
    have hlt : p.toNat < 2 ^ b := (blen_iff _ _).2 hpb
    have hlss : b - 1 ≤ ss.length := by rw [hx0]; simp only [List.length_append, List.length_cons, List.length_nil, List.length_replicate, List.length_set, List.length_map, List.length_range, List.length_take, List.length_drop, List.length_zipWith, List.length_reverse, sqS_len]; omega
    have hlb := bitsL_len p b 0 (by simpa using hlt)
    rw [Nat.pow_zero, Nat.div_one] at hlb
    have hpos : 0 < popc p.toNat := by
      have : ∀ (k n : Nat), n < 2 ^ k → n ≠ 0 → 0 < popc n := by
        intro k
        induction k with
        | zero => intro n h h0; omega
        | succ k ih =>
          intro n h h0
          rw [popc_step]
          by_cases h1 : n % 2 = 1
          · omega
          · have := ih (n / 2) (by rw [Nat.pow_succ] at h; omega) (by omega); omega
      exact this b _ hlt (by omega)
    have hne : bitsL p b 0 ≠ [] := by intro h; rw [h] at hlb; simp at hlb; omega
    have hm := made_tms 1 ss hok hne (fun f hf => by have := bitsL_range p b 0 f hf; omega)
    have es : sIn p b 0 (-1, ss) = tms 1 ss (bitsL p b 0) := by rw [sIn_tm]; rfl
    rw [sOut]
    dsimp only
    rw [es]
    generalize tms 1 ss (bitsL p b 0) = st at hm ⊢
    obtain ⟨x, hx⟩ := hm.pre
    have ih := sOut_spec b hb1 ts st.2 (os ++ [st.1]) (fun y hy => ht y (List.mem_cons_of_mem _ hy)) (fun y hy => hbt y (List.mem_cons_of_mem _ hy)) ⟨x0 ++ x, by rw [hx, hx0, List.append_assoc]⟩ hm.ok
    generalize sOut b ts (st.2, os ++ [st.1]) = R at ih ⊢
    obtain ⟨y, hy⟩ := ih.pre
    have hRl : R.1.length = st.2.length + y.length := by rw [hy]; simp
    have hR0 : R.2.getD os.length 0 = st.1 := by
      rw [ih.old os.length (by simp)]; simp [List.getD_eq_getElem?_getD]
    have a0 := hm.at0
    have a1 := hm.at1
    refine ⟨ih.ok, ⟨x ++ y, by rw [hy, hx, List.append_assoc]⟩, ?_, ?_, fun j hj => ?_, fun j hj => ?_, fun hr j hj => ?_⟩
    · have := ih.cost; have := hm.len; rw [cnt_cons]; simp only [List.length_append, List.length_cons, List.length_nil, List.length_replicate, List.length_set, List.length_map, List.length_range, List.length_take, List.length_drop, List.length_zipWith, List.length_reverse]; omega
    · have := ih.outs; simp only [List.length_append, List.length_cons, List.length_nil, List.length_replicate, List.length_set, List.length_map, List.length_range, List.length_take, List.length_drop, List.length_zipWith, List.length_reverse] at this ⊢; omega
    · rw [ih.old j (by simp only [List.length_append, List.length_cons, List.length_nil, List.length_replicate, List.length_set, List.length_map, List.length_range, List.length_take, List.length_drop, List.length_zipWith, List.length_reverse]; omega), getD_append_left _ _ _ hj]
    · cases j with
      | zero => rw [Nat.add_zero, hR0]; omega
      | succ j =>
        have := ih.rng j (by simpa using hj)
        simp only [List.length_append, List.length_cons, List.length_nil, List.length_replicate, List.length_set, List.length_map, List.length_range, List.length_take, List.length_drop, List.length_zipWith, List.length_reverse] at this
        rw [show os.length + (j + 1) = os.length + (0 + 1) + j by omega]; exact this
    · cases j with
      | zero =>
        rw [Nat.add_zero, hR0, List.getD_cons_zero]
        have h1 := hm.sum y 0 (by omega) (by rw [← hy]; exact ih.ok) (by rw [← hy]; exact hr)
        rw [← hy] at h1
        refine h1.trans ?_
        have h2 := bitsL_sum p (fun f => ent 1 R.1 f 0) b 0 (fun k hk => sq_ent b R.1 ⟨x0 ++ x ++ y, by rw [hy, hx, hx0]; simp⟩ ih.ok hr k (by omega))
        rw [Nat.pow_zero, Nat.div_one, Nat.mul_one, Nat.mod_eq_of_lt hlt] at h2
        exact h2.trans (by omega)
      | succ j =>
        have := ih.sum hr j (by simpa using hj)
        simp only [List.length_append, List.length_cons, List.length_nil, List.length_replicate, List.length_set, List.length_map, List.length_range, List.length_take, List.length_drop, List.length_zipWith, List.length_reverse] at this
        rw [show os.length + (j + 1) = os.length + (0 + 1) + j by omega, List.getD_cons_succ]; exact this
end Pu
end Go.Proofs.Ytiplmapndahmmaa
