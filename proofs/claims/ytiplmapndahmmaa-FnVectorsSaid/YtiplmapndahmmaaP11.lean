/- Plain laws: the statement on vectors. -/
import Derived.Test.YtiplmapndahmmaaP10
namespace Go.Proofs.Ytiplmapndahmmaa
open Al
set_option linter.unusedVariables false
set_option linter.unusedSimpArgs false
namespace Pu

def vec (ts : List Int) : Tell := if (sqp ts).1 = true then turn (sqp ts).2.1 (sqp ts).2.2.1 (sqp ts).2.2.2 else (false, 0, [], [])

theorem F_i_VectorPlan_eq (fu : Nat) (ts : List Int) (hl : ts.length ≤ 1000) (hf : 2000 ≤ fu) : F_i_VectorPlan fu ts = some (vec ts) := by
  rw [F_i_VectorPlan, F_i_SquaresPlan_eq fu ts hl hf, Option.bind_some, vec]
  cases h : (sqp ts).1 with
  | false => rfl
  | true => rw [if_neg (by simp), F_i_TurnPlan_eq fu _ _ _ (by omega), if_pos rfl]; rfl
theorem F_s_VectorPlan_eq (fu : Nat) (ts : List Int) (hl : ts.length ≤ 1000) (hf : 2000 ≤ fu) : F_s_VectorPlan fu ts = some (vec ts) := by
  rw [F_s_VectorPlan, F_s_SquaresPlan_eq fu ts hl hf, Option.bind_some, vec]
  cases h : (sqp ts).1 with
  | false => rfl
  | true => rw [if_neg (by simp), F_s_TurnPlan_eq fu _ _ _ hf, if_pos rfl]; rfl

/-- What was told as a plan is one, or nothing. -/
theorem tellP_cases (n : Int) (ss : List Stp) (os : List Int) : (tellP n ss os = (true, n, ss, os) ∧ plan n ss os = true) ∨ (tellP n ss os = (false, 0, [], []) ∧ plan n ss os = false) := by
  unfold tellP; cases h : plan n ss os
  · right; simp
  · left; simp

/-- The squares' plan: what it is, if it is one. -/
theorem sqp_cases (ts : List Int) : sqp ts = (false, 0, [], []) ∨ ∃ ss os, sqp ts = (true, 1, ss, os) ∧ plan 1 ss os = true ∧ InNum ts ∧ 1 ≤ ts.length ∧ ts.length ≤ 6 ∧ os.length = ts.length ∧
    (∀ j, j < ts.length → ent 1 ss (os.getD j 0) 0 = ts.getD j 0) ∧ ss.length + ts.length = blen (mx ts).toNat - 1 + cnt ts := by
  unfold sqp
  by_cases hc : inR 1 6 (ts.length : Int) = true ∧ ts.all (inR 1 1000000) = true
  · rw [if_pos hc]
    have hn := inR_iff.1 hc.1
    have ht : InNum ts := fun x hx => inR_iff.1 (List.all_eq_true.1 hc.2 x hx)
    have hm := mx_nonneg ts
    have hb1 : 1 ≤ blen (mx ts).toNat := by
      have : ts.getD 0 0 ∈ ts := getD_mem (by omega)
      have h3 := ht _ this
      have h4 := le_mx this
      exact blen_pos (by omega)
    have hbt : ∀ p ∈ ts, blen p.toNat ≤ blen (mx ts).toNat := fun p hp => blen_mono (by have := le_mx hp; omega)
    have hsq : ∀ c : Nat, stepsOk 1 (sqS (c + 1)) = true := by
      intro c
      induction c with
      | zero => rfl
      | succ c ih => rw [sqS_snoc (c + 1) (by omega), stepsOk_snoc, ih, sqS_len, decide_eq_true (by dsimp only; omega)]; rfl
    have hS := sOut_spec (blen (mx ts).toNat) hb1 ts (sqS (blen (mx ts).toNat)) [] ht hbt ⟨[], by simp⟩ (by have := hsq (blen (mx ts).toNat - 1); rwa [Nat.sub_add_cancel hb1] at this)
    generalize sOut (blen (mx ts).toNat) ts (sqS (blen (mx ts).toNat), []) = R at hS ⊢
    rcases tellP_cases 1 R.1 R.2 with ⟨e, hp⟩ | ⟨e, hp⟩
    · rw [e]
      refine .inr ⟨R.1, R.2, rfl, hp, ht, by omega, by omega, ?_, fun j hj => ?_, ?_⟩
      · have := hS.outs; simpa using this
      · have := hS.sum (plan_iff.1 hp).2 j hj
        simpa using this
      · have := hS.cost; rw [sqS_len] at this; omega
    · exact .inl e
  · rw [if_neg hc]; exact .inl rfl

/-- The plan from vectors: what it is, if it is one. -/
theorem vec_cases (ts : List Int) : vec ts = (false, 0, [], []) ∨ ∃ ss os N qs vs, sqp ts = (true, 1, ss, os) ∧ vec ts = (true, N, qs, [vs]) ∧ plan N qs [vs] = true ∧ ts.length ≤ 6 ∧
    (exps N qs).getD vs.toNat [] = ts ∧ (qs.length : Int) = ss.length + ts.length - 1 := by
  rcases sqp_cases ts with h | ⟨ss, os, h, hp, ht, h1, h6, hol, hent, hcost⟩
  · left; unfold vec; rw [h]; rfl
  · have ev : vec ts = turn 1 ss os := by unfold vec; rw [h]; rfl
    rw [ev, turn]
    by_cases hc : plan 1 ss os = true ∧ canT 1 ss os = true
    · rw [if_pos hc]
      rcases tellP_cases (turnP 1 ss os).1 (turnP 1 ss os).2.1 (turnP 1 ss os).2.2 with ⟨e, hq⟩ | ⟨e, hq⟩
      · right
        have hx := turn_exps 1 ss os hc.1 hc.2 (plan_iff.1 hq).2
        rw [show ((1 : Nat) : Int) = (1 : Int) from rfl] at hx
        have hform := (plan_iff.1 hc.1).1
        obtain ⟨_, hl, ho, hs, hos⟩ := formOk_iff.1 hform
        have hlen : (turnP 1 ss os).2.2.length = 1 := by
          have htl := turnL_len 1 ss os os.length (1 + (ss.length : Int)).toNat (List.replicate (1 + (ss.length : Int)).toNat 0, [])
          show ((turnR 1 ss os).1.take ((1 : Int)).toNat).length = 1
          unfold turnR
          rw [List.length_take, htl]; simp only [List.length_append, List.length_cons, List.length_nil, List.length_replicate, List.length_set, List.length_map, List.length_range, List.length_take, List.length_drop, List.length_zipWith, List.length_reverse]; omega
        obtain ⟨vs, hvs⟩ : ∃ vs, (turnP 1 ss os).2.2 = [vs] := List.length_eq_one_iff.1 hlen
        rw [e]
        rw [hvs] at hx hq ⊢
        refine ⟨ss, os, _, _, vs, h, rfl, hq, h6, ?_, ?_⟩
        · have := hx.1 0 (by omega)
          rw [List.getD_cons_zero] at this
          refine this.trans ?_
          apply List.ext_getElem
          · simp [hol]
          · intro j hj1 hj2
            have hj : j < ts.length := hj2
            have h2 := hent j hj
            have e1 : os[j]'(by omega) = os.getD j 0 := by rw [List.getD_eq_getElem?_getD, List.getElem?_eq_getElem (by omega)]; rfl
            have e2 : ts[j] = ts.getD j 0 := by rw [List.getD_eq_getElem?_getD, List.getElem?_eq_getElem hj]; rfl
            rw [List.getElem_map, e1, e2, ← h2]
        · have := hx.2; rw [hol] at this
          have : (((turnP 1 ss os).2.1.length : Nat) : Int) = ts.length + ss.length - 1 := this
          omega
      · left; exact e
    · left; rw [if_neg hc]

theorem F_i_VectorCosts_eq (fu : Nat) (ts : List Int) (hl : ts.length ≤ 1000) (hf : 2000 ≤ fu) : F_i_VectorCosts fu ts = some (if (tog ts).1 = true ∧ (vec ts).1 = true then (((tog ts).2.2.1.length : Int), ((vec ts).2.2.1.length : Int), true) else (0, 0, false)) := by
  rw [F_i_VectorCosts, F_i_TogetherPlan_eq fu ts hl hf, Option.bind_some, F_i_VectorPlan_eq fu ts hl hf, Option.bind_some]
  cases h1 : (tog ts).1 <;> cases h2 : (vec ts).1 <;> simp

theorem F_l_FnVectors_true (fu : Nat) (code more : List Int) (hc : Bytes code) (hf : 3000000 ≤ fu) : F_l_FnVectors fu code more = some true := by
  unfold F_l_FnVectors
  rw [F_l_big_eq fu, Option.bind_some]
  by_cases hb : code.length + more.length > 1048576
  · rw [if_pos (decide_eq_true hb)]
  · rw [if_neg (by simpa using hb)]
    obtain ⟨ts, e, hl⟩ : ∃ l, F_s_DrawVectorPlan fu code = some l ∧ l.length ≤ 200 := by
      obtain ⟨p, s, l, e, h⟩ := powers_ok fu 4 code 0 hc (by omega) (by omega) (by omega) (by omega)
      rw [F_s_DrawVectorPlan, e, Option.bind_some]; exact ⟨l, rfl, h⟩
    rw [e, Option.bind_some, F_i_VectorPlan_eq fu ts (by omega) (by omega), Option.bind_some, F_s_VectorPlan_eq fu ts (by omega) (by omega), Option.bind_some]
    simp only [BEq.rfl, Bool.not_true, gcl_t]
    rw [F_i_SquaresPlan_eq fu ts (by omega) (by omega), F_i_VectorCosts_eq fu ts (by omega) (by omega), F_i_TogetherPlan_eq fu ts (by omega) (by omega)]
    rcases vec_cases ts with hv | ⟨ss, os, N, qs, vs, hsq, hv, hp, h6, hx, hcost⟩
    · rw [hv, F_l_pSamePlan_refl fu _ _ _ (by simp) (by simp) (by omega)]
      simp
    · have hform := (plan_iff.1 hp).1
      obtain ⟨_, hql, _, _, _⟩ := formOk_iff.1 hform
      have hsl : (qs.length : Int) ≤ 40 := by omega
      rw [hv, hsq]
      dsimp only
      rw [F_l_pSamePlan_refl fu _ _ _ (by omega) (by simp) (by omega), F_i_OutputExponents_eq fu _ _ _ (by omega), if_pos hp]
      simp only [Option.bind_some, cond_true, Bool.not_true, Bool.false_eq_true, if_false, List.map_cons, List.map_nil, hx, List.length_cons, List.length_nil, List.getD_cons_zero, Int.toNat_zero, cond_false]
      have e1 : (((0 + 1 : Nat) : Int) != 1) = false := by rfl
      have e2 : ((qs.length : Int) != IntKind.i64.wrap (IntKind.i64.wrap ((ss.length : Int) + (ts.length : Int)) - 1)) = false := by
        rw [w64 (x := (ss.length : Int) + ts.length) (by omega), w64 (by omega)]
        simpa using hcost
      rw [e1, e2]
      cases ht : (tog ts).1 with
      | false =>
        simp only [Bool.false_eq_true, false_and, and_true, if_false, BEq.rfl, Bool.not_true, Bool.not_false, gcl_t, cond_true]
        rw [chk_of (by intro _; omega), F_l_pSameInts_refl fu ts (by omega) (by omega), Option.bind_some]
        simp [chk]
      | true =>
        simp only [and_true, if_true, BEq.rfl, Bool.not_true, Bool.not_false, gcl_t, Bool.false_eq_true, if_false, cond_false]
        rw [chk_of (by intro _; omega), F_l_pSameInts_refl fu ts (by omega) (by omega), Option.bind_some]
        simp [chk]
end Pu
end Go.Proofs.Ytiplmapndahmmaa
