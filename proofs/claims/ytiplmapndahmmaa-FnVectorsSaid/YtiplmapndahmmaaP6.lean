/- Plain laws: what is drawn; the statement on several powers. -/
import Derived.Test.YtiplmapndahmmaaP5
namespace Go.Proofs.Ytiplmapndahmmaa
open Al
set_option linter.unusedVariables false
set_option linter.unusedSimpArgs false
namespace Pu

theorem F_l_big_eq (fu : Nat) (a b : List Int) : F_l_big fu a b = some (decide (a.length + b.length > 1048576)) := by
  unfold F_l_big
  congr 1
  by_cases h : a.length > 1048576
  · rw [decide_eq_true (by omega : (a.length : Int) > 1048576), cond_true, decide_eq_true (by omega : a.length + b.length > 1048576)]
  · rw [decide_eq_false (by omega : ¬ (a.length : Int) > 1048576), w64 (by omega), cond_false]
    rw [decide_eq_decide]; omega

theorem among_ok (fu : Nat) (l : List Int) (code : List Int) (p s : Int) (hc : Bytes code) (hl : code.length ≤ 2000000) (h0 : 0 ≤ p) (h1 : p ≤ 900000000) (hn : 1 ≤ l.length) :
    ∃ v p' s', F_s_l1Cur_among_nsu fu l code p s = some (v, p', s') ∧ v ∈ l ∧ p ≤ p' ∧ p' ≤ p + 2 := by
  obtain ⟨v, p', s', e, v0, v1, p0, p1⟩ := pick_ok fu (l.length : Int) code p s hc hl h0 h1
  have := v1 (by omega)
  rw [F_s_l1Cur_among_nsu, e, Option.bind_some, chk_of ⟨v0, this⟩]
  exact ⟨_, _, _, rfl, getD_mem (by omega), p0, p1⟩

theorem number_ok (fu : Nat) (code : List Int) (p s : Int) (hc : Bytes code) (hl : code.length ≤ 2000000) (h0 : 0 ≤ p) (h1 : p ≤ 800000000) :
    ∃ v p' s', F_s_l1Cur_number_vln fu code p s = some (v, p', s') ∧ -1 ≤ v ∧ v ≤ 1000001 ∧ p ≤ p' ∧ p' ≤ p + 4 := by
  obtain ⟨v, p', s', e, v0, v1, p0, p1⟩ := pick_ok fu 8 code p s hc hl h0 (by omega)
  rw [F_s_l1Cur_number_vln, e, Option.bind_some]
  dsimp only
  split
  · obtain ⟨w, q, t, e2, wm, q0, q1⟩ := among_ok fu [-1, 0, 1, 2, 1000000, 1000001] code p' s' hc hl (by omega) (by omega) (by decide)
    rw [e2, Option.bind_some]
    refine ⟨_, _, _, rfl, ?_, ?_, by dsimp only; omega, by dsimp only; omega⟩ <;> simp only [List.mem_cons, List.not_mem_nil, or_false] at wm <;> dsimp only <;> omega
  · split
    · obtain ⟨w, q, t, e2, w0, w1, q0, q1⟩ := pick_ok fu 1000000 code p' s' hc hl (by omega) (by omega)
      rw [e2, Option.bind_some]
      dsimp only
      rw [w64 (by omega)]
      exact ⟨_, _, _, rfl, by omega, by omega, by omega, by omega⟩
    · obtain ⟨w, q, t, e2, w0, w1, q0, q1⟩ := pick_ok fu 120 code p' s' hc hl (by omega) (by omega)
      rw [e2, Option.bind_some]
      dsimp only
      rw [w64 (by omega)]
      exact ⟨_, _, _, rfl, by omega, by omega, by omega, by omega⟩

theorem powers_ok (fu : Nat) (m : Int) (code : List Int) (s : Int) (hc : Bytes code) (hl : code.length ≤ 2000000) (hm : 1 ≤ m) (hm' : m ≤ 100) (hf : 1000 ≤ fu) :
    ∃ p' s' l, F_s_l1Cur_powers_vrs fu m code 0 s = some (p', s', l) ∧ l.length ≤ 200 := by
  obtain ⟨v, p', s', e, v0, v1, p0, p1⟩ := pick_ok fu m code 0 s hc hl (by omega) (by omega)
  rw [F_s_l1Cur_powers_vrs, e, Option.bind_some]
  dsimp only
  have := v1 (by omega)
  rw [w64 (by omega)]
  have key : ∀ (n : Nat) (i p t : Int) (l : List Int), 0 ≤ i → i < n → 0 ≤ p → p + 2 * i ≤ 1000 → (l.length : Int) + i ≤ 110 → 1 ≤ (l.length : Int) + i →
      ∃ p' s' l', F_s_l1Cur_powers_vrsL3 fu code n i p t l = some (p', s', l') ∧ l'.length ≤ 200 := by
    intro n
    induction n with
    | zero => intros; omega
    | succ n ih =>
      intro i p t l i0 i1 p0 pb lb l1
      rw [F_s_l1Cur_powers_vrsL3]
      by_cases hi : i > 0
      · rw [itd_t hi]
        obtain ⟨v, p', s', e, v0, v1, q0, q1⟩ := pick_ok fu 40 code p t hc hl p0 (by omega)
        rw [e, Option.bind_some, chk_of (by simp only [List.length_append, List.length_cons, List.length_nil, List.length_replicate, List.length_set, List.length_map, List.length_range, List.length_take, List.length_drop, List.length_zipWith, List.length_reverse]; omega), w64 (by omega)]
        exact ih (i - 1) _ _ _ (by omega) (by omega) (by dsimp only; omega) (by dsimp only; omega) (by simp only [List.length_append, List.length_cons, List.length_nil, List.length_replicate, List.length_set, List.length_map, List.length_range, List.length_take, List.length_drop, List.length_zipWith, List.length_reverse]; omega) (by simp only [List.length_append, List.length_cons, List.length_nil, List.length_replicate, List.length_set, List.length_map, List.length_range, List.length_take, List.length_drop, List.length_zipWith, List.length_reverse]; omega)
      · rw [itd_f hi, F_s_l1Cur_powers_vrsJ1]
        obtain ⟨v, p', s', e, v0, v1, q0, q1⟩ := pick_ok fu 12 code p t hc hl p0 (by omega)
        rw [e, Option.bind_some]
        dsimp only
        split
        · obtain ⟨w, q, u, e2, _, _, _, _⟩ := number_ok fu code p' s' hc hl (by omega) (by omega)
          rw [e2, Option.bind_some, chk_of (by simp only [List.length_append, List.length_cons, List.length_nil, List.length_replicate, List.length_set, List.length_map, List.length_range, List.length_take, List.length_drop, List.length_zipWith, List.length_reverse]; omega)]
          exact ⟨_, _, _, rfl, by simp only [List.length_append, List.length_cons, List.length_nil, List.length_replicate, List.length_set, List.length_map, List.length_range, List.length_take, List.length_drop, List.length_zipWith, List.length_reverse]; omega⟩
        · split
          · obtain ⟨w, q, u, e2, w0, w1, _, _⟩ := pick_ok fu 9 code p' s' hc hl (by omega) (by omega)
            rw [e2, Option.bind_some]
            dsimp only
            rw [chk_of (by omega)]
            exact ⟨_, _, _, rfl, by simp only [List.length_append, List.length_cons, List.length_nil, List.length_replicate, List.length_set, List.length_map, List.length_range, List.length_take, List.length_drop, List.length_zipWith, List.length_reverse]; omega⟩
          · split
            · obtain ⟨w, q, u, e2, w0, w1, _, _⟩ := pick_ok fu 1000000 code p' s' hc hl (by omega) (by omega)
              rw [e2, Option.bind_some, chk_of (by omega)]
              exact ⟨_, _, _, rfl, by simp only [List.length_append, List.length_cons, List.length_nil, List.length_replicate, List.length_set, List.length_map, List.length_range, List.length_take, List.length_drop, List.length_zipWith, List.length_reverse]; omega⟩
            · exact ⟨_, _, _, rfl, by omega⟩
  exact key fu _ _ _ [] (by omega) (by omega) (by omega) (by omega) (by simp only [List.length_append, List.length_cons, List.length_nil, List.length_replicate, List.length_set, List.length_map, List.length_range, List.length_take, List.length_drop, List.length_zipWith, List.length_reverse]; omega) (by simp only [List.length_append, List.length_cons, List.length_nil, List.length_replicate, List.length_set, List.length_map, List.length_range, List.length_take, List.length_drop, List.length_zipWith, List.length_reverse]; omega)

theorem blen_mono {a b : Nat} (h : a ≤ b) : blen a ≤ blen b := by
  rw [← blen_iff]
  exact Nat.lt_of_le_of_lt h ((blen_iff b _).2 (Nat.le_refl _))
end Pu
end Go.Proofs.Ytiplmapndahmmaa
