/- Plain laws: a plan for several powers has them as exponents, and its cost. -/
import Derived.Test.YtiplmapndahmmaaP3
namespace Go.Proofs.Ytiplmapndahmmaa
open Al
set_option linter.unusedVariables false
set_option linter.unusedSimpArgs false
namespace Pu

theorem stepsOk_snoc : ∀ (ss : List Stp) (m : Int) (s : Stp), stepsOk m (ss ++ [s]) = (stepsOk m ss && decide (0 ≤ s.1 ∧ s.1 ≤ s.2 ∧ s.2 < m + ss.length))
  | [], m, s => by simp [stepsOk]
  | t :: ss, m, s => by
    rw [List.cons_append, stepsOk, stepsOk_snoc ss, stepsOk, Bool.and_assoc]
    congr 3
    simp only [List.length_append, List.length_cons, List.length_nil, List.length_replicate, List.length_set, List.length_map, List.length_range, List.length_take, List.length_drop, List.length_zipWith, List.length_reverse, eq_iff_iff]; omega
theorem expsF_snoc (rs : List (List Int)) (ss : List Stp) (s : Stp) : expsF rs (ss ++ [s]) = expsF rs ss ++ [addR ((expsF rs ss).getD s.1.toNat []) ((expsF rs ss).getD s.2.toNat [])] := by
  simp [expsF, List.foldl_append]
theorem exps_snoc (n : Int) (ss : List Stp) (s : Stp) : exps n (ss ++ [s]) = exps n ss ++ [addR ((exps n ss).getD s.1.toNat []) ((exps n ss).getD s.2.toNat [])] := expsF_snoc _ _ _
theorem getD_append_left {α : Type} (xs ys : List α) (d : α) {i : Nat} (h : i < xs.length) : (xs ++ ys).getD i d = xs.getD i d := by
  simp [List.getD_eq_getElem?_getD, List.getElem?_append_left h]
theorem getD_append_last {α : Type} (xs : List α) (y d : α) {i : Nat} (h : i = xs.length) : (xs ++ [y]).getD i d = y := by
  subst h; simp [List.getD_eq_getElem?_getD]
theorem expsF_prefix (ss : List Stp) : ∀ (rs : List (List Int)) (i : Nat), i < rs.length → (expsF rs ss).getD i [] = rs.getD i [] := by
  induction ss with
  | nil => intros; rfl
  | cons s ss ih =>
    intro rs i hi
    show (expsF (rs ++ [_]) ss).getD i [] = _
    rw [ih _ i (by simp only [List.length_append, List.length_cons, List.length_nil, List.length_replicate, List.length_set, List.length_map, List.length_range, List.length_take, List.length_drop, List.length_zipWith, List.length_reverse]; omega), getD_append_left _ _ _ hi]
theorem exps_unit (n : Nat) (ss : List Stp) {k : Nat} (hk : k < n) : (exps (n : Int) ss).getD k [] = unitR n k := by
  unfold exps
  rw [expsF_prefix _ _ _ (by simp [unitRows]; omega)]
  simp [unitRows, List.getD_eq_getElem?_getD, List.getElem?_map, List.getElem?_range hk]
theorem exps_len (n : Nat) : ∀ (ss : List Stp), (exps (n : Int) ss).length = n + ss.length := by
  have : ∀ (ss : List Stp) (rs : List (List Int)), (expsF rs ss).length = rs.length + ss.length := by
    intro ss
    induction ss with
    | nil => intro rs; rfl
    | cons s ss ih => intro rs; show (expsF (rs ++ [_]) ss).length = _; rw [ih]; simp only [List.length_append, List.length_cons, List.length_nil, List.length_replicate, List.length_set, List.length_map, List.length_range, List.length_take, List.length_drop, List.length_zipWith, List.length_reverse]; omega
  intro ss; unfold exps; rw [this]; simp [unitRows]

def popc (n : Nat) : Nat := if h : n = 0 then 0 else n % 2 + popc (n / 2)
termination_by n
decreasing_by omega
theorem popc_zero : popc 0 = 0 := by unfold popc; rfl
def cnt (es : List Int) : Nat := (es.map fun e => popc e.toNat).sum
theorem cnt_cons (e : Int) (es : List Int) : cnt (e :: es) = popc e.toNat + cnt es := by simp [cnt]
theorem cnt_nil : cnt [] = 0 := rfl
theorem getD_mem {xs : List Int} {k : Nat} (h : k < xs.length) : xs.getD k 0 ∈ xs := by
  rw [List.getD_eq_getElem?_getD, List.getElem?_eq_getElem h]; exact List.getElem_mem h

end Pu
end Go.Proofs.Ytiplmapndahmmaa
