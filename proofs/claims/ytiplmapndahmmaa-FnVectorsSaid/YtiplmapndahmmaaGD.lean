/- What the functions of this claim compute: printed by a program of ours (gen.py) from the loaded program. -/
import Derived.Test.YtiplmapndahmmaaAl25
namespace Go.Proofs.Ytiplmapndahmmaa
open Al
set_option linter.unusedVariables false
set_option linter.constructorNameAsVariable false
def strtab_gddnig : ByteArray := ByteArray.mk #[0, 1, 2, 2, 3, 3, 3, 3, 4, 4, 4, 4, 4, 4, 4, 4, 5, 5, 5, 5, 5, 5, 5, 5, 5, 5, 5, 5, 5, 5, 5, 5, 6, 6, 6, 6, 6, 6, 6, 6, 6, 6, 6, 6, 6, 6, 6, 6, 6, 6, 6, 6, 6, 6, 6, 6, 6, 6, 6, 6, 6, 6, 6, 6, 7, 7, 7, 7, 7, 7, 7, 7, 7, 7, 7, 7, 7, 7, 7, 7, 7, 7, 7, 7, 7, 7, 7, 7, 7, 7, 7, 7, 7, 7, 7, 7, 7, 7, 7, 7, 7, 7, 7, 7, 7, 7, 7, 7, 7, 7, 7, 7, 7, 7, 7, 7, 7, 7, 7, 7, 7, 7, 7, 7, 7, 7, 7, 7, 8, 8, 8, 8, 8, 8, 8, 8, 8, 8, 8, 8, 8, 8, 8, 8, 8, 8, 8, 8, 8, 8, 8, 8, 8, 8, 8, 8, 8, 8, 8, 8, 8, 8, 8, 8, 8, 8, 8, 8, 8, 8, 8, 8, 8, 8, 8, 8, 8, 8, 8, 8, 8, 8, 8, 8, 8, 8, 8, 8, 8, 8, 8, 8, 8, 8, 8, 8, 8, 8, 8, 8, 8, 8, 8, 8, 8, 8, 8, 8, 8, 8, 8, 8, 8, 8, 8, 8, 8, 8, 8, 8, 8, 8, 8, 8, 8, 8, 8, 8, 8, 8, 8, 8, 8, 8, 8, 8, 8, 8, 8, 8, 8, 8, 8, 8, 8, 8, 8, 8, 8, 8, 8, 8, 8, 8, 8, 8]
def F_l_big (fu : Nat) (a0 : List Int) (a1 : List Int) : Option (Bool) :=
  some (cond (decide ((List.length a0 : Int) > (1048576 : Int))) true (decide ((List.length a1 : Int) > (IntKind.i64.wrap ((1048576 : Int) - (List.length a0 : Int))))))

def F_s_l1Cur_next_vlnJ1 (fu : Nat) (a1 : Int) (a0 : List Int) (a2 : Int) (v1 : Int) : Option (Int × Int) :=
  if (decide ((IntKind.i64.wrap (a1 + (1 : Int))) ≤ (List.length a0 : Int))) = true then some (v1, (IntKind.u64.wrap ((IntKind.u64.wrap ((IntKind.u64.wrap (a2 * (6364136223846793005 : Int))) + (IntKind.u64.wrap v1))) + (1442695040888963407 : Int)))) else some ((IntKind.i64.wrap (bits .and .u64 (shrI .u64 (IntKind.u64.wrap ((IntKind.u64.wrap ((IntKind.u64.wrap (a2 * (6364136223846793005 : Int))) + (IntKind.u64.wrap v1))) + (1442695040888963407 : Int))) (40 : Int)) (255 : Int))), (IntKind.u64.wrap ((IntKind.u64.wrap ((IntKind.u64.wrap (a2 * (6364136223846793005 : Int))) + (IntKind.u64.wrap v1))) + (1442695040888963407 : Int))))
def F_s_l1Cur_next_vln (fu : Nat) (a0 : List Int) (a1 : Int) (a2 : Int) : Option (Int × Int) :=
  if (decide (a1 < (List.length a0 : Int))) = true then chk (0 ≤ a1 ∧ a1 < (List.length a0 : Int)) (F_s_l1Cur_next_vlnJ1 fu a1 a0 a2 (IntKind.i64.wrap (List.getD a0 (a1).toNat (0 : Int)))) else F_s_l1Cur_next_vlnJ1 fu a1 a0 a2 (0 : Int)

def F_s_l1Cur_pick_vrsJ1 (fu : Nat) (a0 : Int) (v2 : Int) (v3 : Int) (v4 : Int) : Option (Int × Int × Int) :=
  chk (a0 ≠ 0) (some ((Int.tmod v2 a0), v3, v4))
def F_s_l1Cur_pick_vrs (fu : Nat) (a0 : Int) (a1 : List Int) (a2 : Int) (a3 : Int) : Option (Int × Int × Int) :=
  if (decide (a0 ≤ (1 : Int))) = true then some ((0 : Int), a2, a3) else Option.bind (F_s_l1Cur_next_vln fu a1 a2 a3) (fun v1 => if (decide (a0 > (200 : Int))) = true then Option.bind (F_s_l1Cur_next_vln fu a1 (IntKind.i64.wrap (a2 + (1 : Int))) v1.2) (fun v2 => F_s_l1Cur_pick_vrsJ1 fu a0 (IntKind.i64.wrap ((IntKind.i64.wrap (v1.1 * (256 : Int))) + v2.1)) (IntKind.i64.wrap ((IntKind.i64.wrap (a2 + (1 : Int))) + (1 : Int))) v2.2) else F_s_l1Cur_pick_vrsJ1 fu a0 v1.1 (IntKind.i64.wrap (a2 + (1 : Int))) v1.2)

def F_s_l1Cur_among_nsu (fu : Nat) (a0 : List Int) (a1 : List Int) (a2 : Int) (a3 : Int) : Option (Int × Int × Int) :=
  Option.bind (F_s_l1Cur_pick_vrs fu (List.length a0 : Int) a1 a2 a3) (fun v1 => chk (0 ≤ v1.1 ∧ v1.1 < (List.length a0 : Int)) (some ((List.getD a0 (v1.1).toNat (0 : Int)), v1.2.1, v1.2.2)))

def F_s_l1Cur_number_vln (fu : Nat) (a0 : List Int) (a1 : Int) (a2 : Int) : Option (Int × Int × Int) :=
  Option.bind (F_s_l1Cur_pick_vrs fu (8 : Int) a0 a1 a2) (fun v1 => if (v1.1 == (0 : Int)) = true then Option.bind (F_s_l1Cur_among_nsu fu ([(-1 : Int), (0 : Int), (1 : Int), (2 : Int), (1000000 : Int), (1000001 : Int)] : List Int) a0 v1.2.1 v1.2.2) (fun v3 => some (v3.1, v3.2.1, v3.2.2)) else if (v1.1 == (1 : Int)) = true then Option.bind (F_s_l1Cur_pick_vrs fu (1000000 : Int) a0 v1.2.1 v1.2.2) (fun v4 => some ((IntKind.i64.wrap ((1 : Int) + v4.1)), v4.2.1, v4.2.2)) else Option.bind (F_s_l1Cur_pick_vrs fu (120 : Int) a0 v1.2.1 v1.2.2) (fun v5 => some ((IntKind.i64.wrap ((1 : Int) + v5.1)), v5.2.1, v5.2.2)))

def F_s_l1Cur_powers_vrsJ2 (fu : Nat) (v4 : Int) (v5 : Int) (v6 : List Int) : Option (Int × Int × List Int) :=
  some (v4, v5, v6)
def F_s_l1Cur_powers_vrsJ1 (fu : Nat) (a1 : List Int) (v1 : Int) (v2 : Int) (v3 : List Int) : Option (Int × Int × List Int) :=
  Option.bind (F_s_l1Cur_pick_vrs fu (12 : Int) a1 v1 v2) (fun v4 => if (v4.1 == (0 : Int)) = true then Option.bind (F_s_l1Cur_number_vln fu a1 v4.2.1 v4.2.2) (fun v5 => chk ((List.length v3 + List.length ([v5.1] : List Int)) * 8 ≤ 140737488355328) (F_s_l1Cur_powers_vrsJ2 fu v5.2.1 v5.2.2 (v3 ++ ([v5.1] : List Int)))) else if (v4.1 == (1 : Int)) = true then Option.bind (F_s_l1Cur_pick_vrs fu (9 : Int) a1 v4.2.1 v4.2.2) (fun v6 => chk (0 ≤ v6.1 ∧ v6.1 ≤ v6.1 ∧ v6.1 * (8 : Nat) ≤ 140737488355328) (F_s_l1Cur_powers_vrsJ2 fu v6.2.1 v6.2.2 (List.replicate (v6.1).toNat (0 : Int)))) else if (v4.1 == (2 : Int)) = true then Option.bind (F_s_l1Cur_pick_vrs fu (1000000 : Int) a1 v4.2.1 v4.2.2) (fun v7 => chk (0 ≤ (0 : Int) ∧ (0 : Int) < (List.length v3 : Int)) (F_s_l1Cur_powers_vrsJ2 fu v7.2.1 v7.2.2 (List.set v3 ((0 : Int)).toNat (IntKind.i64.wrap ((1 : Int) + v7.1))))) else F_s_l1Cur_powers_vrsJ2 fu v4.2.1 v4.2.2 v3)
def F_s_l1Cur_powers_vrsL3 (fu : Nat) (a1 : List Int) : Nat → Int → Int → Int → (List Int) → Option (Int × Int × List Int)
  | 0, _, _, _, _ => none
  | n3 + 1, v6, v7, v8, v9 => if (decide (v6 > (0 : Int))) = true then Option.bind (F_s_l1Cur_pick_vrs fu (40 : Int) a1 v7 v8) (fun v10 => chk ((List.length v9 + List.length ([v10.1] : List Int)) * 8 ≤ 140737488355328) ((F_s_l1Cur_powers_vrsL3 fu a1 n3) (IntKind.i64.wrap (v6 - (1 : Int))) v10.2.1 v10.2.2 (v9 ++ ([v10.1] : List Int)))) else F_s_l1Cur_powers_vrsJ1 fu a1 v7 v8 v9
def F_s_l1Cur_powers_vrs (fu : Nat) (a0 : Int) (a1 : List Int) (a2 : Int) (a3 : Int) : Option (Int × Int × List Int) :=
  Option.bind (F_s_l1Cur_pick_vrs fu a0 a1 a2 a3) (fun v1 => F_s_l1Cur_powers_vrsL3 fu a1 fu (IntKind.i64.wrap ((1 : Int) + v1.1)) v1.2.1 v1.2.2 ([] : List Int))

def F_s_DrawVectorPlan (fu : Nat) (a0 : List Int) : Option (List Int) :=
  Option.bind (F_s_l1Cur_powers_vrs fu (4 : Int) a0 (0 : Int) (0 : Int)) (fun v1 => some v1.2.2)

def F_i_in (fu : Nat) (a0 : Int) (a1 : Int) (a2 : Int) : Option (Bool) :=
  some (cond (decide (a0 ≥ a1)) (decide (a0 ≤ a2)) false)

def F_i_isNumber (fu : Nat) (a0 : Int) : Option (Bool) :=
  Option.bind (F_i_in fu a0 (1 : Int) (1000000 : Int)) (fun v1 => some v1)

def F_i_SquaresPlan_c1 (fu : Nat) (a0 : Int) : Option (Bool) :=
  Option.bind (F_i_isNumber fu a0) (fun v1 => some (!v1))

def F_slices_IndexFunc_Lint_int_ilsJ1 (fu : Nat) : Option (Int) :=
  some (-1 : Int)
def F_slices_IndexFunc_Lint_int_ilsL2 (fu : Nat) (a0 : List Int) : Nat → Int → Option (Int)
  | 0, _ => none
  | n2 + 1, v2 => if (decide (v2 < (List.length a0 : Int))) = true then chk (0 ≤ v2 ∧ v2 < (List.length a0 : Int)) (Option.bind (F_i_SquaresPlan_c1 fu (List.getD a0 (v2).toNat (0 : Int))) (fun v3 => if v3 = true then some v2 else (F_slices_IndexFunc_Lint_int_ilsL2 fu a0 n2) (IntKind.i64.wrap (v2 + (1 : Int))))) else F_slices_IndexFunc_Lint_int_ilsJ1 fu
def F_slices_IndexFunc_Lint_int_ils (fu : Nat) (a0 : List Int) : Option (Int) :=
  F_slices_IndexFunc_Lint_int_ilsL2 fu a0 fu (0 : Int)

def F_slices_ContainsFunc_Lint_int_ils (fu : Nat) (a0 : List Int) : Option (Bool) :=
  Option.bind (F_slices_IndexFunc_Lint_int_ils fu a0) (fun v1 => some (decide (v1 ≥ (0 : Int))))

def F_i_newMaker (fu : Nat) (a0 : Int) : Option (Unit) :=
  some ()

def F_slices_Max_Lint_intJ1 (fu : Nat) (v1 : Int) : Option (Int) :=
  some v1
def F_slices_Max_Lint_intL2 (fu : Nat) (a0 : List Int) : Nat → Int → Int → Option (Int)
  | 0, _, _ => none
  | n2 + 1, v3, v4 => if (decide (v4 < (List.length a0 : Int))) = true then chk (0 ≤ v4 ∧ v4 < (List.length a0 : Int)) ((F_slices_Max_Lint_intL2 fu a0 n2) (if (List.getD a0 (v4).toNat (0 : Int)) > v3 then (List.getD a0 (v4).toNat (0 : Int)) else v3) (IntKind.i64.wrap (v4 + (1 : Int)))) else F_slices_Max_Lint_intJ1 fu v3
def F_slices_Max_Lint_int (fu : Nat) (a0 : List Int) : Option (Int) :=
  if (decide ((List.length a0 : Int) < (1 : Int))) = true then none else chk (0 ≤ (0 : Int) ∧ (0 : Int) < (List.length a0 : Int)) (F_slices_Max_Lint_intL2 fu a0 fu (List.getD a0 ((0 : Int)).toNat (0 : Int)) (1 : Int))

def F_bits_Len64J3 (fu : Nat) (v5 : Int) (v6 : Int) : Option (Int) :=
  chk (0 ≤ (IntKind.u8.wrap v5) ∧ (IntKind.u8.wrap v5) < (ByteArray.size strtab_gddnig : Int)) (some (IntKind.i64.wrap (v6 + (IntKind.i64.wrap (((List.getD strtab_gddnig.data.toList ((IntKind.u8.wrap v5)).toNat 0).toNat : Nat) : Int)))))
def F_bits_Len64J2 (fu : Nat) (v3 : Int) (v4 : Int) : Option (Int) :=
  if (decide (v3 ≥ (256 : Int))) = true then F_bits_Len64J3 fu (shrI .u64 v3 (8 : Int)) (IntKind.i64.wrap (v4 + (8 : Int))) else F_bits_Len64J3 fu v3 v4
def F_bits_Len64J1 (fu : Nat) (v1 : Int) (v2 : Int) : Option (Int) :=
  if (decide (v1 ≥ (65536 : Int))) = true then F_bits_Len64J2 fu (shrI .u64 v1 (16 : Int)) (IntKind.i64.wrap (v2 + (16 : Int))) else F_bits_Len64J2 fu v1 v2
def F_bits_Len64 (fu : Nat) (a0 : Int) : Option (Int) :=
  if (decide (a0 ≥ (4294967296 : Int))) = true then F_bits_Len64J1 fu (shrI .u64 a0 (32 : Int)) (32 : Int) else F_bits_Len64J1 fu a0 (0 : Int)

def F_bits_Len (fu : Nat) (a0 : Int) : Option (Int) :=
  Option.bind (F_bits_Len64 fu a0) (fun v1 => some v1)

def F_i_step (fu : Nat) (a0 : Int) (a1 : Int) : Option (Int × Int) :=
  some ((if a1 < a0 then a1 else a0), (if a1 > a0 then a1 else a0))

def F_i_Plan_many_ugk (fu : Nat) (a0 : Int) (a1 : List (Int × Int)) : Option (Int) :=
  some (IntKind.i64.wrap (a0 + (List.length a1 : Int)))

def F_i_maker_multiply_qdj (fu : Nat) (a0 : Int) (a1 : Int) (a2 : Int) : Option (Int × List (Int × Int)) :=
  Option.bind (F_i_step fu a0 a1) (fun v1 => chk (List.length ([(v1.1, v1.2)] : List (Int × Int)) * 16 ≤ 140737488355328) (Option.bind (F_i_Plan_many_ugk fu a2 ([(v1.1, v1.2)] : List (Int × Int))) (fun v2 => some ((IntKind.i64.wrap (v2 - (1 : Int))), ([(v1.1, v1.2)] : List (Int × Int))))))

def F_i_maker_multiply_frg (fu : Nat) (a0 : Int) (a1 : Int) (a2 : Int) (a3 : List (Int × Int)) : Option (Int × List (Int × Int)) :=
  Option.bind (F_i_step fu a0 a1) (fun v1 => chk ((List.length a3 + List.length ([(v1.1, v1.2)] : List (Int × Int))) * 16 ≤ 140737488355328) (Option.bind (F_i_Plan_many_ugk fu a2 (a3 ++ ([(v1.1, v1.2)] : List (Int × Int)))) (fun v2 => some ((IntKind.i64.wrap (v2 - (1 : Int))), (a3 ++ ([(v1.1, v1.2)] : List (Int × Int)))))))

def F_i_maker_times_frg (fu : Nat) (a0 : Int) (a1 : Int) (a2 : Int) (a3 : List (Int × Int)) : Option (Int × List (Int × Int)) :=
  if (decide (a0 < (0 : Int))) = true then some (a1, a3) else Option.bind (F_i_maker_multiply_frg fu a0 a1 a2 a3) (fun v1 => some (v1.1, v1.2))

def F_i_maker_plan_dzy (fu : Nat) (a0 : List Int) (a1 : Int) (a2 : List (Int × Int)) : Option (Unit) :=
  some ()

def F_i_Plan_many_wze (fu : Nat) (a0 : Int) (a1 : List (Int × Int)) (a2 : List Int) : Option (Int) :=
  some (IntKind.i64.wrap (a0 + (List.length a1 : Int)))

def F_i_Plan_formed_c1_foh (fu : Nat) (a0 : Int) (a1 : Int) (a2 : List (Int × Int)) (a3 : List Int) : Option (Bool) :=
  Option.bind (F_i_Plan_many_wze fu a1 a2 a3) (fun v1 => Option.bind (F_i_in fu a0 (0 : Int) (IntKind.i64.wrap (v1 - (1 : Int)))) (fun v2 => some (!v2)))

def F_slices_IndexFunc_Lint_int_zffJ1 (fu : Nat) : Option (Int) :=
  some (-1 : Int)
def F_slices_IndexFunc_Lint_int_zffL2 (fu : Nat) (a0 : List Int) (a1 : Int) (a2 : List (Int × Int)) (a3 : List Int) : Nat → Int → Option (Int)
  | 0, _ => none
  | n2 + 1, v2 => if (decide (v2 < (List.length a0 : Int))) = true then chk (0 ≤ v2 ∧ v2 < (List.length a0 : Int)) (Option.bind (F_i_Plan_formed_c1_foh fu (List.getD a0 (v2).toNat (0 : Int)) a1 a2 a3) (fun v3 => if v3 = true then some v2 else (F_slices_IndexFunc_Lint_int_zffL2 fu a0 a1 a2 a3 n2) (IntKind.i64.wrap (v2 + (1 : Int))))) else F_slices_IndexFunc_Lint_int_zffJ1 fu
def F_slices_IndexFunc_Lint_int_zff (fu : Nat) (a0 : List Int) (a1 : Int) (a2 : List (Int × Int)) (a3 : List Int) : Option (Int) :=
  F_slices_IndexFunc_Lint_int_zffL2 fu a0 a1 a2 a3 fu (0 : Int)

def F_slices_ContainsFunc_Lint_int_zff (fu : Nat) (a0 : List Int) (a1 : Int) (a2 : List (Int × Int)) (a3 : List Int) : Option (Bool) :=
  Option.bind (F_slices_IndexFunc_Lint_int_zff fu a0 a1 a2 a3) (fun v1 => some (decide (v1 ≥ (0 : Int))))

def F_i_Plan_formed_wzeJ1 (fu : Nat) (a2 : List Int) (a0 : Int) (a1 : List (Int × Int)) : Option (Bool) :=
  Option.bind (F_slices_ContainsFunc_Lint_int_zff fu a2 a0 a1 a2) (fun v2 => some (!v2))
def F_i_Plan_formed_wzeL2 (fu : Nat) (a1 : List (Int × Int)) (a0 : Int) (a2 : List Int) : Nat → Int → Option (Bool)
  | 0, _ => none
  | n2 + 1, v3 => if (decide (v3 < (List.length a1 : Int))) = true then chk (0 ≤ v3 ∧ v3 < (List.length a1 : Int)) (if (cond (cond (decide ((List.getD a1 (v3).toNat ((0 : Int), (0 : Int))).1 < (0 : Int))) true (decide ((List.getD a1 (v3).toNat ((0 : Int), (0 : Int))).1 > (List.getD a1 (v3).toNat ((0 : Int), (0 : Int))).2))) true (decide ((List.getD a1 (v3).toNat ((0 : Int), (0 : Int))).2 ≥ (IntKind.i64.wrap (a0 + v3))))) = true then some false else (F_i_Plan_formed_wzeL2 fu a1 a0 a2 n2) (IntKind.i64.wrap (v3 + (1 : Int)))) else F_i_Plan_formed_wzeJ1 fu a2 a0 a1
def F_i_Plan_formed_wze (fu : Nat) (a0 : Int) (a1 : List (Int × Int)) (a2 : List Int) : Option (Bool) :=
  Option.bind (F_i_in fu a0 (1 : Int) (6 : Int)) (fun v1 => if (cond (cond (!v1) true (decide ((List.length a1 : Int) > (40 : Int)))) true (decide ((List.length a2 : Int) > (6 : Int)))) = true then some false else F_i_Plan_formed_wzeL2 fu a1 a0 a2 fu (0 : Int))

def F_i_Plan_exponents_wzeJ2 (fu : Nat) (v2 : List (List Int)) : Option (List (List Int)) :=
  some v2
def F_i_Plan_exponents_wzeJ4 (fu : Nat) (kL3 : Int → Int → (List (List Int)) → Option (List (List Int))) (v8 : Int) (v9 : Int) (v10 : List (List Int)) : Option (List (List Int)) :=
  kL3 v8 (IntKind.i64.wrap (v9 + (1 : Int))) v10
def F_i_Plan_exponents_wzeJ5 (fu : Nat) (kL3 : Int → Int → (List (List Int)) → Option (List (List Int))) (v8 : Int) (v9 : Int) (v10 : List (List Int)) (v11 : List Int) : Option (List (List Int)) :=
  chk ((List.length v10 + List.length ([v11] : List (List Int))) * 24 ≤ 140737488355328) (F_i_Plan_exponents_wzeJ4 fu kL3 v8 v9 (v10 ++ ([v11] : List (List Int))))
def F_i_Plan_exponents_wzeL6 (fu : Nat) (v7 : List (List Int)) (a1 : List (Int × Int)) (v6 : Int) (kL3 : Int → Int → (List (List Int)) → Option (List (List Int))) (v5 : Int) : Nat → Int → (List Int) → Option (List (List Int))
  | 0, _, _ => none
  | n6 + 1, v10, v11 => if (decide (v10 < (List.length (List.getD v7 ((List.getD a1 (v6).toNat ((0 : Int), (0 : Int))).1).toNat ([] : List Int)) : Int))) = true then chk (0 ≤ v10 ∧ v10 < (List.length (List.getD v7 ((List.getD a1 (v6).toNat ((0 : Int), (0 : Int))).1).toNat ([] : List Int)) : Int)) (chk ((0 ≤ (List.getD a1 (v6).toNat ((0 : Int), (0 : Int))).2 ∧ (List.getD a1 (v6).toNat ((0 : Int), (0 : Int))).2 < (List.length v7 : Int)) ∧ (0 ≤ v10 ∧ v10 < (List.length (List.getD v7 ((List.getD a1 (v6).toNat ((0 : Int), (0 : Int))).2).toNat ([] : List Int)) : Int)) ∧ ((List.length v11 + List.length ([(if (1000001 : Int) < (IntKind.i64.wrap ((List.getD (List.getD v7 ((List.getD a1 (v6).toNat ((0 : Int), (0 : Int))).1).toNat ([] : List Int)) (v10).toNat (0 : Int)) + (List.getD (List.getD v7 ((List.getD a1 (v6).toNat ((0 : Int), (0 : Int))).2).toNat ([] : List Int)) (v10).toNat (0 : Int)))) then (1000001 : Int) else (IntKind.i64.wrap ((List.getD (List.getD v7 ((List.getD a1 (v6).toNat ((0 : Int), (0 : Int))).1).toNat ([] : List Int)) (v10).toNat (0 : Int)) + (List.getD (List.getD v7 ((List.getD a1 (v6).toNat ((0 : Int), (0 : Int))).2).toNat ([] : List Int)) (v10).toNat (0 : Int)))))] : List Int)) * 8 ≤ 140737488355328)) ((F_i_Plan_exponents_wzeL6 fu v7 a1 v6 kL3 v5 n6) (IntKind.i64.wrap (v10 + (1 : Int))) (v11 ++ ([(if (1000001 : Int) < (IntKind.i64.wrap ((List.getD (List.getD v7 ((List.getD a1 (v6).toNat ((0 : Int), (0 : Int))).1).toNat ([] : List Int)) (v10).toNat (0 : Int)) + (List.getD (List.getD v7 ((List.getD a1 (v6).toNat ((0 : Int), (0 : Int))).2).toNat ([] : List Int)) (v10).toNat (0 : Int)))) then (1000001 : Int) else (IntKind.i64.wrap ((List.getD (List.getD v7 ((List.getD a1 (v6).toNat ((0 : Int), (0 : Int))).1).toNat ([] : List Int)) (v10).toNat (0 : Int)) + (List.getD (List.getD v7 ((List.getD a1 (v6).toNat ((0 : Int), (0 : Int))).2).toNat ([] : List Int)) (v10).toNat (0 : Int)))))] : List Int)))) else F_i_Plan_exponents_wzeJ5 fu kL3 v5 v6 v7 v11
def F_i_Plan_exponents_wzeL3 (fu : Nat) (a1 : List (Int × Int)) : Nat → Int → Int → (List (List Int)) → Option (List (List Int))
  | 0, _, _, _ => none
  | n3 + 1, v5, v6, v7 => if (decide (v6 < v5)) = true then chk (0 ≤ v6 ∧ v6 < (List.length a1 : Int)) (chk (0 ≤ (List.getD a1 (v6).toNat ((0 : Int), (0 : Int))).1 ∧ (List.getD a1 (v6).toNat ((0 : Int), (0 : Int))).1 < (List.length v7 : Int)) (F_i_Plan_exponents_wzeL6 fu v7 a1 v6 (F_i_Plan_exponents_wzeL3 fu a1 n3) v5 fu (0 : Int) ([] : List Int))) else F_i_Plan_exponents_wzeJ2 fu v7
def F_i_Plan_exponents_wzeJ1 (fu : Nat) (a1 : List (Int × Int)) (v1 : List (List Int)) : Option (List (List Int)) :=
  F_i_Plan_exponents_wzeL3 fu a1 fu (List.length a1 : Int) (0 : Int) v1
def F_i_Plan_exponents_wzeL7 (fu : Nat) (a0 : Int) (a1 : List (Int × Int)) : Nat → Int → (List (List Int)) → Option (List (List Int))
  | 0, _, _ => none
  | n7 + 1, v3, v4 => if (decide (v3 < a0)) = true then chk (0 ≤ a0 ∧ a0 ≤ a0 ∧ a0 * (8 : Nat) ≤ 140737488355328) (chk (0 ≤ v3 ∧ v3 < (List.length (List.replicate (a0).toNat (0 : Int)) : Int)) (chk ((List.length v4 + List.length ([(List.set (List.replicate (a0).toNat (0 : Int)) (v3).toNat (1 : Int))] : List (List Int))) * 24 ≤ 140737488355328) ((F_i_Plan_exponents_wzeL7 fu a0 a1 n7) (IntKind.i64.wrap (v3 + (1 : Int))) (v4 ++ ([(List.set (List.replicate (a0).toNat (0 : Int)) (v3).toNat (1 : Int))] : List (List Int)))))) else F_i_Plan_exponents_wzeJ1 fu a1 v4
def F_i_Plan_exponents_wze (fu : Nat) (a0 : Int) (a1 : List (Int × Int)) (a2 : List Int) : Option (List (List Int)) :=
  F_i_Plan_exponents_wzeL7 fu a0 a1 fu (0 : Int) ([] : List (List Int))

def F_i_IsPlan_c1 (fu : Nat) (a0 : List Int) : Option (Bool) :=
  Option.bind (F_slices_Max_Lint_int fu a0) (fun v1 => some (decide (v1 > (1000000 : Int))))

def F_slices_IndexFunc_LLint_Lint_ftuJ1 (fu : Nat) : Option (Int) :=
  some (-1 : Int)
def F_slices_IndexFunc_LLint_Lint_ftuL2 (fu : Nat) (a0 : List (List Int)) : Nat → Int → Option (Int)
  | 0, _ => none
  | n2 + 1, v2 => if (decide (v2 < (List.length a0 : Int))) = true then chk (0 ≤ v2 ∧ v2 < (List.length a0 : Int)) (Option.bind (F_i_IsPlan_c1 fu (List.getD a0 (v2).toNat ([] : List Int))) (fun v3 => if v3 = true then some v2 else (F_slices_IndexFunc_LLint_Lint_ftuL2 fu a0 n2) (IntKind.i64.wrap (v2 + (1 : Int))))) else F_slices_IndexFunc_LLint_Lint_ftuJ1 fu
def F_slices_IndexFunc_LLint_Lint_ftu (fu : Nat) (a0 : List (List Int)) : Option (Int) :=
  F_slices_IndexFunc_LLint_Lint_ftuL2 fu a0 fu (0 : Int)

def F_slices_ContainsFunc_LLint_Lint_ftu (fu : Nat) (a0 : List (List Int)) : Option (Bool) :=
  Option.bind (F_slices_IndexFunc_LLint_Lint_ftu fu a0) (fun v1 => some (decide (v1 ≥ (0 : Int))))

def F_i_IsPlan (fu : Nat) (a0 : Int) (a1 : List (Int × Int)) (a2 : List Int) : Option (Bool) :=
  Option.bind (F_i_Plan_formed_wze fu a0 a1 a2) (fun v1 => Option.bind (gcl (v1 == true) (F_i_Plan_exponents_wze fu a0 a1 a2) []) (fun v2 => Option.bind (gcl (v1 == true) (F_slices_ContainsFunc_LLint_Lint_ftu fu v2) false) (fun v3 => some (cond v1 (!v3) false))))

def F_i_told (fu : Nat) (a0 : Int) (a1 : List (Int × Int)) (a2 : List Int) : Option (Bool × Int × List (Int × Int) × List Int) :=
  Option.bind (F_i_IsPlan fu a0 a1 a2) (fun v1 => if (!v1) = true then some (false, (0 : Int), ([] : List (Int × Int)), ([] : List Int)) else some (true, a0, a1, a2))

def F_i_SquaresPlanJ2 (fu : Nat) (v9 : Int) (v10 : Int) (v11 : List Int) (v12 : List (Int × Int)) : Option (Bool × Int × List (Int × Int) × List Int) :=
  Option.bind (F_i_maker_plan_dzy fu v11 v10 v12) (fun v14 => Option.bind (F_i_told fu v10 v12 v11) (fun v15 => some (v15.1, v15.2.1, v15.2.2.1, v15.2.2.2)))
def F_i_SquaresPlanJ4 (fu : Nat) (kL3 : Int → Int → Int → Int → (List Int) → (List Int) → (List (Int × Int)) → Option (Bool × Int × List (Int × Int) × List Int)) (v23 : Int) (v24 : Int) (v25 : Int) (v26 : Int) (v27 : List Int) (v28 : List Int) (v29 : List (Int × Int)) : Option (Bool × Int × List (Int × Int) × List Int) :=
  kL3 v23 (IntKind.i64.wrap (v24 + (1 : Int))) v25 v26 v27 v28 v29
def F_i_SquaresPlanJ5 (fu : Nat) (kL3 : Int → Int → Int → Int → (List Int) → (List Int) → (List (Int × Int)) → Option (Bool × Int × List (Int × Int) × List Int)) (v23 : Int) (v24 : Int) (v25 : Int) (v26 : Int) (v27 : Int) (v28 : List Int) (v29 : List Int) (v30 : List (Int × Int)) : Option (Bool × Int × List (Int × Int) × List Int) :=
  chk ((List.length v29 + List.length ([v23] : List Int)) * 8 ≤ 140737488355328) (F_i_SquaresPlanJ4 fu kL3 v24 v25 v26 v27 v28 (v29 ++ ([v23] : List Int)) v30)
def F_i_SquaresPlanJ7 (fu : Nat) (kL6 : Int → Int → (List (Int × Int)) → Option (Bool × Int × List (Int × Int) × List Int)) (v27 : Int) (v29 : Int) (v30 : List (Int × Int)) : Option (Bool × Int × List (Int × Int) × List Int) :=
  kL6 v29 (IntKind.i64.wrap (v27 + (1 : Int))) v30
def F_i_SquaresPlanL6 (fu : Nat) (v20 : List Int) (a0 : List Int) (v17 : Int) (v19 : Int) (kL3 : Int → Int → Int → Int → (List Int) → (List Int) → (List (Int × Int)) → Option (Bool × Int × List (Int × Int) × List Int)) (v16 : Int) (v18 : Int) (v21 : List Int) : Nat → Int → Int → (List (Int × Int)) → Option (Bool × Int × List (Int × Int) × List Int)
  | 0, _, _, _ => none
  | n6 + 1, v26, v27, v28 => if (decide (v27 < (List.length v20 : Int))) = true then chk (0 ≤ v27 ∧ v27 < (List.length v20 : Int)) (chk (0 ≤ v27) (if ((bits .and .i64 (shrI .i64 (List.getD a0 (v17).toNat (0 : Int)) v27) (1 : Int)) == (1 : Int)) = true then Option.bind (F_i_maker_times_frg fu v26 (List.getD v20 (v27).toNat (0 : Int)) v19 v28) (fun v29 => F_i_SquaresPlanJ7 fu (F_i_SquaresPlanL6 fu v20 a0 v17 v19 kL3 v16 v18 v21 n6) v27 v29.1 v29.2) else F_i_SquaresPlanJ7 fu (F_i_SquaresPlanL6 fu v20 a0 v17 v19 kL3 v16 v18 v21 n6) v27 v26 v28)) else F_i_SquaresPlanJ5 fu kL3 v26 v16 v17 v18 v19 v20 v21 v28
def F_i_SquaresPlanL3 (fu : Nat) (a0 : List Int) : Nat → Int → Int → Int → Int → (List Int) → (List Int) → (List (Int × Int)) → Option (Bool × Int × List (Int × Int) × List Int)
  | 0, _, _, _, _, _, _, _ => none
  | n3 + 1, v16, v17, v18, v19, v20, v21, v22 => if (decide (v17 < v16)) = true then chk (0 ≤ v17 ∧ v17 < (List.length a0 : Int)) (F_i_SquaresPlanL6 fu v20 a0 v17 v19 (F_i_SquaresPlanL3 fu a0 n3) v16 v18 v21 fu (-1 : Int) (0 : Int) v22) else F_i_SquaresPlanJ2 fu v18 v19 v21 v22
def F_i_SquaresPlanJ1 (fu : Nat) (a0 : List Int) (v4 : Int) (v5 : Int) (v6 : List Int) (v7 : List Int) (v8 : List (Int × Int)) : Option (Bool × Int × List (Int × Int) × List Int) :=
  F_i_SquaresPlanL3 fu a0 fu (List.length a0 : Int) (0 : Int) v4 v5 v6 v7 v8
def F_i_SquaresPlanL8 (fu : Nat) (a0 : List Int) : Nat → (List Int) → (List (Int × Int)) → Option (Bool × Int × List (Int × Int) × List Int)
  | 0, _, _ => none
  | n8 + 1, v6, v7 => Option.bind (F_slices_Max_Lint_int fu a0) (fun v8 => Option.bind (F_bits_Len fu (IntKind.u64.wrap v8)) (fun v9 => if (decide ((List.length v6 : Int) < v9)) = true then chk (0 ≤ (IntKind.i64.wrap ((List.length v6 : Int) - (1 : Int))) ∧ (IntKind.i64.wrap ((List.length v6 : Int) - (1 : Int))) < (List.length v6 : Int)) (Option.bind (F_i_maker_multiply_frg fu (List.getD v6 ((IntKind.i64.wrap ((List.length v6 : Int) - (1 : Int)))).toNat (0 : Int)) (List.getD v6 ((IntKind.i64.wrap ((List.length v6 : Int) - (1 : Int)))).toNat (0 : Int)) (1 : Int) v7) (fun v10 => chk ((List.length v6 + List.length ([v10.1] : List Int)) * 8 ≤ 140737488355328) ((F_i_SquaresPlanL8 fu a0 n8) (v6 ++ ([v10.1] : List Int)) v10.2))) else F_i_SquaresPlanJ1 fu a0 (0 : Int) (1 : Int) v6 ([] : List Int) v7))
def F_i_SquaresPlan (fu : Nat) (a0 : List Int) : Option (Bool × Int × List (Int × Int) × List Int) :=
  Option.bind (F_i_in fu (List.length a0 : Int) (1 : Int) (6 : Int)) (fun v1 => Option.bind (gcl ((!v1) == false) (F_slices_ContainsFunc_Lint_int_ils fu a0) false) (fun v2 => if (cond (!v1) true v2) = true then some (false, (0 : Int), ([] : List (Int × Int)), ([] : List Int)) else Option.bind (F_i_newMaker fu (1 : Int)) (fun v3 => F_i_SquaresPlanL8 fu a0 fu ([(0 : Int)] : List Int) ([] : List (Int × Int)))))

def F_i_Plan_uses_wzeJ2 (fu : Nat) (v3 : List Int) : Option (List Int) :=
  some v3
def F_i_Plan_uses_wzeL3 (fu : Nat) (a2 : List Int) : Nat → Int → (List Int) → Option (List Int)
  | 0, _, _ => none
  | n3 + 1, v5, v6 => if (decide (v5 < (List.length a2 : Int))) = true then chk (0 ≤ v5 ∧ v5 < (List.length a2 : Int)) (chk ((0 ≤ (List.getD a2 (v5).toNat (0 : Int)) ∧ (List.getD a2 (v5).toNat (0 : Int)) < (List.length v6 : Int)) ∧ (0 ≤ (List.getD a2 (v5).toNat (0 : Int)) ∧ (List.getD a2 (v5).toNat (0 : Int)) < (List.length v6 : Int))) ((F_i_Plan_uses_wzeL3 fu a2 n3) (IntKind.i64.wrap (v5 + (1 : Int))) (List.set v6 ((List.getD a2 (v5).toNat (0 : Int))).toNat (IntKind.i64.wrap ((List.getD v6 ((List.getD a2 (v5).toNat (0 : Int))).toNat (0 : Int)) + (1 : Int)))))) else F_i_Plan_uses_wzeJ2 fu v6
def F_i_Plan_uses_wzeJ1 (fu : Nat) (a2 : List Int) (v2 : List Int) : Option (List Int) :=
  F_i_Plan_uses_wzeL3 fu a2 fu (0 : Int) v2
def F_i_Plan_uses_wzeL4 (fu : Nat) (a1 : List (Int × Int)) (a2 : List Int) : Nat → Int → (List Int) → Option (List Int)
  | 0, _, _ => none
  | n4 + 1, v4, v5 => if (decide (v4 < (List.length a1 : Int))) = true then chk (0 ≤ v4 ∧ v4 < (List.length a1 : Int)) (chk ((0 ≤ (List.getD a1 (v4).toNat ((0 : Int), (0 : Int))).1 ∧ (List.getD a1 (v4).toNat ((0 : Int), (0 : Int))).1 < (List.length v5 : Int)) ∧ (0 ≤ (List.getD a1 (v4).toNat ((0 : Int), (0 : Int))).1 ∧ (List.getD a1 (v4).toNat ((0 : Int), (0 : Int))).1 < (List.length v5 : Int))) (chk ((0 ≤ (List.getD a1 (v4).toNat ((0 : Int), (0 : Int))).2 ∧ (List.getD a1 (v4).toNat ((0 : Int), (0 : Int))).2 < (List.length (List.set v5 ((List.getD a1 (v4).toNat ((0 : Int), (0 : Int))).1).toNat (IntKind.i64.wrap ((List.getD v5 ((List.getD a1 (v4).toNat ((0 : Int), (0 : Int))).1).toNat (0 : Int)) + (1 : Int)))) : Int)) ∧ (0 ≤ (List.getD a1 (v4).toNat ((0 : Int), (0 : Int))).2 ∧ (List.getD a1 (v4).toNat ((0 : Int), (0 : Int))).2 < (List.length (List.set v5 ((List.getD a1 (v4).toNat ((0 : Int), (0 : Int))).1).toNat (IntKind.i64.wrap ((List.getD v5 ((List.getD a1 (v4).toNat ((0 : Int), (0 : Int))).1).toNat (0 : Int)) + (1 : Int)))) : Int))) ((F_i_Plan_uses_wzeL4 fu a1 a2 n4) (IntKind.i64.wrap (v4 + (1 : Int))) (List.set (List.set v5 ((List.getD a1 (v4).toNat ((0 : Int), (0 : Int))).1).toNat (IntKind.i64.wrap ((List.getD v5 ((List.getD a1 (v4).toNat ((0 : Int), (0 : Int))).1).toNat (0 : Int)) + (1 : Int)))) ((List.getD a1 (v4).toNat ((0 : Int), (0 : Int))).2).toNat (IntKind.i64.wrap ((List.getD (List.set v5 ((List.getD a1 (v4).toNat ((0 : Int), (0 : Int))).1).toNat (IntKind.i64.wrap ((List.getD v5 ((List.getD a1 (v4).toNat ((0 : Int), (0 : Int))).1).toNat (0 : Int)) + (1 : Int)))) ((List.getD a1 (v4).toNat ((0 : Int), (0 : Int))).2).toNat (0 : Int)) + (1 : Int))))))) else F_i_Plan_uses_wzeJ1 fu a2 v5
def F_i_Plan_uses_wze (fu : Nat) (a0 : Int) (a1 : List (Int × Int)) (a2 : List Int) : Option (List Int) :=
  Option.bind (F_i_Plan_many_wze fu a0 a1 a2) (fun v1 => chk (0 ≤ v1 ∧ v1 ≤ v1 ∧ v1 * (8 : Nat) ≤ 140737488355328) (F_i_Plan_uses_wzeL4 fu a1 a2 fu (0 : Int) (List.replicate (v1).toNat (0 : Int))))

def F_slices_Index_Lint_intJ1 (fu : Nat) : Option (Int) :=
  some (-1 : Int)
def F_slices_Index_Lint_intL2 (fu : Nat) (a0 : List Int) (a1 : Int) : Nat → Int → Option (Int)
  | 0, _ => none
  | n2 + 1, v2 => if (decide (v2 < (List.length a0 : Int))) = true then chk (0 ≤ v2 ∧ v2 < (List.length a0 : Int)) (if (a1 == (List.getD a0 (v2).toNat (0 : Int))) = true then some v2 else (F_slices_Index_Lint_intL2 fu a0 a1 n2) (IntKind.i64.wrap (v2 + (1 : Int)))) else F_slices_Index_Lint_intJ1 fu
def F_slices_Index_Lint_int (fu : Nat) (a0 : List Int) (a1 : Int) : Option (Int) :=
  F_slices_Index_Lint_intL2 fu a0 a1 fu (0 : Int)

def F_slices_Contains_Lint_int (fu : Nat) (a0 : List Int) (a1 : Int) : Option (Bool) :=
  Option.bind (F_slices_Index_Lint_int fu a0 a1) (fun v1 => some (decide (v1 ≥ (0 : Int))))

def F_i_Plan_canTurn_wze (fu : Nat) (a0 : Int) (a1 : List (Int × Int)) (a2 : List Int) : Option (Bool) :=
  Option.bind (gcl ((decide ((List.length a2 : Int) > (0 : Int))) == true) (F_i_Plan_uses_wze fu a0 a1 a2) []) (fun v1 => Option.bind (gcl ((decide ((List.length a2 : Int) > (0 : Int))) == true) (F_slices_Contains_Lint_int fu v1 (0 : Int)) false) (fun v2 => some (cond (decide ((List.length a2 : Int) > (0 : Int))) (!v2) false)))

def F_i_maker_times_qdj (fu : Nat) (a0 : Int) (a1 : Int) (a2 : Int) : Option (Int × List (Int × Int)) :=
  if (decide (a0 < (0 : Int))) = true then some (a1, ([] : List (Int × Int))) else Option.bind (F_i_maker_multiply_qdj fu a0 a1 a2) (fun v1 => some (v1.1, v1.2))

def F_i_Plan_turned_wzeJ1 (fu : Nat) (a0 : Int) (v3 : Int) (v4 : Int) (v5 : List Int) (v6 : List (Int × Int)) : Option (Int × List (Int × Int) × List Int) :=
  chk (0 ≤ (0 : Int) ∧ (0 : Int) ≤ a0 ∧ a0 ≤ (List.length v5 : Int) ∧ a0 = a0 ∧ (some a0).isSome = true) (Option.bind (F_i_maker_plan_dzy fu (List.drop ((0 : Int)).toNat (List.take (a0).toNat v5)) v4 v6) (fun v7 => some (v4, v6, (List.drop ((0 : Int)).toNat (List.take (a0).toNat v5)))))
def F_i_Plan_turned_wzeJ3 (fu : Nat) (kL2 : Int → Int → Int → (List Int) → (List (Int × Int)) → Option (Int × List (Int × Int) × List Int)) (v14 : Int) (v15 : Int) (v16 : Int) (v17 : List Int) (v18 : List (Int × Int)) : Option (Int × List (Int × Int) × List Int) :=
  kL2 (IntKind.i64.wrap (v14 - (1 : Int))) v15 v16 v17 v18
def F_i_Plan_turned_wzeJ5 (fu : Nat) (kL2 : Int → Int → Int → (List Int) → (List (Int × Int)) → Option (Int × List (Int × Int) × List Int)) (v20 : Int) (v21 : Int) (v22 : Int) (v23 : Int) (v24 : List Int) (v25 : List (Int × Int)) : Option (Int × List (Int × Int) × List Int) :=
  chk (0 ≤ v20 ∧ v20 < (List.length v24 : Int)) (F_i_Plan_turned_wzeJ3 fu kL2 v20 v22 v23 (List.set v24 (v20).toNat v21) v25)
def F_i_Plan_turned_wzeJ7 (fu : Nat) (kL6 : Int → Int → Int → Int → Int → Int → (List Int) → (List (Int × Int)) → Option (Int × List (Int × Int) × List Int)) (v36 : Int) (v37 : Int) (v38 : Int) (v39 : Int) (v40 : Int) (v41 : Int) (v42 : List Int) (v43 : List (Int × Int)) : Option (Int × List (Int × Int) × List Int) :=
  kL6 v36 v37 v38 (IntKind.i64.wrap (v39 + (1 : Int))) v40 v41 v42 v43
def F_i_Plan_turned_wzeJ9 (fu : Nat) (kL8 : Int → Int → (List (Int × Int)) → Option (Int × List (Int × Int) × List Int)) (v40 : Int) (v42 : Int) (v43 : List (Int × Int)) : Option (Int × List (Int × Int) × List Int) :=
  kL8 v42 (IntKind.i64.wrap (v40 + (1 : Int))) v43
def F_i_Plan_turned_wzeL8 (fu : Nat) (a1 : List (Int × Int)) (v31 : Int) (v28 : Int) (a0 : Int) (v34 : List Int) (v33 : Int) (kL6 : Int → Int → Int → Int → Int → Int → (List Int) → (List (Int × Int)) → Option (Int × List (Int × Int) × List Int)) (v30 : Int) (v32 : Int) : Nat → Int → Int → (List (Int × Int)) → Option (Int × List (Int × Int) × List Int)
  | 0, _, _, _ => none
  | n8 + 1, v39, v40, v41 => if (decide (v40 < (List.length ([(List.getD a1 (v31).toNat ((0 : Int), (0 : Int))).1, (List.getD a1 (v31).toNat ((0 : Int), (0 : Int))).2] : List Int) : Int))) = true then chk (0 ≤ v40 ∧ v40 < (List.length ([(List.getD a1 (v31).toNat ((0 : Int), (0 : Int))).1, (List.getD a1 (v31).toNat ((0 : Int), (0 : Int))).2] : List Int) : Int)) (if ((List.getD ([(List.getD a1 (v31).toNat ((0 : Int), (0 : Int))).1, (List.getD a1 (v31).toNat ((0 : Int), (0 : Int))).2] : List Int) (v40).toNat (0 : Int)) == v28) = true then chk (0 ≤ (IntKind.i64.wrap (a0 + v31)) ∧ (IntKind.i64.wrap (a0 + v31)) < (List.length v34 : Int)) (Option.bind (F_i_maker_times_frg fu v39 (List.getD v34 ((IntKind.i64.wrap (a0 + v31))).toNat (0 : Int)) v33 v41) (fun v42 => F_i_Plan_turned_wzeJ9 fu (F_i_Plan_turned_wzeL8 fu a1 v31 v28 a0 v34 v33 kL6 v30 v32 n8) v40 v42.1 v42.2)) else F_i_Plan_turned_wzeJ9 fu (F_i_Plan_turned_wzeL8 fu a1 v31 v28 a0 v34 v33 kL6 v30 v32 n8) v40 v39 v41) else F_i_Plan_turned_wzeJ7 fu kL6 v28 v39 v30 v31 v32 v33 v34 v41
def F_i_Plan_turned_wzeL6 (fu : Nat) (a1 : List (Int × Int)) (a0 : Int) (kL2 : Int → Int → Int → (List Int) → (List (Int × Int)) → Option (Int × List (Int × Int) × List Int)) : Nat → Int → Int → Int → Int → Int → Int → (List Int) → (List (Int × Int)) → Option (Int × List (Int × Int) × List Int)
  | 0, _, _, _, _, _, _, _, _ => none
  | n6 + 1, v28, v29, v30, v31, v32, v33, v34, v35 => if (decide (v31 < v30)) = true then chk (0 ≤ v31 ∧ v31 < (List.length a1 : Int)) (F_i_Plan_turned_wzeL8 fu a1 v31 v28 a0 v34 v33 (F_i_Plan_turned_wzeL6 fu a1 a0 kL2 n6) v30 v32 fu v29 (0 : Int) v35) else F_i_Plan_turned_wzeJ5 fu kL2 v28 v29 v32 v33 v34 v35
def F_i_Plan_turned_wzeJ4 (fu : Nat) (a1 : List (Int × Int)) (a0 : Int) (kL2 : Int → Int → Int → (List Int) → (List (Int × Int)) → Option (Int × List (Int × Int) × List Int)) (v14 : Int) (v15 : Int) (v16 : Int) (v17 : Int) (v18 : List Int) (v19 : List (Int × Int)) : Option (Int × List (Int × Int) × List Int) :=
  F_i_Plan_turned_wzeL6 fu a1 a0 kL2 fu v14 v15 (List.length a1 : Int) (0 : Int) v16 v17 v18 v19
def F_i_Plan_turned_wzeJ11 (fu : Nat) (kL10 : Int → Int → (List (Int × Int)) → Option (Int × List (Int × Int) × List Int)) (v18 : Int) (v20 : Int) (v21 : List (Int × Int)) : Option (Int × List (Int × Int) × List Int) :=
  kL10 v20 (IntKind.i64.wrap (v18 + (1 : Int))) v21
def F_i_Plan_turned_wzeL10 (fu : Nat) (a2 : List Int) (v9 : Int) (v11 : Int) (a1 : List (Int × Int)) (a0 : Int) (kL2 : Int → Int → Int → (List Int) → (List (Int × Int)) → Option (Int × List (Int × Int) × List Int)) (v10 : Int) (v12 : List Int) : Nat → Int → Int → (List (Int × Int)) → Option (Int × List (Int × Int) × List Int)
  | 0, _, _, _ => none
  | n10 + 1, v17, v18, v19 => if (decide (v18 < (List.length a2 : Int))) = true then chk (0 ≤ v18 ∧ v18 < (List.length a2 : Int)) (if ((List.getD a2 (v18).toNat (0 : Int)) == v9) = true then Option.bind (F_i_maker_times_frg fu v17 v18 v11 v19) (fun v20 => F_i_Plan_turned_wzeJ11 fu (F_i_Plan_turned_wzeL10 fu a2 v9 v11 a1 a0 kL2 v10 v12 n10) v18 v20.1 v20.2) else F_i_Plan_turned_wzeJ11 fu (F_i_Plan_turned_wzeL10 fu a2 v9 v11 a1 a0 kL2 v10 v12 n10) v18 v17 v19) else F_i_Plan_turned_wzeJ4 fu a1 a0 kL2 v9 v17 v10 v11 v12 v19
def F_i_Plan_turned_wzeL2 (fu : Nat) (a2 : List Int) (a1 : List (Int × Int)) (a0 : Int) : Nat → Int → Int → Int → (List Int) → (List (Int × Int)) → Option (Int × List (Int × Int) × List Int)
  | 0, _, _, _, _, _ => none
  | n2 + 1, v9, v10, v11, v12, v13 => if (decide (v9 ≥ (0 : Int))) = true then F_i_Plan_turned_wzeL10 fu a2 v9 v11 a1 a0 (F_i_Plan_turned_wzeL2 fu a2 a1 a0 n2) v10 v12 fu (-1 : Int) (0 : Int) v13 else F_i_Plan_turned_wzeJ1 fu a0 v10 v11 v12 v13
def F_i_Plan_turned_wze (fu : Nat) (a0 : Int) (a1 : List (Int × Int)) (a2 : List Int) : Option (Int × List (Int × Int) × List Int) :=
  Option.bind (F_i_newMaker fu (List.length a2 : Int)) (fun v1 => Option.bind (F_i_Plan_many_wze fu a0 a1 a2) (fun v2 => chk (0 ≤ v2 ∧ v2 ≤ v2 ∧ v2 * (8 : Nat) ≤ 140737488355328) (Option.bind (F_i_Plan_many_wze fu a0 a1 a2) (fun v3 => F_i_Plan_turned_wzeL2 fu a2 a1 a0 fu (IntKind.i64.wrap (v3 - (1 : Int))) (0 : Int) (List.length a2 : Int) (List.replicate (v2).toNat (0 : Int)) ([] : List (Int × Int))))))

def F_i_TurnPlan (fu : Nat) (a0 : Int) (a1 : List (Int × Int)) (a2 : List Int) : Option (Bool × Int × List (Int × Int) × List Int) :=
  Option.bind (F_i_IsPlan fu a0 a1 a2) (fun v1 => Option.bind (gcl ((!v1) == false) (F_i_Plan_canTurn_wze fu a0 a1 a2) false) (fun v2 => if (cond (!v1) true (!v2)) = true then some (false, (0 : Int), ([] : List (Int × Int)), ([] : List Int)) else Option.bind (F_i_Plan_turned_wze fu a0 a1 a2) (fun v3 => Option.bind (F_i_told fu v3.1 v3.2.1 v3.2.2) (fun v4 => some (v4.1, v4.2.1, v4.2.2.1, v4.2.2.2)))))

def F_i_VectorPlan (fu : Nat) (a0 : List Int) : Option (Bool × Int × List (Int × Int) × List Int) :=
  Option.bind (F_i_SquaresPlan fu a0) (fun v1 => if (!v1.1) = true then some (false, (0 : Int), ([] : List (Int × Int)), ([] : List Int)) else Option.bind (F_i_TurnPlan fu v1.2.1 v1.2.2.1 v1.2.2.2) (fun v2 => some (v2.1, v2.2.1, v2.2.2.1, v2.2.2.2)))

def F_s_l1In (fu : Nat) (a0 : Int) (a1 : Int) (a2 : Int) : Option (Bool) :=
  some (cond (decide (a0 ≥ a1)) (decide (a0 ≤ a2)) false)

def F_s_l1AllJ1 (fu : Nat) : Option (Bool) :=
  some true
def F_s_l1AllL2 (fu : Nat) (a0 : List Int) (a1 : Int) (a2 : Int) : Nat → Int → Option (Bool)
  | 0, _ => none
  | n2 + 1, v2 => if (decide (v2 < (List.length a0 : Int))) = true then chk (0 ≤ v2 ∧ v2 < (List.length a0 : Int)) (Option.bind (F_s_l1In fu (List.getD a0 (v2).toNat (0 : Int)) a1 a2) (fun v3 => if (!v3) = true then some false else (F_s_l1AllL2 fu a0 a1 a2 n2) (IntKind.i64.wrap (v2 + (1 : Int))))) else F_s_l1AllJ1 fu
def F_s_l1All (fu : Nat) (a0 : List Int) (a1 : Int) (a2 : Int) : Option (Bool) :=
  F_s_l1AllL2 fu a0 a1 a2 fu (0 : Int)

def F_s_l1Most (fu : Nat) (a0 : Int) (a1 : Int) : Option (Int) :=
  if (decide (a0 > a1)) = true then some a0 else some a1

def F_s_meGreatestJ1 (fu : Nat) (v1 : Int) : Option (Int) :=
  some v1
def F_s_meGreatestL2 (fu : Nat) (a0 : List Int) : Nat → Int → Int → Option (Int)
  | 0, _, _ => none
  | n2 + 1, v3, v4 => if (decide (v4 < (List.length a0 : Int))) = true then chk (0 ≤ v4 ∧ v4 < (List.length a0 : Int)) (Option.bind (F_s_l1Most fu v3 (List.getD a0 (v4).toNat (0 : Int))) (fun v5 => (F_s_meGreatestL2 fu a0 n2) v5 (IntKind.i64.wrap (v4 + (1 : Int))))) else F_s_meGreatestJ1 fu v3
def F_s_meGreatest (fu : Nat) (a0 : List Int) : Option (Int) :=
  F_s_meGreatestL2 fu a0 fu (0 : Int) (0 : Int)

def F_s_chLengthJ1 (fu : Nat) (v1 : Int) : Option (Int) :=
  some v1
def F_s_chLengthL2 (fu : Nat) (a0 : Int) : Nat → Int → Option (Int)
  | 0, _ => none
  | n2 + 1, v2 => chk (0 ≤ v2) (if (decide ((shrI .i64 a0 v2) > (0 : Int))) = true then (F_s_chLengthL2 fu a0 n2) (IntKind.i64.wrap (v2 + (1 : Int))) else F_s_chLengthJ1 fu v2)
def F_s_chLength (fu : Nat) (a0 : Int) : Option (Int) :=
  F_s_chLengthL2 fu a0 fu (0 : Int)

def F_s_l1Least (fu : Nat) (a0 : Int) (a1 : Int) : Option (Int) :=
  if (decide (a0 < a1)) = true then some a0 else some a1

def F_s_plStep (fu : Nat) (a0 : Int) (a1 : Int) : Option (Int × Int) :=
  Option.bind (F_s_l1Least fu a0 a1) (fun v1 => Option.bind (F_s_l1Most fu a0 a1) (fun v2 => some (v1, v2)))

def F_s_meTimes (fu : Nat) (a0 : Int) (a1 : List (Int × Int)) (a2 : List Int) (a3 : Int) (a4 : Int) : Option (Int × List (Int × Int)) :=
  chk ((List.length ([] : List (Int × Int)) + List.length a1) * 16 ≤ 140737488355328) (Option.bind (F_s_plStep fu a3 a4) (fun v1 => chk ((List.length (([] : List (Int × Int)) ++ a1) + List.length ([(v1.1, v1.2)] : List (Int × Int))) * 16 ≤ 140737488355328) (some ((IntKind.i64.wrap (a0 + (List.length a1 : Int))), ((([] : List (Int × Int)) ++ a1) ++ ([(v1.1, v1.2)] : List (Int × Int)))))))

def F_s_meDigitsJ1 (fu : Nat) (v1 : List Int) : Option (List Int) :=
  some v1
def F_s_meDigitsL2 (fu : Nat) (a1 : Int) : Nat → Int → (List Int) → Option (List Int)
  | 0, _, _ => none
  | n2 + 1, v3, v4 => if (decide (v3 > (0 : Int))) = true then chk ((a1 ≠ 0) ∧ ((List.length v4 + List.length ([(Int.tmod v3 a1)] : List Int)) * 8 ≤ 140737488355328)) (chk (a1 ≠ 0) ((F_s_meDigitsL2 fu a1 n2) (IntKind.i64.wrap (Int.tdiv v3 a1)) (v4 ++ ([(Int.tmod v3 a1)] : List Int)))) else F_s_meDigitsJ1 fu v4
def F_s_meDigits (fu : Nat) (a0 : Int) (a1 : Int) : Option (List Int) :=
  F_s_meDigitsL2 fu a1 fu a0 ([] : List Int)

def F_s_plSumJ1 (fu : Nat) (v1 : List Int) : Option (List Int) :=
  some v1
def F_s_plSumL2 (fu : Nat) (a0 : List Int) (a1 : List Int) : Nat → Int → (List Int) → Option (List Int)
  | 0, _, _ => none
  | n2 + 1, v3, v4 => if (decide (v3 < (List.length a0 : Int))) = true then chk ((0 ≤ v3 ∧ v3 < (List.length a0 : Int)) ∧ (0 ≤ v3 ∧ v3 < (List.length a1 : Int))) (Option.bind (F_s_l1Least fu (IntKind.i64.wrap ((List.getD a0 (v3).toNat (0 : Int)) + (List.getD a1 (v3).toNat (0 : Int)))) (1000001 : Int)) (fun v5 => chk ((List.length v4 + List.length ([v5] : List Int)) * 8 ≤ 140737488355328) ((F_s_plSumL2 fu a0 a1 n2) (IntKind.i64.wrap (v3 + (1 : Int))) (v4 ++ ([v5] : List Int))))) else F_s_plSumJ1 fu v4
def F_s_plSum (fu : Nat) (a0 : List Int) (a1 : List Int) : Option (List Int) :=
  F_s_plSumL2 fu a0 a1 fu (0 : Int) ([] : List Int)

def F_s_plExponentsJ2 (fu : Nat) (v2 : List (List Int)) : Option (List (List Int)) :=
  some v2
def F_s_plExponentsL3 (fu : Nat) (a1 : List (Int × Int)) : Nat → Int → (List (List Int)) → Option (List (List Int))
  | 0, _, _ => none
  | n3 + 1, v4, v5 => if (decide (v4 < (List.length a1 : Int))) = true then chk (0 ≤ v4 ∧ v4 < (List.length a1 : Int)) (chk ((0 ≤ (List.getD a1 (v4).toNat ((0 : Int), (0 : Int))).1 ∧ (List.getD a1 (v4).toNat ((0 : Int), (0 : Int))).1 < (List.length v5 : Int)) ∧ (0 ≤ (List.getD a1 (v4).toNat ((0 : Int), (0 : Int))).2 ∧ (List.getD a1 (v4).toNat ((0 : Int), (0 : Int))).2 < (List.length v5 : Int))) (Option.bind (F_s_plSum fu (List.getD v5 ((List.getD a1 (v4).toNat ((0 : Int), (0 : Int))).1).toNat ([] : List Int)) (List.getD v5 ((List.getD a1 (v4).toNat ((0 : Int), (0 : Int))).2).toNat ([] : List Int))) (fun v6 => chk ((List.length v5 + List.length ([v6] : List (List Int))) * 24 ≤ 140737488355328) ((F_s_plExponentsL3 fu a1 n3) (IntKind.i64.wrap (v4 + (1 : Int))) (v5 ++ ([v6] : List (List Int))))))) else F_s_plExponentsJ2 fu v5
def F_s_plExponentsJ1 (fu : Nat) (a1 : List (Int × Int)) (v1 : List (List Int)) : Option (List (List Int)) :=
  F_s_plExponentsL3 fu a1 fu (0 : Int) v1
def F_s_plExponentsL4 (fu : Nat) (a0 : Int) (a1 : List (Int × Int)) : Nat → Int → (List (List Int)) → Option (List (List Int))
  | 0, _, _ => none
  | n4 + 1, v3, v4 => if (decide (v3 < a0)) = true then chk (0 ≤ a0 ∧ a0 ≤ a0 ∧ a0 * (8 : Nat) ≤ 140737488355328) (chk (0 ≤ v3 ∧ v3 < (List.length (List.replicate (a0).toNat (0 : Int)) : Int)) (chk ((List.length v4 + List.length ([(List.set (List.replicate (a0).toNat (0 : Int)) (v3).toNat (1 : Int))] : List (List Int))) * 24 ≤ 140737488355328) ((F_s_plExponentsL4 fu a0 a1 n4) (IntKind.i64.wrap (v3 + (1 : Int))) (v4 ++ ([(List.set (List.replicate (a0).toNat (0 : Int)) (v3).toNat (1 : Int))] : List (List Int)))))) else F_s_plExponentsJ1 fu a1 v4
def F_s_plExponents (fu : Nat) (a0 : Int) (a1 : List (Int × Int)) (a2 : List Int) : Option (List (List Int)) :=
  F_s_plExponentsL4 fu a0 a1 fu (0 : Int) ([] : List (List Int))

def F_s_plGoodJ2 (fu : Nat) (a2 : List Int) (a0 : Int) (a1 : List (Int × Int)) : Option (Bool) :=
  Option.bind (F_s_l1All fu a2 (0 : Int) (IntKind.i64.wrap ((IntKind.i64.wrap (a0 + (List.length a1 : Int))) - (1 : Int)))) (fun v2 => some v2)
def F_s_plGoodL3 (fu : Nat) (v2 : List (List Int)) (a2 : List Int) (a0 : Int) (a1 : List (Int × Int)) : Nat → Int → Option (Bool)
  | 0, _ => none
  | n3 + 1, v4 => if (decide (v4 < (List.length v2 : Int))) = true then chk (0 ≤ v4 ∧ v4 < (List.length v2 : Int)) (Option.bind (F_s_l1All fu (List.getD v2 (v4).toNat ([] : List Int)) (0 : Int) (1000000 : Int)) (fun v5 => if (!v5) = true then some false else (F_s_plGoodL3 fu v2 a2 a0 a1 n3) (IntKind.i64.wrap (v4 + (1 : Int))))) else F_s_plGoodJ2 fu a2 a0 a1
def F_s_plGoodJ1 (fu : Nat) (a0 : Int) (a1 : List (Int × Int)) (a2 : List Int) : Option (Bool) :=
  Option.bind (F_s_plExponents fu a0 a1 a2) (fun v2 => F_s_plGoodL3 fu v2 a2 a0 a1 fu (0 : Int))
def F_s_plGoodL4 (fu : Nat) (a1 : List (Int × Int)) (a0 : Int) (a2 : List Int) : Nat → Int → Option (Bool)
  | 0, _ => none
  | n4 + 1, v3 => if (decide (v3 < (List.length a1 : Int))) = true then chk (0 ≤ v3 ∧ v3 < (List.length a1 : Int)) (Option.bind (F_s_l1In fu ((List.getD a1 (v3).toNat ((0 : Int), (0 : Int))).1) (0 : Int) ((List.getD a1 (v3).toNat ((0 : Int), (0 : Int))).2)) (fun v4 => if (cond (!v4) true (decide ((List.getD a1 (v3).toNat ((0 : Int), (0 : Int))).2 ≥ (IntKind.i64.wrap (a0 + v3))))) = true then some false else (F_s_plGoodL4 fu a1 a0 a2 n4) (IntKind.i64.wrap (v3 + (1 : Int))))) else F_s_plGoodJ1 fu a0 a1 a2
def F_s_plGood (fu : Nat) (a0 : Int) (a1 : List (Int × Int)) (a2 : List Int) : Option (Bool) :=
  Option.bind (F_s_l1In fu a0 (1 : Int) (6 : Int)) (fun v1 => if (cond (cond (!v1) true (decide ((List.length a1 : Int) > (40 : Int)))) true (decide ((List.length a2 : Int) > (6 : Int)))) = true then some false else F_s_plGoodL4 fu a1 a0 a2 fu (0 : Int))

def F_s_plIf (fu : Nat) (a0 : Int) (a1 : List (Int × Int)) (a2 : List Int) : Option (Bool × Int × List (Int × Int) × List Int) :=
  Option.bind (F_s_plGood fu a0 a1 a2) (fun v1 => if (!v1) = true then some (false, (0 : Int), ([] : List (Int × Int)), ([] : List Int)) else some (true, a0, a1, a2))

def F_s_SquaresPlanJ2 (fu : Nat) (v6 : Int) (v7 : Int) (v8 : List (Int × Int)) (v9 : List Int) : Option (Bool × Int × List (Int × Int) × List Int) :=
  Option.bind (F_s_plIf fu v7 v8 v9) (fun v11 => some (v11.1, v11.2.1, v11.2.2.1, v11.2.2.2))
def F_s_SquaresPlanJ4 (fu : Nat) (kL3 : Int → Int → Int → Int → (List (Int × Int)) → (List Int) → Option (Bool × Int × List (Int × Int) × List Int)) (v18 : Int) (v19 : Int) (v20 : Int) (v21 : Int) (v22 : List (Int × Int)) (v23 : List Int) : Option (Bool × Int × List (Int × Int) × List Int) :=
  kL3 v18 (IntKind.i64.wrap (v19 + (1 : Int))) v20 v21 v22 v23
def F_s_SquaresPlanJ5 (fu : Nat) (kL3 : Int → Int → Int → Int → (List (Int × Int)) → (List Int) → Option (Bool × Int × List (Int × Int) × List Int)) (v18 : Int) (v19 : Int) (v20 : Int) (v21 : Int) (v22 : Int) (v23 : List (Int × Int)) (v24 : List Int) : Option (Bool × Int × List (Int × Int) × List Int) :=
  chk ((List.length v24 + List.length ([v18] : List Int)) * 8 ≤ 140737488355328) (F_s_SquaresPlanJ4 fu kL3 v19 v20 v21 v22 v23 (v24 ++ ([v18] : List Int)))
def F_s_SquaresPlanJ7 (fu : Nat) (kL6 : Int → Int → (List (Int × Int)) → Option (Bool × Int × List (Int × Int) × List Int)) (v23 : Int) (v25 : Int) (v26 : List (Int × Int)) : Option (Bool × Int × List (Int × Int) × List Int) :=
  kL6 v25 (IntKind.i64.wrap (v23 + (1 : Int))) v26
def F_s_SquaresPlanL6 (fu : Nat) (v18 : List Int) (v15 : Int) (kL3 : Int → Int → Int → Int → (List (Int × Int)) → (List Int) → Option (Bool × Int × List (Int × Int) × List Int)) (v12 : Int) (v13 : Int) (v14 : Int) (v17 : List Int) : Nat → Int → Int → (List (Int × Int)) → Option (Bool × Int × List (Int × Int) × List Int)
  | 0, _, _, _ => none
  | n6 + 1, v22, v23, v24 => if (decide (v23 < (List.length v18 : Int))) = true then chk (0 ≤ v23 ∧ v23 < (List.length v18 : Int)) (if (cond ((List.getD v18 (v23).toNat (0 : Int)) == (1 : Int)) (decide (v22 ≥ (0 : Int))) false) = true then Option.bind (F_s_meTimes fu v15 v24 ([] : List Int) v22 v23) (fun v25 => F_s_SquaresPlanJ7 fu (F_s_SquaresPlanL6 fu v18 v15 kL3 v12 v13 v14 v17 n6) v23 v25.1 v25.2) else if ((List.getD v18 (v23).toNat (0 : Int)) == (1 : Int)) = true then F_s_SquaresPlanJ7 fu (F_s_SquaresPlanL6 fu v18 v15 kL3 v12 v13 v14 v17 n6) v23 v23 v24 else F_s_SquaresPlanJ7 fu (F_s_SquaresPlanL6 fu v18 v15 kL3 v12 v13 v14 v17 n6) v23 v22 v24) else F_s_SquaresPlanJ5 fu kL3 v22 v12 v13 v14 v15 v24 v17
def F_s_SquaresPlanL3 (fu : Nat) (a0 : List Int) : Nat → Int → Int → Int → Int → (List (Int × Int)) → (List Int) → Option (Bool × Int × List (Int × Int) × List Int)
  | 0, _, _, _, _, _, _ => none
  | n3 + 1, v12, v13, v14, v15, v16, v17 => if (decide (v13 < v12)) = true then chk (0 ≤ v13 ∧ v13 < (List.length a0 : Int)) (Option.bind (F_s_meDigits fu (List.getD a0 (v13).toNat (0 : Int)) (2 : Int)) (fun v18 => F_s_SquaresPlanL6 fu v18 v15 (F_s_SquaresPlanL3 fu a0 n3) v12 v13 v14 v17 fu (-1 : Int) (0 : Int) v16)) else F_s_SquaresPlanJ2 fu v14 v15 v16 v17
def F_s_SquaresPlanJ1 (fu : Nat) (a0 : List Int) (v3 : Int) (v4 : Int) (v5 : List (Int × Int)) : Option (Bool × Int × List (Int × Int) × List Int) :=
  F_s_SquaresPlanL3 fu a0 fu (List.length a0 : Int) (0 : Int) v3 v4 v5 ([] : List Int)
def F_s_SquaresPlanL8 (fu : Nat) (a0 : List Int) : Nat → Int → (List (Int × Int)) → Option (Bool × Int × List (Int × Int) × List Int)
  | 0, _, _ => none
  | n8 + 1, v5, v6 => Option.bind (F_s_meGreatest fu a0) (fun v7 => Option.bind (F_s_chLength fu v7) (fun v8 => if (decide (v5 < v8)) = true then Option.bind (F_s_meTimes fu (1 : Int) v6 ([] : List Int) (IntKind.i64.wrap (v5 - (1 : Int))) (IntKind.i64.wrap (v5 - (1 : Int)))) (fun v9 => (F_s_SquaresPlanL8 fu a0 n8) (IntKind.i64.wrap (v5 + (1 : Int))) v9.2) else F_s_SquaresPlanJ1 fu a0 (0 : Int) (1 : Int) v6))
def F_s_SquaresPlan (fu : Nat) (a0 : List Int) : Option (Bool × Int × List (Int × Int) × List Int) :=
  Option.bind (F_s_l1In fu (List.length a0 : Int) (1 : Int) (6 : Int)) (fun v1 => Option.bind (gcl ((!v1) == false) (F_s_l1All fu a0 (1 : Int) (1000000 : Int)) false) (fun v2 => if (cond (!v1) true (!v2)) = true then some (false, (0 : Int), ([] : List (Int × Int)), ([] : List Int)) else F_s_SquaresPlanL8 fu a0 fu (1 : Int) ([] : List (Int × Int))))

def F_s_duUsesJ2 (fu : Nat) (v2 : List Int) : Option (List Int) :=
  some v2
def F_s_duUsesL3 (fu : Nat) (a2 : List Int) : Nat → Int → (List Int) → Option (List Int)
  | 0, _, _ => none
  | n3 + 1, v4, v5 => if (decide (v4 < (List.length a2 : Int))) = true then chk (0 ≤ v4 ∧ v4 < (List.length a2 : Int)) (chk ((0 ≤ (List.getD a2 (v4).toNat (0 : Int)) ∧ (List.getD a2 (v4).toNat (0 : Int)) < (List.length v5 : Int)) ∧ (0 ≤ (List.getD a2 (v4).toNat (0 : Int)) ∧ (List.getD a2 (v4).toNat (0 : Int)) < (List.length v5 : Int))) ((F_s_duUsesL3 fu a2 n3) (IntKind.i64.wrap (v4 + (1 : Int))) (List.set v5 ((List.getD a2 (v4).toNat (0 : Int))).toNat (IntKind.i64.wrap ((List.getD v5 ((List.getD a2 (v4).toNat (0 : Int))).toNat (0 : Int)) + (1 : Int)))))) else F_s_duUsesJ2 fu v5
def F_s_duUsesJ1 (fu : Nat) (a2 : List Int) (v1 : List Int) : Option (List Int) :=
  F_s_duUsesL3 fu a2 fu (0 : Int) v1
def F_s_duUsesL4 (fu : Nat) (a1 : List (Int × Int)) (a2 : List Int) : Nat → Int → (List Int) → Option (List Int)
  | 0, _, _ => none
  | n4 + 1, v3, v4 => if (decide (v3 < (List.length a1 : Int))) = true then chk (0 ≤ v3 ∧ v3 < (List.length a1 : Int)) (chk ((0 ≤ (List.getD a1 (v3).toNat ((0 : Int), (0 : Int))).1 ∧ (List.getD a1 (v3).toNat ((0 : Int), (0 : Int))).1 < (List.length v4 : Int)) ∧ (0 ≤ (List.getD a1 (v3).toNat ((0 : Int), (0 : Int))).1 ∧ (List.getD a1 (v3).toNat ((0 : Int), (0 : Int))).1 < (List.length v4 : Int))) (chk ((0 ≤ (List.getD a1 (v3).toNat ((0 : Int), (0 : Int))).2 ∧ (List.getD a1 (v3).toNat ((0 : Int), (0 : Int))).2 < (List.length (List.set v4 ((List.getD a1 (v3).toNat ((0 : Int), (0 : Int))).1).toNat (IntKind.i64.wrap ((List.getD v4 ((List.getD a1 (v3).toNat ((0 : Int), (0 : Int))).1).toNat (0 : Int)) + (1 : Int)))) : Int)) ∧ (0 ≤ (List.getD a1 (v3).toNat ((0 : Int), (0 : Int))).2 ∧ (List.getD a1 (v3).toNat ((0 : Int), (0 : Int))).2 < (List.length (List.set v4 ((List.getD a1 (v3).toNat ((0 : Int), (0 : Int))).1).toNat (IntKind.i64.wrap ((List.getD v4 ((List.getD a1 (v3).toNat ((0 : Int), (0 : Int))).1).toNat (0 : Int)) + (1 : Int)))) : Int))) ((F_s_duUsesL4 fu a1 a2 n4) (IntKind.i64.wrap (v3 + (1 : Int))) (List.set (List.set v4 ((List.getD a1 (v3).toNat ((0 : Int), (0 : Int))).1).toNat (IntKind.i64.wrap ((List.getD v4 ((List.getD a1 (v3).toNat ((0 : Int), (0 : Int))).1).toNat (0 : Int)) + (1 : Int)))) ((List.getD a1 (v3).toNat ((0 : Int), (0 : Int))).2).toNat (IntKind.i64.wrap ((List.getD (List.set v4 ((List.getD a1 (v3).toNat ((0 : Int), (0 : Int))).1).toNat (IntKind.i64.wrap ((List.getD v4 ((List.getD a1 (v3).toNat ((0 : Int), (0 : Int))).1).toNat (0 : Int)) + (1 : Int)))) ((List.getD a1 (v3).toNat ((0 : Int), (0 : Int))).2).toNat (0 : Int)) + (1 : Int))))))) else F_s_duUsesJ1 fu a2 v4
def F_s_duUses (fu : Nat) (a0 : Int) (a1 : List (Int × Int)) (a2 : List Int) : Option (List Int) :=
  chk (0 ≤ (IntKind.i64.wrap (a0 + (List.length a1 : Int))) ∧ (IntKind.i64.wrap (a0 + (List.length a1 : Int))) ≤ (IntKind.i64.wrap (a0 + (List.length a1 : Int))) ∧ (IntKind.i64.wrap (a0 + (List.length a1 : Int))) * (8 : Nat) ≤ 140737488355328) (F_s_duUsesL4 fu a1 a2 fu (0 : Int) (List.replicate ((IntKind.i64.wrap (a0 + (List.length a1 : Int)))).toNat (0 : Int)))

def F_s_l1HasJ1 (fu : Nat) : Option (Bool) :=
  some false
def F_s_l1HasL2 (fu : Nat) (a0 : List Int) (a1 : Int) : Nat → Int → Option (Bool)
  | 0, _ => none
  | n2 + 1, v2 => if (decide (v2 < (List.length a0 : Int))) = true then chk (0 ≤ v2 ∧ v2 < (List.length a0 : Int)) (if ((List.getD a0 (v2).toNat (0 : Int)) == a1) = true then some true else (F_s_l1HasL2 fu a0 a1 n2) (IntKind.i64.wrap (v2 + (1 : Int)))) else F_s_l1HasJ1 fu
def F_s_l1Has (fu : Nat) (a0 : List Int) (a1 : Int) : Option (Bool) :=
  F_s_l1HasL2 fu a0 a1 fu (0 : Int)

def F_s_duCan (fu : Nat) (a0 : Int) (a1 : List (Int × Int)) (a2 : List Int) : Option (Bool) :=
  Option.bind (gcl ((decide ((List.length a2 : Int) > (0 : Int))) == true) (F_s_duUses fu a0 a1 a2) []) (fun v1 => Option.bind (gcl ((decide ((List.length a2 : Int) > (0 : Int))) == true) (F_s_l1Has fu v1 (0 : Int)) false) (fun v2 => some (cond (decide ((List.length a2 : Int) > (0 : Int))) (!v2) false)))

def F_s_duFactorsJ2 (fu : Nat) (v2 : List Int) : Option (List Int) :=
  some v2
def F_s_duFactorsJ4 (fu : Nat) (kL3 : Int → (List Int) → Option (List Int)) (v4 : Int) (v6 : List Int) : Option (List Int) :=
  kL3 (IntKind.i64.wrap (v4 + (1 : Int))) v6
def F_s_duFactorsJ5 (fu : Nat) (a1 : List (Int × Int)) (v4 : Int) (a3 : Int) (a0 : Int) (a4 : List Int) (kL3 : Int → (List Int) → Option (List Int)) (v6 : List Int) : Option (List Int) :=
  if ((List.getD a1 (v4).toNat ((0 : Int), (0 : Int))).2 == a3) = true then chk ((0 ≤ (IntKind.i64.wrap (a0 + v4)) ∧ (IntKind.i64.wrap (a0 + v4)) < (List.length a4 : Int)) ∧ ((List.length v6 + List.length ([(List.getD a4 ((IntKind.i64.wrap (a0 + v4))).toNat (0 : Int))] : List Int)) * 8 ≤ 140737488355328)) (F_s_duFactorsJ4 fu kL3 v4 (v6 ++ ([(List.getD a4 ((IntKind.i64.wrap (a0 + v4))).toNat (0 : Int))] : List Int))) else F_s_duFactorsJ4 fu kL3 v4 v6
def F_s_duFactorsL3 (fu : Nat) (a1 : List (Int × Int)) (a3 : Int) (a0 : Int) (a4 : List Int) : Nat → Int → (List Int) → Option (List Int)
  | 0, _, _ => none
  | n3 + 1, v4, v5 => if (decide (v4 < (List.length a1 : Int))) = true then chk (0 ≤ v4 ∧ v4 < (List.length a1 : Int)) (if ((List.getD a1 (v4).toNat ((0 : Int), (0 : Int))).1 == a3) = true then chk ((0 ≤ (IntKind.i64.wrap (a0 + v4)) ∧ (IntKind.i64.wrap (a0 + v4)) < (List.length a4 : Int)) ∧ ((List.length v5 + List.length ([(List.getD a4 ((IntKind.i64.wrap (a0 + v4))).toNat (0 : Int))] : List Int)) * 8 ≤ 140737488355328)) (F_s_duFactorsJ5 fu a1 v4 a3 a0 a4 (F_s_duFactorsL3 fu a1 a3 a0 a4 n3) (v5 ++ ([(List.getD a4 ((IntKind.i64.wrap (a0 + v4))).toNat (0 : Int))] : List Int))) else F_s_duFactorsJ5 fu a1 v4 a3 a0 a4 (F_s_duFactorsL3 fu a1 a3 a0 a4 n3) v5) else F_s_duFactorsJ2 fu v5
def F_s_duFactorsJ1 (fu : Nat) (a1 : List (Int × Int)) (a3 : Int) (a0 : Int) (a4 : List Int) (v1 : List Int) : Option (List Int) :=
  F_s_duFactorsL3 fu a1 a3 a0 a4 fu (0 : Int) v1
def F_s_duFactorsJ7 (fu : Nat) (kL6 : Int → (List Int) → Option (List Int)) (v3 : Int) (v5 : List Int) : Option (List Int) :=
  kL6 (IntKind.i64.wrap (v3 + (1 : Int))) v5
def F_s_duFactorsL6 (fu : Nat) (a2 : List Int) (a3 : Int) (a1 : List (Int × Int)) (a0 : Int) (a4 : List Int) : Nat → Int → (List Int) → Option (List Int)
  | 0, _, _ => none
  | n6 + 1, v3, v4 => if (decide (v3 < (List.length a2 : Int))) = true then chk (0 ≤ v3 ∧ v3 < (List.length a2 : Int)) (if ((List.getD a2 (v3).toNat (0 : Int)) == a3) = true then chk ((List.length v4 + List.length ([v3] : List Int)) * 8 ≤ 140737488355328) (F_s_duFactorsJ7 fu (F_s_duFactorsL6 fu a2 a3 a1 a0 a4 n6) v3 (v4 ++ ([v3] : List Int))) else F_s_duFactorsJ7 fu (F_s_duFactorsL6 fu a2 a3 a1 a0 a4 n6) v3 v4) else F_s_duFactorsJ1 fu a1 a3 a0 a4 v4
def F_s_duFactors (fu : Nat) (a0 : Int) (a1 : List (Int × Int)) (a2 : List Int) (a3 : Int) (a4 : List Int) : Option (List Int) :=
  F_s_duFactorsL6 fu a2 a3 a1 a0 a4 fu (0 : Int) ([] : List Int)

def F_s_l1Own (fu : Nat) (a0 : List Int) : Option (List Int) :=
  chk ((List.length ([] : List Int) + List.length a0) * 8 ≤ 140737488355328) (some (([] : List Int) ++ a0))

def F_s_duTurnJ1 (fu : Nat) (a0 : Int) (v1 : Int) (v2 : Int) (v3 : List (Int × Int)) (v4 : List Int) : Option (Int × List (Int × Int) × List Int) :=
  chk (0 ≤ (0 : Int) ∧ (0 : Int) ≤ a0 ∧ a0 ≤ (List.length v4 : Int)) (Option.bind (F_s_l1Own fu (List.drop ((0 : Int)).toNat (List.take (a0).toNat v4))) (fun v5 => some (v2, v3, v5)))
def F_s_duTurnJ3 (fu : Nat) (kL2 : Int → Int → Int → (List (Int × Int)) → (List Int) → Option (Int × List (Int × Int) × List Int)) (v11 : Int) (v12 : Int) (v13 : Int) (v14 : List (Int × Int)) (v15 : List Int) : Option (Int × List (Int × Int) × List Int) :=
  kL2 (IntKind.i64.wrap (v11 - (1 : Int))) v12 v13 v14 v15
def F_s_duTurnJ4 (fu : Nat) (kL2 : Int → Int → Int → (List (Int × Int)) → (List Int) → Option (Int × List (Int × Int) × List Int)) (v12 : Int) (v13 : Int) (v14 : Int) (v15 : Int) (v16 : List (Int × Int)) (v17 : List Int) : Option (Int × List (Int × Int) × List Int) :=
  chk (0 ≤ v12 ∧ v12 < (List.length v17 : Int)) (F_s_duTurnJ3 fu kL2 v12 v14 v15 v16 (List.set v17 (v12).toNat v13))
def F_s_duTurnL5 (fu : Nat) (v11 : List Int) (v8 : Int) (kL2 : Int → Int → Int → (List (Int × Int)) → (List Int) → Option (Int × List (Int × Int) × List Int)) (v6 : Int) (v7 : Int) (v10 : List Int) : Nat → Int → Int → (List (Int × Int)) → Option (Int × List (Int × Int) × List Int)
  | 0, _, _, _ => none
  | n5 + 1, v15, v16, v17 => if (decide (v16 < (List.length (List.drop ((1 : Int)).toNat (List.take ((List.length v11 : Int)).toNat v11)) : Int))) = true then chk (0 ≤ v16 ∧ v16 < (List.length (List.drop ((1 : Int)).toNat (List.take ((List.length v11 : Int)).toNat v11)) : Int)) (Option.bind (F_s_meTimes fu v8 v17 ([] : List Int) v15 (List.getD (List.drop ((1 : Int)).toNat (List.take ((List.length v11 : Int)).toNat v11)) (v16).toNat (0 : Int))) (fun v18 => (F_s_duTurnL5 fu v11 v8 kL2 v6 v7 v10 n5) v18.1 (IntKind.i64.wrap (v16 + (1 : Int))) v18.2)) else F_s_duTurnJ4 fu kL2 v6 v15 v7 v8 v17 v10
def F_s_duTurnL2 (fu : Nat) (a0 : Int) (a1 : List (Int × Int)) (a2 : List Int) : Nat → Int → Int → Int → (List (Int × Int)) → (List Int) → Option (Int × List (Int × Int) × List Int)
  | 0, _, _, _, _, _ => none
  | n2 + 1, v6, v7, v8, v9, v10 => if (decide (v6 ≥ (0 : Int))) = true then Option.bind (F_s_duFactors fu a0 a1 a2 v6 v10) (fun v11 => chk (0 ≤ (0 : Int) ∧ (0 : Int) < (List.length v11 : Int)) (chk (0 ≤ (1 : Int) ∧ (1 : Int) ≤ (List.length v11 : Int) ∧ (List.length v11 : Int) ≤ (List.length v11 : Int)) (F_s_duTurnL5 fu v11 v8 (F_s_duTurnL2 fu a0 a1 a2 n2) v6 v7 v10 fu (List.getD v11 ((0 : Int)).toNat (0 : Int)) (0 : Int) v9))) else F_s_duTurnJ1 fu a0 v7 v8 v9 v10
def F_s_duTurn (fu : Nat) (a0 : Int) (a1 : List (Int × Int)) (a2 : List Int) : Option (Int × List (Int × Int) × List Int) :=
  chk (0 ≤ (IntKind.i64.wrap (a0 + (List.length a1 : Int))) ∧ (IntKind.i64.wrap (a0 + (List.length a1 : Int))) ≤ (IntKind.i64.wrap (a0 + (List.length a1 : Int))) ∧ (IntKind.i64.wrap (a0 + (List.length a1 : Int))) * (8 : Nat) ≤ 140737488355328) (F_s_duTurnL2 fu a0 a1 a2 fu (IntKind.i64.wrap ((List.length (List.replicate ((IntKind.i64.wrap (a0 + (List.length a1 : Int)))).toNat (0 : Int)) : Int) - (1 : Int))) (0 : Int) (List.length a2 : Int) ([] : List (Int × Int)) (List.replicate ((IntKind.i64.wrap (a0 + (List.length a1 : Int)))).toNat (0 : Int)))

def F_s_TurnPlan (fu : Nat) (a0 : Int) (a1 : List (Int × Int)) (a2 : List Int) : Option (Bool × Int × List (Int × Int) × List Int) :=
  Option.bind (F_s_plGood fu a0 a1 a2) (fun v1 => Option.bind (gcl ((!v1) == false) (F_s_duCan fu a0 a1 a2) false) (fun v2 => if (cond (!v1) true (!v2)) = true then some (false, (0 : Int), ([] : List (Int × Int)), ([] : List Int)) else Option.bind (F_s_duTurn fu a0 a1 a2) (fun v3 => Option.bind (F_s_plIf fu v3.1 v3.2.1 v3.2.2) (fun v4 => some (v4.1, v4.2.1, v4.2.2.1, v4.2.2.2)))))

def F_s_VectorPlan (fu : Nat) (a0 : List Int) : Option (Bool × Int × List (Int × Int) × List Int) :=
  Option.bind (F_s_SquaresPlan fu a0) (fun v1 => if (!v1.1) = true then some (false, (0 : Int), ([] : List (Int × Int)), ([] : List Int)) else Option.bind (F_s_TurnPlan fu v1.2.1 v1.2.2.1 v1.2.2.2) (fun v2 => some (v2.1, v2.2.1, v2.2.2.1, v2.2.2.2)))

def F_l_pSameStepsJ1 (fu : Nat) : Option (Bool) :=
  some true
def F_l_pSameStepsL2 (fu : Nat) (a0 : List (Int × Int)) (a1 : List (Int × Int)) : Nat → Int → Option (Bool)
  | 0, _ => none
  | n2 + 1, v2 => if (decide (v2 < (List.length a0 : Int))) = true then chk ((0 ≤ v2 ∧ v2 < (List.length a0 : Int)) ∧ (0 ≤ v2 ∧ v2 < (List.length a1 : Int))) (if (!(([(List.getD a0 (v2).toNat ((0 : Int), (0 : Int))).1, (List.getD a0 (v2).toNat ((0 : Int), (0 : Int))).2] : List Int) == [(List.getD a1 (v2).toNat ((0 : Int), (0 : Int))).1, (List.getD a1 (v2).toNat ((0 : Int), (0 : Int))).2])) = true then some false else (F_l_pSameStepsL2 fu a0 a1 n2) (IntKind.i64.wrap (v2 + (1 : Int)))) else F_l_pSameStepsJ1 fu
def F_l_pSameSteps (fu : Nat) (a0 : List (Int × Int)) (a1 : List (Int × Int)) : Option (Bool) :=
  if ((List.length a0 : Int) != (List.length a1 : Int)) = true then some false else F_l_pSameStepsL2 fu a0 a1 fu (0 : Int)

def F_l_pSameIntsJ1 (fu : Nat) : Option (Bool) :=
  some true
def F_l_pSameIntsL2 (fu : Nat) (a0 : List Int) (a1 : List Int) : Nat → Int → Option (Bool)
  | 0, _ => none
  | n2 + 1, v2 => if (decide (v2 < (List.length a0 : Int))) = true then chk ((0 ≤ v2 ∧ v2 < (List.length a0 : Int)) ∧ (0 ≤ v2 ∧ v2 < (List.length a1 : Int))) (if ((List.getD a0 (v2).toNat (0 : Int)) != (List.getD a1 (v2).toNat (0 : Int))) = true then some false else (F_l_pSameIntsL2 fu a0 a1 n2) (IntKind.i64.wrap (v2 + (1 : Int)))) else F_l_pSameIntsJ1 fu
def F_l_pSameInts (fu : Nat) (a0 : List Int) (a1 : List Int) : Option (Bool) :=
  if ((List.length a0 : Int) != (List.length a1 : Int)) = true then some false else F_l_pSameIntsL2 fu a0 a1 fu (0 : Int)

def F_l_pSamePlan (fu : Nat) (a0 : Int) (a1 : List (Int × Int)) (a2 : List Int) (a3 : Int) (a4 : List (Int × Int)) (a5 : List Int) : Option (Bool) :=
  Option.bind (gcl ((a0 == a3) == true) (F_l_pSameSteps fu a1 a4) false) (fun v1 => Option.bind (gcl ((cond (a0 == a3) v1 false) == true) (F_l_pSameInts fu a2 a5) false) (fun v2 => some (cond (cond (a0 == a3) v1 false) v2 false)))

def F_i_TogetherPlan_c1 (fu : Nat) (a0 : Int) : Option (Bool) :=
  Option.bind (F_i_in fu a0 (0 : Int) (1000000 : Int)) (fun v1 => some (!v1))

def F_slices_IndexFunc_Lint_int_fmsJ1 (fu : Nat) : Option (Int) :=
  some (-1 : Int)
def F_slices_IndexFunc_Lint_int_fmsL2 (fu : Nat) (a0 : List Int) : Nat → Int → Option (Int)
  | 0, _ => none
  | n2 + 1, v2 => if (decide (v2 < (List.length a0 : Int))) = true then chk (0 ≤ v2 ∧ v2 < (List.length a0 : Int)) (Option.bind (F_i_TogetherPlan_c1 fu (List.getD a0 (v2).toNat (0 : Int))) (fun v3 => if v3 = true then some v2 else (F_slices_IndexFunc_Lint_int_fmsL2 fu a0 n2) (IntKind.i64.wrap (v2 + (1 : Int))))) else F_slices_IndexFunc_Lint_int_fmsJ1 fu
def F_slices_IndexFunc_Lint_int_fms (fu : Nat) (a0 : List Int) : Option (Int) :=
  F_slices_IndexFunc_Lint_int_fmsL2 fu a0 fu (0 : Int)

def F_slices_ContainsFunc_Lint_int_fms (fu : Nat) (a0 : List Int) : Option (Bool) :=
  Option.bind (F_slices_IndexFunc_Lint_int_fms fu a0) (fun v1 => some (decide (v1 ≥ (0 : Int))))

def F_i_TogetherPlanJ1 (fu : Nat) (v5 : Int) (v6 : Int) (v7 : Int) (v8 : List (Int × Int)) : Option (Bool × Int × List (Int × Int) × List Int) :=
  Option.bind (F_i_maker_plan_dzy fu ([v5] : List Int) v7 v8) (fun v10 => Option.bind (F_i_told fu v7 v8 ([v5] : List Int)) (fun v11 => some (v11.1, v11.2.1, v11.2.2.1, v11.2.2.2)))
def F_i_TogetherPlanJ3 (fu : Nat) (kL2 : Int → Int → Int → Int → (List (Int × Int)) → Option (Bool × Int × List (Int × Int) × List Int)) (v17 : Int) (v18 : Int) (v19 : Int) (v20 : Int) (v21 : List (Int × Int)) : Option (Bool × Int × List (Int × Int) × List Int) :=
  kL2 v17 (IntKind.i64.wrap (v18 - (1 : Int))) v19 v20 v21
def F_i_TogetherPlanJ6 (fu : Nat) (kL5 : Int → Int → (List (Int × Int)) → Option (Bool × Int × List (Int × Int) × List Int)) (v23 : Int) (v25 : Int) (v26 : List (Int × Int)) : Option (Bool × Int × List (Int × Int) × List Int) :=
  kL5 v25 (IntKind.i64.wrap (v23 + (1 : Int))) v26
def F_i_TogetherPlanL5 (fu : Nat) (a0 : List Int) (v13 : Int) (v15 : Int) (kL2 : Int → Int → Int → Int → (List (Int × Int)) → Option (Bool × Int × List (Int × Int) × List Int)) (v14 : Int) : Nat → Int → Int → (List (Int × Int)) → Option (Bool × Int × List (Int × Int) × List Int)
  | 0, _, _, _ => none
  | n5 + 1, v22, v23, v24 => if (decide (v23 < (List.length a0 : Int))) = true then chk (0 ≤ v23 ∧ v23 < (List.length a0 : Int)) (chk (0 ≤ v13) (if ((bits .and .i64 (shrI .i64 (List.getD a0 (v23).toNat (0 : Int)) v13) (1 : Int)) == (1 : Int)) = true then Option.bind (F_i_maker_times_frg fu v22 v23 v15 v24) (fun v25 => F_i_TogetherPlanJ6 fu (F_i_TogetherPlanL5 fu a0 v13 v15 kL2 v14 n5) v23 v25.1 v25.2) else F_i_TogetherPlanJ6 fu (F_i_TogetherPlanL5 fu a0 v13 v15 kL2 v14 n5) v23 v22 v24)) else F_i_TogetherPlanJ3 fu kL2 v22 v13 v14 v15 v24
def F_i_TogetherPlanJ4 (fu : Nat) (a0 : List Int) (v13 : Int) (v15 : Int) (kL2 : Int → Int → Int → Int → (List (Int × Int)) → Option (Bool × Int × List (Int × Int) × List Int)) (v14 : Int) (v17 : Int) (v18 : List (Int × Int)) : Option (Bool × Int × List (Int × Int) × List Int) :=
  F_i_TogetherPlanL5 fu a0 v13 v15 kL2 v14 fu v17 (0 : Int) v18
def F_i_TogetherPlanL2 (fu : Nat) (a0 : List Int) : Nat → Int → Int → Int → Int → (List (Int × Int)) → Option (Bool × Int × List (Int × Int) × List Int)
  | 0, _, _, _, _, _ => none
  | n2 + 1, v12, v13, v14, v15, v16 => if (decide (v13 ≥ (0 : Int))) = true then if (decide (v12 ≥ (0 : Int))) = true then Option.bind (F_i_maker_multiply_frg fu v12 v12 v15 v16) (fun v17 => F_i_TogetherPlanJ4 fu a0 v13 v15 (F_i_TogetherPlanL2 fu a0 n2) v14 v17.1 v17.2) else F_i_TogetherPlanJ4 fu a0 v13 v15 (F_i_TogetherPlanL2 fu a0 n2) v14 v12 v16 else F_i_TogetherPlanJ1 fu v12 v14 v15 v16
def F_i_TogetherPlan (fu : Nat) (a0 : List Int) : Option (Bool × Int × List (Int × Int) × List Int) :=
  Option.bind (F_i_in fu (List.length a0 : Int) (1 : Int) (6 : Int)) (fun v1 => Option.bind (gcl ((!v1) == false) (F_slices_ContainsFunc_Lint_int_fms fu a0) false) (fun v2 => Option.bind (gcl ((cond (!v1) true v2) == false) (F_slices_Max_Lint_int fu a0) (0 : Int)) (fun v3 => if (cond (cond (!v1) true v2) true (v3 == (0 : Int))) = true then some (false, (0 : Int), ([] : List (Int × Int)), ([] : List Int)) else Option.bind (F_i_newMaker fu (List.length a0 : Int)) (fun v4 => Option.bind (F_slices_Max_Lint_int fu a0) (fun v5 => Option.bind (F_bits_Len fu (IntKind.u64.wrap v5)) (fun v6 => F_i_TogetherPlanL2 fu a0 fu (-1 : Int) (IntKind.i64.wrap (v6 - (1 : Int))) (0 : Int) (List.length a0 : Int) ([] : List (Int × Int))))))))

def F_i_VectorCosts (fu : Nat) (a0 : List Int) : Option (Int × Int × Bool) :=
  Option.bind (F_i_TogetherPlan fu a0) (fun v1 => Option.bind (F_i_VectorPlan fu a0) (fun v2 => if (cond (!v1.1) true (!v2.1)) = true then some ((0 : Int), (0 : Int), false) else some ((List.length v1.2.2.1 : Int), (List.length v2.2.2.1 : Int), true)))

def F_slices_Clone_Lint_int (fu : Nat) (a0 : List Int) : Option (List Int) :=
  chk (List.length a0 ≠ 0) (chk ((List.length ([] : List Int) + List.length a0) * 8 ≤ 140737488355328) (some (([] : List Int) ++ a0)))

def F_i_Plan_outputExponents_wzeJ1 (fu : Nat) (v2 : List (List Int)) : Option (List (List Int)) :=
  some v2
def F_i_Plan_outputExponents_wzeL2 (fu : Nat) (a2 : List Int) (v1 : List (List Int)) : Nat → Int → (List (List Int)) → Option (List (List Int))
  | 0, _, _ => none
  | n2 + 1, v4, v5 => if (decide (v4 < (List.length a2 : Int))) = true then chk (0 ≤ v4 ∧ v4 < (List.length a2 : Int)) (chk (0 ≤ (List.getD a2 (v4).toNat (0 : Int)) ∧ (List.getD a2 (v4).toNat (0 : Int)) < (List.length v1 : Int)) (Option.bind (F_slices_Clone_Lint_int fu (List.getD v1 ((List.getD a2 (v4).toNat (0 : Int))).toNat ([] : List Int))) (fun v6 => chk ((List.length v5 + List.length ([v6] : List (List Int))) * 24 ≤ 140737488355328) ((F_i_Plan_outputExponents_wzeL2 fu a2 v1 n2) (IntKind.i64.wrap (v4 + (1 : Int))) (v5 ++ ([v6] : List (List Int))))))) else F_i_Plan_outputExponents_wzeJ1 fu v5
def F_i_Plan_outputExponents_wze (fu : Nat) (a0 : Int) (a1 : List (Int × Int)) (a2 : List Int) : Option (List (List Int)) :=
  Option.bind (F_i_Plan_exponents_wze fu a0 a1 a2) (fun v1 => F_i_Plan_outputExponents_wzeL2 fu a2 v1 fu (0 : Int) ([] : List (List Int)))

def F_i_OutputExponents (fu : Nat) (a0 : Int) (a1 : List (Int × Int)) (a2 : List Int) : Option (Bool × List (List Int)) :=
  Option.bind (F_i_IsPlan fu a0 a1 a2) (fun v1 => if (!v1) = true then some (false, ([] : List (List Int))) else Option.bind (F_i_Plan_outputExponents_wze fu a0 a1 a2) (fun v2 => some (true, v2)))

def F_l_FnVectors (fu : Nat) (a0 : List Int) (a1 : List Int) : Option (Bool) :=
  Option.bind (F_l_big fu a0 a1) (fun v1 => if v1 = true then some true else Option.bind (F_s_DrawVectorPlan fu a0) (fun v2 => Option.bind (F_i_VectorPlan fu v2) (fun v4 => Option.bind (F_s_VectorPlan fu v2) (fun v5 => Option.bind (gcl ((!(v4.1 == v5.1)) == false) (F_l_pSamePlan fu v4.2.1 v4.2.2.1 v4.2.2.2 v5.2.1 v5.2.2.1 v5.2.2.2) false) (fun v6 => if (cond (!(v4.1 == v5.1)) true (!v6)) = true then some false else Option.bind (F_i_SquaresPlan fu v2) (fun v7 => Option.bind (F_i_VectorCosts fu v2) (fun v8 => Option.bind (F_i_TogetherPlan fu v2) (fun v9 => if (!(v8.2.2 == (cond v4.1 v9.1 false))) = true then some false else if (!v5.1) = true then some true else Option.bind (F_i_OutputExponents fu v4.2.1 v4.2.2.1 v4.2.2.2) (fun v10 => chk (((cond (cond (!v7.1) true (!v10.1)) true ((List.length v10.2 : Int) != (1 : Int))) == false) = true → 0 ≤ (0 : Int) ∧ (0 : Int) < (List.length v10.2 : Int)) (Option.bind (gcl ((cond (cond (!v7.1) true (!v10.1)) true ((List.length v10.2 : Int) != (1 : Int))) == false) (F_l_pSameInts fu (List.getD v10.2 ((0 : Int)).toNat ([] : List Int)) v2) false) (fun v11 => if (cond (cond (cond (cond (!v7.1) true (!v10.1)) true ((List.length v10.2 : Int) != (1 : Int))) true (!v11)) true ((List.length v4.2.2.1 : Int) != (IntKind.i64.wrap ((IntKind.i64.wrap ((List.length v7.2.2.1 : Int) + (List.length v2 : Int))) - (1 : Int))))) = true then some false else chk (((!v8.2.2) == false) = true → (v8.1 == (List.length v9.2.2.1 : Int)) = true → (((!v8.2.2) == false) && ((v8.1 == (List.length v9.2.2.1 : Int)) == true)) = true) (some (cond (!v8.2.2) true (cond (v8.1 == (List.length v9.2.2.1 : Int)) (v8.2.1 == (List.length v4.2.2.1 : Int)) false))))))))))))))
end Go.Proofs.Ytiplmapndahmmaa
