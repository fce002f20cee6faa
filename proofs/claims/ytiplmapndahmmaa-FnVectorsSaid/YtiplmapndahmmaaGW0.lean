/- That the functions compute so: printed by a program of ours (gen.py). -/
import Derived.Test.YtiplmapndahmmaaGD
import Derived.Test.YtiplmapndahmmaaGT
namespace Go.Proofs.Ytiplmapndahmmaa
open Al
set_option linter.unusedVariables false
set_option linter.constructorNameAsVariable false
theorem F_l_big_ok {fu : Nat} {a0 : List Int} {a1 : List Int} {r : Bool} (h : F_l_big fu a0 a1 = some r) :
    ACall Try.prog 4 [.v (.c (.ls false (.num .u8) a0)), .v (.c (.ls false (.num .u8) a1))] [] [] (.v (.c (.bool r))) [] := by
  unfold F_l_big at h
  refine acall_of_aw ttOK Try.func4 (by kernel_rfl) (c := _) rfl (N := 16) (by kernel_rfl) (Nat.le_of_ble_eq_true rfl) ?_
  refine aw_seq ?_
  refine aw_region ttOK (C := True) (hs := []) (gs := []) (rn := []) (l' := [(0, .v (.c (.ls false (.num .u8) a0))), (1, .v (.c (.ls false (.num .u8) a1)))]) (h' := []) (by kernel_rfl) trivial ?_
  refine aw_seq ?_
  refine aw_region ttOK (C := (((decide ((List.length a0 : Int) > (1048576 : Int))) == false) = true → ((decide ((List.length a0 : Int) > (1048576 : Int))) == false) = true) ∧ (((decide ((List.length a0 : Int) > (1048576 : Int))) == false) = true → ((decide ((List.length a0 : Int) > (1048576 : Int))) == false) = true) ∧ (((decide ((List.length a0 : Int) > (1048576 : Int))) == false) = true → ((decide ((List.length a0 : Int) > (1048576 : Int))) == false) = true) ∧ (((decide ((List.length a0 : Int) > (1048576 : Int))) == false) = true → ((decide ((List.length a0 : Int) > (1048576 : Int))) == false) = true) ∧ (((decide ((List.length a0 : Int) > (1048576 : Int))) == false) = true → ((decide ((List.length a0 : Int) > (1048576 : Int))) == false) = true) ∧ ((decide ((List.length a0 : Int) > (1048576 : Int))) = false → ((decide ((List.length a0 : Int) > (1048576 : Int))) == false) = true) ∧ True) (hs := []) (gs := []) (rn := []) (l' := [(4, .v (.c (.bool (cond (decide ((List.length a0 : Int) > (1048576 : Int))) true (decide ((List.length a1 : Int) > (IntKind.i64.wrap ((1048576 : Int) - (List.length a0 : Int)))))))))]) (h' := []) (by kernel_rfl) ⟨(fun h => h), (fun h => h), (fun h => h), (fun h => h), (fun h => h), (fun h => beq_iff_eq.2 h), trivial⟩ ?_
  refine aw_ghost (gs := []) (rn := []) (l' := [(4, .v (.c (.bool (cond (decide ((List.length a0 : Int) > (1048576 : Int))) true (decide ((List.length a1 : Int) > (IntKind.i64.wrap ((1048576 : Int) - (List.length a0 : Int)))))))))]) (h' := []) (by kernel_rfl) ?_
  refine aw_ret (ret_ok [] ?_)
  cases h
  kernel_rfl

theorem F_s_l1Cur_next_vln_ok {fu : Nat} {a0 : List Int} {a1 : Int} {a2 : Int} {r : Int × Int} (h : F_s_l1Cur_next_vln fu a0 a1 a2 = some r) :
    ACall Try.prog 57 [.v (.c (.p 0 0))] [.bx [.ls false (.num .u8) a0, .int .i64 a1, .int .u64 a2]] [0] (.v (.c (.int .i64 r.1))) [.bx [.ls false (.num .u8) a0, .int .i64 (IntKind.i64.wrap (a1 + (1 : Int))), .int .u64 r.2]] := by
  unfold F_s_l1Cur_next_vln at h
  refine acall_of_aw ttOK Try.func57 (by kernel_rfl) (c := _) rfl (N := 62) (by kernel_rfl) (Nat.le_of_ble_eq_true rfl) ?_
  refine aw_seq ?_
  refine aw_region ttOK (C := True) (hs := []) (gs := []) (rn := []) (l' := [(0, .v (.c (.p 0 0)))]) (h' := [(0, .bx [.ls false (.num .u8) a0, .int .i64 a1, .int .u64 a2])]) (by kernel_rfl) trivial ?_
  refine aw_seq ?_
  refine aw_region ttOK (C := True) (hs := []) (gs := []) (rn := []) (l' := [(0, .v (.c (.p 0 0))), (3, .v (.c (.int .i64 (0 : Int))))]) (h' := [(0, .bx [.ls false (.num .u8) a0, .int .i64 a1, .int .u64 a2])]) (by kernel_rfl) trivial ?_
  refine aw_join (X := Int) (fun x => ([(0, .v (.c (.p 0 0))), (3, .v (.c (.int .i64 x)))], [(0, .bx [.ls false (.num .u8) a0, .int .i64 a1, .int .u64 a2])])) (fun x => F_s_l1Cur_next_vlnJ1 fu a1 a0 a2 x = some r) ?_ ?_
  · rintro v1 h
    unfold F_s_l1Cur_next_vlnJ1 at h
    refine aw_seq ?_
    refine aw_region ttOK (C := True) (hs := []) (gs := []) (rn := []) (l' := [(0, .v (.c (.p 0 0))), (3, .v (.c (.int .i64 v1)))]) (h' := [(0, .bx [.ls false (.num .u8) a0, .int .i64 (IntKind.i64.wrap (a1 + (1 : Int))), .int .u64 a2])]) (by kernel_rfl) trivial ?_
    refine aw_seq ?_
    refine aw_region ttOK (C := True) (hs := []) (gs := []) (rn := []) (l' := [(0, .v (.c (.p 0 0))), (3, .v (.c (.int .i64 v1)))]) (h' := [(0, .bx [.ls false (.num .u8) a0, .int .i64 (IntKind.i64.wrap (a1 + (1 : Int))), .int .u64 (IntKind.u64.wrap ((IntKind.u64.wrap ((IntKind.u64.wrap (a2 * (6364136223846793005 : Int))) + (IntKind.u64.wrap v1))) + (1442695040888963407 : Int)))])]) (by kernel_rfl) trivial ?_
    refine aw_seq ?_
    refine aw_seq ?_
    refine aw_draw ttOK ttMix (C := True) (hs := []) (anc := []) (tch := []) (gs := []) (rn := []) (l' := [(0, .v (.c (.p 0 0))), (3, .v (.c (.int .i64 v1))), (53, .v (.c (.bool (decide ((IntKind.i64.wrap (a1 + (1 : Int))) ≤ (List.length a0 : Int))))))]) (h' := [(0, .bx [.ls false (.num .u8) a0, .int .i64 (IntKind.i64.wrap (a1 + (1 : Int))), .int .u64 (IntKind.u64.wrap ((IntKind.u64.wrap ((IntKind.u64.wrap (a2 * (6364136223846793005 : Int))) + (IntKind.u64.wrap v1))) + (1442695040888963407 : Int)))])]) (by kernel_rfl) trivial ?_
    refine aw_if (decide ((IntKind.i64.wrap (a1 + (1 : Int))) ≤ (List.length a0 : Int))) (by kernel_rfl) (fun hb => ?_) (fun hb => ?_)
    · rw [ite_t hb] at h
      refine aw_seq ?_
      refine aw_region ttOK (C := True) (hs := []) (gs := []) (rn := []) (l' := [(2, .v (.c (.int .i64 v1)))]) (h' := [(0, .bx [.ls false (.num .u8) a0, .int .i64 (IntKind.i64.wrap (a1 + (1 : Int))), .int .u64 (IntKind.u64.wrap ((IntKind.u64.wrap ((IntKind.u64.wrap (a2 * (6364136223846793005 : Int))) + (IntKind.u64.wrap v1))) + (1442695040888963407 : Int)))])]) (by kernel_rfl) trivial ?_
      refine aw_ghost (gs := []) (rn := []) (l' := [(2, .v (.c (.int .i64 v1)))]) (h' := [(0, .bx [.ls false (.num .u8) a0, .int .i64 (IntKind.i64.wrap (a1 + (1 : Int))), .int .u64 (IntKind.u64.wrap ((IntKind.u64.wrap ((IntKind.u64.wrap (a2 * (6364136223846793005 : Int))) + (IntKind.u64.wrap v1))) + (1442695040888963407 : Int)))])]) (by kernel_rfl) ?_
      refine aw_ret (ret_ok [0] ?_)
      cases h
      kernel_rfl
    · rw [ite_f hb] at h
      refine aw_ghost (gs := []) (rn := []) (l' := [(0, .v (.c (.p 0 0)))]) (h' := [(0, .bx [.ls false (.num .u8) a0, .int .i64 (IntKind.i64.wrap (a1 + (1 : Int))), .int .u64 (IntKind.u64.wrap ((IntKind.u64.wrap ((IntKind.u64.wrap (a2 * (6364136223846793005 : Int))) + (IntKind.u64.wrap v1))) + (1442695040888963407 : Int)))])]) (by kernel_rfl) ?_
      refine aw_skip ?_
      refine aw_seq ?_
      refine aw_region ttOK (C := (0 ≤ (40 : Int)) ∧ True) (hs := []) (gs := []) (rn := []) (l' := [(2, .v (.c (.int .i64 (IntKind.i64.wrap (bits .and .u64 (shrI .u64 (IntKind.u64.wrap ((IntKind.u64.wrap ((IntKind.u64.wrap (a2 * (6364136223846793005 : Int))) + (IntKind.u64.wrap v1))) + (1442695040888963407 : Int))) (40 : Int)) (255 : Int))))))]) (h' := [(0, .bx [.ls false (.num .u8) a0, .int .i64 (IntKind.i64.wrap (a1 + (1 : Int))), .int .u64 (IntKind.u64.wrap ((IntKind.u64.wrap ((IntKind.u64.wrap (a2 * (6364136223846793005 : Int))) + (IntKind.u64.wrap v1))) + (1442695040888963407 : Int)))])]) (by kernel_rfl) ⟨(by decide), trivial⟩ ?_
      refine aw_ghost (gs := []) (rn := []) (l' := [(2, .v (.c (.int .i64 (IntKind.i64.wrap (bits .and .u64 (shrI .u64 (IntKind.u64.wrap ((IntKind.u64.wrap ((IntKind.u64.wrap (a2 * (6364136223846793005 : Int))) + (IntKind.u64.wrap v1))) + (1442695040888963407 : Int))) (40 : Int)) (255 : Int))))))]) (h' := [(0, .bx [.ls false (.num .u8) a0, .int .i64 (IntKind.i64.wrap (a1 + (1 : Int))), .int .u64 (IntKind.u64.wrap ((IntKind.u64.wrap ((IntKind.u64.wrap (a2 * (6364136223846793005 : Int))) + (IntKind.u64.wrap v1))) + (1442695040888963407 : Int)))])]) (by kernel_rfl) ?_
      refine aw_ret (ret_ok [0] ?_)
      cases h
      kernel_rfl
  · refine aw_seq ?_
    refine aw_draw ttOK ttMix (C := True) (hs := []) (anc := []) (tch := []) (gs := []) (rn := []) (l' := [(0, .v (.c (.p 0 0))), (3, .v (.c (.int .i64 (0 : Int)))), (13, .v (.c (.bool (decide (a1 < (List.length a0 : Int))))))]) (h' := [(0, .bx [.ls false (.num .u8) a0, .int .i64 a1, .int .u64 a2])]) (by kernel_rfl) trivial ?_
    refine aw_if (decide (a1 < (List.length a0 : Int))) (by kernel_rfl) (fun hb => ?_) (fun hb => ?_)
    · rw [ite_t hb] at h
      obtain ⟨c0, h⟩ := chk_some h
      refine aw_draw ttOK ttMix (C := (0 ≤ a1 ∧ a1 < (List.length a0 : Int)) ∧ True) (hs := []) (anc := []) (tch := []) (gs := []) (rn := []) (l' := [(0, .v (.c (.p 0 0))), (3, .v (.c (.int .i64 (IntKind.i64.wrap (List.getD a0 (a1).toNat (0 : Int))))))]) (h' := [(0, .bx [.ls false (.num .u8) a0, .int .i64 a1, .int .u64 a2])]) (by kernel_rfl) ⟨c0, trivial⟩ ?_
      exact ⟨(IntKind.i64.wrap (List.getD a0 (a1).toNat (0 : Int))), h, rfl, rfl⟩
    · rw [ite_f hb] at h
      refine aw_ghost (gs := []) (rn := []) (l' := [(0, .v (.c (.p 0 0))), (3, .v (.c (.int .i64 (0 : Int))))]) (h' := [(0, .bx [.ls false (.num .u8) a0, .int .i64 a1, .int .u64 a2])]) (by kernel_rfl) ?_
      refine aw_skip ?_
      exact ⟨(0 : Int), h, rfl, rfl⟩

theorem F_s_l1Cur_pick_vrs_ok {fu : Nat} {a0 : Int} {a1 : List Int} {a2 : Int} {a3 : Int} {r : Int × Int × Int} (h : F_s_l1Cur_pick_vrs fu a0 a1 a2 a3 = some r) :
    ACall Try.prog 33 [.v (.c (.p 0 0)), .v (.c (.int .i64 a0))] [.bx [.ls false (.num .u8) a1, .int .i64 a2, .int .u64 a3]] [0] (.v (.c (.int .i64 r.1))) [.bx [.ls false (.num .u8) a1, .int .i64 r.2.1, .int .u64 r.2.2]] := by
  unfold F_s_l1Cur_pick_vrs at h
  refine acall_of_aw ttOK Try.func33 (by kernel_rfl) (c := _) rfl (N := 20) (by kernel_rfl) (Nat.le_of_ble_eq_true rfl) ?_
  refine aw_seq ?_
  refine aw_region ttOK (C := True) (hs := []) (gs := []) (rn := []) (l' := [(0, .v (.c (.p 0 0))), (1, .v (.c (.int .i64 a0)))]) (h' := [(0, .bx [.ls false (.num .u8) a1, .int .i64 a2, .int .u64 a3])]) (by kernel_rfl) trivial ?_
  refine aw_seq ?_
  refine aw_seq ?_
  refine aw_region ttOK (C := True) (hs := []) (gs := []) (rn := []) (l' := [(0, .v (.c (.p 0 0))), (1, .v (.c (.int .i64 a0))), (7, .v (.c (.bool (decide (a0 ≤ (1 : Int))))))]) (h' := [(0, .bx [.ls false (.num .u8) a1, .int .i64 a2, .int .u64 a3])]) (by kernel_rfl) trivial ?_
  refine aw_if (decide (a0 ≤ (1 : Int))) (by kernel_rfl) (fun hb => ?_) (fun hb => ?_)
  · rw [ite_t hb] at h
    refine aw_seq ?_
    refine aw_region ttOK (C := True) (hs := []) (gs := []) (rn := []) (l' := [(4, .v (.c (.int .i64 (0 : Int))))]) (h' := [(0, .bx [.ls false (.num .u8) a1, .int .i64 a2, .int .u64 a3])]) (by kernel_rfl) trivial ?_
    refine aw_ghost (gs := []) (rn := []) (l' := [(4, .v (.c (.int .i64 (0 : Int))))]) (h' := [(0, .bx [.ls false (.num .u8) a1, .int .i64 a2, .int .u64 a3])]) (by kernel_rfl) ?_
    refine aw_ret (ret_ok [0] ?_)
    cases h
    kernel_rfl
  · rw [ite_f hb] at h
    refine aw_ghost (gs := []) (rn := []) (l' := [(0, .v (.c (.p 0 0))), (1, .v (.c (.int .i64 a0)))]) (h' := [(0, .bx [.ls false (.num .u8) a1, .int .i64 a2, .int .u64 a3])]) (by kernel_rfl) ?_
    refine aw_skip ?_
    refine aw_seq ?_
    obtain ⟨v1, ev1, h⟩ := bind_some h
    refine aw_region ttOK (C := (ACall Try.prog 57 [.v (.c (.p 0 0))] [.bx [.ls false (.num .u8) a1, .int .i64 a2, .int .u64 a3]] [0] (.v (.c (.int .i64 v1.1))) [.bx [.ls false (.num .u8) a1, .int .i64 (IntKind.i64.wrap (a2 + (1 : Int))), .int .u64 v1.2]]) ∧ True) (hs := [(1, { call := some { f := 57, casts := [.same], sel := [0], kp := [0], r := .v (.c (.int .i64 v1.1)), Hout := [.bx [.ls false (.num .u8) a1, .int .i64 (IntKind.i64.wrap (a2 + (1 : Int))), .int .u64 v1.2]], ren := [0] } })]) (gs := []) (rn := []) (l' := [(0, .v (.c (.p 0 0))), (1, .v (.c (.int .i64 a0))), (5, .v (.c (.int .i64 v1.1)))]) (h' := [(0, .bx [.ls false (.num .u8) a1, .int .i64 (IntKind.i64.wrap (a2 + (1 : Int))), .int .u64 v1.2])]) (by kernel_rfl) ⟨(F_s_l1Cur_next_vln_ok ev1), trivial⟩ ?_
    refine aw_join (X := Int × Int × Int) (fun x => ([(1, .v (.c (.int .i64 a0))), (5, .v (.c (.int .i64 x.1)))], [(0, .bx [.ls false (.num .u8) a1, .int .i64 x.2.1, .int .u64 x.2.2])])) (fun x => F_s_l1Cur_pick_vrsJ1 fu a0 x.1 x.2.1 x.2.2 = some r) ?_ ?_
    · rintro ⟨v2, v3, v4⟩ h
      unfold F_s_l1Cur_pick_vrsJ1 at h
      refine aw_seq ?_
      obtain ⟨c0, h⟩ := chk_some h
      refine aw_region ttOK (C := (a0 ≠ 0) ∧ True) (hs := []) (gs := []) (rn := []) (l' := [(4, .v (.c (.int .i64 (Int.tmod v2 a0))))]) (h' := [(0, .bx [.ls false (.num .u8) a1, .int .i64 v3, .int .u64 v4])]) (by kernel_rfl) ⟨c0, trivial⟩ ?_
      refine aw_ghost (gs := []) (rn := []) (l' := [(4, .v (.c (.int .i64 (Int.tmod v2 a0))))]) (h' := [(0, .bx [.ls false (.num .u8) a1, .int .i64 v3, .int .u64 v4])]) (by kernel_rfl) ?_
      refine aw_ret (ret_ok [0] ?_)
      cases h
      kernel_rfl
    · refine aw_seq ?_
      refine aw_region ttOK (C := True) (hs := []) (gs := []) (rn := []) (l' := [(0, .v (.c (.p 0 0))), (1, .v (.c (.int .i64 a0))), (5, .v (.c (.int .i64 v1.1))), (11, .v (.c (.bool (decide (a0 > (200 : Int))))))]) (h' := [(0, .bx [.ls false (.num .u8) a1, .int .i64 (IntKind.i64.wrap (a2 + (1 : Int))), .int .u64 v1.2])]) (by kernel_rfl) trivial ?_
      refine aw_if (decide (a0 > (200 : Int))) (by kernel_rfl) (fun hb => ?_) (fun hb => ?_)
      · rw [ite_t hb] at h
        obtain ⟨v2, ev2, h⟩ := bind_some h
        refine aw_region ttOK (C := (ACall Try.prog 57 [.v (.c (.p 0 0))] [.bx [.ls false (.num .u8) a1, .int .i64 (IntKind.i64.wrap (a2 + (1 : Int))), .int .u64 v1.2]] [0] (.v (.c (.int .i64 v2.1))) [.bx [.ls false (.num .u8) a1, .int .i64 (IntKind.i64.wrap ((IntKind.i64.wrap (a2 + (1 : Int))) + (1 : Int))), .int .u64 v2.2]]) ∧ True) (hs := [(3, { call := some { f := 57, casts := [.same], sel := [0], kp := [0], r := .v (.c (.int .i64 v2.1)), Hout := [.bx [.ls false (.num .u8) a1, .int .i64 (IntKind.i64.wrap ((IntKind.i64.wrap (a2 + (1 : Int))) + (1 : Int))), .int .u64 v2.2]], ren := [0] } })]) (gs := []) (rn := []) (l' := [(1, .v (.c (.int .i64 a0))), (5, .v (.c (.int .i64 (IntKind.i64.wrap ((IntKind.i64.wrap (v1.1 * (256 : Int))) + v2.1)))))]) (h' := [(0, .bx [.ls false (.num .u8) a1, .int .i64 (IntKind.i64.wrap ((IntKind.i64.wrap (a2 + (1 : Int))) + (1 : Int))), .int .u64 v2.2])]) (by kernel_rfl) ⟨(F_s_l1Cur_next_vln_ok ev2), trivial⟩ ?_
        exact ⟨((IntKind.i64.wrap ((IntKind.i64.wrap (v1.1 * (256 : Int))) + v2.1)), (IntKind.i64.wrap ((IntKind.i64.wrap (a2 + (1 : Int))) + (1 : Int))), v2.2), h, rfl, rfl⟩
      · rw [ite_f hb] at h
        refine aw_ghost (gs := []) (rn := []) (l' := [(1, .v (.c (.int .i64 a0))), (5, .v (.c (.int .i64 v1.1)))]) (h' := [(0, .bx [.ls false (.num .u8) a1, .int .i64 (IntKind.i64.wrap (a2 + (1 : Int))), .int .u64 v1.2])]) (by kernel_rfl) ?_
        refine aw_skip ?_
        exact ⟨(v1.1, (IntKind.i64.wrap (a2 + (1 : Int))), v1.2), h, rfl, rfl⟩

theorem F_s_l1Cur_among_nsu_ok {fu : Nat} {a0 : List Int} {a1 : List Int} {a2 : Int} {a3 : Int} {r : Int × Int × Int} (h : F_s_l1Cur_among_nsu fu a0 a1 a2 a3 = some r) :
    ACall Try.prog 58 [.v (.c (.p 0 0)), .v (.c (.ls false (.num .i64) a0))] [.bx [.ls false (.num .u8) a1, .int .i64 a2, .int .u64 a3]] [0] (.v (.c (.int .i64 r.1))) [.bx [.ls false (.num .u8) a1, .int .i64 r.2.1, .int .u64 r.2.2]] := by
  unfold F_s_l1Cur_among_nsu at h
  refine acall_of_aw ttOK Try.func58 (by kernel_rfl) (c := _) rfl (N := 12) (by kernel_rfl) (Nat.le_of_ble_eq_true rfl) ?_
  refine aw_seq ?_
  refine aw_region ttOK (C := True) (hs := []) (gs := []) (rn := []) (l' := [(0, .v (.c (.p 0 0))), (1, .v (.c (.ls false (.num .i64) a0)))]) (h' := [(0, .bx [.ls false (.num .u8) a1, .int .i64 a2, .int .u64 a3])]) (by kernel_rfl) trivial ?_
  refine aw_seq ?_
  obtain ⟨v1, ev1, h⟩ := bind_some h
  obtain ⟨c0, h⟩ := chk_some h
  refine aw_region ttOK (C := (ACall Try.prog 33 [.v (.c (.p 0 0)), .v (.c (.int .i64 (List.length a0 : Int)))] [.bx [.ls false (.num .u8) a1, .int .i64 a2, .int .u64 a3]] [0] (.v (.c (.int .i64 v1.1))) [.bx [.ls false (.num .u8) a1, .int .i64 v1.2.1, .int .u64 v1.2.2]]) ∧ (0 ≤ v1.1 ∧ v1.1 < (List.length a0 : Int)) ∧ True) (hs := [(4, { call := some { f := 33, casts := [.same, .same], sel := [0], kp := [0], r := .v (.c (.int .i64 v1.1)), Hout := [.bx [.ls false (.num .u8) a1, .int .i64 v1.2.1, .int .u64 v1.2.2]], ren := [0] } })]) (gs := []) (rn := []) (l' := [(4, .v (.c (.int .i64 (List.getD a0 (v1.1).toNat (0 : Int)))))]) (h' := [(0, .bx [.ls false (.num .u8) a1, .int .i64 v1.2.1, .int .u64 v1.2.2])]) (by kernel_rfl) ⟨(F_s_l1Cur_pick_vrs_ok ev1), c0, trivial⟩ ?_
  refine aw_ghost (gs := []) (rn := []) (l' := [(4, .v (.c (.int .i64 (List.getD a0 (v1.1).toNat (0 : Int)))))]) (h' := [(0, .bx [.ls false (.num .u8) a1, .int .i64 v1.2.1, .int .u64 v1.2.2])]) (by kernel_rfl) ?_
  refine aw_ret (ret_ok [0] ?_)
  cases h
  kernel_rfl

theorem F_s_l1Cur_number_vln_ok {fu : Nat} {a0 : List Int} {a1 : Int} {a2 : Int} {r : Int × Int × Int} (h : F_s_l1Cur_number_vln fu a0 a1 a2 = some r) :
    ACall Try.prog 34 [.v (.c (.p 0 0))] [.bx [.ls false (.num .u8) a0, .int .i64 a1, .int .u64 a2]] [0] (.v (.c (.int .i64 r.1))) [.bx [.ls false (.num .u8) a0, .int .i64 r.2.1, .int .u64 r.2.2]] := by
  unfold F_s_l1Cur_number_vln at h
  refine acall_of_aw ttOK Try.func34 (by kernel_rfl) (c := _) rfl (N := 18) (by kernel_rfl) (Nat.le_of_ble_eq_true rfl) ?_
  refine aw_seq ?_
  refine aw_region ttOK (C := True) (hs := []) (gs := []) (rn := []) (l' := [(0, .v (.c (.p 0 0)))]) (h' := [(0, .bx [.ls false (.num .u8) a0, .int .i64 a1, .int .u64 a2])]) (by kernel_rfl) trivial ?_
  refine aw_seq ?_
  refine aw_seq ?_
  obtain ⟨v1, ev1, h⟩ := bind_some h
  refine aw_region ttOK (C := (ACall Try.prog 33 [.v (.c (.p 0 0)), .v (.c (.int .i64 (8 : Int)))] [.bx [.ls false (.num .u8) a0, .int .i64 a1, .int .u64 a2]] [0] (.v (.c (.int .i64 v1.1))) [.bx [.ls false (.num .u8) a0, .int .i64 v1.2.1, .int .u64 v1.2.2]]) ∧ True) (hs := [(1, { call := some { f := 33, casts := [.same, .same], sel := [0], kp := [0], r := .v (.c (.int .i64 v1.1)), Hout := [.bx [.ls false (.num .u8) a0, .int .i64 v1.2.1, .int .u64 v1.2.2]], ren := [0] } })]) (gs := []) (rn := []) (l' := [(0, .v (.c (.p 0 0))), (4, .v (.c (.int .i64 v1.1)))]) (h' := [(0, .bx [.ls false (.num .u8) a0, .int .i64 v1.2.1, .int .u64 v1.2.2])]) (by kernel_rfl) ⟨(F_s_l1Cur_pick_vrs_ok ev1), trivial⟩ ?_
  refine aw_block ?_
  refine aw_seq ?_
  refine aw_region ttOK (C := True) (hs := []) (gs := []) (rn := []) (l' := [(0, .v (.c (.p 0 0))), (4, .v (.c (.int .i64 v1.1))), (5, .v (.c (.bool (v1.1 == (0 : Int)))))]) (h' := [(0, .bx [.ls false (.num .u8) a0, .int .i64 v1.2.1, .int .u64 v1.2.2])]) (by kernel_rfl) trivial ?_
  refine aw_if (v1.1 == (0 : Int)) (by kernel_rfl) (fun hb => ?_) (fun hb => ?_)
  · rw [ite_t hb] at h
    refine aw_seq ?_
    obtain ⟨v3, ev3, h⟩ := bind_some h
    refine aw_region ttOK (C := (ACall Try.prog 58 [.v (.c (.p 0 0)), .v (.c (.ls false (.num .i64) ([(-1 : Int), (0 : Int), (1 : Int), (2 : Int), (1000000 : Int), (1000001 : Int)] : List Int)))] [.bx [.ls false (.num .u8) a0, .int .i64 v1.2.1, .int .u64 v1.2.2]] [0] (.v (.c (.int .i64 v3.1))) [.bx [.ls false (.num .u8) a0, .int .i64 v3.2.1, .int .u64 v3.2.2]]) ∧ True) (hs := [(1, { id := 105 }), (2, { call := some { f := 58, casts := [.same, .view], sel := [0], kp := [0], r := .v (.c (.int .i64 v3.1)), Hout := [.bx [.ls false (.num .u8) a0, .int .i64 v3.2.1, .int .u64 v3.2.2]], ren := [0] }, frz := [105] })]) (gs := []) (rn := []) (l' := [(2, .v (.c (.int .i64 v3.1)))]) (h' := [(0, .bx [.ls false (.num .u8) a0, .int .i64 v3.2.1, .int .u64 v3.2.2])]) (by kernel_rfl) ⟨(F_s_l1Cur_among_nsu_ok ev3), trivial⟩ ?_
    refine aw_ghost (gs := []) (rn := []) (l' := [(2, .v (.c (.int .i64 v3.1)))]) (h' := [(0, .bx [.ls false (.num .u8) a0, .int .i64 v3.2.1, .int .u64 v3.2.2])]) (by kernel_rfl) ?_
    refine aw_ret (ret_ok [0] ?_)
    cases h
    kernel_rfl
  · rw [ite_f hb] at h
    refine aw_seq ?_
    refine aw_region ttOK (C := True) (hs := []) (gs := []) (rn := []) (l' := [(0, .v (.c (.p 0 0))), (10, .v (.c (.bool (v1.1 == (1 : Int)))))]) (h' := [(0, .bx [.ls false (.num .u8) a0, .int .i64 v1.2.1, .int .u64 v1.2.2])]) (by kernel_rfl) trivial ?_
    refine aw_if (v1.1 == (1 : Int)) (by kernel_rfl) (fun hb => ?_) (fun hb => ?_)
    · rw [ite_t hb] at h
      refine aw_seq ?_
      obtain ⟨v4, ev4, h⟩ := bind_some h
      refine aw_region ttOK (C := (ACall Try.prog 33 [.v (.c (.p 0 0)), .v (.c (.int .i64 (1000000 : Int)))] [.bx [.ls false (.num .u8) a0, .int .i64 v1.2.1, .int .u64 v1.2.2]] [0] (.v (.c (.int .i64 v4.1))) [.bx [.ls false (.num .u8) a0, .int .i64 v4.2.1, .int .u64 v4.2.2]]) ∧ True) (hs := [(1, { call := some { f := 33, casts := [.same, .same], sel := [0], kp := [0], r := .v (.c (.int .i64 v4.1)), Hout := [.bx [.ls false (.num .u8) a0, .int .i64 v4.2.1, .int .u64 v4.2.2]], ren := [0] } })]) (gs := []) (rn := []) (l' := [(2, .v (.c (.int .i64 (IntKind.i64.wrap ((1 : Int) + v4.1)))))]) (h' := [(0, .bx [.ls false (.num .u8) a0, .int .i64 v4.2.1, .int .u64 v4.2.2])]) (by kernel_rfl) ⟨(F_s_l1Cur_pick_vrs_ok ev4), trivial⟩ ?_
      refine aw_ghost (gs := []) (rn := []) (l' := [(2, .v (.c (.int .i64 (IntKind.i64.wrap ((1 : Int) + v4.1)))))]) (h' := [(0, .bx [.ls false (.num .u8) a0, .int .i64 v4.2.1, .int .u64 v4.2.2])]) (by kernel_rfl) ?_
      refine aw_ret (ret_ok [0] ?_)
      cases h
      kernel_rfl
    · rw [ite_f hb] at h
      refine aw_ghost (gs := []) (rn := []) (l' := [(0, .v (.c (.p 0 0)))]) (h' := [(0, .bx [.ls false (.num .u8) a0, .int .i64 v1.2.1, .int .u64 v1.2.2])]) (by kernel_rfl) ?_
      refine aw_skip ?_
      refine aw_seq ?_
      obtain ⟨v5, ev5, h⟩ := bind_some h
      refine aw_region ttOK (C := (ACall Try.prog 33 [.v (.c (.p 0 0)), .v (.c (.int .i64 (120 : Int)))] [.bx [.ls false (.num .u8) a0, .int .i64 v1.2.1, .int .u64 v1.2.2]] [0] (.v (.c (.int .i64 v5.1))) [.bx [.ls false (.num .u8) a0, .int .i64 v5.2.1, .int .u64 v5.2.2]]) ∧ True) (hs := [(1, { call := some { f := 33, casts := [.same, .same], sel := [0], kp := [0], r := .v (.c (.int .i64 v5.1)), Hout := [.bx [.ls false (.num .u8) a0, .int .i64 v5.2.1, .int .u64 v5.2.2]], ren := [0] } })]) (gs := []) (rn := []) (l' := [(2, .v (.c (.int .i64 (IntKind.i64.wrap ((1 : Int) + v5.1)))))]) (h' := [(0, .bx [.ls false (.num .u8) a0, .int .i64 v5.2.1, .int .u64 v5.2.2])]) (by kernel_rfl) ⟨(F_s_l1Cur_pick_vrs_ok ev5), trivial⟩ ?_
      refine aw_ghost (gs := []) (rn := []) (l' := [(2, .v (.c (.int .i64 (IntKind.i64.wrap ((1 : Int) + v5.1)))))]) (h' := [(0, .bx [.ls false (.num .u8) a0, .int .i64 v5.2.1, .int .u64 v5.2.2])]) (by kernel_rfl) ?_
      refine aw_ret (ret_ok [0] ?_)
      cases h
      kernel_rfl

theorem F_s_l1Cur_powers_vrs_ok {fu : Nat} {a0 : Int} {a1 : List Int} {a2 : Int} {a3 : Int} {r : Int × Int × List Int} (h : F_s_l1Cur_powers_vrs fu a0 a1 a2 a3 = some r) :
    ACall Try.prog 14 [.v (.c (.p 0 0)), .v (.c (.int .i64 a0))] [.bx [.ls false (.num .u8) a1, .int .i64 a2, .int .u64 a3]] [0] (.v (.c (.ho 1))) [.bx [.ls false (.num .u8) a1, .int .i64 r.1, .int .u64 r.2.1], .vc 3 (.num .i64) r.2.2] := by
  unfold F_s_l1Cur_powers_vrs at h
  refine acall_of_aw ttOK Try.func14 (by kernel_rfl) (c := _) rfl (N := 42) (by kernel_rfl) (Nat.le_of_ble_eq_true rfl) ?_
  refine aw_seq ?_
  refine aw_region ttOK (C := True) (hs := []) (gs := []) (rn := []) (l' := [(0, .v (.c (.p 0 0))), (1, .v (.c (.int .i64 a0)))]) (h' := [(0, .bx [.ls false (.num .u8) a1, .int .i64 a2, .int .u64 a3])]) (by kernel_rfl) trivial ?_
  refine aw_seq ?_
  refine aw_region ttOK (C := True) (hs := []) (gs := []) (rn := []) (l' := [(0, .v (.c (.p 0 0))), (1, .v (.c (.int .i64 a0))), (5, .v (.c (.nl)))]) (h' := [(0, .bx [.ls false (.num .u8) a1, .int .i64 a2, .int .u64 a3])]) (by kernel_rfl) trivial ?_
  refine aw_join (X := Int × Int × List Int) (fun x => ([(0, .v (.c (.p 0 0))), (5, .v (.c (.ho 950)))], [(0, .bx [.ls false (.num .u8) a1, .int .i64 x.1, .int .u64 x.2.1]), (950, .vc 3 (.num .i64) x.2.2)])) (fun x => F_s_l1Cur_powers_vrsJ1 fu a1 x.1 x.2.1 x.2.2 = some r) ?_ ?_
  · rintro ⟨v1, v2, v3⟩ h
    unfold F_s_l1Cur_powers_vrsJ1 at h
    refine aw_join (X := Int × Int × List Int) (fun x => ([(5, .v (.c (.ho 122)))], [(0, .bx [.ls false (.num .u8) a1, .int .i64 x.1, .int .u64 x.2.1]), (122, .vc 3 (.num .i64) x.2.2)])) (fun x => F_s_l1Cur_powers_vrsJ2 fu x.1 x.2.1 x.2.2 = some r) ?_ ?_
    · rintro ⟨v4, v5, v6⟩ h
      unfold F_s_l1Cur_powers_vrsJ2 at h
      refine aw_seq ?_
      refine aw_region ttOK (C := True) (hs := []) (gs := []) (rn := []) (l' := [(4, .v (.c (.ho 122)))]) (h' := [(0, .bx [.ls false (.num .u8) a1, .int .i64 v4, .int .u64 v5]), (122, .vc 3 (.num .i64) v6)]) (by kernel_rfl) trivial ?_
      refine aw_ghost (gs := []) (rn := []) (l' := [(4, .v (.c (.ho 122)))]) (h' := [(0, .bx [.ls false (.num .u8) a1, .int .i64 v4, .int .u64 v5]), (122, .vc 3 (.num .i64) v6)]) (by kernel_rfl) ?_
      refine aw_ret (ret_ok [0, 122] ?_)
      cases h
      kernel_rfl
    · refine aw_seq ?_
      obtain ⟨v4, ev4, h⟩ := bind_some h
      refine aw_region ttOK (C := (ACall Try.prog 33 [.v (.c (.p 0 0)), .v (.c (.int .i64 (12 : Int)))] [.bx [.ls false (.num .u8) a1, .int .i64 v1, .int .u64 v2]] [0] (.v (.c (.int .i64 v4.1))) [.bx [.ls false (.num .u8) a1, .int .i64 v4.2.1, .int .u64 v4.2.2]]) ∧ True) (hs := [(1, { call := some { f := 33, casts := [.same, .same], sel := [0], kp := [0], r := .v (.c (.int .i64 v4.1)), Hout := [.bx [.ls false (.num .u8) a1, .int .i64 v4.2.1, .int .u64 v4.2.2]], ren := [0] } })]) (gs := []) (rn := []) (l' := [(0, .v (.c (.p 0 0))), (5, .v (.c (.ho 950))), (21, .v (.c (.int .i64 v4.1)))]) (h' := [(0, .bx [.ls false (.num .u8) a1, .int .i64 v4.2.1, .int .u64 v4.2.2]), (950, .vc 3 (.num .i64) v3)]) (by kernel_rfl) ⟨(F_s_l1Cur_pick_vrs_ok ev4), trivial⟩ ?_
      refine aw_block ?_
      refine aw_seq ?_
      refine aw_region ttOK (C := True) (hs := []) (gs := []) (rn := []) (l' := [(0, .v (.c (.p 0 0))), (5, .v (.c (.ho 950))), (21, .v (.c (.int .i64 v4.1))), (22, .v (.c (.bool (v4.1 == (0 : Int)))))]) (h' := [(0, .bx [.ls false (.num .u8) a1, .int .i64 v4.2.1, .int .u64 v4.2.2]), (950, .vc 3 (.num .i64) v3)]) (by kernel_rfl) trivial ?_
      refine aw_if (v4.1 == (0 : Int)) (by kernel_rfl) (fun hb => ?_) (fun hb => ?_)
      · rw [ite_t hb] at h
        obtain ⟨v5, ev5, h⟩ := bind_some h
        obtain ⟨c0, h⟩ := chk_some h
        refine aw_region ttOK (C := (ACall Try.prog 34 [.v (.c (.p 0 0))] [.bx [.ls false (.num .u8) a1, .int .i64 v4.2.1, .int .u64 v4.2.2]] [0] (.v (.c (.int .i64 v5.1))) [.bx [.ls false (.num .u8) a1, .int .i64 v5.2.1, .int .u64 v5.2.2]]) ∧ ((List.length v3 + List.length ([v5.1] : List Int)) * 8 ≤ 140737488355328) ∧ True) (hs := [(2, { call := some { f := 34, casts := [.same], sel := [0], kp := [0], r := .v (.c (.int .i64 v5.1)), Hout := [.bx [.ls false (.num .u8) a1, .int .i64 v5.2.1, .int .u64 v5.2.2]], ren := [0] } }), (3, { id := 121 }), (4, { id := 122 })]) (gs := []) (rn := []) (l' := [(5, .v (.c (.ho 122)))]) (h' := [(0, .bx [.ls false (.num .u8) a1, .int .i64 v5.2.1, .int .u64 v5.2.2]), (122, .vc 3 (.num .i64) (v3 ++ ([v5.1] : List Int)))]) (by kernel_rfl) ⟨(F_s_l1Cur_number_vln_ok ev5), c0, trivial⟩ ?_
        exact ⟨(v5.2.1, v5.2.2, (v3 ++ ([v5.1] : List Int))), h, rfl, rfl⟩
      · rw [ite_f hb] at h
        refine aw_seq ?_
        refine aw_region ttOK (C := True) (hs := []) (gs := []) (rn := []) (l' := [(0, .v (.c (.p 0 0))), (5, .v (.c (.ho 950))), (21, .v (.c (.int .i64 v4.1))), (29, .v (.c (.bool (v4.1 == (1 : Int)))))]) (h' := [(0, .bx [.ls false (.num .u8) a1, .int .i64 v4.2.1, .int .u64 v4.2.2]), (950, .vc 3 (.num .i64) v3)]) (by kernel_rfl) trivial ?_
        refine aw_if (v4.1 == (1 : Int)) (by kernel_rfl) (fun hb => ?_) (fun hb => ?_)
        · rw [ite_t hb] at h
          obtain ⟨v6, ev6, h⟩ := bind_some h
          obtain ⟨c0, h⟩ := chk_some h
          refine aw_region ttOK (C := (ACall Try.prog 33 [.v (.c (.p 0 0)), .v (.c (.int .i64 (9 : Int)))] [.bx [.ls false (.num .u8) a1, .int .i64 v4.2.1, .int .u64 v4.2.2]] [0] (.v (.c (.int .i64 v6.1))) [.bx [.ls false (.num .u8) a1, .int .i64 v6.2.1, .int .u64 v6.2.2]]) ∧ (0 ≤ v6.1 ∧ v6.1 ≤ v6.1 ∧ v6.1 * (8 : Nat) ≤ 140737488355328) ∧ True) (hs := [(1, { call := some { f := 33, casts := [.same, .same], sel := [0], kp := [0], r := .v (.c (.int .i64 v6.1)), Hout := [.bx [.ls false (.num .u8) a1, .int .i64 v6.2.1, .int .u64 v6.2.2]], ren := [0] } }), (2, { id := 127 })]) (gs := []) (rn := [(127, 122)]) (l' := [(5, .v (.c (.ho 122)))]) (h' := [(0, .bx [.ls false (.num .u8) a1, .int .i64 v6.2.1, .int .u64 v6.2.2]), (122, .vc 3 (.num .i64) (List.replicate (v6.1).toNat (0 : Int)))]) (by kernel_rfl) ⟨(F_s_l1Cur_pick_vrs_ok ev6), c0, trivial⟩ ?_
          exact ⟨(v6.2.1, v6.2.2, (List.replicate (v6.1).toNat (0 : Int))), h, rfl, rfl⟩
        · rw [ite_f hb] at h
          refine aw_seq ?_
          refine aw_region ttOK (C := True) (hs := []) (gs := []) (rn := []) (l' := [(0, .v (.c (.p 0 0))), (5, .v (.c (.ho 950))), (34, .v (.c (.bool (v4.1 == (2 : Int)))))]) (h' := [(0, .bx [.ls false (.num .u8) a1, .int .i64 v4.2.1, .int .u64 v4.2.2]), (950, .vc 3 (.num .i64) v3)]) (by kernel_rfl) trivial ?_
          refine aw_if (v4.1 == (2 : Int)) (by kernel_rfl) (fun hb => ?_) (fun hb => ?_)
          · rw [ite_t hb] at h
            obtain ⟨v7, ev7, h⟩ := bind_some h
            obtain ⟨c0, h⟩ := chk_some h
            refine aw_region ttOK (C := (ACall Try.prog 33 [.v (.c (.p 0 0)), .v (.c (.int .i64 (1000000 : Int)))] [.bx [.ls false (.num .u8) a1, .int .i64 v4.2.1, .int .u64 v4.2.2]] [0] (.v (.c (.int .i64 v7.1))) [.bx [.ls false (.num .u8) a1, .int .i64 v7.2.1, .int .u64 v7.2.2]]) ∧ (0 ≤ (0 : Int) ∧ (0 : Int) < (List.length v3 : Int)) ∧ True) (hs := [(2, { call := some { f := 33, casts := [.same, .same], sel := [0], kp := [0], r := .v (.c (.int .i64 v7.1)), Hout := [.bx [.ls false (.num .u8) a1, .int .i64 v7.2.1, .int .u64 v7.2.2]], ren := [0] } })]) (gs := []) (rn := [(950, 122)]) (l' := [(5, .v (.c (.ho 122)))]) (h' := [(0, .bx [.ls false (.num .u8) a1, .int .i64 v7.2.1, .int .u64 v7.2.2]), (122, .vc 3 (.num .i64) (List.set v3 ((0 : Int)).toNat (IntKind.i64.wrap ((1 : Int) + v7.1))))]) (by kernel_rfl) ⟨(F_s_l1Cur_pick_vrs_ok ev7), c0, trivial⟩ ?_
            exact ⟨(v7.2.1, v7.2.2, (List.set v3 ((0 : Int)).toNat (IntKind.i64.wrap ((1 : Int) + v7.1)))), h, rfl, rfl⟩
          · rw [ite_f hb] at h
            refine aw_ghost (gs := []) (rn := [(950, 122)]) (l' := [(5, .v (.c (.ho 122)))]) (h' := [(0, .bx [.ls false (.num .u8) a1, .int .i64 v4.2.1, .int .u64 v4.2.2]), (122, .vc 3 (.num .i64) v3)]) (by kernel_rfl) ?_
            refine aw_skip ?_
            exact ⟨(v4.2.1, v4.2.2, v3), h, rfl, rfl⟩
  · refine aw_seq ?_
    obtain ⟨v1, ev1, h⟩ := bind_some h
    refine aw_region ttOK (C := (ACall Try.prog 33 [.v (.c (.p 0 0)), .v (.c (.int .i64 a0))] [.bx [.ls false (.num .u8) a1, .int .i64 a2, .int .u64 a3]] [0] (.v (.c (.int .i64 v1.1))) [.bx [.ls false (.num .u8) a1, .int .i64 v1.2.1, .int .u64 v1.2.2]]) ∧ True) (hs := [(2, { call := some { f := 33, casts := [.same, .same], sel := [0], kp := [0], r := .v (.c (.int .i64 v1.1)), Hout := [.bx [.ls false (.num .u8) a1, .int .i64 v1.2.1, .int .u64 v1.2.2]], ren := [0] } })]) (gs := []) (rn := []) (l' := [(0, .v (.c (.p 0 0))), (5, .v (.c (.nl))), (6, .v (.c (.int .i64 (IntKind.i64.wrap ((1 : Int) + v1.1)))))]) (h' := [(0, .bx [.ls false (.num .u8) a1, .int .i64 v1.2.1, .int .u64 v1.2.2])]) (by kernel_rfl) ⟨(F_s_l1Cur_pick_vrs_ok ev1), trivial⟩ ?_
    refine aw_block ?_
    refine aw_ghost (gs := [.own 5 950 3 (.num .i64)]) (rn := []) (l' := [(0, .v (.c (.p 0 0))), (5, .v (.c (.ho 950))), (6, .v (.c (.int .i64 (IntKind.i64.wrap ((1 : Int) + v1.1)))))]) (h' := [(0, .bx [.ls false (.num .u8) a1, .int .i64 v1.2.1, .int .u64 v1.2.2]), (950, .vc 3 (.num .i64) ([] : List Int))]) (by kernel_rfl) ?_
    refine aw_loopF (X := Int × Int × Int × List Int) (fun x => ([(0, .v (.c (.p 0 0))), (5, .v (.c (.ho 950))), (6, .v (.c (.int .i64 x.1)))], [(0, .bx [.ls false (.num .u8) a1, .int .i64 x.2.1, .int .u64 x.2.2.1]), (950, .vc 3 (.num .i64) x.2.2.2)])) (fun n x => F_s_l1Cur_powers_vrsL3 fu a1 n x.1 x.2.1 x.2.2.1 x.2.2.2 = some r) fu ((IntKind.i64.wrap ((1 : Int) + v1.1)), v1.2.1, v1.2.2, ([] : List Int)) h ?_
    rintro n3 ⟨v6, v7, v8, v9⟩ h
    cases n3 with
    | zero => first | cases h | (rw [F_s_l1Cur_powers_vrsL3] at h; cases h)
    | succ n3 =>
      rw [F_s_l1Cur_powers_vrsL3] at h
      refine aw_seq ?_
      refine aw_seq ?_
      refine aw_region ttOK (C := True) (hs := []) (gs := []) (rn := []) (l' := [(0, .v (.c (.p 0 0))), (5, .v (.c (.ho 950))), (6, .v (.c (.int .i64 v6))), (12, .v (.c (.bool (decide (v6 > (0 : Int))))))]) (h' := [(0, .bx [.ls false (.num .u8) a1, .int .i64 v7, .int .u64 v8]), (950, .vc 3 (.num .i64) v9)]) (by kernel_rfl) trivial ?_
      refine aw_if (decide (v6 > (0 : Int))) (by kernel_rfl) (fun hb => ?_) (fun hb => ?_)
      · rw [ite_t hb] at h
        refine aw_ghost (gs := []) (rn := []) (l' := [(0, .v (.c (.p 0 0))), (5, .v (.c (.ho 950))), (6, .v (.c (.int .i64 v6)))]) (h' := [(0, .bx [.ls false (.num .u8) a1, .int .i64 v7, .int .u64 v8]), (950, .vc 3 (.num .i64) v9)]) (by kernel_rfl) ?_
        refine aw_skip ?_
        refine aw_seq ?_
        refine aw_block ?_
        obtain ⟨v10, ev10, h⟩ := bind_some h
        obtain ⟨c0, h⟩ := chk_some h
        refine aw_region ttOK (C := (ACall Try.prog 33 [.v (.c (.p 0 0)), .v (.c (.int .i64 (40 : Int)))] [.bx [.ls false (.num .u8) a1, .int .i64 v7, .int .u64 v8]] [0] (.v (.c (.int .i64 v10.1))) [.bx [.ls false (.num .u8) a1, .int .i64 v10.2.1, .int .u64 v10.2.2]]) ∧ ((List.length v9 + List.length ([v10.1] : List Int)) * 8 ≤ 140737488355328) ∧ True) (hs := [(2, { call := some { f := 33, casts := [.same, .same], sel := [0], kp := [0], r := .v (.c (.int .i64 v10.1)), Hout := [.bx [.ls false (.num .u8) a1, .int .i64 v10.2.1, .int .u64 v10.2.2]], ren := [0] } }), (3, { id := 110 }), (4, { id := 111 })]) (gs := []) (rn := []) (l' := [(0, .v (.c (.p 0 0))), (5, .v (.c (.ho 111))), (6, .v (.c (.int .i64 v6)))]) (h' := [(0, .bx [.ls false (.num .u8) a1, .int .i64 v10.2.1, .int .u64 v10.2.2]), (111, .vc 3 (.num .i64) (v9 ++ ([v10.1] : List Int)))]) (by kernel_rfl) ⟨(F_s_l1Cur_pick_vrs_ok ev10), c0, trivial⟩ ?_
        refine aw_region ttOK (C := True) (hs := []) (gs := []) (rn := [(111, 950)]) (l' := [(0, .v (.c (.p 0 0))), (5, .v (.c (.ho 950))), (6, .v (.c (.int .i64 (IntKind.i64.wrap (v6 - (1 : Int))))))]) (h' := [(0, .bx [.ls false (.num .u8) a1, .int .i64 v10.2.1, .int .u64 v10.2.2]), (950, .vc 3 (.num .i64) (v9 ++ ([v10.1] : List Int)))]) (by kernel_rfl) trivial ?_
        exact ⟨_, ((IntKind.i64.wrap (v6 - (1 : Int))), v10.2.1, v10.2.2, (v9 ++ ([v10.1] : List Int))), Nat.lt_succ_self _, h, rfl, rfl⟩
      · rw [ite_f hb] at h
        refine aw_ghost (gs := []) (rn := []) (l' := [(0, .v (.c (.p 0 0))), (5, .v (.c (.ho 950)))]) (h' := [(0, .bx [.ls false (.num .u8) a1, .int .i64 v7, .int .u64 v8]), (950, .vc 3 (.num .i64) v9)]) (by kernel_rfl) ?_
        refine aw_exit ?_
        exact ⟨(v7, v8, v9), h, rfl, rfl⟩

theorem F_s_DrawVectorPlan_ok {fu : Nat} {a0 : List Int} {r : List Int} (h : F_s_DrawVectorPlan fu a0 = some r) :
    ACall Try.prog 5 [.v (.c (.ls false (.num .u8) a0))] [] [] (.v (.c (.ho 0))) [.vc 3 (.num .i64) r] := by
  unfold F_s_DrawVectorPlan at h
  refine acall_of_aw ttOK Try.func5 (by kernel_rfl) (c := _) rfl (N := 9) (by kernel_rfl) (Nat.le_of_ble_eq_true rfl) ?_
  refine aw_seq ?_
  refine aw_region ttOK (C := True) (hs := []) (gs := []) (rn := []) (l' := [(0, .v (.c (.ls false (.num .u8) a0)))]) (h' := []) (by kernel_rfl) trivial ?_
  refine aw_seq ?_
  refine aw_region ttOK (C := True) (hs := [(2, { id := 103 })]) (gs := []) (rn := []) (l' := [(3, .v (.c (.p 103 0)))]) (h' := [(103, .bx [.ls false (.num .u8) a0, .int .i64 (0 : Int), .int .u64 (0 : Int)])]) (by kernel_rfl) trivial ?_
  refine aw_seq ?_
  obtain ⟨v1, ev1, h⟩ := bind_some h
  refine aw_region ttOK (C := (ACall Try.prog 14 [.v (.c (.p 0 0)), .v (.c (.int .i64 (4 : Int)))] [.bx [.ls false (.num .u8) a0, .int .i64 (0 : Int), .int .u64 (0 : Int)]] [0] (.v (.c (.ho 1))) [.bx [.ls false (.num .u8) a0, .int .i64 v1.1, .int .u64 v1.2.1], .vc 3 (.num .i64) v1.2.2]) ∧ True) (hs := [(1, { call := some { f := 14, casts := [.same, .same], sel := [103], kp := [0], r := .v (.c (.ho 1)), Hout := [.bx [.ls false (.num .u8) a0, .int .i64 v1.1, .int .u64 v1.2.1], .vc 3 (.num .i64) v1.2.2], ren := [103, 106] } })]) (gs := []) (rn := []) (l' := [(2, .v (.c (.ho 106)))]) (h' := [(106, .vc 3 (.num .i64) v1.2.2)]) (by kernel_rfl) ⟨(F_s_l1Cur_powers_vrs_ok ev1), trivial⟩ ?_
  refine aw_ghost (gs := []) (rn := []) (l' := [(2, .v (.c (.ho 106)))]) (h' := [(106, .vc 3 (.num .i64) v1.2.2)]) (by kernel_rfl) ?_
  refine aw_ret (ret_ok [106] ?_)
  cases h
  kernel_rfl

theorem F_i_in_ok {fu : Nat} {a0 : Int} {a1 : Int} {a2 : Int} {r : Bool} (h : F_i_in fu a0 a1 a2 = some r) :
    ACall Try.prog 19 [.v (.c (.int .i64 a0)), .v (.c (.int .i64 a1)), .v (.c (.int .i64 a2))] [] [] (.v (.c (.bool r))) [] := by
  unfold F_i_in at h
  refine acall_of_aw ttOK Try.func19 (by kernel_rfl) (c := _) rfl (N := 15) (by kernel_rfl) (Nat.le_of_ble_eq_true rfl) ?_
  refine aw_seq ?_
  refine aw_region ttOK (C := True) (hs := []) (gs := []) (rn := []) (l' := [(0, .v (.c (.int .i64 a0))), (1, .v (.c (.int .i64 a1))), (2, .v (.c (.int .i64 a2)))]) (h' := []) (by kernel_rfl) trivial ?_
  refine aw_seq ?_
  refine aw_region ttOK (C := (((decide (a0 ≥ a1)) == true) = true → ((decide (a0 ≥ a1)) == true) = true) ∧ (((decide (a0 ≥ a1)) == true) = true → ((decide (a0 ≥ a1)) == true) = true) ∧ ((decide (a0 ≥ a1)) = true → ((decide (a0 ≥ a1)) == true) = true) ∧ True) (hs := []) (gs := []) (rn := []) (l' := [(6, .v (.c (.bool (cond (decide (a0 ≥ a1)) (decide (a0 ≤ a2)) false))))]) (h' := []) (by kernel_rfl) ⟨(fun h => h), (fun h => h), (fun h => beq_iff_eq.2 h), trivial⟩ ?_
  refine aw_ghost (gs := []) (rn := []) (l' := [(6, .v (.c (.bool (cond (decide (a0 ≥ a1)) (decide (a0 ≤ a2)) false))))]) (h' := []) (by kernel_rfl) ?_
  refine aw_ret (ret_ok [] ?_)
  cases h
  kernel_rfl

theorem F_i_isNumber_ok {fu : Nat} {a0 : Int} {r : Bool} (h : F_i_isNumber fu a0 = some r) :
    ACall Try.prog 22 [.v (.c (.int .i64 a0))] [] [] (.v (.c (.bool r))) [] := by
  unfold F_i_isNumber at h
  refine acall_of_aw ttOK Try.func22 (by kernel_rfl) (c := _) rfl (N := 5) (by kernel_rfl) (Nat.le_of_ble_eq_true rfl) ?_
  refine aw_seq ?_
  refine aw_region ttOK (C := True) (hs := []) (gs := []) (rn := []) (l' := [(0, .v (.c (.int .i64 a0)))]) (h' := []) (by kernel_rfl) trivial ?_
  refine aw_seq ?_
  obtain ⟨v1, ev1, h⟩ := bind_some h
  refine aw_region ttOK (C := (ACall Try.prog 19 [.v (.c (.int .i64 a0)), .v (.c (.int .i64 (1 : Int))), .v (.c (.int .i64 (1000000 : Int)))] [] [] (.v (.c (.bool v1))) []) ∧ True) (hs := [(1, { call := some { f := 19, casts := [.same, .same, .same], r := .v (.c (.bool v1)) } })]) (gs := []) (rn := []) (l' := [(2, .v (.c (.bool v1)))]) (h' := []) (by kernel_rfl) ⟨(F_i_in_ok ev1), trivial⟩ ?_
  refine aw_ghost (gs := []) (rn := []) (l' := [(2, .v (.c (.bool v1)))]) (h' := []) (by kernel_rfl) ?_
  refine aw_ret (ret_ok [] ?_)
  cases h
  kernel_rfl

theorem F_i_SquaresPlan_c1_ok {fu : Nat} {a0 : Int} {r : Bool} (h : F_i_SquaresPlan_c1 fu a0 = some r) :
    ACall Try.prog 21 [.v (.c (.int .i64 a0))] [] [] (.v (.c (.bool r))) [] := by
  unfold F_i_SquaresPlan_c1 at h
  refine acall_of_aw ttOK Try.func21 (by kernel_rfl) (c := _) rfl (N := 6) (by kernel_rfl) (Nat.le_of_ble_eq_true rfl) ?_
  refine aw_seq ?_
  refine aw_region ttOK (C := True) (hs := []) (gs := []) (rn := []) (l' := [(0, .v (.c (.int .i64 a0)))]) (h' := []) (by kernel_rfl) trivial ?_
  refine aw_seq ?_
  obtain ⟨v1, ev1, h⟩ := bind_some h
  refine aw_region ttOK (C := (ACall Try.prog 22 [.v (.c (.int .i64 a0))] [] [] (.v (.c (.bool v1))) []) ∧ True) (hs := [(1, { call := some { f := 22, casts := [.same], r := .v (.c (.bool v1)) } })]) (gs := []) (rn := []) (l' := [(2, .v (.c (.bool (!v1))))]) (h' := []) (by kernel_rfl) ⟨(F_i_isNumber_ok ev1), trivial⟩ ?_
  refine aw_ghost (gs := []) (rn := []) (l' := [(2, .v (.c (.bool (!v1))))]) (h' := []) (by kernel_rfl) ?_
  refine aw_ret (ret_ok [] ?_)
  cases h
  kernel_rfl

theorem F_slices_IndexFunc_Lint_int_ils_ok {fu : Nat} {a0 : List Int} {r : Int} (h : F_slices_IndexFunc_Lint_int_ils fu a0 = some r) :
    ACall Try.prog 47 [.v (.c (.ls false (.num .i64) a0)), .v (.c (.fn 21 []))] [] [] (.v (.c (.int .i64 r))) [] := by
  unfold F_slices_IndexFunc_Lint_int_ils at h
  refine acall_of_aw ttOK Try.func47 (by kernel_rfl) (c := _) rfl (N := 19) (by kernel_rfl) (Nat.le_of_ble_eq_true rfl) ?_
  refine aw_seq ?_
  refine aw_region ttOK (C := True) (hs := []) (gs := []) (rn := []) (l' := [(0, .v (.c (.ls false (.num .i64) a0))), (1, .v (.c (.fn 21 [])))]) (h' := []) (by kernel_rfl) trivial ?_
  refine aw_join (X := Unit) (fun x => ([], [])) (fun x => F_slices_IndexFunc_Lint_int_ilsJ1 fu = some r) ?_ ?_
  · rintro _ h
    unfold F_slices_IndexFunc_Lint_int_ilsJ1 at h
    refine aw_seq ?_
    refine aw_region ttOK (C := True) (hs := []) (gs := []) (rn := []) (l' := [(4, .v (.c (.int .i64 (-1 : Int))))]) (h' := []) (by kernel_rfl) trivial ?_
    refine aw_ghost (gs := []) (rn := []) (l' := [(4, .v (.c (.int .i64 (-1 : Int))))]) (h' := []) (by kernel_rfl) ?_
    refine aw_ret (ret_ok [] ?_)
    cases h
    kernel_rfl
  · refine aw_seq ?_
    refine aw_region ttOK (C := True) (hs := []) (gs := []) (rn := []) (l' := [(0, .v (.c (.ls false (.num .i64) a0))), (1, .v (.c (.fn 21 []))), (7, .v (.c (.int .i64 (List.length a0 : Int)))), (8, .v (.c (.int .i64 (0 : Int))))]) (h' := []) (by kernel_rfl) trivial ?_
    refine aw_block ?_
    refine aw_loopF (X := Int) (fun x => ([(0, .v (.c (.ls false (.num .i64) a0))), (1, .v (.c (.fn 21 []))), (7, .v (.c (.int .i64 (List.length a0 : Int)))), (8, .v (.c (.int .i64 x)))], [])) (fun n x => F_slices_IndexFunc_Lint_int_ilsL2 fu a0 n x = some r) fu (0 : Int) h ?_
    rintro n2 v2 h
    cases n2 with
    | zero => first | cases h | (rw [F_slices_IndexFunc_Lint_int_ilsL2] at h; cases h)
    | succ n2 =>
      rw [F_slices_IndexFunc_Lint_int_ilsL2] at h
      refine aw_seq ?_
      refine aw_region ttOK (C := True) (hs := []) (gs := []) (rn := []) (l' := [(0, .v (.c (.ls false (.num .i64) a0))), (1, .v (.c (.fn 21 []))), (7, .v (.c (.int .i64 (List.length a0 : Int)))), (8, .v (.c (.int .i64 v2))), (9, .v (.c (.bool (decide (v2 < (List.length a0 : Int))))))]) (h' := []) (by kernel_rfl) trivial ?_
      refine aw_seq ?_
      refine aw_if (decide (v2 < (List.length a0 : Int))) (by kernel_rfl) (fun hb => ?_) (fun hb => ?_)
      · rw [ite_t hb] at h
        refine aw_ghost (gs := []) (rn := []) (l' := [(0, .v (.c (.ls false (.num .i64) a0))), (1, .v (.c (.fn 21 []))), (7, .v (.c (.int .i64 (List.length a0 : Int)))), (8, .v (.c (.int .i64 v2)))]) (h' := []) (by kernel_rfl) ?_
        refine aw_skip ?_
        refine aw_seq ?_
        refine aw_block ?_
        refine aw_seq ?_
        refine aw_region ttOK (C := True) (hs := []) (gs := []) (rn := []) (l' := [(0, .v (.c (.ls false (.num .i64) a0))), (1, .v (.c (.fn 21 []))), (5, .v (.c (.int .i64 v2))), (7, .v (.c (.int .i64 (List.length a0 : Int)))), (8, .v (.c (.int .i64 v2)))]) (h' := []) (by kernel_rfl) trivial ?_
        refine aw_seq ?_
        obtain ⟨c0, h⟩ := chk_some h
        obtain ⟨v3, ev3, h⟩ := bind_some h
        refine aw_region ttOK (C := (0 ≤ v2 ∧ v2 < (List.length a0 : Int)) ∧ (ACall Try.prog 21 [.v (.c (.int .i64 (List.getD a0 (v2).toNat (0 : Int))))] [] [] (.v (.c (.bool v3))) []) ∧ True) (hs := [(5, { call := some { f := 21, casts := [.same], r := .v (.c (.bool v3)) } })]) (gs := []) (rn := []) (l' := [(0, .v (.c (.ls false (.num .i64) a0))), (1, .v (.c (.fn 21 []))), (5, .v (.c (.int .i64 v2))), (7, .v (.c (.int .i64 (List.length a0 : Int)))), (8, .v (.c (.int .i64 v2))), (16, .v (.c (.bool v3)))]) (h' := []) (by kernel_rfl) ⟨c0, (F_i_SquaresPlan_c1_ok ev3), trivial⟩ ?_
        refine aw_if v3 (by kernel_rfl) (fun hb => ?_) (fun hb => ?_)
        · rw [ite_t hb] at h
          refine aw_seq ?_
          refine aw_region ttOK (C := True) (hs := []) (gs := []) (rn := []) (l' := [(4, .v (.c (.int .i64 v2)))]) (h' := []) (by kernel_rfl) trivial ?_
          refine aw_ghost (gs := []) (rn := []) (l' := [(4, .v (.c (.int .i64 v2)))]) (h' := []) (by kernel_rfl) ?_
          refine aw_ret (ret_ok [] ?_)
          cases h
          kernel_rfl
        · rw [ite_f hb] at h
          refine aw_ghost (gs := []) (rn := []) (l' := [(0, .v (.c (.ls false (.num .i64) a0))), (1, .v (.c (.fn 21 []))), (7, .v (.c (.int .i64 (List.length a0 : Int)))), (8, .v (.c (.int .i64 v2)))]) (h' := []) (by kernel_rfl) ?_
          refine aw_skip ?_
          refine aw_region ttOK (C := True) (hs := []) (gs := []) (rn := []) (l' := [(0, .v (.c (.ls false (.num .i64) a0))), (1, .v (.c (.fn 21 []))), (7, .v (.c (.int .i64 (List.length a0 : Int)))), (8, .v (.c (.int .i64 (IntKind.i64.wrap (v2 + (1 : Int))))))]) (h' := []) (by kernel_rfl) trivial ?_
          exact ⟨_, (IntKind.i64.wrap (v2 + (1 : Int))), Nat.lt_succ_self _, h, rfl, rfl⟩
      · rw [ite_f hb] at h
        refine aw_ghost (gs := []) (rn := []) (l' := []) (h' := []) (by kernel_rfl) ?_
        refine aw_exit ?_
        exact ⟨(), h, rfl, rfl⟩

theorem F_slices_ContainsFunc_Lint_int_ils_ok {fu : Nat} {a0 : List Int} {r : Bool} (h : F_slices_ContainsFunc_Lint_int_ils fu a0 = some r) :
    ACall Try.prog 20 [.v (.c (.ls false (.num .i64) a0)), .v (.c (.fn 21 []))] [] [] (.v (.c (.bool r))) [] := by
  unfold F_slices_ContainsFunc_Lint_int_ils at h
  refine acall_of_aw ttOK Try.func20 (by kernel_rfl) (c := _) rfl (N := 9) (by kernel_rfl) (Nat.le_of_ble_eq_true rfl) ?_
  refine aw_seq ?_
  refine aw_region ttOK (C := True) (hs := []) (gs := []) (rn := []) (l' := [(0, .v (.c (.ls false (.num .i64) a0))), (1, .v (.c (.fn 21 [])))]) (h' := []) (by kernel_rfl) trivial ?_
  refine aw_seq ?_
  obtain ⟨v1, ev1, h⟩ := bind_some h
  refine aw_region ttOK (C := (ACall Try.prog 47 [.v (.c (.ls false (.num .i64) a0)), .v (.c (.fn 21 []))] [] [] (.v (.c (.int .i64 v1))) []) ∧ True) (hs := [(2, { call := some { f := 47, casts := [.same, .same], r := .v (.c (.int .i64 v1)) } })]) (gs := []) (rn := []) (l' := [(4, .v (.c (.bool (decide (v1 ≥ (0 : Int))))))]) (h' := []) (by kernel_rfl) ⟨(F_slices_IndexFunc_Lint_int_ils_ok ev1), trivial⟩ ?_
  refine aw_ghost (gs := []) (rn := []) (l' := [(4, .v (.c (.bool (decide (v1 ≥ (0 : Int))))))]) (h' := []) (by kernel_rfl) ?_
  refine aw_ret (ret_ok [] ?_)
  cases h
  kernel_rfl

theorem F_i_newMaker_ok {fu : Nat} {a0 : Int} {r : Unit} (h : F_i_newMaker fu a0 = some r) :
    ACall Try.prog 23 [.v (.c (.int .i64 a0))] [] [] (.v (.c (.p 0 0))) [.bx [.int .i64 a0, .nl, .nl]] := by
  unfold F_i_newMaker at h
  refine acall_of_aw ttOK Try.func23 (by kernel_rfl) (c := _) rfl (N := 7) (by kernel_rfl) (Nat.le_of_ble_eq_true rfl) ?_
  refine aw_seq ?_
  refine aw_region ttOK (C := True) (hs := []) (gs := []) (rn := []) (l' := [(0, .v (.c (.int .i64 a0)))]) (h' := []) (by kernel_rfl) trivial ?_
  refine aw_seq ?_
  refine aw_region ttOK (C := True) (hs := [(3, { id := 104 })]) (gs := []) (rn := []) (l' := [(2, .v (.c (.p 104 0)))]) (h' := [(104, .bx [.int .i64 a0, .nl, .nl])]) (by kernel_rfl) trivial ?_
  refine aw_ghost (gs := []) (rn := []) (l' := [(2, .v (.c (.p 104 0)))]) (h' := [(104, .bx [.int .i64 a0, .nl, .nl])]) (by kernel_rfl) ?_
  refine aw_ret (ret_ok [104] ?_)
  cases h
  kernel_rfl

theorem F_slices_Max_Lint_int_ok {fu : Nat} {a0 : List Int} {r : Int} (h : F_slices_Max_Lint_int fu a0 = some r) :
    ACall Try.prog 25 [.v (.c (.ls false (.num .i64) a0))] [] [] (.v (.c (.int .i64 r))) [] := by
  unfold F_slices_Max_Lint_int at h
  refine acall_of_aw ttOK Try.func25 (by kernel_rfl) (c := _) rfl (N := 25) (by kernel_rfl) (Nat.le_of_ble_eq_true rfl) ?_
  refine aw_seq ?_
  refine aw_region ttOK (C := True) (hs := []) (gs := []) (rn := []) (l' := [(0, .v (.c (.ls false (.num .i64) a0)))]) (h' := []) (by kernel_rfl) trivial ?_
  refine aw_seq ?_
  refine aw_seq ?_
  refine aw_region ttOK (C := True) (hs := []) (gs := []) (rn := []) (l' := [(0, .v (.c (.ls false (.num .i64) a0))), (7, .v (.c (.bool (decide ((List.length a0 : Int) < (1 : Int))))))]) (h' := []) (by kernel_rfl) trivial ?_
  refine aw_if (decide ((List.length a0 : Int) < (1 : Int))) (by kernel_rfl) (fun hb => ?_) (fun hb => ?_)
  · rw [ite_t hb] at h
    cases h
  · rw [ite_f hb] at h
    refine aw_ghost (gs := []) (rn := []) (l' := [(0, .v (.c (.ls false (.num .i64) a0)))]) (h' := []) (by kernel_rfl) ?_
    refine aw_skip ?_
    refine aw_seq ?_
    obtain ⟨c0, h⟩ := chk_some h
    refine aw_region ttOK (C := (0 ≤ (0 : Int) ∧ (0 : Int) < (List.length a0 : Int)) ∧ True) (hs := []) (gs := []) (rn := []) (l' := [(0, .v (.c (.ls false (.num .i64) a0))), (3, .v (.c (.int .i64 (List.getD a0 ((0 : Int)).toNat (0 : Int)))))]) (h' := []) (by kernel_rfl) ⟨c0, trivial⟩ ?_
    refine aw_join (X := Int) (fun x => ([(3, .v (.c (.int .i64 x)))], [])) (fun x => F_slices_Max_Lint_intJ1 fu x = some r) ?_ ?_
    · rintro v1 h
      unfold F_slices_Max_Lint_intJ1 at h
      refine aw_seq ?_
      refine aw_region ttOK (C := True) (hs := []) (gs := []) (rn := []) (l' := [(2, .v (.c (.int .i64 v1)))]) (h' := []) (by kernel_rfl) trivial ?_
      refine aw_ghost (gs := []) (rn := []) (l' := [(2, .v (.c (.int .i64 v1)))]) (h' := []) (by kernel_rfl) ?_
      refine aw_ret (ret_ok [] ?_)
      cases h
      kernel_rfl
    · refine aw_seq ?_
      refine aw_region ttOK (C := True) (hs := []) (gs := []) (rn := []) (l' := [(0, .v (.c (.ls false (.num .i64) a0))), (3, .v (.c (.int .i64 (List.getD a0 ((0 : Int)).toNat (0 : Int))))), (4, .v (.c (.int .i64 (1 : Int))))]) (h' := []) (by kernel_rfl) trivial ?_
      refine aw_block ?_
      refine aw_loopF (X := Int × Int) (fun x => ([(0, .v (.c (.ls false (.num .i64) a0))), (3, .v (.c (.int .i64 x.1))), (4, .v (.c (.int .i64 x.2)))], [])) (fun n x => F_slices_Max_Lint_intL2 fu a0 n x.1 x.2 = some r) fu ((List.getD a0 ((0 : Int)).toNat (0 : Int)), (1 : Int)) h ?_
      rintro n2 ⟨v3, v4⟩ h
      cases n2 with
      | zero => first | cases h | (rw [F_slices_Max_Lint_intL2] at h; cases h)
      | succ n2 =>
        rw [F_slices_Max_Lint_intL2] at h
        refine aw_seq ?_
        refine aw_seq ?_
        refine aw_region ttOK (C := True) (hs := []) (gs := []) (rn := []) (l' := [(0, .v (.c (.ls false (.num .i64) a0))), (3, .v (.c (.int .i64 v3))), (4, .v (.c (.int .i64 v4))), (15, .v (.c (.bool (decide (v4 < (List.length a0 : Int))))))]) (h' := []) (by kernel_rfl) trivial ?_
        refine aw_if (decide (v4 < (List.length a0 : Int))) (by kernel_rfl) (fun hb => ?_) (fun hb => ?_)
        · rw [ite_t hb] at h
          refine aw_ghost (gs := []) (rn := []) (l' := [(0, .v (.c (.ls false (.num .i64) a0))), (3, .v (.c (.int .i64 v3))), (4, .v (.c (.int .i64 v4)))]) (h' := []) (by kernel_rfl) ?_
          refine aw_skip ?_
          refine aw_seq ?_
          refine aw_block ?_
          obtain ⟨c0, h⟩ := chk_some h
          refine aw_region ttOK (C := (0 ≤ v4 ∧ v4 < (List.length a0 : Int)) ∧ True) (hs := []) (gs := []) (rn := []) (l' := [(0, .v (.c (.ls false (.num .i64) a0))), (3, .v (.c (.int .i64 (if (List.getD a0 (v4).toNat (0 : Int)) > v3 then (List.getD a0 (v4).toNat (0 : Int)) else v3)))), (4, .v (.c (.int .i64 v4)))]) (h' := []) (by kernel_rfl) ⟨c0, trivial⟩ ?_
          refine aw_region ttOK (C := True) (hs := []) (gs := []) (rn := []) (l' := [(0, .v (.c (.ls false (.num .i64) a0))), (3, .v (.c (.int .i64 (if (List.getD a0 (v4).toNat (0 : Int)) > v3 then (List.getD a0 (v4).toNat (0 : Int)) else v3)))), (4, .v (.c (.int .i64 (IntKind.i64.wrap (v4 + (1 : Int))))))]) (h' := []) (by kernel_rfl) trivial ?_
          exact ⟨_, ((if (List.getD a0 (v4).toNat (0 : Int)) > v3 then (List.getD a0 (v4).toNat (0 : Int)) else v3), (IntKind.i64.wrap (v4 + (1 : Int)))), Nat.lt_succ_self _, h, rfl, rfl⟩
        · rw [ite_f hb] at h
          refine aw_ghost (gs := []) (rn := []) (l' := [(3, .v (.c (.int .i64 v3)))]) (h' := []) (by kernel_rfl) ?_
          refine aw_exit ?_
          exact ⟨v3, h, rfl, rfl⟩

theorem F_bits_Len64_ok {fu : Nat} {a0 : Int} {r : Int} (h : F_bits_Len64 fu a0 = some r) :
    ACall Try.prog 49 [.v (.c (.int .u64 a0))] [] [] (.v (.c (.int .i64 r))) [] := by
  unfold F_bits_Len64 at h
  refine acall_of_aw ttOK Try.func49 (by kernel_rfl) (c := _) rfl (N := 25) (by kernel_rfl) (Nat.le_of_ble_eq_true rfl) ?_
  refine aw_seq ?_
  refine aw_region ttOK (C := True) (hs := []) (gs := []) (rn := []) (l' := [(0, .v (.c (.int .u64 a0))), (2, .v (.c (.int .i64 (0 : Int))))]) (h' := []) (by kernel_rfl) trivial ?_
  refine aw_join (X := Int × Int) (fun x => ([(0, .v (.c (.int .u64 x.1))), (2, .v (.c (.int .i64 x.2)))], [])) (fun x => F_bits_Len64J1 fu x.1 x.2 = some r) ?_ ?_
  · rintro ⟨v1, v2⟩ h
    unfold F_bits_Len64J1 at h
    refine aw_join (X := Int × Int) (fun x => ([(0, .v (.c (.int .u64 x.1))), (2, .v (.c (.int .i64 x.2)))], [])) (fun x => F_bits_Len64J2 fu x.1 x.2 = some r) ?_ ?_
    · rintro ⟨v3, v4⟩ h
      unfold F_bits_Len64J2 at h
      refine aw_join (X := Int × Int) (fun x => ([(0, .v (.c (.int .u64 x.1))), (2, .v (.c (.int .i64 x.2)))], [])) (fun x => F_bits_Len64J3 fu x.1 x.2 = some r) ?_ ?_
      · rintro ⟨v5, v6⟩ h
        unfold F_bits_Len64J3 at h
        refine aw_seq ?_
        obtain ⟨c0, h⟩ := chk_some h
        refine aw_region ttOK (C := (0 ≤ (IntKind.u8.wrap v5) ∧ (IntKind.u8.wrap v5) < (ByteArray.size strtab_gddnig : Int)) ∧ True) (hs := []) (gs := []) (rn := []) (l' := [(2, .v (.c (.int .i64 (IntKind.i64.wrap (v6 + (IntKind.i64.wrap (((List.getD strtab_gddnig.data.toList ((IntKind.u8.wrap v5)).toNat 0).toNat : Nat) : Int)))))))]) (h' := []) (by kernel_rfl) ⟨c0, trivial⟩ ?_
        refine aw_ghost (gs := []) (rn := []) (l' := [(2, .v (.c (.int .i64 (IntKind.i64.wrap (v6 + (IntKind.i64.wrap (((List.getD strtab_gddnig.data.toList ((IntKind.u8.wrap v5)).toNat 0).toNat : Nat) : Int)))))))]) (h' := []) (by kernel_rfl) ?_
        refine aw_ret (ret_ok [] ?_)
        cases h
        kernel_rfl
      · refine aw_seq ?_
        refine aw_region ttOK (C := True) (hs := []) (gs := []) (rn := []) (l' := [(0, .v (.c (.int .u64 v3))), (2, .v (.c (.int .i64 v4))), (14, .v (.c (.bool (decide (v3 ≥ (256 : Int))))))]) (h' := []) (by kernel_rfl) trivial ?_
        refine aw_if (decide (v3 ≥ (256 : Int))) (by kernel_rfl) (fun hb => ?_) (fun hb => ?_)
        · rw [ite_t hb] at h
          refine aw_seq ?_
          refine aw_region ttOK (C := (0 ≤ (8 : Int)) ∧ True) (hs := []) (gs := []) (rn := []) (l' := [(0, .v (.c (.int .u64 (shrI .u64 v3 (8 : Int))))), (2, .v (.c (.int .i64 v4)))]) (h' := []) (by kernel_rfl) ⟨(by decide), trivial⟩ ?_
          refine aw_region ttOK (C := True) (hs := []) (gs := []) (rn := []) (l' := [(0, .v (.c (.int .u64 (shrI .u64 v3 (8 : Int))))), (2, .v (.c (.int .i64 (IntKind.i64.wrap (v4 + (8 : Int))))))]) (h' := []) (by kernel_rfl) trivial ?_
          exact ⟨((shrI .u64 v3 (8 : Int)), (IntKind.i64.wrap (v4 + (8 : Int)))), h, rfl, rfl⟩
        · rw [ite_f hb] at h
          refine aw_ghost (gs := []) (rn := []) (l' := [(0, .v (.c (.int .u64 v3))), (2, .v (.c (.int .i64 v4)))]) (h' := []) (by kernel_rfl) ?_
          refine aw_skip ?_
          exact ⟨(v3, v4), h, rfl, rfl⟩
    · refine aw_seq ?_
      refine aw_region ttOK (C := True) (hs := []) (gs := []) (rn := []) (l' := [(0, .v (.c (.int .u64 v1))), (2, .v (.c (.int .i64 v2))), (8, .v (.c (.bool (decide (v1 ≥ (65536 : Int))))))]) (h' := []) (by kernel_rfl) trivial ?_
      refine aw_if (decide (v1 ≥ (65536 : Int))) (by kernel_rfl) (fun hb => ?_) (fun hb => ?_)
      · rw [ite_t hb] at h
        refine aw_seq ?_
        refine aw_region ttOK (C := (0 ≤ (16 : Int)) ∧ True) (hs := []) (gs := []) (rn := []) (l' := [(0, .v (.c (.int .u64 (shrI .u64 v1 (16 : Int))))), (2, .v (.c (.int .i64 v2)))]) (h' := []) (by kernel_rfl) ⟨(by decide), trivial⟩ ?_
        refine aw_region ttOK (C := True) (hs := []) (gs := []) (rn := []) (l' := [(0, .v (.c (.int .u64 (shrI .u64 v1 (16 : Int))))), (2, .v (.c (.int .i64 (IntKind.i64.wrap (v2 + (16 : Int))))))]) (h' := []) (by kernel_rfl) trivial ?_
        exact ⟨((shrI .u64 v1 (16 : Int)), (IntKind.i64.wrap (v2 + (16 : Int)))), h, rfl, rfl⟩
      · rw [ite_f hb] at h
        refine aw_ghost (gs := []) (rn := []) (l' := [(0, .v (.c (.int .u64 v1))), (2, .v (.c (.int .i64 v2)))]) (h' := []) (by kernel_rfl) ?_
        refine aw_skip ?_
        exact ⟨(v1, v2), h, rfl, rfl⟩
  · refine aw_seq ?_
    refine aw_region ttOK (C := True) (hs := []) (gs := []) (rn := []) (l' := [(0, .v (.c (.int .u64 a0))), (2, .v (.c (.int .i64 (0 : Int)))), (4, .v (.c (.bool (decide (a0 ≥ (4294967296 : Int))))))]) (h' := []) (by kernel_rfl) trivial ?_
    refine aw_if (decide (a0 ≥ (4294967296 : Int))) (by kernel_rfl) (fun hb => ?_) (fun hb => ?_)
    · rw [ite_t hb] at h
      refine aw_seq ?_
      refine aw_region ttOK (C := (0 ≤ (32 : Int)) ∧ True) (hs := []) (gs := []) (rn := []) (l' := [(0, .v (.c (.int .u64 (shrI .u64 a0 (32 : Int)))))]) (h' := []) (by kernel_rfl) ⟨(by decide), trivial⟩ ?_
      refine aw_region ttOK (C := True) (hs := []) (gs := []) (rn := []) (l' := [(0, .v (.c (.int .u64 (shrI .u64 a0 (32 : Int))))), (2, .v (.c (.int .i64 (32 : Int))))]) (h' := []) (by kernel_rfl) trivial ?_
      exact ⟨((shrI .u64 a0 (32 : Int)), (32 : Int)), h, rfl, rfl⟩
    · rw [ite_f hb] at h
      refine aw_ghost (gs := []) (rn := []) (l' := [(0, .v (.c (.int .u64 a0))), (2, .v (.c (.int .i64 (0 : Int))))]) (h' := []) (by kernel_rfl) ?_
      refine aw_skip ?_
      exact ⟨(a0, (0 : Int)), h, rfl, rfl⟩

theorem F_bits_Len_ok {fu : Nat} {a0 : Int} {r : Int} (h : F_bits_Len fu a0 = some r) :
    ACall Try.prog 24 [.v (.c (.int .u64 a0))] [] [] (.v (.c (.int .i64 r))) [] := by
  unfold F_bits_Len at h
  refine acall_of_aw ttOK Try.func24 (by kernel_rfl) (c := _) rfl (N := 8) (by kernel_rfl) (Nat.le_of_ble_eq_true rfl) ?_
  refine aw_seq ?_
  refine aw_region ttOK (C := True) (hs := []) (gs := []) (rn := []) (l' := [(0, .v (.c (.int .u64 a0)))]) (h' := []) (by kernel_rfl) trivial ?_
  refine aw_seq ?_
  refine aw_if false (by kernel_rfl) (fun hb => by cases hb) (fun hb => ?_)
  refine aw_skip ?_
  refine aw_seq ?_
  obtain ⟨v1, ev1, h⟩ := bind_some h
  refine aw_region ttOK (C := (ACall Try.prog 49 [.v (.c (.int .u64 a0))] [] [] (.v (.c (.int .i64 v1))) []) ∧ True) (hs := [(1, { call := some { f := 49, casts := [.same], r := .v (.c (.int .i64 v1)) } })]) (gs := []) (rn := []) (l' := [(2, .v (.c (.int .i64 v1)))]) (h' := []) (by kernel_rfl) ⟨(F_bits_Len64_ok ev1), trivial⟩ ?_
  refine aw_ghost (gs := []) (rn := []) (l' := [(2, .v (.c (.int .i64 v1)))]) (h' := []) (by kernel_rfl) ?_
  refine aw_ret (ret_ok [] ?_)
  cases h
  kernel_rfl

theorem F_i_step_ok {fu : Nat} {a0 : Int} {a1 : Int} {r : Int × Int} (h : F_i_step fu a0 a1 = some r) :
    ACall Try.prog 50 [.v (.c (.int .i64 a0)), .v (.c (.int .i64 a1))] [] [] (.v (.ag [.int .i64 r.1, .int .i64 r.2])) [] := by
  unfold F_i_step at h
  refine acall_of_aw ttOK Try.func50 (by kernel_rfl) (c := _) rfl (N := 12) (by kernel_rfl) (Nat.le_of_ble_eq_true rfl) ?_
  refine aw_seq ?_
  refine aw_region ttOK (C := True) (hs := [(0, { id := 100 })]) (gs := []) (rn := []) (l' := [(0, .v (.c (.int .i64 a0))), (1, .v (.c (.int .i64 a1))), (4, .v (.c (.p 100 0)))]) (h' := [(100, .bx [.int .i64 (0 : Int), .int .i64 (0 : Int)])]) (by kernel_rfl) trivial ?_
  refine aw_seq ?_
  refine aw_region ttOK (C := True) (hs := []) (gs := []) (rn := []) (l' := [(4, .v (.c (.p 100 0)))]) (h' := [(100, .bx [.int .i64 (if a1 < a0 then a1 else a0), .int .i64 (if a1 > a0 then a1 else a0)])]) (by kernel_rfl) trivial ?_
  refine aw_ghost (gs := []) (rn := []) (l' := [(4, .v (.c (.p 100 0)))]) (h' := [(100, .bx [.int .i64 (if a1 < a0 then a1 else a0), .int .i64 (if a1 > a0 then a1 else a0)])]) (by kernel_rfl) ?_
  refine aw_ret (ret_ok [] ?_)
  cases h
  kernel_rfl

theorem F_i_Plan_many_ugk_ok {fu : Nat} {a0 : Int} {a1 : List (Int × Int)} {r : Int} (h : F_i_Plan_many_ugk fu a0 a1 = some r) :
    ACall Try.prog 51 [.v (.c (.p 0 0))] [.bx [.int .i64 a0, .ho 1, .nl], .vc 67 (.pr (.num .i64) (.num .i64)) a1] [0] (.v (.c (.int .i64 r))) [.bx [.int .i64 a0, .ho 1, .nl], .vc 67 (.pr (.num .i64) (.num .i64)) a1] := by
  unfold F_i_Plan_many_ugk at h
  refine acall_of_aw ttOK Try.func51 (by kernel_rfl) (c := _) rfl (N := 13) (by kernel_rfl) (Nat.le_of_ble_eq_true rfl) ?_
  refine aw_seq ?_
  refine aw_region ttOK (C := True) (hs := []) (gs := []) (rn := []) (l' := [(0, .v (.c (.p 0 0)))]) (h' := [(0, .bx [.int .i64 a0, .ho 1, .nl]), (1, .vc 67 (.pr (.num .i64) (.num .i64)) a1)]) (by kernel_rfl) trivial ?_
  refine aw_seq ?_
  refine aw_draw ttOK ttMix (C := True) (hs := []) (anc := []) (tch := []) (gs := []) (rn := []) (l' := [(2, .v (.c (.int .i64 (IntKind.i64.wrap (a0 + (List.length a1 : Int))))))]) (h' := [(0, .bx [.int .i64 a0, .ho 1, .nl]), (1, .vc 67 (.pr (.num .i64) (.num .i64)) a1)]) (by kernel_rfl) trivial ?_
  refine aw_ghost (gs := []) (rn := []) (l' := [(2, .v (.c (.int .i64 (IntKind.i64.wrap (a0 + (List.length a1 : Int))))))]) (h' := [(0, .bx [.int .i64 a0, .ho 1, .nl]), (1, .vc 67 (.pr (.num .i64) (.num .i64)) a1)]) (by kernel_rfl) ?_
  refine aw_ret (ret_ok [0, 1] ?_)
  cases h
  kernel_rfl

theorem F_i_maker_multiply_qdj_ok {fu : Nat} {a0 : Int} {a1 : Int} {a2 : Int} {r : Int × List (Int × Int)} (h : F_i_maker_multiply_qdj fu a0 a1 a2 = some r) :
    ACall Try.prog 26 [.v (.c (.p 0 0)), .v (.c (.int .i64 a0)), .v (.c (.int .i64 a1))] [.bx [.int .i64 a2, .nl, .nl]] [0] (.v (.c (.int .i64 r.1))) [.bx [.int .i64 a2, .ho 1, .nl], .vc 67 (.pr (.num .i64) (.num .i64)) r.2] := by
  unfold F_i_maker_multiply_qdj at h
  refine acall_of_aw ttOK Try.func26 (by kernel_rfl) (c := _) rfl (N := 26) (by kernel_rfl) (Nat.le_of_ble_eq_true rfl) ?_
  refine aw_seq ?_
  refine aw_region ttOK (C := True) (hs := []) (gs := []) (rn := []) (l' := [(0, .v (.c (.p 0 0))), (1, .v (.c (.int .i64 a0))), (2, .v (.c (.int .i64 a1)))]) (h' := [(0, .bx [.int .i64 a2, .nl, .nl])]) (by kernel_rfl) trivial ?_
  refine aw_seq ?_
  obtain ⟨v1, ev1, h⟩ := bind_some h
  obtain ⟨c0, h⟩ := chk_some h
  refine aw_draw ttOK ttMix (C := (ACall Try.prog 50 [.v (.c (.int .i64 a0)), .v (.c (.int .i64 a1))] [] [] (.v (.ag [.int .i64 v1.1, .int .i64 v1.2])) []) ∧ (List.length ([(v1.1, v1.2)] : List (Int × Int)) * 16 ≤ 140737488355328) ∧ True) (hs := [(8, { call := some { f := 50, casts := [.same, .same], r := .v (.ag [.int .i64 v1.1, .int .i64 v1.2]) } }), (9, { id := 109 }), (10, { id := 110 })]) (anc := [(2, [1]), (3, [1, 2]), (4, [1, 2, 3]), (5, [1, 2, 3, 4]), (8, [6, 7]), (9, [6, 7, 8]), (10, [1, 2, 3, 4, 5, 6, 7, 8, 9]), (11, [0, 1, 2, 3, 4, 5, 6, 7, 8, 9, 10]), (12, [0, 1, 2, 3, 4, 5, 6, 7, 8, 9, 10, 11]), (13, [0, 1, 2, 3, 4, 5, 6, 7, 8, 9, 10, 11, 12]), (14, [0, 1, 2, 3, 4, 5, 6, 7, 8, 9, 10, 11, 12, 13])]) (tch := [(9, [109]), (10, [110]), (14, [0])]) (gs := []) (rn := []) (l' := [(0, .v (.c (.p 0 0)))]) (h' := [(0, .bx [.int .i64 a2, .ho 110, .nl]), (110, .vc 67 (.pr (.num .i64) (.num .i64)) ([(v1.1, v1.2)] : List (Int × Int)))]) (by kernel_rfl) ⟨(F_i_step_ok ev1), c0, trivial⟩ ?_
  refine aw_seq ?_
  obtain ⟨v2, ev2, h⟩ := bind_some h
  refine aw_region ttOK (C := (ACall Try.prog 51 [.v (.c (.p 0 0))] [.bx [.int .i64 a2, .ho 1, .nl], .vc 67 (.pr (.num .i64) (.num .i64)) ([(v1.1, v1.2)] : List (Int × Int))] [0] (.v (.c (.int .i64 v2))) [.bx [.int .i64 a2, .ho 1, .nl], .vc 67 (.pr (.num .i64) (.num .i64)) ([(v1.1, v1.2)] : List (Int × Int))]) ∧ True) (hs := [(3, { call := some { f := 51, casts := [.same], sel := [0, 110], kp := [0], r := .v (.c (.int .i64 v2)), Hout := [.bx [.int .i64 a2, .ho 1, .nl], .vc 67 (.pr (.num .i64) (.num .i64)) ([(v1.1, v1.2)] : List (Int × Int))], ren := [0, 118] } })]) (gs := []) (rn := []) (l' := [(6, .v (.c (.int .i64 (IntKind.i64.wrap (v2 - (1 : Int))))))]) (h' := [(0, .bx [.int .i64 a2, .ho 118, .nl]), (118, .vc 67 (.pr (.num .i64) (.num .i64)) ([(v1.1, v1.2)] : List (Int × Int)))]) (by kernel_rfl) ⟨(F_i_Plan_many_ugk_ok ev2), trivial⟩ ?_
  refine aw_ghost (gs := []) (rn := []) (l' := [(6, .v (.c (.int .i64 (IntKind.i64.wrap (v2 - (1 : Int))))))]) (h' := [(0, .bx [.int .i64 a2, .ho 118, .nl]), (118, .vc 67 (.pr (.num .i64) (.num .i64)) ([(v1.1, v1.2)] : List (Int × Int)))]) (by kernel_rfl) ?_
  refine aw_ret (ret_ok [0, 118] ?_)
  cases h
  kernel_rfl

theorem F_i_maker_multiply_frg_ok {fu : Nat} {a0 : Int} {a1 : Int} {a2 : Int} {a3 : List (Int × Int)} {r : Int × List (Int × Int)} (h : F_i_maker_multiply_frg fu a0 a1 a2 a3 = some r) :
    ACall Try.prog 26 [.v (.c (.p 0 0)), .v (.c (.int .i64 a0)), .v (.c (.int .i64 a1))] [.bx [.int .i64 a2, .ho 1, .nl], .vc 67 (.pr (.num .i64) (.num .i64)) a3] [0] (.v (.c (.int .i64 r.1))) [.bx [.int .i64 a2, .ho 1, .nl], .vc 67 (.pr (.num .i64) (.num .i64)) r.2] := by
  unfold F_i_maker_multiply_frg at h
  refine acall_of_aw ttOK Try.func26 (by kernel_rfl) (c := _) rfl (N := 26) (by kernel_rfl) (Nat.le_of_ble_eq_true rfl) ?_
  refine aw_seq ?_
  refine aw_region ttOK (C := True) (hs := []) (gs := []) (rn := []) (l' := [(0, .v (.c (.p 0 0))), (1, .v (.c (.int .i64 a0))), (2, .v (.c (.int .i64 a1)))]) (h' := [(0, .bx [.int .i64 a2, .ho 1, .nl]), (1, .vc 67 (.pr (.num .i64) (.num .i64)) a3)]) (by kernel_rfl) trivial ?_
  refine aw_seq ?_
  obtain ⟨v1, ev1, h⟩ := bind_some h
  obtain ⟨c0, h⟩ := chk_some h
  refine aw_draw ttOK ttMix (C := (ACall Try.prog 50 [.v (.c (.int .i64 a0)), .v (.c (.int .i64 a1))] [] [] (.v (.ag [.int .i64 v1.1, .int .i64 v1.2])) []) ∧ ((List.length a3 + List.length ([(v1.1, v1.2)] : List (Int × Int))) * 16 ≤ 140737488355328) ∧ True) (hs := [(8, { call := some { f := 50, casts := [.same, .same], r := .v (.ag [.int .i64 v1.1, .int .i64 v1.2]) } }), (9, { id := 109 }), (10, { id := 110 })]) (anc := [(2, [1]), (3, [1, 2]), (4, [1, 2, 3]), (5, [1, 2, 3, 4]), (8, [6, 7]), (9, [6, 7, 8]), (10, [1, 2, 3, 4, 5, 6, 7, 8, 9]), (11, [0, 1, 2, 3, 4, 5, 6, 7, 8, 9, 10]), (12, [0, 1, 2, 3, 4, 5, 6, 7, 8, 9, 10, 11]), (13, [0, 1, 2, 3, 4, 5, 6, 7, 8, 9, 10, 11, 12]), (14, [0, 1, 2, 3, 4, 5, 6, 7, 8, 9, 10, 11, 12, 13])]) (tch := [(9, [109]), (10, [1, 110]), (14, [0])]) (gs := []) (rn := []) (l' := [(0, .v (.c (.p 0 0)))]) (h' := [(0, .bx [.int .i64 a2, .ho 110, .nl]), (110, .vc 67 (.pr (.num .i64) (.num .i64)) (a3 ++ ([(v1.1, v1.2)] : List (Int × Int))))]) (by kernel_rfl) ⟨(F_i_step_ok ev1), c0, trivial⟩ ?_
  refine aw_seq ?_
  obtain ⟨v2, ev2, h⟩ := bind_some h
  refine aw_region ttOK (C := (ACall Try.prog 51 [.v (.c (.p 0 0))] [.bx [.int .i64 a2, .ho 1, .nl], .vc 67 (.pr (.num .i64) (.num .i64)) (a3 ++ ([(v1.1, v1.2)] : List (Int × Int)))] [0] (.v (.c (.int .i64 v2))) [.bx [.int .i64 a2, .ho 1, .nl], .vc 67 (.pr (.num .i64) (.num .i64)) (a3 ++ ([(v1.1, v1.2)] : List (Int × Int)))]) ∧ True) (hs := [(3, { call := some { f := 51, casts := [.same], sel := [0, 110], kp := [0], r := .v (.c (.int .i64 v2)), Hout := [.bx [.int .i64 a2, .ho 1, .nl], .vc 67 (.pr (.num .i64) (.num .i64)) (a3 ++ ([(v1.1, v1.2)] : List (Int × Int)))], ren := [0, 118] } })]) (gs := []) (rn := []) (l' := [(6, .v (.c (.int .i64 (IntKind.i64.wrap (v2 - (1 : Int))))))]) (h' := [(0, .bx [.int .i64 a2, .ho 118, .nl]), (118, .vc 67 (.pr (.num .i64) (.num .i64)) (a3 ++ ([(v1.1, v1.2)] : List (Int × Int))))]) (by kernel_rfl) ⟨(F_i_Plan_many_ugk_ok ev2), trivial⟩ ?_
  refine aw_ghost (gs := []) (rn := []) (l' := [(6, .v (.c (.int .i64 (IntKind.i64.wrap (v2 - (1 : Int))))))]) (h' := [(0, .bx [.int .i64 a2, .ho 118, .nl]), (118, .vc 67 (.pr (.num .i64) (.num .i64)) (a3 ++ ([(v1.1, v1.2)] : List (Int × Int))))]) (by kernel_rfl) ?_
  refine aw_ret (ret_ok [0, 118] ?_)
  cases h
  kernel_rfl

theorem F_i_maker_times_frg_ok {fu : Nat} {a0 : Int} {a1 : Int} {a2 : Int} {a3 : List (Int × Int)} {r : Int × List (Int × Int)} (h : F_i_maker_times_frg fu a0 a1 a2 a3 = some r) :
    ACall Try.prog 27 [.v (.c (.p 0 0)), .v (.c (.int .i64 a0)), .v (.c (.int .i64 a1))] [.bx [.int .i64 a2, .ho 1, .nl], .vc 67 (.pr (.num .i64) (.num .i64)) a3] [0] (.v (.c (.int .i64 r.1))) [.bx [.int .i64 a2, .ho 1, .nl], .vc 67 (.pr (.num .i64) (.num .i64)) r.2] := by
  unfold F_i_maker_times_frg at h
  refine acall_of_aw ttOK Try.func27 (by kernel_rfl) (c := _) rfl (N := 14) (by kernel_rfl) (Nat.le_of_ble_eq_true rfl) ?_
  refine aw_seq ?_
  refine aw_region ttOK (C := True) (hs := []) (gs := []) (rn := []) (l' := [(0, .v (.c (.p 0 0))), (1, .v (.c (.int .i64 a0))), (2, .v (.c (.int .i64 a1)))]) (h' := [(0, .bx [.int .i64 a2, .ho 1, .nl]), (1, .vc 67 (.pr (.num .i64) (.num .i64)) a3)]) (by kernel_rfl) trivial ?_
  refine aw_seq ?_
  refine aw_seq ?_
  refine aw_region ttOK (C := True) (hs := []) (gs := []) (rn := []) (l' := [(0, .v (.c (.p 0 0))), (1, .v (.c (.int .i64 a0))), (2, .v (.c (.int .i64 a1))), (8, .v (.c (.bool (decide (a0 < (0 : Int))))))]) (h' := [(0, .bx [.int .i64 a2, .ho 1, .nl]), (1, .vc 67 (.pr (.num .i64) (.num .i64)) a3)]) (by kernel_rfl) trivial ?_
  refine aw_if (decide (a0 < (0 : Int))) (by kernel_rfl) (fun hb => ?_) (fun hb => ?_)
  · rw [ite_t hb] at h
    refine aw_seq ?_
    refine aw_region ttOK (C := True) (hs := []) (gs := []) (rn := []) (l' := [(6, .v (.c (.int .i64 a1)))]) (h' := [(0, .bx [.int .i64 a2, .ho 1, .nl]), (1, .vc 67 (.pr (.num .i64) (.num .i64)) a3)]) (by kernel_rfl) trivial ?_
    refine aw_ghost (gs := []) (rn := []) (l' := [(6, .v (.c (.int .i64 a1)))]) (h' := [(0, .bx [.int .i64 a2, .ho 1, .nl]), (1, .vc 67 (.pr (.num .i64) (.num .i64)) a3)]) (by kernel_rfl) ?_
    refine aw_ret (ret_ok [0, 1] ?_)
    cases h
    kernel_rfl
  · rw [ite_f hb] at h
    refine aw_ghost (gs := []) (rn := []) (l' := [(0, .v (.c (.p 0 0))), (1, .v (.c (.int .i64 a0))), (2, .v (.c (.int .i64 a1)))]) (h' := [(0, .bx [.int .i64 a2, .ho 1, .nl]), (1, .vc 67 (.pr (.num .i64) (.num .i64)) a3)]) (by kernel_rfl) ?_
    refine aw_skip ?_
    refine aw_seq ?_
    obtain ⟨v1, ev1, h⟩ := bind_some h
    refine aw_region ttOK (C := (ACall Try.prog 26 [.v (.c (.p 0 0)), .v (.c (.int .i64 a0)), .v (.c (.int .i64 a1))] [.bx [.int .i64 a2, .ho 1, .nl], .vc 67 (.pr (.num .i64) (.num .i64)) a3] [0] (.v (.c (.int .i64 v1.1))) [.bx [.int .i64 a2, .ho 1, .nl], .vc 67 (.pr (.num .i64) (.num .i64)) v1.2]) ∧ True) (hs := [(3, { call := some { f := 26, casts := [.same, .same, .same], sel := [0, 1], kp := [0], r := .v (.c (.int .i64 v1.1)), Hout := [.bx [.int .i64 a2, .ho 1, .nl], .vc 67 (.pr (.num .i64) (.num .i64)) v1.2], ren := [0, 108] } })]) (gs := []) (rn := []) (l' := [(6, .v (.c (.int .i64 v1.1)))]) (h' := [(0, .bx [.int .i64 a2, .ho 108, .nl]), (108, .vc 67 (.pr (.num .i64) (.num .i64)) v1.2)]) (by kernel_rfl) ⟨(F_i_maker_multiply_frg_ok ev1), trivial⟩ ?_
    refine aw_ghost (gs := []) (rn := [(108, 1)]) (l' := [(6, .v (.c (.int .i64 v1.1)))]) (h' := [(0, .bx [.int .i64 a2, .ho 1, .nl]), (1, .vc 67 (.pr (.num .i64) (.num .i64)) v1.2)]) (by kernel_rfl) ?_
    refine aw_ret (ret_ok [0, 1] ?_)
    cases h
    kernel_rfl

theorem F_i_maker_plan_dzy_ok {fu : Nat} {a0 : List Int} {a1 : Int} {a2 : List (Int × Int)} {r : Unit} (h : F_i_maker_plan_dzy fu a0 a1 a2 = some r) :
    ACall Try.prog 29 [.v (.c (.p 0 0)), .v (.c (.ls false (.num .i64) a0))] [.bx [.int .i64 a1, .ho 1, .nl], .vc 67 (.pr (.num .i64) (.num .i64)) a2] [0] (.v (.ag [.int .i64 a1, .ls false (.pr (.num .i64) (.num .i64)) a2, .ls false (.num .i64) a0])) [.bx [.int .i64 a1, .ls false (.pr (.num .i64) (.num .i64)) a2, .ls false (.num .i64) a0]] := by
  unfold F_i_maker_plan_dzy at h
  refine acall_of_aw ttOK Try.func29 (by kernel_rfl) (c := _) rfl (N := 14) (by kernel_rfl) (Nat.le_of_ble_eq_true rfl) ?_
  refine aw_seq ?_
  refine aw_region ttOK (C := True) (hs := [(0, { id := 100 })]) (gs := []) (rn := []) (l' := [(0, .v (.c (.p 0 0))), (1, .v (.c (.ls false (.num .i64) a0))), (4, .v (.c (.p 100 0)))]) (h' := [(0, .bx [.int .i64 a1, .ho 1, .nl]), (1, .vc 67 (.pr (.num .i64) (.num .i64)) a2), (100, .bx [.int .i64 (0 : Int), .nl, .nl])]) (by kernel_rfl) trivial ?_
  refine aw_seq ?_
  refine aw_region ttOK (C := True) (hs := []) (gs := []) (rn := []) (l' := [(0, .v (.c (.p 0 0))), (4, .v (.c (.p 100 0)))]) (h' := [(0, .bx [.int .i64 a1, .ho 1, .ls false (.num .i64) a0]), (1, .vc 67 (.pr (.num .i64) (.num .i64)) a2), (100, .bx [.int .i64 (0 : Int), .nl, .nl])]) (by kernel_rfl) trivial ?_
  refine aw_seq ?_
  refine aw_region ttOK (C := True) (hs := []) (gs := []) (rn := []) (l' := [(4, .v (.c (.p 100 0)))]) (h' := [(0, .bx [.int .i64 a1, .ho 1, .ls false (.num .i64) a0]), (1, .vc 67 (.pr (.num .i64) (.num .i64)) a2), (100, .bx [.int .i64 a1, .ho 1, .ls false (.num .i64) a0])]) (by kernel_rfl) trivial ?_
  refine aw_ghost (gs := [.frz 1, .cview 0 1, .cview 100 1]) (rn := []) (l' := [(4, .v (.c (.p 100 0)))]) (h' := [(0, .bx [.int .i64 a1, .ls false (.pr (.num .i64) (.num .i64)) a2, .ls false (.num .i64) a0]), (100, .bx [.int .i64 a1, .ls false (.pr (.num .i64) (.num .i64)) a2, .ls false (.num .i64) a0])]) (by kernel_rfl) ?_
  refine aw_ret (ret_ok [0] ?_)
  cases h
  kernel_rfl

theorem F_i_Plan_many_wze_ok {fu : Nat} {a0 : Int} {a1 : List (Int × Int)} {a2 : List Int} {r : Int} (h : F_i_Plan_many_wze fu a0 a1 a2 = some r) :
    ACall Try.prog 51 [.v (.c (.p 0 0))] [.bx [.int .i64 a0, .ls false (.pr (.num .i64) (.num .i64)) a1, .ls false (.num .i64) a2]] [0] (.v (.c (.int .i64 r))) [.bx [.int .i64 a0, .ls false (.pr (.num .i64) (.num .i64)) a1, .ls false (.num .i64) a2]] := by
  unfold F_i_Plan_many_wze at h
  refine acall_of_aw ttOK Try.func51 (by kernel_rfl) (c := _) rfl (N := 13) (by kernel_rfl) (Nat.le_of_ble_eq_true rfl) ?_
  refine aw_seq ?_
  refine aw_region ttOK (C := True) (hs := []) (gs := []) (rn := []) (l' := [(0, .v (.c (.p 0 0)))]) (h' := [(0, .bx [.int .i64 a0, .ls false (.pr (.num .i64) (.num .i64)) a1, .ls false (.num .i64) a2])]) (by kernel_rfl) trivial ?_
  refine aw_seq ?_
  refine aw_draw ttOK ttMix (C := True) (hs := []) (anc := []) (tch := []) (gs := []) (rn := []) (l' := [(2, .v (.c (.int .i64 (IntKind.i64.wrap (a0 + (List.length a1 : Int))))))]) (h' := [(0, .bx [.int .i64 a0, .ls false (.pr (.num .i64) (.num .i64)) a1, .ls false (.num .i64) a2])]) (by kernel_rfl) trivial ?_
  refine aw_ghost (gs := []) (rn := []) (l' := [(2, .v (.c (.int .i64 (IntKind.i64.wrap (a0 + (List.length a1 : Int))))))]) (h' := [(0, .bx [.int .i64 a0, .ls false (.pr (.num .i64) (.num .i64)) a1, .ls false (.num .i64) a2])]) (by kernel_rfl) ?_
  refine aw_ret (ret_ok [0] ?_)
  cases h
  kernel_rfl

theorem F_i_Plan_formed_c1_foh_ok {fu : Nat} {a0 : Int} {a1 : Int} {a2 : List (Int × Int)} {a3 : List Int} {r : Bool} (h : F_i_Plan_formed_c1_foh fu a0 a1 a2 a3 = some r) :
    ACall Try.prog 68 [.v (.c (.int .i64 a0)), .v (.c (.p 0 0))] [.bx [.p 1 0], .bx [.int .i64 a1, .ls false (.pr (.num .i64) (.num .i64)) a2, .ls false (.num .i64) a3]] [0, 1] (.v (.c (.bool r))) [.bx [.p 1 0], .bx [.int .i64 a1, .ls false (.pr (.num .i64) (.num .i64)) a2, .ls false (.num .i64) a3]] := by
  unfold F_i_Plan_formed_c1_foh at h
  refine acall_of_aw ttOK Try.func68 (by kernel_rfl) (c := _) rfl (N := 10) (by kernel_rfl) (Nat.le_of_ble_eq_true rfl) ?_
  refine aw_seq ?_
  refine aw_region ttOK (C := True) (hs := []) (gs := []) (rn := []) (l' := [(0, .v (.c (.int .i64 a0))), (1, .v (.c (.p 0 0)))]) (h' := [(0, .bx [.p 1 0]), (1, .bx [.int .i64 a1, .ls false (.pr (.num .i64) (.num .i64)) a2, .ls false (.num .i64) a3])]) (by kernel_rfl) trivial ?_
  refine aw_seq ?_
  obtain ⟨v1, ev1, h⟩ := bind_some h
  obtain ⟨v2, ev2, h⟩ := bind_some h
  refine aw_region ttOK (C := (ACall Try.prog 51 [.v (.c (.p 0 0))] [.bx [.int .i64 a1, .ls false (.pr (.num .i64) (.num .i64)) a2, .ls false (.num .i64) a3]] [0] (.v (.c (.int .i64 v1))) [.bx [.int .i64 a1, .ls false (.pr (.num .i64) (.num .i64)) a2, .ls false (.num .i64) a3]]) ∧ (ACall Try.prog 19 [.v (.c (.int .i64 a0)), .v (.c (.int .i64 (0 : Int))), .v (.c (.int .i64 (IntKind.i64.wrap (v1 - (1 : Int)))))] [] [] (.v (.c (.bool v2))) []) ∧ True) (hs := [(2, { call := some { f := 51, casts := [.same], sel := [1], kp := [0], r := .v (.c (.int .i64 v1)), Hout := [.bx [.int .i64 a1, .ls false (.pr (.num .i64) (.num .i64)) a2, .ls false (.num .i64) a3]], ren := [1] } }), (4, { call := some { f := 19, casts := [.same, .same, .same], r := .v (.c (.bool v2)) } })]) (gs := []) (rn := []) (l' := [(3, .v (.c (.bool (!v2))))]) (h' := [(0, .bx [.p 1 0]), (1, .bx [.int .i64 a1, .ls false (.pr (.num .i64) (.num .i64)) a2, .ls false (.num .i64) a3])]) (by kernel_rfl) ⟨(F_i_Plan_many_wze_ok ev1), (F_i_in_ok ev2), trivial⟩ ?_
  refine aw_ghost (gs := []) (rn := []) (l' := [(3, .v (.c (.bool (!v2))))]) (h' := [(0, .bx [.p 1 0]), (1, .bx [.int .i64 a1, .ls false (.pr (.num .i64) (.num .i64)) a2, .ls false (.num .i64) a3])]) (by kernel_rfl) ?_
  refine aw_ret (ret_ok [0, 1] ?_)
  cases h
  kernel_rfl

theorem F_slices_IndexFunc_Lint_int_zff_ok {fu : Nat} {a0 : List Int} {a1 : Int} {a2 : List (Int × Int)} {a3 : List Int} {r : Int} (h : F_slices_IndexFunc_Lint_int_zff fu a0 a1 a2 a3 = some r) :
    ACall Try.prog 47 [.v (.c (.ls false (.num .i64) a0)), .v (.c (.fn 68 [0]))] [.bx [.p 1 0], .bx [.int .i64 a1, .ls false (.pr (.num .i64) (.num .i64)) a2, .ls false (.num .i64) a3]] [0, 1] (.v (.c (.int .i64 r))) [.bx [.p 1 0], .bx [.int .i64 a1, .ls false (.pr (.num .i64) (.num .i64)) a2, .ls false (.num .i64) a3]] := by
  unfold F_slices_IndexFunc_Lint_int_zff at h
  refine acall_of_aw ttOK Try.func47 (by kernel_rfl) (c := _) rfl (N := 19) (by kernel_rfl) (Nat.le_of_ble_eq_true rfl) ?_
  refine aw_seq ?_
  refine aw_region ttOK (C := True) (hs := []) (gs := []) (rn := []) (l' := [(0, .v (.c (.ls false (.num .i64) a0))), (1, .v (.c (.fn 68 [0])))]) (h' := [(0, .bx [.p 1 0]), (1, .bx [.int .i64 a1, .ls false (.pr (.num .i64) (.num .i64)) a2, .ls false (.num .i64) a3])]) (by kernel_rfl) trivial ?_
  refine aw_join (X := Unit) (fun x => ([], [(0, .bx [.p 1 0]), (1, .bx [.int .i64 a1, .ls false (.pr (.num .i64) (.num .i64)) a2, .ls false (.num .i64) a3])])) (fun x => F_slices_IndexFunc_Lint_int_zffJ1 fu = some r) ?_ ?_
  · rintro _ h
    unfold F_slices_IndexFunc_Lint_int_zffJ1 at h
    refine aw_seq ?_
    refine aw_region ttOK (C := True) (hs := []) (gs := []) (rn := []) (l' := [(4, .v (.c (.int .i64 (-1 : Int))))]) (h' := [(0, .bx [.p 1 0]), (1, .bx [.int .i64 a1, .ls false (.pr (.num .i64) (.num .i64)) a2, .ls false (.num .i64) a3])]) (by kernel_rfl) trivial ?_
    refine aw_ghost (gs := []) (rn := []) (l' := [(4, .v (.c (.int .i64 (-1 : Int))))]) (h' := [(0, .bx [.p 1 0]), (1, .bx [.int .i64 a1, .ls false (.pr (.num .i64) (.num .i64)) a2, .ls false (.num .i64) a3])]) (by kernel_rfl) ?_
    refine aw_ret (ret_ok [0, 1] ?_)
    cases h
    kernel_rfl
  · refine aw_seq ?_
    refine aw_region ttOK (C := True) (hs := []) (gs := []) (rn := []) (l' := [(0, .v (.c (.ls false (.num .i64) a0))), (1, .v (.c (.fn 68 [0]))), (7, .v (.c (.int .i64 (List.length a0 : Int)))), (8, .v (.c (.int .i64 (0 : Int))))]) (h' := [(0, .bx [.p 1 0]), (1, .bx [.int .i64 a1, .ls false (.pr (.num .i64) (.num .i64)) a2, .ls false (.num .i64) a3])]) (by kernel_rfl) trivial ?_
    refine aw_block ?_
    refine aw_loopF (X := Int) (fun x => ([(0, .v (.c (.ls false (.num .i64) a0))), (1, .v (.c (.fn 68 [0]))), (7, .v (.c (.int .i64 (List.length a0 : Int)))), (8, .v (.c (.int .i64 x)))], [(0, .bx [.p 1 0]), (1, .bx [.int .i64 a1, .ls false (.pr (.num .i64) (.num .i64)) a2, .ls false (.num .i64) a3])])) (fun n x => F_slices_IndexFunc_Lint_int_zffL2 fu a0 a1 a2 a3 n x = some r) fu (0 : Int) h ?_
    rintro n2 v2 h
    cases n2 with
    | zero => first | cases h | (rw [F_slices_IndexFunc_Lint_int_zffL2] at h; cases h)
    | succ n2 =>
      rw [F_slices_IndexFunc_Lint_int_zffL2] at h
      refine aw_seq ?_
      refine aw_region ttOK (C := True) (hs := []) (gs := []) (rn := []) (l' := [(0, .v (.c (.ls false (.num .i64) a0))), (1, .v (.c (.fn 68 [0]))), (7, .v (.c (.int .i64 (List.length a0 : Int)))), (8, .v (.c (.int .i64 v2))), (9, .v (.c (.bool (decide (v2 < (List.length a0 : Int))))))]) (h' := [(0, .bx [.p 1 0]), (1, .bx [.int .i64 a1, .ls false (.pr (.num .i64) (.num .i64)) a2, .ls false (.num .i64) a3])]) (by kernel_rfl) trivial ?_
      refine aw_seq ?_
      refine aw_if (decide (v2 < (List.length a0 : Int))) (by kernel_rfl) (fun hb => ?_) (fun hb => ?_)
      · rw [ite_t hb] at h
        refine aw_ghost (gs := []) (rn := []) (l' := [(0, .v (.c (.ls false (.num .i64) a0))), (1, .v (.c (.fn 68 [0]))), (7, .v (.c (.int .i64 (List.length a0 : Int)))), (8, .v (.c (.int .i64 v2)))]) (h' := [(0, .bx [.p 1 0]), (1, .bx [.int .i64 a1, .ls false (.pr (.num .i64) (.num .i64)) a2, .ls false (.num .i64) a3])]) (by kernel_rfl) ?_
        refine aw_skip ?_
        refine aw_seq ?_
        refine aw_block ?_
        refine aw_seq ?_
        refine aw_region ttOK (C := True) (hs := []) (gs := []) (rn := []) (l' := [(0, .v (.c (.ls false (.num .i64) a0))), (1, .v (.c (.fn 68 [0]))), (5, .v (.c (.int .i64 v2))), (7, .v (.c (.int .i64 (List.length a0 : Int)))), (8, .v (.c (.int .i64 v2)))]) (h' := [(0, .bx [.p 1 0]), (1, .bx [.int .i64 a1, .ls false (.pr (.num .i64) (.num .i64)) a2, .ls false (.num .i64) a3])]) (by kernel_rfl) trivial ?_
        refine aw_seq ?_
        obtain ⟨c0, h⟩ := chk_some h
        obtain ⟨v3, ev3, h⟩ := bind_some h
        refine aw_region ttOK (C := (0 ≤ v2 ∧ v2 < (List.length a0 : Int)) ∧ (ACall Try.prog 68 [.v (.c (.int .i64 (List.getD a0 (v2).toNat (0 : Int)))), .v (.c (.p 0 0))] [.bx [.p 1 0], .bx [.int .i64 a1, .ls false (.pr (.num .i64) (.num .i64)) a2, .ls false (.num .i64) a3]] [0, 1] (.v (.c (.bool v3))) [.bx [.p 1 0], .bx [.int .i64 a1, .ls false (.pr (.num .i64) (.num .i64)) a2, .ls false (.num .i64) a3]]) ∧ True) (hs := [(5, { call := some { f := 68, casts := [.same], sel := [0, 1], kp := [0, 1], r := .v (.c (.bool v3)), Hout := [.bx [.p 1 0], .bx [.int .i64 a1, .ls false (.pr (.num .i64) (.num .i64)) a2, .ls false (.num .i64) a3]], ren := [0, 1] } })]) (gs := []) (rn := []) (l' := [(0, .v (.c (.ls false (.num .i64) a0))), (1, .v (.c (.fn 68 [0]))), (5, .v (.c (.int .i64 v2))), (7, .v (.c (.int .i64 (List.length a0 : Int)))), (8, .v (.c (.int .i64 v2))), (16, .v (.c (.bool v3)))]) (h' := [(0, .bx [.p 1 0]), (1, .bx [.int .i64 a1, .ls false (.pr (.num .i64) (.num .i64)) a2, .ls false (.num .i64) a3])]) (by kernel_rfl) ⟨c0, (F_i_Plan_formed_c1_foh_ok ev3), trivial⟩ ?_
        refine aw_if v3 (by kernel_rfl) (fun hb => ?_) (fun hb => ?_)
        · rw [ite_t hb] at h
          refine aw_seq ?_
          refine aw_region ttOK (C := True) (hs := []) (gs := []) (rn := []) (l' := [(4, .v (.c (.int .i64 v2)))]) (h' := [(0, .bx [.p 1 0]), (1, .bx [.int .i64 a1, .ls false (.pr (.num .i64) (.num .i64)) a2, .ls false (.num .i64) a3])]) (by kernel_rfl) trivial ?_
          refine aw_ghost (gs := []) (rn := []) (l' := [(4, .v (.c (.int .i64 v2)))]) (h' := [(0, .bx [.p 1 0]), (1, .bx [.int .i64 a1, .ls false (.pr (.num .i64) (.num .i64)) a2, .ls false (.num .i64) a3])]) (by kernel_rfl) ?_
          refine aw_ret (ret_ok [0, 1] ?_)
          cases h
          kernel_rfl
        · rw [ite_f hb] at h
          refine aw_ghost (gs := []) (rn := []) (l' := [(0, .v (.c (.ls false (.num .i64) a0))), (1, .v (.c (.fn 68 [0]))), (7, .v (.c (.int .i64 (List.length a0 : Int)))), (8, .v (.c (.int .i64 v2)))]) (h' := [(0, .bx [.p 1 0]), (1, .bx [.int .i64 a1, .ls false (.pr (.num .i64) (.num .i64)) a2, .ls false (.num .i64) a3])]) (by kernel_rfl) ?_
          refine aw_skip ?_
          refine aw_region ttOK (C := True) (hs := []) (gs := []) (rn := []) (l' := [(0, .v (.c (.ls false (.num .i64) a0))), (1, .v (.c (.fn 68 [0]))), (7, .v (.c (.int .i64 (List.length a0 : Int)))), (8, .v (.c (.int .i64 (IntKind.i64.wrap (v2 + (1 : Int))))))]) (h' := [(0, .bx [.p 1 0]), (1, .bx [.int .i64 a1, .ls false (.pr (.num .i64) (.num .i64)) a2, .ls false (.num .i64) a3])]) (by kernel_rfl) trivial ?_
          exact ⟨_, (IntKind.i64.wrap (v2 + (1 : Int))), Nat.lt_succ_self _, h, rfl, rfl⟩
      · rw [ite_f hb] at h
        refine aw_ghost (gs := []) (rn := []) (l' := []) (h' := [(0, .bx [.p 1 0]), (1, .bx [.int .i64 a1, .ls false (.pr (.num .i64) (.num .i64)) a2, .ls false (.num .i64) a3])]) (by kernel_rfl) ?_
        refine aw_exit ?_
        exact ⟨(), h, rfl, rfl⟩

theorem F_slices_ContainsFunc_Lint_int_zff_ok {fu : Nat} {a0 : List Int} {a1 : Int} {a2 : List (Int × Int)} {a3 : List Int} {r : Bool} (h : F_slices_ContainsFunc_Lint_int_zff fu a0 a1 a2 a3 = some r) :
    ACall Try.prog 20 [.v (.c (.ls false (.num .i64) a0)), .v (.c (.fn 68 [0]))] [.bx [.p 1 0], .bx [.int .i64 a1, .ls false (.pr (.num .i64) (.num .i64)) a2, .ls false (.num .i64) a3]] [0, 1] (.v (.c (.bool r))) [.bx [.p 1 0], .bx [.int .i64 a1, .ls false (.pr (.num .i64) (.num .i64)) a2, .ls false (.num .i64) a3]] := by
  unfold F_slices_ContainsFunc_Lint_int_zff at h
  refine acall_of_aw ttOK Try.func20 (by kernel_rfl) (c := _) rfl (N := 9) (by kernel_rfl) (Nat.le_of_ble_eq_true rfl) ?_
  refine aw_seq ?_
  refine aw_region ttOK (C := True) (hs := []) (gs := []) (rn := []) (l' := [(0, .v (.c (.ls false (.num .i64) a0))), (1, .v (.c (.fn 68 [0])))]) (h' := [(0, .bx [.p 1 0]), (1, .bx [.int .i64 a1, .ls false (.pr (.num .i64) (.num .i64)) a2, .ls false (.num .i64) a3])]) (by kernel_rfl) trivial ?_
  refine aw_seq ?_
  obtain ⟨v1, ev1, h⟩ := bind_some h
  refine aw_region ttOK (C := (ACall Try.prog 47 [.v (.c (.ls false (.num .i64) a0)), .v (.c (.fn 68 [0]))] [.bx [.p 1 0], .bx [.int .i64 a1, .ls false (.pr (.num .i64) (.num .i64)) a2, .ls false (.num .i64) a3]] [0, 1] (.v (.c (.int .i64 v1))) [.bx [.p 1 0], .bx [.int .i64 a1, .ls false (.pr (.num .i64) (.num .i64)) a2, .ls false (.num .i64) a3]]) ∧ True) (hs := [(2, { call := some { f := 47, casts := [.same, .same], sel := [0, 1], kp := [0, 1], r := .v (.c (.int .i64 v1)), Hout := [.bx [.p 1 0], .bx [.int .i64 a1, .ls false (.pr (.num .i64) (.num .i64)) a2, .ls false (.num .i64) a3]], ren := [0, 1] } })]) (gs := []) (rn := []) (l' := [(4, .v (.c (.bool (decide (v1 ≥ (0 : Int))))))]) (h' := [(0, .bx [.p 1 0]), (1, .bx [.int .i64 a1, .ls false (.pr (.num .i64) (.num .i64)) a2, .ls false (.num .i64) a3])]) (by kernel_rfl) ⟨(F_slices_IndexFunc_Lint_int_zff_ok ev1), trivial⟩ ?_
  refine aw_ghost (gs := []) (rn := []) (l' := [(4, .v (.c (.bool (decide (v1 ≥ (0 : Int))))))]) (h' := [(0, .bx [.p 1 0]), (1, .bx [.int .i64 a1, .ls false (.pr (.num .i64) (.num .i64)) a2, .ls false (.num .i64) a3])]) (by kernel_rfl) ?_
  refine aw_ret (ret_ok [0, 1] ?_)
  cases h
  kernel_rfl

theorem F_i_Plan_formed_wze_ok {fu : Nat} {a0 : Int} {a1 : List (Int × Int)} {a2 : List Int} {r : Bool} (h : F_i_Plan_formed_wze fu a0 a1 a2 = some r) :
    ACall Try.prog 52 [.v (.c (.p 0 0))] [.bx [.int .i64 a0, .ls false (.pr (.num .i64) (.num .i64)) a1, .ls false (.num .i64) a2]] [0] (.v (.c (.bool r))) [.bx [.int .i64 a0, .ls false (.pr (.num .i64) (.num .i64)) a1, .ls false (.num .i64) a2]] := by
  unfold F_i_Plan_formed_wze at h
  refine acall_of_aw ttOK Try.func52 (by kernel_rfl) (c := _) rfl (N := 66) (by kernel_rfl) (Nat.le_of_ble_eq_true rfl) ?_
  refine aw_seq ?_
  refine aw_region ttOK (C := True) (hs := [(0, { id := 100 })]) (gs := []) (rn := []) (l' := [(1, .v (.c (.p 100 0)))]) (h' := [(0, .bx [.int .i64 a0, .ls false (.pr (.num .i64) (.num .i64)) a1, .ls false (.num .i64) a2]), (100, .bx [.p 0 0])]) (by kernel_rfl) trivial ?_
  refine aw_seq ?_
  refine aw_seq ?_
  obtain ⟨v1, ev1, h⟩ := bind_some h
  refine aw_region ttOK (C := (ACall Try.prog 19 [.v (.c (.int .i64 a0)), .v (.c (.int .i64 (1 : Int))), .v (.c (.int .i64 (6 : Int)))] [] [] (.v (.c (.bool v1))) []) ∧ (((!v1) == false) = true → ((!v1) == false) = true) ∧ (((!v1) == false) = true → ((!v1) == false) = true) ∧ (((!v1) == false) = true → ((!v1) == false) = true) ∧ (((!v1) == false) = true → ((!v1) == false) = true) ∧ (((!v1) == false) = true → ((!v1) == false) = true) ∧ ((!v1) = false → ((!v1) == false) = true) ∧ (((cond (!v1) true (decide ((List.length a1 : Int) > (40 : Int)))) == false) = true → ((cond (!v1) true (decide ((List.length a1 : Int) > (40 : Int)))) == false) = true) ∧ (((cond (!v1) true (decide ((List.length a1 : Int) > (40 : Int)))) == false) = true → ((cond (!v1) true (decide ((List.length a1 : Int) > (40 : Int)))) == false) = true) ∧ (((cond (!v1) true (decide ((List.length a1 : Int) > (40 : Int)))) == false) = true → ((cond (!v1) true (decide ((List.length a1 : Int) > (40 : Int)))) == false) = true) ∧ (((cond (!v1) true (decide ((List.length a1 : Int) > (40 : Int)))) == false) = true → ((cond (!v1) true (decide ((List.length a1 : Int) > (40 : Int)))) == false) = true) ∧ (((cond (!v1) true (decide ((List.length a1 : Int) > (40 : Int)))) == false) = true → ((cond (!v1) true (decide ((List.length a1 : Int) > (40 : Int)))) == false) = true) ∧ ((cond (!v1) true (decide ((List.length a1 : Int) > (40 : Int)))) = false → ((cond (!v1) true (decide ((List.length a1 : Int) > (40 : Int)))) == false) = true) ∧ True) (hs := [(4, { call := some { f := 19, casts := [.same, .same, .same], r := .v (.c (.bool v1)) } })]) (gs := []) (rn := []) (l' := [(1, .v (.c (.p 100 0))), (26, .v (.c (.bool (cond (cond (!v1) true (decide ((List.length a1 : Int) > (40 : Int)))) true (decide ((List.length a2 : Int) > (6 : Int)))))))]) (h' := [(0, .bx [.int .i64 a0, .ls false (.pr (.num .i64) (.num .i64)) a1, .ls false (.num .i64) a2]), (100, .bx [.p 0 0])]) (by kernel_rfl) ⟨(F_i_in_ok ev1), (fun h => h), (fun h => h), (fun h => h), (fun h => h), (fun h => h), (fun h => beq_iff_eq.2 h), (fun h => h), (fun h => h), (fun h => h), (fun h => h), (fun h => h), (fun h => beq_iff_eq.2 h), trivial⟩ ?_
  refine aw_if (cond (cond (!v1) true (decide ((List.length a1 : Int) > (40 : Int)))) true (decide ((List.length a2 : Int) > (6 : Int)))) (by kernel_rfl) (fun hb => ?_) (fun hb => ?_)
  · rw [ite_t hb] at h
    refine aw_seq ?_
    refine aw_region ttOK (C := True) (hs := []) (gs := []) (rn := []) (l' := [(2, .v (.c (.bool false)))]) (h' := [(0, .bx [.int .i64 a0, .ls false (.pr (.num .i64) (.num .i64)) a1, .ls false (.num .i64) a2])]) (by kernel_rfl) trivial ?_
    refine aw_ghost (gs := []) (rn := []) (l' := [(2, .v (.c (.bool false)))]) (h' := [(0, .bx [.int .i64 a0, .ls false (.pr (.num .i64) (.num .i64)) a1, .ls false (.num .i64) a2])]) (by kernel_rfl) ?_
    refine aw_ret (ret_ok [0] ?_)
    cases h
    kernel_rfl
  · rw [ite_f hb] at h
    refine aw_ghost (gs := []) (rn := []) (l' := [(1, .v (.c (.p 100 0)))]) (h' := [(0, .bx [.int .i64 a0, .ls false (.pr (.num .i64) (.num .i64)) a1, .ls false (.num .i64) a2]), (100, .bx [.p 0 0])]) (by kernel_rfl) ?_
    refine aw_skip ?_
    refine aw_join (X := Unit) (fun x => ([(1, .v (.c (.p 100 0)))], [(0, .bx [.int .i64 a0, .ls false (.pr (.num .i64) (.num .i64)) a1, .ls false (.num .i64) a2]), (100, .bx [.p 0 0])])) (fun x => F_i_Plan_formed_wzeJ1 fu a2 a0 a1 = some r) ?_ ?_
    · rintro _ h
      unfold F_i_Plan_formed_wzeJ1 at h
      refine aw_seq ?_
      obtain ⟨v2, ev2, h⟩ := bind_some h
      refine aw_region ttOK (C := (ACall Try.prog 20 [.v (.c (.ls false (.num .i64) a2)), .v (.c (.fn 68 [0]))] [.bx [.p 1 0], .bx [.int .i64 a0, .ls false (.pr (.num .i64) (.num .i64)) a1, .ls false (.num .i64) a2]] [0, 1] (.v (.c (.bool v2))) [.bx [.p 1 0], .bx [.int .i64 a0, .ls false (.pr (.num .i64) (.num .i64)) a1, .ls false (.num .i64) a2]]) ∧ True) (hs := [(5, { call := some { f := 20, casts := [.same, .same], sel := [100, 0], kp := [0, 1], r := .v (.c (.bool v2)), Hout := [.bx [.p 1 0], .bx [.int .i64 a0, .ls false (.pr (.num .i64) (.num .i64)) a1, .ls false (.num .i64) a2]], ren := [100, 0] } })]) (gs := []) (rn := []) (l' := [(2, .v (.c (.bool (!v2))))]) (h' := [(0, .bx [.int .i64 a0, .ls false (.pr (.num .i64) (.num .i64)) a1, .ls false (.num .i64) a2])]) (by kernel_rfl) ⟨(F_slices_ContainsFunc_Lint_int_zff_ok ev2), trivial⟩ ?_
      refine aw_ghost (gs := []) (rn := []) (l' := [(2, .v (.c (.bool (!v2))))]) (h' := [(0, .bx [.int .i64 a0, .ls false (.pr (.num .i64) (.num .i64)) a1, .ls false (.num .i64) a2])]) (by kernel_rfl) ?_
      refine aw_ret (ret_ok [0] ?_)
      cases h
      kernel_rfl
    · refine aw_seq ?_
      refine aw_region ttOK (C := True) (hs := []) (gs := []) (rn := []) (l' := [(1, .v (.c (.p 100 0))), (30, .v (.c (.ls false (.pr (.num .i64) (.num .i64)) a1))), (31, .v (.c (.int .i64 (List.length a1 : Int)))), (32, .v (.c (.int .i64 (0 : Int))))]) (h' := [(0, .bx [.int .i64 a0, .ls false (.pr (.num .i64) (.num .i64)) a1, .ls false (.num .i64) a2]), (100, .bx [.p 0 0])]) (by kernel_rfl) trivial ?_
      refine aw_block ?_
      refine aw_loopF (X := Int) (fun x => ([(1, .v (.c (.p 100 0))), (30, .v (.c (.ls false (.pr (.num .i64) (.num .i64)) a1))), (31, .v (.c (.int .i64 (List.length a1 : Int)))), (32, .v (.c (.int .i64 x)))], [(0, .bx [.int .i64 a0, .ls false (.pr (.num .i64) (.num .i64)) a1, .ls false (.num .i64) a2]), (100, .bx [.p 0 0])])) (fun n x => F_i_Plan_formed_wzeL2 fu a1 a0 a2 n x = some r) fu (0 : Int) h ?_
      rintro n2 v3 h
      cases n2 with
      | zero => first | cases h | (rw [F_i_Plan_formed_wzeL2] at h; cases h)
      | succ n2 =>
        rw [F_i_Plan_formed_wzeL2] at h
        refine aw_seq ?_
        refine aw_region ttOK (C := True) (hs := []) (gs := []) (rn := []) (l' := [(1, .v (.c (.p 100 0))), (30, .v (.c (.ls false (.pr (.num .i64) (.num .i64)) a1))), (31, .v (.c (.int .i64 (List.length a1 : Int)))), (32, .v (.c (.int .i64 v3))), (33, .v (.c (.bool (decide (v3 < (List.length a1 : Int))))))]) (h' := [(0, .bx [.int .i64 a0, .ls false (.pr (.num .i64) (.num .i64)) a1, .ls false (.num .i64) a2]), (100, .bx [.p 0 0])]) (by kernel_rfl) trivial ?_
        refine aw_seq ?_
        refine aw_if (decide (v3 < (List.length a1 : Int))) (by kernel_rfl) (fun hb => ?_) (fun hb => ?_)
        · rw [ite_t hb] at h
          refine aw_ghost (gs := []) (rn := []) (l' := [(1, .v (.c (.p 100 0))), (30, .v (.c (.ls false (.pr (.num .i64) (.num .i64)) a1))), (31, .v (.c (.int .i64 (List.length a1 : Int)))), (32, .v (.c (.int .i64 v3)))]) (h' := [(0, .bx [.int .i64 a0, .ls false (.pr (.num .i64) (.num .i64)) a1, .ls false (.num .i64) a2]), (100, .bx [.p 0 0])]) (by kernel_rfl) ?_
          refine aw_skip ?_
          refine aw_seq ?_
          refine aw_block ?_
          refine aw_seq ?_
          obtain ⟨c0, h⟩ := chk_some h
          refine aw_region ttOK (C := (0 ≤ v3 ∧ v3 < (List.length a1 : Int)) ∧ True) (hs := [(3, { id := 132 })]) (gs := []) (rn := []) (l' := [(1, .v (.c (.p 100 0))), (3, .v (.c (.int .i64 v3))), (4, .v (.c (.p 132 0))), (30, .v (.c (.ls false (.pr (.num .i64) (.num .i64)) a1))), (31, .v (.c (.int .i64 (List.length a1 : Int)))), (32, .v (.c (.int .i64 v3)))]) (h' := [(0, .bx [.int .i64 a0, .ls false (.pr (.num .i64) (.num .i64)) a1, .ls false (.num .i64) a2]), (100, .bx [.p 0 0]), (132, .bx [.int .i64 (List.getD a1 (v3).toNat ((0 : Int), (0 : Int))).1, .int .i64 (List.getD a1 (v3).toNat ((0 : Int), (0 : Int))).2])]) (by kernel_rfl) ⟨c0, trivial⟩ ?_
          refine aw_seq ?_
          refine aw_draw ttOK ttMix (C := (((decide ((List.getD a1 (v3).toNat ((0 : Int), (0 : Int))).1 < (0 : Int))) == false) = true → ((decide ((List.getD a1 (v3).toNat ((0 : Int), (0 : Int))).1 < (0 : Int))) == false) = true) ∧ (((decide ((List.getD a1 (v3).toNat ((0 : Int), (0 : Int))).1 < (0 : Int))) == false) = true → ((decide ((List.getD a1 (v3).toNat ((0 : Int), (0 : Int))).1 < (0 : Int))) == false) = true) ∧ (((decide ((List.getD a1 (v3).toNat ((0 : Int), (0 : Int))).1 < (0 : Int))) == false) = true → ((decide ((List.getD a1 (v3).toNat ((0 : Int), (0 : Int))).1 < (0 : Int))) == false) = true) ∧ (((decide ((List.getD a1 (v3).toNat ((0 : Int), (0 : Int))).1 < (0 : Int))) == false) = true → ((decide ((List.getD a1 (v3).toNat ((0 : Int), (0 : Int))).1 < (0 : Int))) == false) = true) ∧ ((decide ((List.getD a1 (v3).toNat ((0 : Int), (0 : Int))).1 < (0 : Int))) = false → ((decide ((List.getD a1 (v3).toNat ((0 : Int), (0 : Int))).1 < (0 : Int))) == false) = true) ∧ (((cond (decide ((List.getD a1 (v3).toNat ((0 : Int), (0 : Int))).1 < (0 : Int))) true (decide ((List.getD a1 (v3).toNat ((0 : Int), (0 : Int))).1 > (List.getD a1 (v3).toNat ((0 : Int), (0 : Int))).2))) == false) = true → ((cond (decide ((List.getD a1 (v3).toNat ((0 : Int), (0 : Int))).1 < (0 : Int))) true (decide ((List.getD a1 (v3).toNat ((0 : Int), (0 : Int))).1 > (List.getD a1 (v3).toNat ((0 : Int), (0 : Int))).2))) == false) = true) ∧ (((cond (decide ((List.getD a1 (v3).toNat ((0 : Int), (0 : Int))).1 < (0 : Int))) true (decide ((List.getD a1 (v3).toNat ((0 : Int), (0 : Int))).1 > (List.getD a1 (v3).toNat ((0 : Int), (0 : Int))).2))) == false) = true → ((cond (decide ((List.getD a1 (v3).toNat ((0 : Int), (0 : Int))).1 < (0 : Int))) true (decide ((List.getD a1 (v3).toNat ((0 : Int), (0 : Int))).1 > (List.getD a1 (v3).toNat ((0 : Int), (0 : Int))).2))) == false) = true) ∧ (((cond (decide ((List.getD a1 (v3).toNat ((0 : Int), (0 : Int))).1 < (0 : Int))) true (decide ((List.getD a1 (v3).toNat ((0 : Int), (0 : Int))).1 > (List.getD a1 (v3).toNat ((0 : Int), (0 : Int))).2))) == false) = true → ((cond (decide ((List.getD a1 (v3).toNat ((0 : Int), (0 : Int))).1 < (0 : Int))) true (decide ((List.getD a1 (v3).toNat ((0 : Int), (0 : Int))).1 > (List.getD a1 (v3).toNat ((0 : Int), (0 : Int))).2))) == false) = true) ∧ (((cond (decide ((List.getD a1 (v3).toNat ((0 : Int), (0 : Int))).1 < (0 : Int))) true (decide ((List.getD a1 (v3).toNat ((0 : Int), (0 : Int))).1 > (List.getD a1 (v3).toNat ((0 : Int), (0 : Int))).2))) == false) = true → ((cond (decide ((List.getD a1 (v3).toNat ((0 : Int), (0 : Int))).1 < (0 : Int))) true (decide ((List.getD a1 (v3).toNat ((0 : Int), (0 : Int))).1 > (List.getD a1 (v3).toNat ((0 : Int), (0 : Int))).2))) == false) = true) ∧ (((cond (decide ((List.getD a1 (v3).toNat ((0 : Int), (0 : Int))).1 < (0 : Int))) true (decide ((List.getD a1 (v3).toNat ((0 : Int), (0 : Int))).1 > (List.getD a1 (v3).toNat ((0 : Int), (0 : Int))).2))) == false) = true → ((cond (decide ((List.getD a1 (v3).toNat ((0 : Int), (0 : Int))).1 < (0 : Int))) true (decide ((List.getD a1 (v3).toNat ((0 : Int), (0 : Int))).1 > (List.getD a1 (v3).toNat ((0 : Int), (0 : Int))).2))) == false) = true) ∧ (((cond (decide ((List.getD a1 (v3).toNat ((0 : Int), (0 : Int))).1 < (0 : Int))) true (decide ((List.getD a1 (v3).toNat ((0 : Int), (0 : Int))).1 > (List.getD a1 (v3).toNat ((0 : Int), (0 : Int))).2))) == false) = true → ((cond (decide ((List.getD a1 (v3).toNat ((0 : Int), (0 : Int))).1 < (0 : Int))) true (decide ((List.getD a1 (v3).toNat ((0 : Int), (0 : Int))).1 > (List.getD a1 (v3).toNat ((0 : Int), (0 : Int))).2))) == false) = true) ∧ (((cond (decide ((List.getD a1 (v3).toNat ((0 : Int), (0 : Int))).1 < (0 : Int))) true (decide ((List.getD a1 (v3).toNat ((0 : Int), (0 : Int))).1 > (List.getD a1 (v3).toNat ((0 : Int), (0 : Int))).2))) == false) = true → ((cond (decide ((List.getD a1 (v3).toNat ((0 : Int), (0 : Int))).1 < (0 : Int))) true (decide ((List.getD a1 (v3).toNat ((0 : Int), (0 : Int))).1 > (List.getD a1 (v3).toNat ((0 : Int), (0 : Int))).2))) == false) = true) ∧ (((cond (decide ((List.getD a1 (v3).toNat ((0 : Int), (0 : Int))).1 < (0 : Int))) true (decide ((List.getD a1 (v3).toNat ((0 : Int), (0 : Int))).1 > (List.getD a1 (v3).toNat ((0 : Int), (0 : Int))).2))) == false) = true → ((cond (decide ((List.getD a1 (v3).toNat ((0 : Int), (0 : Int))).1 < (0 : Int))) true (decide ((List.getD a1 (v3).toNat ((0 : Int), (0 : Int))).1 > (List.getD a1 (v3).toNat ((0 : Int), (0 : Int))).2))) == false) = true) ∧ ((cond (decide ((List.getD a1 (v3).toNat ((0 : Int), (0 : Int))).1 < (0 : Int))) true (decide ((List.getD a1 (v3).toNat ((0 : Int), (0 : Int))).1 > (List.getD a1 (v3).toNat ((0 : Int), (0 : Int))).2))) = false → ((cond (decide ((List.getD a1 (v3).toNat ((0 : Int), (0 : Int))).1 < (0 : Int))) true (decide ((List.getD a1 (v3).toNat ((0 : Int), (0 : Int))).1 > (List.getD a1 (v3).toNat ((0 : Int), (0 : Int))).2))) == false) = true) ∧ True) (hs := []) (anc := []) (tch := []) (gs := []) (rn := []) (l' := [(1, .v (.c (.p 100 0))), (30, .v (.c (.ls false (.pr (.num .i64) (.num .i64)) a1))), (31, .v (.c (.int .i64 (List.length a1 : Int)))), (32, .v (.c (.int .i64 v3))), (57, .v (.c (.bool (cond (cond (decide ((List.getD a1 (v3).toNat ((0 : Int), (0 : Int))).1 < (0 : Int))) true (decide ((List.getD a1 (v3).toNat ((0 : Int), (0 : Int))).1 > (List.getD a1 (v3).toNat ((0 : Int), (0 : Int))).2))) true (decide ((List.getD a1 (v3).toNat ((0 : Int), (0 : Int))).2 ≥ (IntKind.i64.wrap (a0 + v3))))))))]) (h' := [(0, .bx [.int .i64 a0, .ls false (.pr (.num .i64) (.num .i64)) a1, .ls false (.num .i64) a2]), (100, .bx [.p 0 0])]) (by kernel_rfl) ⟨(fun h => h), (fun h => h), (fun h => h), (fun h => h), (fun h => beq_iff_eq.2 h), (fun h => h), (fun h => h), (fun h => h), (fun h => h), (fun h => h), (fun h => h), (fun h => h), (fun h => h), (fun h => beq_iff_eq.2 h), trivial⟩ ?_
          refine aw_if (cond (cond (decide ((List.getD a1 (v3).toNat ((0 : Int), (0 : Int))).1 < (0 : Int))) true (decide ((List.getD a1 (v3).toNat ((0 : Int), (0 : Int))).1 > (List.getD a1 (v3).toNat ((0 : Int), (0 : Int))).2))) true (decide ((List.getD a1 (v3).toNat ((0 : Int), (0 : Int))).2 ≥ (IntKind.i64.wrap (a0 + v3))))) (by kernel_rfl) (fun hb => ?_) (fun hb => ?_)
          · rw [ite_t hb] at h
            refine aw_seq ?_
            refine aw_region ttOK (C := True) (hs := []) (gs := []) (rn := []) (l' := [(2, .v (.c (.bool false)))]) (h' := [(0, .bx [.int .i64 a0, .ls false (.pr (.num .i64) (.num .i64)) a1, .ls false (.num .i64) a2])]) (by kernel_rfl) trivial ?_
            refine aw_ghost (gs := []) (rn := []) (l' := [(2, .v (.c (.bool false)))]) (h' := [(0, .bx [.int .i64 a0, .ls false (.pr (.num .i64) (.num .i64)) a1, .ls false (.num .i64) a2])]) (by kernel_rfl) ?_
            refine aw_ret (ret_ok [0] ?_)
            cases h
            kernel_rfl
          · rw [ite_f hb] at h
            refine aw_ghost (gs := []) (rn := []) (l' := [(1, .v (.c (.p 100 0))), (30, .v (.c (.ls false (.pr (.num .i64) (.num .i64)) a1))), (31, .v (.c (.int .i64 (List.length a1 : Int)))), (32, .v (.c (.int .i64 v3)))]) (h' := [(0, .bx [.int .i64 a0, .ls false (.pr (.num .i64) (.num .i64)) a1, .ls false (.num .i64) a2]), (100, .bx [.p 0 0])]) (by kernel_rfl) ?_
            refine aw_skip ?_
            refine aw_region ttOK (C := True) (hs := []) (gs := []) (rn := []) (l' := [(1, .v (.c (.p 100 0))), (30, .v (.c (.ls false (.pr (.num .i64) (.num .i64)) a1))), (31, .v (.c (.int .i64 (List.length a1 : Int)))), (32, .v (.c (.int .i64 (IntKind.i64.wrap (v3 + (1 : Int))))))]) (h' := [(0, .bx [.int .i64 a0, .ls false (.pr (.num .i64) (.num .i64)) a1, .ls false (.num .i64) a2]), (100, .bx [.p 0 0])]) (by kernel_rfl) trivial ?_
            exact ⟨_, (IntKind.i64.wrap (v3 + (1 : Int))), Nat.lt_succ_self _, h, rfl, rfl⟩
        · rw [ite_f hb] at h
          refine aw_ghost (gs := []) (rn := []) (l' := [(1, .v (.c (.p 100 0)))]) (h' := [(0, .bx [.int .i64 a0, .ls false (.pr (.num .i64) (.num .i64)) a1, .ls false (.num .i64) a2]), (100, .bx [.p 0 0])]) (by kernel_rfl) ?_
          refine aw_exit ?_
          exact ⟨(), h, rfl, rfl⟩

theorem F_i_Plan_exponents_wze_ok {fu : Nat} {a0 : Int} {a1 : List (Int × Int)} {a2 : List Int} {r : List (List Int)} (h : F_i_Plan_exponents_wze fu a0 a1 a2 = some r) :
    ACall Try.prog 54 [.v (.c (.p 0 0))] [.bx [.int .i64 a0, .ls false (.pr (.num .i64) (.num .i64)) a1, .ls false (.num .i64) a2]] [0] (.v (.c (.ho 1))) [.bx [.int .i64 a0, .ls false (.pr (.num .i64) (.num .i64)) a1, .ls false (.num .i64) a2], .vc 24 (.sl (.num .i64)) r] := by
  unfold F_i_Plan_exponents_wze at h
  refine acall_of_aw ttOK Try.func54 (by kernel_rfl) (c := _) rfl (N := 74) (by kernel_rfl) (Nat.le_of_ble_eq_true rfl) ?_
  refine aw_seq ?_
  refine aw_region ttOK (C := True) (hs := []) (gs := []) (rn := []) (l' := [(0, .v (.c (.p 0 0)))]) (h' := [(0, .bx [.int .i64 a0, .ls false (.pr (.num .i64) (.num .i64)) a1, .ls false (.num .i64) a2])]) (by kernel_rfl) trivial ?_
  refine aw_seq ?_
  refine aw_region ttOK (C := True) (hs := [(0, { id := 101 })]) (gs := []) (rn := []) (l' := [(0, .v (.c (.p 0 0))), (3, .v (.c (.ho 101)))]) (h' := [(0, .bx [.int .i64 a0, .ls false (.pr (.num .i64) (.num .i64)) a1, .ls false (.num .i64) a2]), (101, .vc 24 (.sl (.num .i64)) ([] : List (List Int)))]) (by kernel_rfl) trivial ?_
  refine aw_join (X := List (List Int)) (fun x => ([(0, .v (.c (.p 0 0))), (3, .v (.c (.ho 101)))], [(0, .bx [.int .i64 a0, .ls false (.pr (.num .i64) (.num .i64)) a1, .ls false (.num .i64) a2]), (101, .vc 24 (.sl (.num .i64)) x)])) (fun x => F_i_Plan_exponents_wzeJ1 fu a1 x = some r) ?_ ?_
  · rintro v1 h
    unfold F_i_Plan_exponents_wzeJ1 at h
    refine aw_join (X := List (List Int)) (fun x => ([(3, .v (.c (.ho 101)))], [(0, .bx [.int .i64 a0, .ls false (.pr (.num .i64) (.num .i64)) a1, .ls false (.num .i64) a2]), (101, .vc 24 (.sl (.num .i64)) x)])) (fun x => F_i_Plan_exponents_wzeJ2 fu x = some r) ?_ ?_
    · rintro v2 h
      unfold F_i_Plan_exponents_wzeJ2 at h
      refine aw_seq ?_
      refine aw_region ttOK (C := True) (hs := []) (gs := []) (rn := []) (l' := [(2, .v (.c (.ho 101)))]) (h' := [(0, .bx [.int .i64 a0, .ls false (.pr (.num .i64) (.num .i64)) a1, .ls false (.num .i64) a2]), (101, .vc 24 (.sl (.num .i64)) v2)]) (by kernel_rfl) trivial ?_
      refine aw_ghost (gs := []) (rn := []) (l' := [(2, .v (.c (.ho 101)))]) (h' := [(0, .bx [.int .i64 a0, .ls false (.pr (.num .i64) (.num .i64)) a1, .ls false (.num .i64) a2]), (101, .vc 24 (.sl (.num .i64)) v2)]) (by kernel_rfl) ?_
      refine aw_ret (ret_ok [0, 101] ?_)
      cases h
      kernel_rfl
    · refine aw_seq ?_
      refine aw_region ttOK (C := True) (hs := []) (gs := []) (rn := []) (l' := [(3, .v (.c (.ho 101))), (35, .v (.c (.ls false (.pr (.num .i64) (.num .i64)) a1))), (36, .v (.c (.int .i64 (List.length a1 : Int)))), (37, .v (.c (.int .i64 (0 : Int))))]) (h' := [(0, .bx [.int .i64 a0, .ls false (.pr (.num .i64) (.num .i64)) a1, .ls false (.num .i64) a2]), (101, .vc 24 (.sl (.num .i64)) v1)]) (by kernel_rfl) trivial ?_
      refine aw_block ?_
      refine aw_loopF (X := Int × Int × List (List Int)) (fun x => ([(3, .v (.c (.ho 101))), (35, .v (.c (.ls false (.pr (.num .i64) (.num .i64)) a1))), (36, .v (.c (.int .i64 x.1))), (37, .v (.c (.int .i64 x.2.1)))], [(0, .bx [.int .i64 a0, .ls false (.pr (.num .i64) (.num .i64)) a1, .ls false (.num .i64) a2]), (101, .vc 24 (.sl (.num .i64)) x.2.2)])) (fun n x => F_i_Plan_exponents_wzeL3 fu a1 n x.1 x.2.1 x.2.2 = some r) fu ((List.length a1 : Int), (0 : Int), v1) h ?_
      rintro n3 ⟨v5, v6, v7⟩ h
      cases n3 with
      | zero => first | cases h | (rw [F_i_Plan_exponents_wzeL3] at h; cases h)
      | succ n3 =>
        rw [F_i_Plan_exponents_wzeL3] at h
        refine aw_seq ?_
        refine aw_region ttOK (C := True) (hs := []) (gs := []) (rn := []) (l' := [(3, .v (.c (.ho 101))), (35, .v (.c (.ls false (.pr (.num .i64) (.num .i64)) a1))), (36, .v (.c (.int .i64 v5))), (37, .v (.c (.int .i64 v6))), (38, .v (.c (.bool (decide (v6 < v5)))))]) (h' := [(0, .bx [.int .i64 a0, .ls false (.pr (.num .i64) (.num .i64)) a1, .ls false (.num .i64) a2]), (101, .vc 24 (.sl (.num .i64)) v7)]) (by kernel_rfl) trivial ?_
        refine aw_seq ?_
        refine aw_if (decide (v6 < v5)) (by kernel_rfl) (fun hb => ?_) (fun hb => ?_)
        · rw [ite_t hb] at h
          refine aw_ghost (gs := []) (rn := []) (l' := [(3, .v (.c (.ho 101))), (35, .v (.c (.ls false (.pr (.num .i64) (.num .i64)) a1))), (36, .v (.c (.int .i64 v5))), (37, .v (.c (.int .i64 v6)))]) (h' := [(0, .bx [.int .i64 a0, .ls false (.pr (.num .i64) (.num .i64)) a1, .ls false (.num .i64) a2]), (101, .vc 24 (.sl (.num .i64)) v7)]) (by kernel_rfl) ?_
          refine aw_skip ?_
          refine aw_join (X := Int × Int × List (List Int)) (fun x => ([(3, .v (.c (.ho 174))), (35, .v (.c (.ls false (.pr (.num .i64) (.num .i64)) a1))), (36, .v (.c (.int .i64 x.1))), (37, .v (.c (.int .i64 x.2.1)))], [(0, .bx [.int .i64 a0, .ls false (.pr (.num .i64) (.num .i64)) a1, .ls false (.num .i64) a2]), (174, .vc 24 (.sl (.num .i64)) x.2.2)])) (fun x => F_i_Plan_exponents_wzeJ4 fu (F_i_Plan_exponents_wzeL3 fu a1 n3) x.1 x.2.1 x.2.2 = some r) ?_ ?_
          · rintro ⟨v8, v9, v10⟩ h
            unfold F_i_Plan_exponents_wzeJ4 at h
            refine aw_region ttOK (C := True) (hs := []) (gs := []) (rn := [(174, 101)]) (l' := [(3, .v (.c (.ho 101))), (35, .v (.c (.ls false (.pr (.num .i64) (.num .i64)) a1))), (36, .v (.c (.int .i64 v8))), (37, .v (.c (.int .i64 (IntKind.i64.wrap (v9 + (1 : Int))))))]) (h' := [(0, .bx [.int .i64 a0, .ls false (.pr (.num .i64) (.num .i64)) a1, .ls false (.num .i64) a2]), (101, .vc 24 (.sl (.num .i64)) v10)]) (by kernel_rfl) trivial ?_
            exact ⟨_, (v8, (IntKind.i64.wrap (v9 + (1 : Int))), v10), Nat.lt_succ_self _, h, rfl, rfl⟩
          · refine aw_block ?_
            refine aw_seq ?_
            obtain ⟨c0, h⟩ := chk_some h
            refine aw_region ttOK (C := (0 ≤ v6 ∧ v6 < (List.length a1 : Int)) ∧ True) (hs := [(2, { id := 137 })]) (gs := []) (rn := []) (l' := [(3, .v (.c (.ho 101))), (7, .v (.c (.p 137 0))), (35, .v (.c (.ls false (.pr (.num .i64) (.num .i64)) a1))), (36, .v (.c (.int .i64 v5))), (37, .v (.c (.int .i64 v6)))]) (h' := [(0, .bx [.int .i64 a0, .ls false (.pr (.num .i64) (.num .i64)) a1, .ls false (.num .i64) a2]), (101, .vc 24 (.sl (.num .i64)) v7), (137, .bx [.int .i64 (List.getD a1 (v6).toNat ((0 : Int), (0 : Int))).1, .int .i64 (List.getD a1 (v6).toNat ((0 : Int), (0 : Int))).2])]) (by kernel_rfl) ⟨c0, trivial⟩ ?_
            refine aw_seq ?_
            refine aw_region ttOK (C := True) (hs := [(0, { id := 139 })]) (gs := []) (rn := []) (l' := [(3, .v (.c (.ho 101))), (7, .v (.c (.p 137 0))), (8, .v (.c (.ho 139))), (35, .v (.c (.ls false (.pr (.num .i64) (.num .i64)) a1))), (36, .v (.c (.int .i64 v5))), (37, .v (.c (.int .i64 v6)))]) (h' := [(0, .bx [.int .i64 a0, .ls false (.pr (.num .i64) (.num .i64)) a1, .ls false (.num .i64) a2]), (101, .vc 24 (.sl (.num .i64)) v7), (137, .bx [.int .i64 (List.getD a1 (v6).toNat ((0 : Int), (0 : Int))).1, .int .i64 (List.getD a1 (v6).toNat ((0 : Int), (0 : Int))).2]), (139, .vc 3 (.num .i64) ([] : List Int))]) (by kernel_rfl) trivial ?_
            refine aw_join (X := Int × Int × List (List Int) × List Int) (fun x => ([(3, .v (.c (.ho 101))), (8, .v (.c (.ho 139))), (35, .v (.c (.ls false (.pr (.num .i64) (.num .i64)) a1))), (36, .v (.c (.int .i64 x.1))), (37, .v (.c (.int .i64 x.2.1)))], [(0, .bx [.int .i64 a0, .ls false (.pr (.num .i64) (.num .i64)) a1, .ls false (.num .i64) a2]), (101, .vc 24 (.sl (.num .i64)) x.2.2.1), (139, .vc 3 (.num .i64) x.2.2.2)])) (fun x => F_i_Plan_exponents_wzeJ5 fu (F_i_Plan_exponents_wzeL3 fu a1 n3) x.1 x.2.1 x.2.2.1 x.2.2.2 = some r) ?_ ?_
            · rintro ⟨v8, v9, v10, v11⟩ h
              unfold F_i_Plan_exponents_wzeJ5 at h
              obtain ⟨c0, h⟩ := chk_some h
              refine aw_region ttOK (C := ((List.length v10 + List.length ([v11] : List (List Int))) * 24 ≤ 140737488355328) ∧ True) (hs := [(2, { id := 173, frz := [139] }), (3, { id := 174 })]) (gs := []) (rn := []) (l' := [(3, .v (.c (.ho 174))), (35, .v (.c (.ls false (.pr (.num .i64) (.num .i64)) a1))), (36, .v (.c (.int .i64 v8))), (37, .v (.c (.int .i64 v9)))]) (h' := [(0, .bx [.int .i64 a0, .ls false (.pr (.num .i64) (.num .i64)) a1, .ls false (.num .i64) a2]), (174, .vc 24 (.sl (.num .i64)) (v10 ++ ([v11] : List (List Int))))]) (by kernel_rfl) ⟨c0, trivial⟩ ?_
              exact ⟨(v8, v9, (v10 ++ ([v11] : List (List Int)))), h, rfl, rfl⟩
            · refine aw_seq ?_
              obtain ⟨c0, h⟩ := chk_some h
              refine aw_region ttOK (C := (0 ≤ (List.getD a1 (v6).toNat ((0 : Int), (0 : Int))).1 ∧ (List.getD a1 (v6).toNat ((0 : Int), (0 : Int))).1 < (List.length v7 : Int)) ∧ True) (hs := []) (gs := []) (rn := []) (l' := [(3, .v (.c (.ho 101))), (7, .v (.c (.p 137 0))), (8, .v (.c (.ho 139))), (35, .v (.c (.ls false (.pr (.num .i64) (.num .i64)) a1))), (36, .v (.c (.int .i64 v5))), (37, .v (.c (.int .i64 v6))), (46, .v (.c (.ls false (.num .i64) (List.getD v7 ((List.getD a1 (v6).toNat ((0 : Int), (0 : Int))).1).toNat ([] : List Int))))), (47, .v (.c (.int .i64 (List.length (List.getD v7 ((List.getD a1 (v6).toNat ((0 : Int), (0 : Int))).1).toNat ([] : List Int)) : Int)))), (48, .v (.c (.int .i64 (0 : Int))))]) (h' := [(0, .bx [.int .i64 a0, .ls false (.pr (.num .i64) (.num .i64)) a1, .ls false (.num .i64) a2]), (101, .vc 24 (.sl (.num .i64)) v7), (137, .bx [.int .i64 (List.getD a1 (v6).toNat ((0 : Int), (0 : Int))).1, .int .i64 (List.getD a1 (v6).toNat ((0 : Int), (0 : Int))).2]), (139, .vc 3 (.num .i64) ([] : List Int))]) (by kernel_rfl) ⟨c0, trivial⟩ ?_
              refine aw_block ?_
              refine aw_loopF (X := Int × List Int) (fun x => ([(3, .v (.c (.ho 101))), (7, .v (.c (.p 137 0))), (8, .v (.c (.ho 139))), (35, .v (.c (.ls false (.pr (.num .i64) (.num .i64)) a1))), (36, .v (.c (.int .i64 v5))), (37, .v (.c (.int .i64 v6))), (46, .v (.c (.ls false (.num .i64) (List.getD v7 ((List.getD a1 (v6).toNat ((0 : Int), (0 : Int))).1).toNat ([] : List Int))))), (47, .v (.c (.int .i64 (List.length (List.getD v7 ((List.getD a1 (v6).toNat ((0 : Int), (0 : Int))).1).toNat ([] : List Int)) : Int)))), (48, .v (.c (.int .i64 x.1)))], [(0, .bx [.int .i64 a0, .ls false (.pr (.num .i64) (.num .i64)) a1, .ls false (.num .i64) a2]), (101, .vc 24 (.sl (.num .i64)) v7), (137, .bx [.int .i64 (List.getD a1 (v6).toNat ((0 : Int), (0 : Int))).1, .int .i64 (List.getD a1 (v6).toNat ((0 : Int), (0 : Int))).2]), (139, .vc 3 (.num .i64) x.2)])) (fun n x => F_i_Plan_exponents_wzeL6 fu v7 a1 v6 (F_i_Plan_exponents_wzeL3 fu a1 n3) v5 n x.1 x.2 = some r) fu ((0 : Int), ([] : List Int)) h ?_
              rintro n6 ⟨v10, v11⟩ h
              cases n6 with
              | zero => first | cases h | (rw [F_i_Plan_exponents_wzeL6] at h; cases h)
              | succ n6 =>
                rw [F_i_Plan_exponents_wzeL6] at h
                refine aw_seq ?_
                refine aw_region ttOK (C := True) (hs := []) (gs := []) (rn := []) (l' := [(3, .v (.c (.ho 101))), (7, .v (.c (.p 137 0))), (8, .v (.c (.ho 139))), (35, .v (.c (.ls false (.pr (.num .i64) (.num .i64)) a1))), (36, .v (.c (.int .i64 v5))), (37, .v (.c (.int .i64 v6))), (46, .v (.c (.ls false (.num .i64) (List.getD v7 ((List.getD a1 (v6).toNat ((0 : Int), (0 : Int))).1).toNat ([] : List Int))))), (47, .v (.c (.int .i64 (List.length (List.getD v7 ((List.getD a1 (v6).toNat ((0 : Int), (0 : Int))).1).toNat ([] : List Int)) : Int)))), (48, .v (.c (.int .i64 v10))), (49, .v (.c (.bool (decide (v10 < (List.length (List.getD v7 ((List.getD a1 (v6).toNat ((0 : Int), (0 : Int))).1).toNat ([] : List Int)) : Int))))))]) (h' := [(0, .bx [.int .i64 a0, .ls false (.pr (.num .i64) (.num .i64)) a1, .ls false (.num .i64) a2]), (101, .vc 24 (.sl (.num .i64)) v7), (137, .bx [.int .i64 (List.getD a1 (v6).toNat ((0 : Int), (0 : Int))).1, .int .i64 (List.getD a1 (v6).toNat ((0 : Int), (0 : Int))).2]), (139, .vc 3 (.num .i64) v11)]) (by kernel_rfl) trivial ?_
                refine aw_seq ?_
                refine aw_if (decide (v10 < (List.length (List.getD v7 ((List.getD a1 (v6).toNat ((0 : Int), (0 : Int))).1).toNat ([] : List Int)) : Int))) (by kernel_rfl) (fun hb => ?_) (fun hb => ?_)
                · rw [ite_t hb] at h
                  refine aw_ghost (gs := []) (rn := []) (l' := [(3, .v (.c (.ho 101))), (7, .v (.c (.p 137 0))), (8, .v (.c (.ho 139))), (35, .v (.c (.ls false (.pr (.num .i64) (.num .i64)) a1))), (36, .v (.c (.int .i64 v5))), (37, .v (.c (.int .i64 v6))), (46, .v (.c (.ls false (.num .i64) (List.getD v7 ((List.getD a1 (v6).toNat ((0 : Int), (0 : Int))).1).toNat ([] : List Int))))), (47, .v (.c (.int .i64 (List.length (List.getD v7 ((List.getD a1 (v6).toNat ((0 : Int), (0 : Int))).1).toNat ([] : List Int)) : Int)))), (48, .v (.c (.int .i64 v10)))]) (h' := [(0, .bx [.int .i64 a0, .ls false (.pr (.num .i64) (.num .i64)) a1, .ls false (.num .i64) a2]), (101, .vc 24 (.sl (.num .i64)) v7), (137, .bx [.int .i64 (List.getD a1 (v6).toNat ((0 : Int), (0 : Int))).1, .int .i64 (List.getD a1 (v6).toNat ((0 : Int), (0 : Int))).2]), (139, .vc 3 (.num .i64) v11)]) (by kernel_rfl) ?_
                  refine aw_skip ?_
                  refine aw_seq ?_
                  refine aw_block ?_
                  refine aw_seq ?_
                  obtain ⟨c0, h⟩ := chk_some h
                  refine aw_region ttOK (C := (0 ≤ v10 ∧ v10 < (List.length (List.getD v7 ((List.getD a1 (v6).toNat ((0 : Int), (0 : Int))).1).toNat ([] : List Int)) : Int)) ∧ True) (hs := []) (gs := []) (rn := []) (l' := [(3, .v (.c (.ho 101))), (7, .v (.c (.p 137 0))), (8, .v (.c (.ho 139))), (9, .v (.c (.int .i64 v10))), (10, .v (.c (.int .i64 (List.getD (List.getD v7 ((List.getD a1 (v6).toNat ((0 : Int), (0 : Int))).1).toNat ([] : List Int)) (v10).toNat (0 : Int))))), (35, .v (.c (.ls false (.pr (.num .i64) (.num .i64)) a1))), (36, .v (.c (.int .i64 v5))), (37, .v (.c (.int .i64 v6))), (46, .v (.c (.ls false (.num .i64) (List.getD v7 ((List.getD a1 (v6).toNat ((0 : Int), (0 : Int))).1).toNat ([] : List Int))))), (47, .v (.c (.int .i64 (List.length (List.getD v7 ((List.getD a1 (v6).toNat ((0 : Int), (0 : Int))).1).toNat ([] : List Int)) : Int)))), (48, .v (.c (.int .i64 v10)))]) (h' := [(0, .bx [.int .i64 a0, .ls false (.pr (.num .i64) (.num .i64)) a1, .ls false (.num .i64) a2]), (101, .vc 24 (.sl (.num .i64)) v7), (137, .bx [.int .i64 (List.getD a1 (v6).toNat ((0 : Int), (0 : Int))).1, .int .i64 (List.getD a1 (v6).toNat ((0 : Int), (0 : Int))).2]), (139, .vc 3 (.num .i64) v11)]) (by kernel_rfl) ⟨c0, trivial⟩ ?_
                  obtain ⟨⟨c0, c1, c2⟩, h⟩ := chk_some h
                  refine aw_region ttOK (C := (0 ≤ (List.getD a1 (v6).toNat ((0 : Int), (0 : Int))).2 ∧ (List.getD a1 (v6).toNat ((0 : Int), (0 : Int))).2 < (List.length v7 : Int)) ∧ (0 ≤ v10 ∧ v10 < (List.length (List.getD v7 ((List.getD a1 (v6).toNat ((0 : Int), (0 : Int))).2).toNat ([] : List Int)) : Int)) ∧ ((List.length v11 + List.length ([(if (1000001 : Int) < (IntKind.i64.wrap ((List.getD (List.getD v7 ((List.getD a1 (v6).toNat ((0 : Int), (0 : Int))).1).toNat ([] : List Int)) (v10).toNat (0 : Int)) + (List.getD (List.getD v7 ((List.getD a1 (v6).toNat ((0 : Int), (0 : Int))).2).toNat ([] : List Int)) (v10).toNat (0 : Int)))) then (1000001 : Int) else (IntKind.i64.wrap ((List.getD (List.getD v7 ((List.getD a1 (v6).toNat ((0 : Int), (0 : Int))).1).toNat ([] : List Int)) (v10).toNat (0 : Int)) + (List.getD (List.getD v7 ((List.getD a1 (v6).toNat ((0 : Int), (0 : Int))).2).toNat ([] : List Int)) (v10).toNat (0 : Int)))))] : List Int)) * 8 ≤ 140737488355328) ∧ True) (hs := [(12, { id := 166 }), (13, { id := 167 })]) (gs := []) (rn := []) (l' := [(3, .v (.c (.ho 101))), (7, .v (.c (.p 137 0))), (8, .v (.c (.ho 167))), (35, .v (.c (.ls false (.pr (.num .i64) (.num .i64)) a1))), (36, .v (.c (.int .i64 v5))), (37, .v (.c (.int .i64 v6))), (46, .v (.c (.ls false (.num .i64) (List.getD v7 ((List.getD a1 (v6).toNat ((0 : Int), (0 : Int))).1).toNat ([] : List Int))))), (47, .v (.c (.int .i64 (List.length (List.getD v7 ((List.getD a1 (v6).toNat ((0 : Int), (0 : Int))).1).toNat ([] : List Int)) : Int)))), (48, .v (.c (.int .i64 v10)))]) (h' := [(0, .bx [.int .i64 a0, .ls false (.pr (.num .i64) (.num .i64)) a1, .ls false (.num .i64) a2]), (101, .vc 24 (.sl (.num .i64)) v7), (137, .bx [.int .i64 (List.getD a1 (v6).toNat ((0 : Int), (0 : Int))).1, .int .i64 (List.getD a1 (v6).toNat ((0 : Int), (0 : Int))).2]), (167, .vc 3 (.num .i64) (v11 ++ ([(if (1000001 : Int) < (IntKind.i64.wrap ((List.getD (List.getD v7 ((List.getD a1 (v6).toNat ((0 : Int), (0 : Int))).1).toNat ([] : List Int)) (v10).toNat (0 : Int)) + (List.getD (List.getD v7 ((List.getD a1 (v6).toNat ((0 : Int), (0 : Int))).2).toNat ([] : List Int)) (v10).toNat (0 : Int)))) then (1000001 : Int) else (IntKind.i64.wrap ((List.getD (List.getD v7 ((List.getD a1 (v6).toNat ((0 : Int), (0 : Int))).1).toNat ([] : List Int)) (v10).toNat (0 : Int)) + (List.getD (List.getD v7 ((List.getD a1 (v6).toNat ((0 : Int), (0 : Int))).2).toNat ([] : List Int)) (v10).toNat (0 : Int)))))] : List Int)))]) (by kernel_rfl) ⟨c0, c1, c2, trivial⟩ ?_
                  refine aw_region ttOK (C := True) (hs := []) (gs := []) (rn := [(167, 139)]) (l' := [(3, .v (.c (.ho 101))), (7, .v (.c (.p 137 0))), (8, .v (.c (.ho 139))), (35, .v (.c (.ls false (.pr (.num .i64) (.num .i64)) a1))), (36, .v (.c (.int .i64 v5))), (37, .v (.c (.int .i64 v6))), (46, .v (.c (.ls false (.num .i64) (List.getD v7 ((List.getD a1 (v6).toNat ((0 : Int), (0 : Int))).1).toNat ([] : List Int))))), (47, .v (.c (.int .i64 (List.length (List.getD v7 ((List.getD a1 (v6).toNat ((0 : Int), (0 : Int))).1).toNat ([] : List Int)) : Int)))), (48, .v (.c (.int .i64 (IntKind.i64.wrap (v10 + (1 : Int))))))]) (h' := [(0, .bx [.int .i64 a0, .ls false (.pr (.num .i64) (.num .i64)) a1, .ls false (.num .i64) a2]), (101, .vc 24 (.sl (.num .i64)) v7), (137, .bx [.int .i64 (List.getD a1 (v6).toNat ((0 : Int), (0 : Int))).1, .int .i64 (List.getD a1 (v6).toNat ((0 : Int), (0 : Int))).2]), (139, .vc 3 (.num .i64) (v11 ++ ([(if (1000001 : Int) < (IntKind.i64.wrap ((List.getD (List.getD v7 ((List.getD a1 (v6).toNat ((0 : Int), (0 : Int))).1).toNat ([] : List Int)) (v10).toNat (0 : Int)) + (List.getD (List.getD v7 ((List.getD a1 (v6).toNat ((0 : Int), (0 : Int))).2).toNat ([] : List Int)) (v10).toNat (0 : Int)))) then (1000001 : Int) else (IntKind.i64.wrap ((List.getD (List.getD v7 ((List.getD a1 (v6).toNat ((0 : Int), (0 : Int))).1).toNat ([] : List Int)) (v10).toNat (0 : Int)) + (List.getD (List.getD v7 ((List.getD a1 (v6).toNat ((0 : Int), (0 : Int))).2).toNat ([] : List Int)) (v10).toNat (0 : Int)))))] : List Int)))]) (by kernel_rfl) trivial ?_
                  exact ⟨_, ((IntKind.i64.wrap (v10 + (1 : Int))), (v11 ++ ([(if (1000001 : Int) < (IntKind.i64.wrap ((List.getD (List.getD v7 ((List.getD a1 (v6).toNat ((0 : Int), (0 : Int))).1).toNat ([] : List Int)) (v10).toNat (0 : Int)) + (List.getD (List.getD v7 ((List.getD a1 (v6).toNat ((0 : Int), (0 : Int))).2).toNat ([] : List Int)) (v10).toNat (0 : Int)))) then (1000001 : Int) else (IntKind.i64.wrap ((List.getD (List.getD v7 ((List.getD a1 (v6).toNat ((0 : Int), (0 : Int))).1).toNat ([] : List Int)) (v10).toNat (0 : Int)) + (List.getD (List.getD v7 ((List.getD a1 (v6).toNat ((0 : Int), (0 : Int))).2).toNat ([] : List Int)) (v10).toNat (0 : Int)))))] : List Int))), Nat.lt_succ_self _, h, rfl, rfl⟩
                · rw [ite_f hb] at h
                  refine aw_ghost (gs := []) (rn := []) (l' := [(3, .v (.c (.ho 101))), (8, .v (.c (.ho 139))), (35, .v (.c (.ls false (.pr (.num .i64) (.num .i64)) a1))), (36, .v (.c (.int .i64 v5))), (37, .v (.c (.int .i64 v6)))]) (h' := [(0, .bx [.int .i64 a0, .ls false (.pr (.num .i64) (.num .i64)) a1, .ls false (.num .i64) a2]), (101, .vc 24 (.sl (.num .i64)) v7), (139, .vc 3 (.num .i64) v11)]) (by kernel_rfl) ?_
                  refine aw_exit ?_
                  exact ⟨(v5, v6, v7, v11), h, rfl, rfl⟩
        · rw [ite_f hb] at h
          refine aw_ghost (gs := []) (rn := []) (l' := [(3, .v (.c (.ho 101)))]) (h' := [(0, .bx [.int .i64 a0, .ls false (.pr (.num .i64) (.num .i64)) a1, .ls false (.num .i64) a2]), (101, .vc 24 (.sl (.num .i64)) v7)]) (by kernel_rfl) ?_
          refine aw_exit ?_
          exact ⟨v7, h, rfl, rfl⟩
  · refine aw_seq ?_
    refine aw_region ttOK (C := True) (hs := []) (gs := []) (rn := []) (l' := [(0, .v (.c (.p 0 0))), (3, .v (.c (.ho 101))), (15, .v (.c (.int .i64 a0))), (16, .v (.c (.int .i64 (0 : Int))))]) (h' := [(0, .bx [.int .i64 a0, .ls false (.pr (.num .i64) (.num .i64)) a1, .ls false (.num .i64) a2]), (101, .vc 24 (.sl (.num .i64)) ([] : List (List Int)))]) (by kernel_rfl) trivial ?_
    refine aw_block ?_
    refine aw_loopF (X := Int × List (List Int)) (fun x => ([(0, .v (.c (.p 0 0))), (3, .v (.c (.ho 101))), (15, .v (.c (.int .i64 a0))), (16, .v (.c (.int .i64 x.1)))], [(0, .bx [.int .i64 a0, .ls false (.pr (.num .i64) (.num .i64)) a1, .ls false (.num .i64) a2]), (101, .vc 24 (.sl (.num .i64)) x.2)])) (fun n x => F_i_Plan_exponents_wzeL7 fu a0 a1 n x.1 x.2 = some r) fu ((0 : Int), ([] : List (List Int))) h ?_
    rintro n7 ⟨v3, v4⟩ h
    cases n7 with
    | zero => first | cases h | (rw [F_i_Plan_exponents_wzeL7] at h; cases h)
    | succ n7 =>
      rw [F_i_Plan_exponents_wzeL7] at h
      refine aw_seq ?_
      refine aw_region ttOK (C := True) (hs := []) (gs := []) (rn := []) (l' := [(0, .v (.c (.p 0 0))), (3, .v (.c (.ho 101))), (15, .v (.c (.int .i64 a0))), (16, .v (.c (.int .i64 v3))), (17, .v (.c (.bool (decide (v3 < a0)))))]) (h' := [(0, .bx [.int .i64 a0, .ls false (.pr (.num .i64) (.num .i64)) a1, .ls false (.num .i64) a2]), (101, .vc 24 (.sl (.num .i64)) v4)]) (by kernel_rfl) trivial ?_
      refine aw_seq ?_
      refine aw_if (decide (v3 < a0)) (by kernel_rfl) (fun hb => ?_) (fun hb => ?_)
      · rw [ite_t hb] at h
        refine aw_ghost (gs := []) (rn := []) (l' := [(0, .v (.c (.p 0 0))), (3, .v (.c (.ho 101))), (15, .v (.c (.int .i64 a0))), (16, .v (.c (.int .i64 v3)))]) (h' := [(0, .bx [.int .i64 a0, .ls false (.pr (.num .i64) (.num .i64)) a1, .ls false (.num .i64) a2]), (101, .vc 24 (.sl (.num .i64)) v4)]) (by kernel_rfl) ?_
        refine aw_skip ?_
        refine aw_seq ?_
        refine aw_block ?_
        refine aw_seq ?_
        refine aw_region ttOK (C := True) (hs := []) (gs := []) (rn := []) (l' := [(0, .v (.c (.p 0 0))), (3, .v (.c (.ho 101))), (4, .v (.c (.int .i64 v3))), (15, .v (.c (.int .i64 a0))), (16, .v (.c (.int .i64 v3)))]) (h' := [(0, .bx [.int .i64 a0, .ls false (.pr (.num .i64) (.num .i64)) a1, .ls false (.num .i64) a2]), (101, .vc 24 (.sl (.num .i64)) v4)]) (by kernel_rfl) trivial ?_
        refine aw_seq ?_
        obtain ⟨c0, h⟩ := chk_some h
        refine aw_region ttOK (C := (0 ≤ a0 ∧ a0 ≤ a0 ∧ a0 * (8 : Nat) ≤ 140737488355328) ∧ True) (hs := [(4, { id := 115 })]) (gs := []) (rn := []) (l' := [(0, .v (.c (.p 0 0))), (3, .v (.c (.ho 101))), (4, .v (.c (.int .i64 v3))), (5, .v (.c (.ho 115))), (15, .v (.c (.int .i64 a0))), (16, .v (.c (.int .i64 v3)))]) (h' := [(0, .bx [.int .i64 a0, .ls false (.pr (.num .i64) (.num .i64)) a1, .ls false (.num .i64) a2]), (101, .vc 24 (.sl (.num .i64)) v4), (115, .vc 3 (.num .i64) (List.replicate (a0).toNat (0 : Int)))]) (by kernel_rfl) ⟨c0, trivial⟩ ?_
        refine aw_seq ?_
        obtain ⟨c0, h⟩ := chk_some h
        refine aw_region ttOK (C := (0 ≤ v3 ∧ v3 < (List.length (List.replicate (a0).toNat (0 : Int)) : Int)) ∧ True) (hs := []) (gs := []) (rn := []) (l' := [(0, .v (.c (.p 0 0))), (3, .v (.c (.ho 101))), (5, .v (.c (.ho 115))), (15, .v (.c (.int .i64 a0))), (16, .v (.c (.int .i64 v3)))]) (h' := [(0, .bx [.int .i64 a0, .ls false (.pr (.num .i64) (.num .i64)) a1, .ls false (.num .i64) a2]), (101, .vc 24 (.sl (.num .i64)) v4), (115, .vc 3 (.num .i64) (List.set (List.replicate (a0).toNat (0 : Int)) (v3).toNat (1 : Int)))]) (by kernel_rfl) ⟨c0, trivial⟩ ?_
        obtain ⟨c0, h⟩ := chk_some h
        refine aw_region ttOK (C := ((List.length v4 + List.length ([(List.set (List.replicate (a0).toNat (0 : Int)) (v3).toNat (1 : Int))] : List (List Int))) * 24 ≤ 140737488355328) ∧ True) (hs := [(2, { id := 123, frz := [115] }), (3, { id := 124 })]) (gs := []) (rn := []) (l' := [(0, .v (.c (.p 0 0))), (3, .v (.c (.ho 124))), (15, .v (.c (.int .i64 a0))), (16, .v (.c (.int .i64 v3)))]) (h' := [(0, .bx [.int .i64 a0, .ls false (.pr (.num .i64) (.num .i64)) a1, .ls false (.num .i64) a2]), (124, .vc 24 (.sl (.num .i64)) (v4 ++ ([(List.set (List.replicate (a0).toNat (0 : Int)) (v3).toNat (1 : Int))] : List (List Int))))]) (by kernel_rfl) ⟨c0, trivial⟩ ?_
        refine aw_region ttOK (C := True) (hs := []) (gs := []) (rn := [(124, 101)]) (l' := [(0, .v (.c (.p 0 0))), (3, .v (.c (.ho 101))), (15, .v (.c (.int .i64 a0))), (16, .v (.c (.int .i64 (IntKind.i64.wrap (v3 + (1 : Int))))))]) (h' := [(0, .bx [.int .i64 a0, .ls false (.pr (.num .i64) (.num .i64)) a1, .ls false (.num .i64) a2]), (101, .vc 24 (.sl (.num .i64)) (v4 ++ ([(List.set (List.replicate (a0).toNat (0 : Int)) (v3).toNat (1 : Int))] : List (List Int))))]) (by kernel_rfl) trivial ?_
        exact ⟨_, ((IntKind.i64.wrap (v3 + (1 : Int))), (v4 ++ ([(List.set (List.replicate (a0).toNat (0 : Int)) (v3).toNat (1 : Int))] : List (List Int)))), Nat.lt_succ_self _, h, rfl, rfl⟩
      · rw [ite_f hb] at h
        refine aw_ghost (gs := []) (rn := []) (l' := [(0, .v (.c (.p 0 0))), (3, .v (.c (.ho 101)))]) (h' := [(0, .bx [.int .i64 a0, .ls false (.pr (.num .i64) (.num .i64)) a1, .ls false (.num .i64) a2]), (101, .vc 24 (.sl (.num .i64)) v4)]) (by kernel_rfl) ?_
        refine aw_exit ?_
        exact ⟨v4, h, rfl, rfl⟩

theorem F_i_IsPlan_c1_ok {fu : Nat} {a0 : List Int} {r : Bool} (h : F_i_IsPlan_c1 fu a0 = some r) :
    ACall Try.prog 55 [.v (.c (.ls false (.num .i64) a0))] [] [] (.v (.c (.bool r))) [] := by
  unfold F_i_IsPlan_c1 at h
  refine acall_of_aw ttOK Try.func55 (by kernel_rfl) (c := _) rfl (N := 6) (by kernel_rfl) (Nat.le_of_ble_eq_true rfl) ?_
  refine aw_seq ?_
  refine aw_region ttOK (C := True) (hs := []) (gs := []) (rn := []) (l' := [(0, .v (.c (.ls false (.num .i64) a0)))]) (h' := []) (by kernel_rfl) trivial ?_
  refine aw_seq ?_
  obtain ⟨v1, ev1, h⟩ := bind_some h
  refine aw_region ttOK (C := (ACall Try.prog 25 [.v (.c (.ls false (.num .i64) a0))] [] [] (.v (.c (.int .i64 v1))) []) ∧ True) (hs := [(1, { call := some { f := 25, casts := [.same], r := .v (.c (.int .i64 v1)) } })]) (gs := []) (rn := []) (l' := [(2, .v (.c (.bool (decide (v1 > (1000000 : Int))))))]) (h' := []) (by kernel_rfl) ⟨(F_slices_Max_Lint_int_ok ev1), trivial⟩ ?_
  refine aw_ghost (gs := []) (rn := []) (l' := [(2, .v (.c (.bool (decide (v1 > (1000000 : Int))))))]) (h' := []) (by kernel_rfl) ?_
  refine aw_ret (ret_ok [] ?_)
  cases h
  kernel_rfl

theorem F_slices_IndexFunc_LLint_Lint_ftu_ok {fu : Nat} {a0 : List (List Int)} {r : Int} (h : F_slices_IndexFunc_LLint_Lint_ftu fu a0 = some r) :
    ACall Try.prog 69 [.v (.c (.ls false (.sl (.num .i64)) a0)), .v (.c (.fn 55 []))] [] [] (.v (.c (.int .i64 r))) [] := by
  unfold F_slices_IndexFunc_LLint_Lint_ftu at h
  refine acall_of_aw ttOK Try.func69 (by kernel_rfl) (c := _) rfl (N := 19) (by kernel_rfl) (Nat.le_of_ble_eq_true rfl) ?_
  refine aw_seq ?_
  refine aw_region ttOK (C := True) (hs := []) (gs := []) (rn := []) (l' := [(0, .v (.c (.ls false (.sl (.num .i64)) a0))), (1, .v (.c (.fn 55 [])))]) (h' := []) (by kernel_rfl) trivial ?_
  refine aw_join (X := Unit) (fun x => ([], [])) (fun x => F_slices_IndexFunc_LLint_Lint_ftuJ1 fu = some r) ?_ ?_
  · rintro _ h
    unfold F_slices_IndexFunc_LLint_Lint_ftuJ1 at h
    refine aw_seq ?_
    refine aw_region ttOK (C := True) (hs := []) (gs := []) (rn := []) (l' := [(4, .v (.c (.int .i64 (-1 : Int))))]) (h' := []) (by kernel_rfl) trivial ?_
    refine aw_ghost (gs := []) (rn := []) (l' := [(4, .v (.c (.int .i64 (-1 : Int))))]) (h' := []) (by kernel_rfl) ?_
    refine aw_ret (ret_ok [] ?_)
    cases h
    kernel_rfl
  · refine aw_seq ?_
    refine aw_region ttOK (C := True) (hs := []) (gs := []) (rn := []) (l' := [(0, .v (.c (.ls false (.sl (.num .i64)) a0))), (1, .v (.c (.fn 55 []))), (7, .v (.c (.int .i64 (List.length a0 : Int)))), (8, .v (.c (.int .i64 (0 : Int))))]) (h' := []) (by kernel_rfl) trivial ?_
    refine aw_block ?_
    refine aw_loopF (X := Int) (fun x => ([(0, .v (.c (.ls false (.sl (.num .i64)) a0))), (1, .v (.c (.fn 55 []))), (7, .v (.c (.int .i64 (List.length a0 : Int)))), (8, .v (.c (.int .i64 x)))], [])) (fun n x => F_slices_IndexFunc_LLint_Lint_ftuL2 fu a0 n x = some r) fu (0 : Int) h ?_
    rintro n2 v2 h
    cases n2 with
    | zero => first | cases h | (rw [F_slices_IndexFunc_LLint_Lint_ftuL2] at h; cases h)
    | succ n2 =>
      rw [F_slices_IndexFunc_LLint_Lint_ftuL2] at h
      refine aw_seq ?_
      refine aw_region ttOK (C := True) (hs := []) (gs := []) (rn := []) (l' := [(0, .v (.c (.ls false (.sl (.num .i64)) a0))), (1, .v (.c (.fn 55 []))), (7, .v (.c (.int .i64 (List.length a0 : Int)))), (8, .v (.c (.int .i64 v2))), (9, .v (.c (.bool (decide (v2 < (List.length a0 : Int))))))]) (h' := []) (by kernel_rfl) trivial ?_
      refine aw_seq ?_
      refine aw_if (decide (v2 < (List.length a0 : Int))) (by kernel_rfl) (fun hb => ?_) (fun hb => ?_)
      · rw [ite_t hb] at h
        refine aw_ghost (gs := []) (rn := []) (l' := [(0, .v (.c (.ls false (.sl (.num .i64)) a0))), (1, .v (.c (.fn 55 []))), (7, .v (.c (.int .i64 (List.length a0 : Int)))), (8, .v (.c (.int .i64 v2)))]) (h' := []) (by kernel_rfl) ?_
        refine aw_skip ?_
        refine aw_seq ?_
        refine aw_block ?_
        refine aw_seq ?_
        refine aw_region ttOK (C := True) (hs := []) (gs := []) (rn := []) (l' := [(0, .v (.c (.ls false (.sl (.num .i64)) a0))), (1, .v (.c (.fn 55 []))), (5, .v (.c (.int .i64 v2))), (7, .v (.c (.int .i64 (List.length a0 : Int)))), (8, .v (.c (.int .i64 v2)))]) (h' := []) (by kernel_rfl) trivial ?_
        refine aw_seq ?_
        obtain ⟨c0, h⟩ := chk_some h
        obtain ⟨v3, ev3, h⟩ := bind_some h
        refine aw_region ttOK (C := (0 ≤ v2 ∧ v2 < (List.length a0 : Int)) ∧ (ACall Try.prog 55 [.v (.c (.ls false (.num .i64) (List.getD a0 (v2).toNat ([] : List Int))))] [] [] (.v (.c (.bool v3))) []) ∧ True) (hs := [(5, { call := some { f := 55, casts := [.same], r := .v (.c (.bool v3)) } })]) (gs := []) (rn := []) (l' := [(0, .v (.c (.ls false (.sl (.num .i64)) a0))), (1, .v (.c (.fn 55 []))), (5, .v (.c (.int .i64 v2))), (7, .v (.c (.int .i64 (List.length a0 : Int)))), (8, .v (.c (.int .i64 v2))), (16, .v (.c (.bool v3)))]) (h' := []) (by kernel_rfl) ⟨c0, (F_i_IsPlan_c1_ok ev3), trivial⟩ ?_
        refine aw_if v3 (by kernel_rfl) (fun hb => ?_) (fun hb => ?_)
        · rw [ite_t hb] at h
          refine aw_seq ?_
          refine aw_region ttOK (C := True) (hs := []) (gs := []) (rn := []) (l' := [(4, .v (.c (.int .i64 v2)))]) (h' := []) (by kernel_rfl) trivial ?_
          refine aw_ghost (gs := []) (rn := []) (l' := [(4, .v (.c (.int .i64 v2)))]) (h' := []) (by kernel_rfl) ?_
          refine aw_ret (ret_ok [] ?_)
          cases h
          kernel_rfl
        · rw [ite_f hb] at h
          refine aw_ghost (gs := []) (rn := []) (l' := [(0, .v (.c (.ls false (.sl (.num .i64)) a0))), (1, .v (.c (.fn 55 []))), (7, .v (.c (.int .i64 (List.length a0 : Int)))), (8, .v (.c (.int .i64 v2)))]) (h' := []) (by kernel_rfl) ?_
          refine aw_skip ?_
          refine aw_region ttOK (C := True) (hs := []) (gs := []) (rn := []) (l' := [(0, .v (.c (.ls false (.sl (.num .i64)) a0))), (1, .v (.c (.fn 55 []))), (7, .v (.c (.int .i64 (List.length a0 : Int)))), (8, .v (.c (.int .i64 (IntKind.i64.wrap (v2 + (1 : Int))))))]) (h' := []) (by kernel_rfl) trivial ?_
          exact ⟨_, (IntKind.i64.wrap (v2 + (1 : Int))), Nat.lt_succ_self _, h, rfl, rfl⟩
      · rw [ite_f hb] at h
        refine aw_ghost (gs := []) (rn := []) (l' := []) (h' := []) (by kernel_rfl) ?_
        refine aw_exit ?_
        exact ⟨(), h, rfl, rfl⟩

theorem F_slices_ContainsFunc_LLint_Lint_ftu_ok {fu : Nat} {a0 : List (List Int)} {r : Bool} (h : F_slices_ContainsFunc_LLint_Lint_ftu fu a0 = some r) :
    ACall Try.prog 53 [.v (.c (.ls false (.sl (.num .i64)) a0)), .v (.c (.fn 55 []))] [] [] (.v (.c (.bool r))) [] := by
  unfold F_slices_ContainsFunc_LLint_Lint_ftu at h
  refine acall_of_aw ttOK Try.func53 (by kernel_rfl) (c := _) rfl (N := 9) (by kernel_rfl) (Nat.le_of_ble_eq_true rfl) ?_
  refine aw_seq ?_
  refine aw_region ttOK (C := True) (hs := []) (gs := []) (rn := []) (l' := [(0, .v (.c (.ls false (.sl (.num .i64)) a0))), (1, .v (.c (.fn 55 [])))]) (h' := []) (by kernel_rfl) trivial ?_
  refine aw_seq ?_
  obtain ⟨v1, ev1, h⟩ := bind_some h
  refine aw_region ttOK (C := (ACall Try.prog 69 [.v (.c (.ls false (.sl (.num .i64)) a0)), .v (.c (.fn 55 []))] [] [] (.v (.c (.int .i64 v1))) []) ∧ True) (hs := [(2, { call := some { f := 69, casts := [.same, .same], r := .v (.c (.int .i64 v1)) } })]) (gs := []) (rn := []) (l' := [(4, .v (.c (.bool (decide (v1 ≥ (0 : Int))))))]) (h' := []) (by kernel_rfl) ⟨(F_slices_IndexFunc_LLint_Lint_ftu_ok ev1), trivial⟩ ?_
  refine aw_ghost (gs := []) (rn := []) (l' := [(4, .v (.c (.bool (decide (v1 ≥ (0 : Int))))))]) (h' := []) (by kernel_rfl) ?_
  refine aw_ret (ret_ok [] ?_)
  cases h
  kernel_rfl

theorem F_i_IsPlan_ok {fu : Nat} {a0 : Int} {a1 : List (Int × Int)} {a2 : List Int} {r : Bool} (h : F_i_IsPlan fu a0 a1 a2 = some r) :
    ACall Try.prog 31 [.v (.ag [.int .i64 a0, .ls false (.pr (.num .i64) (.num .i64)) a1, .ls false (.num .i64) a2])] [] [] (.v (.c (.bool r))) [] := by
  unfold F_i_IsPlan at h
  refine acall_of_aw ttOK Try.func31 (by kernel_rfl) (c := _) rfl (N := 9) (by kernel_rfl) (Nat.le_of_ble_eq_true rfl) ?_
  refine aw_seq ?_
  refine aw_region ttOK (C := True) (hs := [(0, { id := 100 })]) (gs := []) (rn := []) (l' := [(1, .v (.c (.p 100 0)))]) (h' := [(100, .bx [.int .i64 a0, .ls false (.pr (.num .i64) (.num .i64)) a1, .ls false (.num .i64) a2])]) (by kernel_rfl) trivial ?_
  refine aw_seq ?_
  obtain ⟨v1, ev1, h⟩ := bind_some h
  obtain ⟨v2, ev2, h⟩ := bind_some h
  obtain ⟨v3, ev3, h⟩ := bind_some h
  refine aw_region ttOK (C := (ACall Try.prog 52 [.v (.c (.p 0 0))] [.bx [.int .i64 a0, .ls false (.pr (.num .i64) (.num .i64)) a1, .ls false (.num .i64) a2]] [0] (.v (.c (.bool v1))) [.bx [.int .i64 a0, .ls false (.pr (.num .i64) (.num .i64)) a1, .ls false (.num .i64) a2]]) ∧ ((v1 == true) = true → ACall Try.prog 54 [.v (.c (.p 0 0))] [.bx [.int .i64 a0, .ls false (.pr (.num .i64) (.num .i64)) a1, .ls false (.num .i64) a2]] [0] (.v (.c (.ls false (.sl (.num .i64)) v2))) [.bx [.int .i64 a0, .ls false (.pr (.num .i64) (.num .i64)) a1, .ls false (.num .i64) a2]]) ∧ ((v1 == true) = true → (v1 == true) = true) ∧ ((v1 == true) = true → ACall Try.prog 53 [.v (.c (.ls false (.sl (.num .i64)) v2)), .v (.c (.fn 55 []))] [] [] (.v (.c (.bool v3))) []) ∧ ((v1 == true) = true → (v1 == true) = true) ∧ (v1 = true → (v1 == true) = true) ∧ True) (hs := [(0, { call := some { f := 52, casts := [.same], sel := [100], kp := [0], r := .v (.c (.bool v1)), Hout := [.bx [.int .i64 a0, .ls false (.pr (.num .i64) (.num .i64)) a1, .ls false (.num .i64) a2]], ren := [100] } }), (2, { call := some { f := 54, casts := [.same], sel := [100], r := .v (.c (.ls false (.sl (.num .i64)) v2)), quiet := true } }), (3, { call := some { f := 53, casts := [.same, .same], r := .v (.c (.bool v3)) } })]) (gs := []) (rn := []) (l' := [(2, .v (.c (.bool (cond v1 (!v3) false))))]) (h' := []) (by kernel_rfl) ⟨(F_i_Plan_formed_wze_ok ev1), (fun hg => (acall_view (js := [1]) (F_i_Plan_exponents_wze_ok (gcl_some ev2 hg)) (by kernel_rfl))), (fun h => h), (fun hg => (F_slices_ContainsFunc_LLint_Lint_ftu_ok (gcl_some ev3 hg))), (fun h => h), (fun h => beq_iff_eq.2 h), trivial⟩ ?_
  refine aw_ghost (gs := []) (rn := []) (l' := [(2, .v (.c (.bool (cond v1 (!v3) false))))]) (h' := []) (by kernel_rfl) ?_
  refine aw_ret (ret_ok [] ?_)
  cases h
  kernel_rfl

theorem F_i_told_ok {fu : Nat} {a0 : Int} {a1 : List (Int × Int)} {a2 : List Int} {r : Bool × Int × List (Int × Int) × List Int} (h : F_i_told fu a0 a1 a2 = some r) :
    ACall Try.prog 28 [.v (.ag [.int .i64 a0, .ls false (.pr (.num .i64) (.num .i64)) a1, .ls false (.num .i64) a2])] [] [] (.tu [.ag [.int .i64 r.2.1, .ls false (.pr (.num .i64) (.num .i64)) r.2.2.1, .ls false (.num .i64) r.2.2.2], .c (.bool r.1)]) [] := by
  unfold F_i_told at h
  refine acall_of_aw ttOK Try.func28 (by kernel_rfl) (c := _) rfl (N := 9) (by kernel_rfl) (Nat.le_of_ble_eq_true rfl) ?_
  refine aw_seq ?_
  refine aw_region ttOK (C := True) (hs := [(0, { id := 100 }), (1, { id := 101 })]) (gs := []) (rn := []) (l' := [(1, .v (.c (.p 100 0))), (2, .v (.c (.p 101 0)))]) (h' := [(100, .bx [.int .i64 a0, .ls false (.pr (.num .i64) (.num .i64)) a1, .ls false (.num .i64) a2]), (101, .bx [.int .i64 (0 : Int), .nl, .nl])]) (by kernel_rfl) trivial ?_
  refine aw_seq ?_
  refine aw_seq ?_
  obtain ⟨v1, ev1, h⟩ := bind_some h
  refine aw_region ttOK (C := (ACall Try.prog 31 [.v (.ag [.int .i64 a0, .ls false (.pr (.num .i64) (.num .i64)) a1, .ls false (.num .i64) a2])] [] [] (.v (.c (.bool v1))) []) ∧ True) (hs := [(1, { call := some { f := 31, casts := [.same], r := .v (.c (.bool v1)) } })]) (gs := []) (rn := []) (l' := [(1, .v (.c (.p 100 0))), (2, .v (.c (.p 101 0))), (6, .v (.c (.bool (!v1))))]) (h' := [(100, .bx [.int .i64 a0, .ls false (.pr (.num .i64) (.num .i64)) a1, .ls false (.num .i64) a2]), (101, .bx [.int .i64 (0 : Int), .nl, .nl])]) (by kernel_rfl) ⟨(F_i_IsPlan_ok ev1), trivial⟩ ?_
  refine aw_if (!v1) (by kernel_rfl) (fun hb => ?_) (fun hb => ?_)
  · rw [ite_t hb] at h
    refine aw_seq ?_
    refine aw_region ttOK (C := True) (hs := []) (gs := []) (rn := []) (l' := [(2, .v (.c (.p 101 0))), (3, .v (.c (.bool false)))]) (h' := [(101, .bx [.int .i64 (0 : Int), .nl, .nl])]) (by kernel_rfl) trivial ?_
    refine aw_ghost (gs := [.cnil 101 1 (.pr (.num .i64) (.num .i64)), .cview 101 1, .cnil 101 2 (.num .i64), .cview 101 2]) (rn := []) (l' := [(2, .v (.c (.p 101 0))), (3, .v (.c (.bool false)))]) (h' := [(101, .bx [.int .i64 (0 : Int), .ls false (.pr (.num .i64) (.num .i64)) ([] : List (Int × Int)), .ls false (.num .i64) ([] : List Int)])]) (by kernel_rfl) ?_
    refine aw_ret (ret_ok [] ?_)
    cases h
    kernel_rfl
  · rw [ite_f hb] at h
    refine aw_ghost (gs := []) (rn := []) (l' := [(1, .v (.c (.p 100 0))), (2, .v (.c (.p 101 0)))]) (h' := [(100, .bx [.int .i64 a0, .ls false (.pr (.num .i64) (.num .i64)) a1, .ls false (.num .i64) a2]), (101, .bx [.int .i64 (0 : Int), .nl, .nl])]) (by kernel_rfl) ?_
    refine aw_skip ?_
    refine aw_seq ?_
    refine aw_region ttOK (C := True) (hs := []) (gs := []) (rn := []) (l' := [(2, .v (.c (.p 101 0))), (3, .v (.c (.bool true)))]) (h' := [(101, .bx [.int .i64 a0, .ls false (.pr (.num .i64) (.num .i64)) a1, .ls false (.num .i64) a2])]) (by kernel_rfl) trivial ?_
    refine aw_ghost (gs := []) (rn := []) (l' := [(2, .v (.c (.p 101 0))), (3, .v (.c (.bool true)))]) (h' := [(101, .bx [.int .i64 a0, .ls false (.pr (.num .i64) (.num .i64)) a1, .ls false (.num .i64) a2])]) (by kernel_rfl) ?_
    refine aw_ret (ret_ok [] ?_)
    cases h
    kernel_rfl

theorem F_i_SquaresPlan_ok {fu : Nat} {a0 : List Int} {r : Bool × Int × List (Int × Int) × List Int} (h : F_i_SquaresPlan fu a0 = some r) :
    ACall Try.prog 9 [.v (.c (.ls false (.num .i64) a0))] [] [] (.tu [.ag [.int .i64 r.2.1, .ls false (.pr (.num .i64) (.num .i64)) r.2.2.1, .ls false (.num .i64) r.2.2.2], .c (.bool r.1)]) [] := by
  unfold F_i_SquaresPlan at h
  refine acall_of_aw ttOK Try.func9 (by kernel_rfl) (c := _) rfl (N := 79) (by kernel_rfl) (Nat.le_of_ble_eq_true rfl) ?_
  refine aw_seq ?_
  refine aw_region ttOK (C := True) (hs := [(0, { id := 100 })]) (gs := []) (rn := []) (l' := [(0, .v (.c (.ls false (.num .i64) a0))), (2, .v (.c (.p 100 0)))]) (h' := [(100, .bx [.int .i64 (0 : Int), .nl, .nl])]) (by kernel_rfl) trivial ?_
  refine aw_seq ?_
  refine aw_seq ?_
  obtain ⟨v1, ev1, h⟩ := bind_some h
  obtain ⟨v2, ev2, h⟩ := bind_some h
  refine aw_region ttOK (C := (ACall Try.prog 19 [.v (.c (.int .i64 (List.length a0 : Int))), .v (.c (.int .i64 (1 : Int))), .v (.c (.int .i64 (6 : Int)))] [] [] (.v (.c (.bool v1))) []) ∧ (((!v1) == false) = true → ((!v1) == false) = true) ∧ (((!v1) == false) = true → ACall Try.prog 20 [.v (.c (.ls false (.num .i64) a0)), .v (.c (.fn 21 []))] [] [] (.v (.c (.bool v2))) []) ∧ ((!v1) = false → ((!v1) == false) = true) ∧ True) (hs := [(2, { call := some { f := 19, casts := [.same, .same, .same], r := .v (.c (.bool v1)) } }), (6, { call := some { f := 20, casts := [.same, .same], r := .v (.c (.bool v2)) } })]) (gs := []) (rn := []) (l' := [(0, .v (.c (.ls false (.num .i64) a0))), (2, .v (.c (.p 100 0))), (20, .v (.c (.bool (cond (!v1) true v2))))]) (h' := [(100, .bx [.int .i64 (0 : Int), .nl, .nl])]) (by kernel_rfl) ⟨(F_i_in_ok ev1), (fun h => h), (fun hg => (F_slices_ContainsFunc_Lint_int_ils_ok (gcl_some ev2 hg))), (fun h => beq_iff_eq.2 h), trivial⟩ ?_
  refine aw_if (cond (!v1) true v2) (by kernel_rfl) (fun hb => ?_) (fun hb => ?_)
  · rw [ite_t hb] at h
    refine aw_seq ?_
    refine aw_region ttOK (C := True) (hs := []) (gs := []) (rn := []) (l' := [(2, .v (.c (.p 100 0))), (3, .v (.c (.bool false)))]) (h' := [(100, .bx [.int .i64 (0 : Int), .nl, .nl])]) (by kernel_rfl) trivial ?_
    refine aw_ghost (gs := [.cnil 100 1 (.pr (.num .i64) (.num .i64)), .cview 100 1, .cnil 100 2 (.num .i64), .cview 100 2]) (rn := []) (l' := [(2, .v (.c (.p 100 0))), (3, .v (.c (.bool false)))]) (h' := [(100, .bx [.int .i64 (0 : Int), .ls false (.pr (.num .i64) (.num .i64)) ([] : List (Int × Int)), .ls false (.num .i64) ([] : List Int)])]) (by kernel_rfl) ?_
    refine aw_ret (ret_ok [] ?_)
    cases h
    kernel_rfl
  · rw [ite_f hb] at h
    refine aw_ghost (gs := []) (rn := []) (l' := [(0, .v (.c (.ls false (.num .i64) a0))), (2, .v (.c (.p 100 0)))]) (h' := [(100, .bx [.int .i64 (0 : Int), .nl, .nl])]) (by kernel_rfl) ?_
    refine aw_skip ?_
    refine aw_seq ?_
    obtain ⟨v3, ev3, h⟩ := bind_some h
    refine aw_region ttOK (C := (ACall Try.prog 23 [.v (.c (.int .i64 (1 : Int)))] [] [] (.v (.c (.p 0 0))) [.bx [.int .i64 (1 : Int), .nl, .nl]]) ∧ True) (hs := [(0, { call := some { f := 23, casts := [.same], r := .v (.c (.p 0 0)), Hout := [.bx [.int .i64 (1 : Int), .nl, .nl]], ren := [110] } }), (1, { id := 111 }), (2, { id := 112 })]) (gs := []) (rn := []) (l' := [(0, .v (.c (.ls false (.num .i64) a0))), (2, .v (.c (.p 100 0))), (4, .v (.c (.p 110 0))), (5, .v (.c (.ho 111))), (6, .v (.c (.ho 112)))]) (h' := [(100, .bx [.int .i64 (0 : Int), .nl, .nl]), (110, .bx [.int .i64 (1 : Int), .nl, .nl]), (111, .vc 3 (.num .i64) ([(0 : Int)] : List Int)), (112, .vc 3 (.num .i64) ([] : List Int))]) (by kernel_rfl) ⟨(F_i_newMaker_ok ev3), trivial⟩ ?_
    refine aw_join (X := Int × Int × List Int × List Int × List (Int × Int)) (fun x => ([(0, .v (.c (.ls false (.num .i64) a0))), (2, .v (.c (.p 100 0))), (4, .v (.c (.p 110 0))), (5, .v (.c (.ho 111))), (6, .v (.c (.ho 112)))], [(100, .bx [.int .i64 x.1, .nl, .nl]), (110, .bx [.int .i64 x.2.1, .ho 950, .nl]), (111, .vc 3 (.num .i64) x.2.2.1), (112, .vc 3 (.num .i64) x.2.2.2.1), (950, .vc 67 (.pr (.num .i64) (.num .i64)) x.2.2.2.2)])) (fun x => F_i_SquaresPlanJ1 fu a0 x.1 x.2.1 x.2.2.1 x.2.2.2.1 x.2.2.2.2 = some r) ?_ ?_
    · rintro ⟨v4, v5, v6, v7, v8⟩ h
      unfold F_i_SquaresPlanJ1 at h
      refine aw_join (X := Int × Int × List Int × List (Int × Int)) (fun x => ([(2, .v (.c (.p 100 0))), (4, .v (.c (.p 110 0))), (6, .v (.c (.ho 112)))], [(100, .bx [.int .i64 x.1, .nl, .nl]), (110, .bx [.int .i64 x.2.1, .ho 950, .nl]), (112, .vc 3 (.num .i64) x.2.2.1), (950, .vc 67 (.pr (.num .i64) (.num .i64)) x.2.2.2)])) (fun x => F_i_SquaresPlanJ2 fu x.1 x.2.1 x.2.2.1 x.2.2.2 = some r) ?_ ?_
      · rintro ⟨v9, v10, v11, v12⟩ h
        unfold F_i_SquaresPlanJ2 at h
        refine aw_seq ?_
        obtain ⟨v14, ev14, h⟩ := bind_some h
        obtain ⟨v15, ev15, h⟩ := bind_some h
        refine aw_region ttOK (C := (ACall Try.prog 29 [.v (.c (.p 0 0)), .v (.c (.ls false (.num .i64) v11))] [.bx [.int .i64 v10, .ho 1, .nl], .vc 67 (.pr (.num .i64) (.num .i64)) v12] [0] (.v (.ag [.int .i64 v10, .ls false (.pr (.num .i64) (.num .i64)) v12, .ls false (.num .i64) v11])) [.bx [.int .i64 v10, .ls false (.pr (.num .i64) (.num .i64)) v12, .ls false (.num .i64) v11]]) ∧ (ACall Try.prog 28 [.v (.ag [.int .i64 v10, .ls false (.pr (.num .i64) (.num .i64)) v12, .ls false (.num .i64) v11])] [] [] (.tu [.ag [.int .i64 v15.2.1, .ls false (.pr (.num .i64) (.num .i64)) v15.2.2.1, .ls false (.num .i64) v15.2.2.2], .c (.bool v15.1)]) []) ∧ True) (hs := [(2, { call := some { f := 29, casts := [.same, .view], sel := [110, 950], kp := [0], r := .v (.ag [.int .i64 v10, .ls false (.pr (.num .i64) (.num .i64)) v12, .ls false (.num .i64) v11]), Hout := [.bx [.int .i64 v10, .ls false (.pr (.num .i64) (.num .i64)) v12, .ls false (.num .i64) v11]], ren := [110] }, frz := [112] }), (3, { call := some { f := 28, casts := [.same], r := .tu [.ag [.int .i64 v15.2.1, .ls false (.pr (.num .i64) (.num .i64)) v15.2.2.1, .ls false (.num .i64) v15.2.2.2], .c (.bool v15.1)] } })]) (gs := []) (rn := []) (l' := [(2, .v (.c (.p 100 0))), (3, .v (.c (.bool v15.1)))]) (h' := [(100, .bx [.int .i64 v15.2.1, .ls false (.pr (.num .i64) (.num .i64)) v15.2.2.1, .ls false (.num .i64) v15.2.2.2])]) (by kernel_rfl) ⟨(F_i_maker_plan_dzy_ok ev14), (F_i_told_ok ev15), trivial⟩ ?_
        refine aw_ghost (gs := []) (rn := []) (l' := [(2, .v (.c (.p 100 0))), (3, .v (.c (.bool v15.1)))]) (h' := [(100, .bx [.int .i64 v15.2.1, .ls false (.pr (.num .i64) (.num .i64)) v15.2.2.1, .ls false (.num .i64) v15.2.2.2])]) (by kernel_rfl) ?_
        refine aw_ret (ret_ok [] ?_)
        cases h
        kernel_rfl
      · refine aw_seq ?_
        refine aw_region ttOK (C := True) (hs := []) (gs := []) (rn := []) (l' := [(2, .v (.c (.p 100 0))), (4, .v (.c (.p 110 0))), (5, .v (.c (.ho 111))), (6, .v (.c (.ho 112))), (45, .v (.c (.ls false (.num .i64) a0))), (46, .v (.c (.int .i64 (List.length a0 : Int)))), (47, .v (.c (.int .i64 (0 : Int))))]) (h' := [(100, .bx [.int .i64 v4, .nl, .nl]), (110, .bx [.int .i64 v5, .ho 950, .nl]), (111, .vc 3 (.num .i64) v6), (112, .vc 3 (.num .i64) v7), (950, .vc 67 (.pr (.num .i64) (.num .i64)) v8)]) (by kernel_rfl) trivial ?_
        refine aw_block ?_
        refine aw_loopF (X := Int × Int × Int × Int × List Int × List Int × List (Int × Int)) (fun x => ([(2, .v (.c (.p 100 0))), (4, .v (.c (.p 110 0))), (5, .v (.c (.ho 111))), (6, .v (.c (.ho 112))), (45, .v (.c (.ls false (.num .i64) a0))), (46, .v (.c (.int .i64 x.1))), (47, .v (.c (.int .i64 x.2.1)))], [(100, .bx [.int .i64 x.2.2.1, .nl, .nl]), (110, .bx [.int .i64 x.2.2.2.1, .ho 950, .nl]), (111, .vc 3 (.num .i64) x.2.2.2.2.1), (112, .vc 3 (.num .i64) x.2.2.2.2.2.1), (950, .vc 67 (.pr (.num .i64) (.num .i64)) x.2.2.2.2.2.2)])) (fun n x => F_i_SquaresPlanL3 fu a0 n x.1 x.2.1 x.2.2.1 x.2.2.2.1 x.2.2.2.2.1 x.2.2.2.2.2.1 x.2.2.2.2.2.2 = some r) fu ((List.length a0 : Int), (0 : Int), v4, v5, v6, v7, v8) h ?_
        rintro n3 ⟨v16, v17, v18, v19, v20, v21, v22⟩ h
        cases n3 with
        | zero => first | cases h | (rw [F_i_SquaresPlanL3] at h; cases h)
        | succ n3 =>
          rw [F_i_SquaresPlanL3] at h
          refine aw_seq ?_
          refine aw_region ttOK (C := True) (hs := []) (gs := []) (rn := []) (l' := [(2, .v (.c (.p 100 0))), (4, .v (.c (.p 110 0))), (5, .v (.c (.ho 111))), (6, .v (.c (.ho 112))), (45, .v (.c (.ls false (.num .i64) a0))), (46, .v (.c (.int .i64 v16))), (47, .v (.c (.int .i64 v17))), (48, .v (.c (.bool (decide (v17 < v16)))))]) (h' := [(100, .bx [.int .i64 v18, .nl, .nl]), (110, .bx [.int .i64 v19, .ho 950, .nl]), (111, .vc 3 (.num .i64) v20), (112, .vc 3 (.num .i64) v21), (950, .vc 67 (.pr (.num .i64) (.num .i64)) v22)]) (by kernel_rfl) trivial ?_
          refine aw_seq ?_
          refine aw_if (decide (v17 < v16)) (by kernel_rfl) (fun hb => ?_) (fun hb => ?_)
          · rw [ite_t hb] at h
            refine aw_ghost (gs := []) (rn := []) (l' := [(2, .v (.c (.p 100 0))), (4, .v (.c (.p 110 0))), (5, .v (.c (.ho 111))), (6, .v (.c (.ho 112))), (45, .v (.c (.ls false (.num .i64) a0))), (46, .v (.c (.int .i64 v16))), (47, .v (.c (.int .i64 v17)))]) (h' := [(100, .bx [.int .i64 v18, .nl, .nl]), (110, .bx [.int .i64 v19, .ho 950, .nl]), (111, .vc 3 (.num .i64) v20), (112, .vc 3 (.num .i64) v21), (950, .vc 67 (.pr (.num .i64) (.num .i64)) v22)]) (by kernel_rfl) ?_
            refine aw_skip ?_
            refine aw_join (X := Int × Int × Int × Int × List Int × List Int × List (Int × Int)) (fun x => ([(2, .v (.c (.p 100 0))), (4, .v (.c (.p 110 0))), (5, .v (.c (.ho 111))), (6, .v (.c (.ho 168))), (45, .v (.c (.ls false (.num .i64) a0))), (46, .v (.c (.int .i64 x.1))), (47, .v (.c (.int .i64 x.2.1)))], [(100, .bx [.int .i64 x.2.2.1, .nl, .nl]), (110, .bx [.int .i64 x.2.2.2.1, .ho 950, .nl]), (111, .vc 3 (.num .i64) x.2.2.2.2.1), (168, .vc 3 (.num .i64) x.2.2.2.2.2.1), (950, .vc 67 (.pr (.num .i64) (.num .i64)) x.2.2.2.2.2.2)])) (fun x => F_i_SquaresPlanJ4 fu (F_i_SquaresPlanL3 fu a0 n3) x.1 x.2.1 x.2.2.1 x.2.2.2.1 x.2.2.2.2.1 x.2.2.2.2.2.1 x.2.2.2.2.2.2 = some r) ?_ ?_
            · rintro ⟨v23, v24, v25, v26, v27, v28, v29⟩ h
              unfold F_i_SquaresPlanJ4 at h
              refine aw_region ttOK (C := True) (hs := []) (gs := []) (rn := [(168, 112)]) (l' := [(2, .v (.c (.p 100 0))), (4, .v (.c (.p 110 0))), (5, .v (.c (.ho 111))), (6, .v (.c (.ho 112))), (45, .v (.c (.ls false (.num .i64) a0))), (46, .v (.c (.int .i64 v23))), (47, .v (.c (.int .i64 (IntKind.i64.wrap (v24 + (1 : Int))))))]) (h' := [(100, .bx [.int .i64 v25, .nl, .nl]), (110, .bx [.int .i64 v26, .ho 950, .nl]), (111, .vc 3 (.num .i64) v27), (112, .vc 3 (.num .i64) v28), (950, .vc 67 (.pr (.num .i64) (.num .i64)) v29)]) (by kernel_rfl) trivial ?_
              exact ⟨_, (v23, (IntKind.i64.wrap (v24 + (1 : Int))), v25, v26, v27, v28, v29), Nat.lt_succ_self _, h, rfl, rfl⟩
            · refine aw_block ?_
              refine aw_seq ?_
              obtain ⟨c0, h⟩ := chk_some h
              refine aw_region ttOK (C := (0 ≤ v17 ∧ v17 < (List.length a0 : Int)) ∧ True) (hs := []) (gs := []) (rn := []) (l' := [(2, .v (.c (.p 100 0))), (4, .v (.c (.p 110 0))), (5, .v (.c (.ho 111))), (6, .v (.c (.ho 112))), (9, .v (.c (.int .i64 (List.getD a0 (v17).toNat (0 : Int))))), (45, .v (.c (.ls false (.num .i64) a0))), (46, .v (.c (.int .i64 v16))), (47, .v (.c (.int .i64 v17)))]) (h' := [(100, .bx [.int .i64 v18, .nl, .nl]), (110, .bx [.int .i64 v19, .ho 950, .nl]), (111, .vc 3 (.num .i64) v20), (112, .vc 3 (.num .i64) v21), (950, .vc 67 (.pr (.num .i64) (.num .i64)) v22)]) (by kernel_rfl) ⟨c0, trivial⟩ ?_
              refine aw_seq ?_
              refine aw_region ttOK (C := True) (hs := []) (gs := []) (rn := []) (l' := [(2, .v (.c (.p 100 0))), (4, .v (.c (.p 110 0))), (5, .v (.c (.ho 111))), (6, .v (.c (.ho 112))), (9, .v (.c (.int .i64 (List.getD a0 (v17).toNat (0 : Int))))), (10, .v (.c (.int .i64 (-1 : Int)))), (45, .v (.c (.ls false (.num .i64) a0))), (46, .v (.c (.int .i64 v16))), (47, .v (.c (.int .i64 v17)))]) (h' := [(100, .bx [.int .i64 v18, .nl, .nl]), (110, .bx [.int .i64 v19, .ho 950, .nl]), (111, .vc 3 (.num .i64) v20), (112, .vc 3 (.num .i64) v21), (950, .vc 67 (.pr (.num .i64) (.num .i64)) v22)]) (by kernel_rfl) trivial ?_
              refine aw_join (X := Int × Int × Int × Int × Int × List Int × List Int × List (Int × Int)) (fun x => ([(2, .v (.c (.p 100 0))), (4, .v (.c (.p 110 0))), (5, .v (.c (.ho 111))), (6, .v (.c (.ho 112))), (10, .v (.c (.int .i64 x.1))), (45, .v (.c (.ls false (.num .i64) a0))), (46, .v (.c (.int .i64 x.2.1))), (47, .v (.c (.int .i64 x.2.2.1)))], [(100, .bx [.int .i64 x.2.2.2.1, .nl, .nl]), (110, .bx [.int .i64 x.2.2.2.2.1, .ho 950, .nl]), (111, .vc 3 (.num .i64) x.2.2.2.2.2.1), (112, .vc 3 (.num .i64) x.2.2.2.2.2.2.1), (950, .vc 67 (.pr (.num .i64) (.num .i64)) x.2.2.2.2.2.2.2)])) (fun x => F_i_SquaresPlanJ5 fu (F_i_SquaresPlanL3 fu a0 n3) x.1 x.2.1 x.2.2.1 x.2.2.2.1 x.2.2.2.2.1 x.2.2.2.2.2.1 x.2.2.2.2.2.2.1 x.2.2.2.2.2.2.2 = some r) ?_ ?_
              · rintro ⟨v23, v24, v25, v26, v27, v28, v29, v30⟩ h
                unfold F_i_SquaresPlanJ5 at h
                obtain ⟨c0, h⟩ := chk_some h
                refine aw_region ttOK (C := ((List.length v29 + List.length ([v23] : List Int)) * 8 ≤ 140737488355328) ∧ True) (hs := [(2, { id := 167 }), (3, { id := 168 })]) (gs := []) (rn := []) (l' := [(2, .v (.c (.p 100 0))), (4, .v (.c (.p 110 0))), (5, .v (.c (.ho 111))), (6, .v (.c (.ho 168))), (45, .v (.c (.ls false (.num .i64) a0))), (46, .v (.c (.int .i64 v24))), (47, .v (.c (.int .i64 v25)))]) (h' := [(100, .bx [.int .i64 v26, .nl, .nl]), (110, .bx [.int .i64 v27, .ho 950, .nl]), (111, .vc 3 (.num .i64) v28), (168, .vc 3 (.num .i64) (v29 ++ ([v23] : List Int))), (950, .vc 67 (.pr (.num .i64) (.num .i64)) v30)]) (by kernel_rfl) ⟨c0, trivial⟩ ?_
                exact ⟨(v24, v25, v26, v27, v28, (v29 ++ ([v23] : List Int)), v30), h, rfl, rfl⟩
              · refine aw_seq ?_
                refine aw_region ttOK (C := True) (hs := []) (gs := []) (rn := []) (l' := [(2, .v (.c (.p 100 0))), (4, .v (.c (.p 110 0))), (5, .v (.c (.ho 111))), (6, .v (.c (.ho 112))), (9, .v (.c (.int .i64 (List.getD a0 (v17).toNat (0 : Int))))), (10, .v (.c (.int .i64 (-1 : Int)))), (45, .v (.c (.ls false (.num .i64) a0))), (46, .v (.c (.int .i64 v16))), (47, .v (.c (.int .i64 v17))), (51, .v (.c (.ho 111))), (52, .v (.c (.int .i64 (List.length v20 : Int)))), (53, .v (.c (.int .i64 (0 : Int))))]) (h' := [(100, .bx [.int .i64 v18, .nl, .nl]), (110, .bx [.int .i64 v19, .ho 950, .nl]), (111, .vc 3 (.num .i64) v20), (112, .vc 3 (.num .i64) v21), (950, .vc 67 (.pr (.num .i64) (.num .i64)) v22)]) (by kernel_rfl) trivial ?_
                refine aw_block ?_
                refine aw_loopF (X := Int × Int × List (Int × Int)) (fun x => ([(2, .v (.c (.p 100 0))), (4, .v (.c (.p 110 0))), (5, .v (.c (.ho 111))), (6, .v (.c (.ho 112))), (9, .v (.c (.int .i64 (List.getD a0 (v17).toNat (0 : Int))))), (10, .v (.c (.int .i64 x.1))), (45, .v (.c (.ls false (.num .i64) a0))), (46, .v (.c (.int .i64 v16))), (47, .v (.c (.int .i64 v17))), (51, .v (.c (.ho 111))), (52, .v (.c (.int .i64 (List.length v20 : Int)))), (53, .v (.c (.int .i64 x.2.1)))], [(100, .bx [.int .i64 v18, .nl, .nl]), (110, .bx [.int .i64 v19, .ho 950, .nl]), (111, .vc 3 (.num .i64) v20), (112, .vc 3 (.num .i64) v21), (950, .vc 67 (.pr (.num .i64) (.num .i64)) x.2.2)])) (fun n x => F_i_SquaresPlanL6 fu v20 a0 v17 v19 (F_i_SquaresPlanL3 fu a0 n3) v16 v18 v21 n x.1 x.2.1 x.2.2 = some r) fu ((-1 : Int), (0 : Int), v22) h ?_
                rintro n6 ⟨v26, v27, v28⟩ h
                cases n6 with
                | zero => first | cases h | (rw [F_i_SquaresPlanL6] at h; cases h)
                | succ n6 =>
                  rw [F_i_SquaresPlanL6] at h
                  refine aw_seq ?_
                  refine aw_region ttOK (C := True) (hs := []) (gs := []) (rn := []) (l' := [(2, .v (.c (.p 100 0))), (4, .v (.c (.p 110 0))), (5, .v (.c (.ho 111))), (6, .v (.c (.ho 112))), (9, .v (.c (.int .i64 (List.getD a0 (v17).toNat (0 : Int))))), (10, .v (.c (.int .i64 v26))), (45, .v (.c (.ls false (.num .i64) a0))), (46, .v (.c (.int .i64 v16))), (47, .v (.c (.int .i64 v17))), (51, .v (.c (.ho 111))), (52, .v (.c (.int .i64 (List.length v20 : Int)))), (53, .v (.c (.int .i64 v27))), (54, .v (.c (.bool (decide (v27 < (List.length v20 : Int))))))]) (h' := [(100, .bx [.int .i64 v18, .nl, .nl]), (110, .bx [.int .i64 v19, .ho 950, .nl]), (111, .vc 3 (.num .i64) v20), (112, .vc 3 (.num .i64) v21), (950, .vc 67 (.pr (.num .i64) (.num .i64)) v28)]) (by kernel_rfl) trivial ?_
                  refine aw_seq ?_
                  refine aw_if (decide (v27 < (List.length v20 : Int))) (by kernel_rfl) (fun hb => ?_) (fun hb => ?_)
                  · rw [ite_t hb] at h
                    refine aw_ghost (gs := []) (rn := []) (l' := [(2, .v (.c (.p 100 0))), (4, .v (.c (.p 110 0))), (5, .v (.c (.ho 111))), (6, .v (.c (.ho 112))), (9, .v (.c (.int .i64 (List.getD a0 (v17).toNat (0 : Int))))), (10, .v (.c (.int .i64 v26))), (45, .v (.c (.ls false (.num .i64) a0))), (46, .v (.c (.int .i64 v16))), (47, .v (.c (.int .i64 v17))), (51, .v (.c (.ho 111))), (52, .v (.c (.int .i64 (List.length v20 : Int)))), (53, .v (.c (.int .i64 v27)))]) (h' := [(100, .bx [.int .i64 v18, .nl, .nl]), (110, .bx [.int .i64 v19, .ho 950, .nl]), (111, .vc 3 (.num .i64) v20), (112, .vc 3 (.num .i64) v21), (950, .vc 67 (.pr (.num .i64) (.num .i64)) v28)]) (by kernel_rfl) ?_
                    refine aw_skip ?_
                    refine aw_join (X := Int × List (Int × Int)) (fun x => ([(2, .v (.c (.p 100 0))), (4, .v (.c (.p 110 0))), (5, .v (.c (.ho 111))), (6, .v (.c (.ho 112))), (9, .v (.c (.int .i64 (List.getD a0 (v17).toNat (0 : Int))))), (10, .v (.c (.int .i64 x.1))), (45, .v (.c (.ls false (.num .i64) a0))), (46, .v (.c (.int .i64 v16))), (47, .v (.c (.int .i64 v17))), (51, .v (.c (.ho 111))), (52, .v (.c (.int .i64 (List.length v20 : Int)))), (53, .v (.c (.int .i64 v27)))], [(100, .bx [.int .i64 v18, .nl, .nl]), (110, .bx [.int .i64 v19, .ho 161, .nl]), (111, .vc 3 (.num .i64) v20), (112, .vc 3 (.num .i64) v21), (161, .vc 67 (.pr (.num .i64) (.num .i64)) x.2)])) (fun x => F_i_SquaresPlanJ7 fu (F_i_SquaresPlanL6 fu v20 a0 v17 v19 (F_i_SquaresPlanL3 fu a0 n3) v16 v18 v21 n6) v27 x.1 x.2 = some r) ?_ ?_
                    · rintro ⟨v29, v30⟩ h
                      unfold F_i_SquaresPlanJ7 at h
                      refine aw_region ttOK (C := True) (hs := []) (gs := []) (rn := [(161, 950)]) (l' := [(2, .v (.c (.p 100 0))), (4, .v (.c (.p 110 0))), (5, .v (.c (.ho 111))), (6, .v (.c (.ho 112))), (9, .v (.c (.int .i64 (List.getD a0 (v17).toNat (0 : Int))))), (10, .v (.c (.int .i64 v29))), (45, .v (.c (.ls false (.num .i64) a0))), (46, .v (.c (.int .i64 v16))), (47, .v (.c (.int .i64 v17))), (51, .v (.c (.ho 111))), (52, .v (.c (.int .i64 (List.length v20 : Int)))), (53, .v (.c (.int .i64 (IntKind.i64.wrap (v27 + (1 : Int))))))]) (h' := [(100, .bx [.int .i64 v18, .nl, .nl]), (110, .bx [.int .i64 v19, .ho 950, .nl]), (111, .vc 3 (.num .i64) v20), (112, .vc 3 (.num .i64) v21), (950, .vc 67 (.pr (.num .i64) (.num .i64)) v30)]) (by kernel_rfl) trivial ?_
                      exact ⟨_, (v29, (IntKind.i64.wrap (v27 + (1 : Int))), v30), Nat.lt_succ_self _, h, rfl, rfl⟩
                    · refine aw_block ?_
                      refine aw_seq ?_
                      obtain ⟨c0, h⟩ := chk_some h
                      refine aw_region ttOK (C := (0 ≤ v27 ∧ v27 < (List.length v20 : Int)) ∧ True) (hs := []) (gs := []) (rn := []) (l' := [(2, .v (.c (.p 100 0))), (4, .v (.c (.p 110 0))), (5, .v (.c (.ho 111))), (6, .v (.c (.ho 112))), (9, .v (.c (.int .i64 (List.getD a0 (v17).toNat (0 : Int))))), (10, .v (.c (.int .i64 v26))), (11, .v (.c (.int .i64 v27))), (12, .v (.c (.int .i64 (List.getD v20 (v27).toNat (0 : Int))))), (45, .v (.c (.ls false (.num .i64) a0))), (46, .v (.c (.int .i64 v16))), (47, .v (.c (.int .i64 v17))), (51, .v (.c (.ho 111))), (52, .v (.c (.int .i64 (List.length v20 : Int)))), (53, .v (.c (.int .i64 v27)))]) (h' := [(100, .bx [.int .i64 v18, .nl, .nl]), (110, .bx [.int .i64 v19, .ho 950, .nl]), (111, .vc 3 (.num .i64) v20), (112, .vc 3 (.num .i64) v21), (950, .vc 67 (.pr (.num .i64) (.num .i64)) v28)]) (by kernel_rfl) ⟨c0, trivial⟩ ?_
                      refine aw_seq ?_
                      obtain ⟨c0, h⟩ := chk_some h
                      refine aw_region ttOK (C := (0 ≤ v27) ∧ True) (hs := []) (gs := []) (rn := []) (l' := [(2, .v (.c (.p 100 0))), (4, .v (.c (.p 110 0))), (5, .v (.c (.ho 111))), (6, .v (.c (.ho 112))), (9, .v (.c (.int .i64 (List.getD a0 (v17).toNat (0 : Int))))), (10, .v (.c (.int .i64 v26))), (12, .v (.c (.int .i64 (List.getD v20 (v27).toNat (0 : Int))))), (45, .v (.c (.ls false (.num .i64) a0))), (46, .v (.c (.int .i64 v16))), (47, .v (.c (.int .i64 v17))), (51, .v (.c (.ho 111))), (52, .v (.c (.int .i64 (List.length v20 : Int)))), (53, .v (.c (.int .i64 v27))), (62, .v (.c (.bool ((bits .and .i64 (shrI .i64 (List.getD a0 (v17).toNat (0 : Int)) v27) (1 : Int)) == (1 : Int)))))]) (h' := [(100, .bx [.int .i64 v18, .nl, .nl]), (110, .bx [.int .i64 v19, .ho 950, .nl]), (111, .vc 3 (.num .i64) v20), (112, .vc 3 (.num .i64) v21), (950, .vc 67 (.pr (.num .i64) (.num .i64)) v28)]) (by kernel_rfl) ⟨c0, trivial⟩ ?_
                      refine aw_if ((bits .and .i64 (shrI .i64 (List.getD a0 (v17).toNat (0 : Int)) v27) (1 : Int)) == (1 : Int)) (by kernel_rfl) (fun hb => ?_) (fun hb => ?_)
                      · rw [ite_t hb] at h
                        obtain ⟨v29, ev29, h⟩ := bind_some h
                        refine aw_region ttOK (C := (ACall Try.prog 27 [.v (.c (.p 0 0)), .v (.c (.int .i64 v26)), .v (.c (.int .i64 (List.getD v20 (v27).toNat (0 : Int))))] [.bx [.int .i64 v19, .ho 1, .nl], .vc 67 (.pr (.num .i64) (.num .i64)) v28] [0] (.v (.c (.int .i64 v29.1))) [.bx [.int .i64 v19, .ho 1, .nl], .vc 67 (.pr (.num .i64) (.num .i64)) v29.2]) ∧ True) (hs := [(3, { call := some { f := 27, casts := [.same, .same, .same], sel := [110, 950], kp := [0], r := .v (.c (.int .i64 v29.1)), Hout := [.bx [.int .i64 v19, .ho 1, .nl], .vc 67 (.pr (.num .i64) (.num .i64)) v29.2], ren := [110, 161] } })]) (gs := []) (rn := []) (l' := [(2, .v (.c (.p 100 0))), (4, .v (.c (.p 110 0))), (5, .v (.c (.ho 111))), (6, .v (.c (.ho 112))), (9, .v (.c (.int .i64 (List.getD a0 (v17).toNat (0 : Int))))), (10, .v (.c (.int .i64 v29.1))), (45, .v (.c (.ls false (.num .i64) a0))), (46, .v (.c (.int .i64 v16))), (47, .v (.c (.int .i64 v17))), (51, .v (.c (.ho 111))), (52, .v (.c (.int .i64 (List.length v20 : Int)))), (53, .v (.c (.int .i64 v27)))]) (h' := [(100, .bx [.int .i64 v18, .nl, .nl]), (110, .bx [.int .i64 v19, .ho 161, .nl]), (111, .vc 3 (.num .i64) v20), (112, .vc 3 (.num .i64) v21), (161, .vc 67 (.pr (.num .i64) (.num .i64)) v29.2)]) (by kernel_rfl) ⟨(F_i_maker_times_frg_ok ev29), trivial⟩ ?_
                        exact ⟨(v29.1, v29.2), h, rfl, rfl⟩
                      · rw [ite_f hb] at h
                        refine aw_ghost (gs := []) (rn := [(950, 161)]) (l' := [(2, .v (.c (.p 100 0))), (4, .v (.c (.p 110 0))), (5, .v (.c (.ho 111))), (6, .v (.c (.ho 112))), (9, .v (.c (.int .i64 (List.getD a0 (v17).toNat (0 : Int))))), (10, .v (.c (.int .i64 v26))), (45, .v (.c (.ls false (.num .i64) a0))), (46, .v (.c (.int .i64 v16))), (47, .v (.c (.int .i64 v17))), (51, .v (.c (.ho 111))), (52, .v (.c (.int .i64 (List.length v20 : Int)))), (53, .v (.c (.int .i64 v27)))]) (h' := [(100, .bx [.int .i64 v18, .nl, .nl]), (110, .bx [.int .i64 v19, .ho 161, .nl]), (111, .vc 3 (.num .i64) v20), (112, .vc 3 (.num .i64) v21), (161, .vc 67 (.pr (.num .i64) (.num .i64)) v28)]) (by kernel_rfl) ?_
                        refine aw_skip ?_
                        exact ⟨(v26, v28), h, rfl, rfl⟩
                  · rw [ite_f hb] at h
                    refine aw_ghost (gs := []) (rn := []) (l' := [(2, .v (.c (.p 100 0))), (4, .v (.c (.p 110 0))), (5, .v (.c (.ho 111))), (6, .v (.c (.ho 112))), (10, .v (.c (.int .i64 v26))), (45, .v (.c (.ls false (.num .i64) a0))), (46, .v (.c (.int .i64 v16))), (47, .v (.c (.int .i64 v17)))]) (h' := [(100, .bx [.int .i64 v18, .nl, .nl]), (110, .bx [.int .i64 v19, .ho 950, .nl]), (111, .vc 3 (.num .i64) v20), (112, .vc 3 (.num .i64) v21), (950, .vc 67 (.pr (.num .i64) (.num .i64)) v28)]) (by kernel_rfl) ?_
                    refine aw_exit ?_
                    exact ⟨(v26, v16, v17, v18, v19, v20, v21, v28), h, rfl, rfl⟩
          · rw [ite_f hb] at h
            refine aw_ghost (gs := []) (rn := []) (l' := [(2, .v (.c (.p 100 0))), (4, .v (.c (.p 110 0))), (6, .v (.c (.ho 112)))]) (h' := [(100, .bx [.int .i64 v18, .nl, .nl]), (110, .bx [.int .i64 v19, .ho 950, .nl]), (112, .vc 3 (.num .i64) v21), (950, .vc 67 (.pr (.num .i64) (.num .i64)) v22)]) (by kernel_rfl) ?_
            refine aw_exit ?_
            exact ⟨(v18, v19, v21, v22), h, rfl, rfl⟩
    · refine aw_block ?_
      refine aw_ghost (gs := [.cown 110 1 950 67 (.pr (.num .i64) (.num .i64))]) (rn := []) (l' := [(0, .v (.c (.ls false (.num .i64) a0))), (2, .v (.c (.p 100 0))), (4, .v (.c (.p 110 0))), (5, .v (.c (.ho 111))), (6, .v (.c (.ho 112)))]) (h' := [(100, .bx [.int .i64 (0 : Int), .nl, .nl]), (110, .bx [.int .i64 (1 : Int), .ho 950, .nl]), (111, .vc 3 (.num .i64) ([(0 : Int)] : List Int)), (112, .vc 3 (.num .i64) ([] : List Int)), (950, .vc 67 (.pr (.num .i64) (.num .i64)) ([] : List (Int × Int)))]) (by kernel_rfl) ?_
      refine aw_loopF (X := List Int × List (Int × Int)) (fun x => ([(0, .v (.c (.ls false (.num .i64) a0))), (2, .v (.c (.p 100 0))), (4, .v (.c (.p 110 0))), (5, .v (.c (.ho 111))), (6, .v (.c (.ho 112)))], [(100, .bx [.int .i64 (0 : Int), .nl, .nl]), (110, .bx [.int .i64 (1 : Int), .ho 950, .nl]), (111, .vc 3 (.num .i64) x.1), (112, .vc 3 (.num .i64) ([] : List Int)), (950, .vc 67 (.pr (.num .i64) (.num .i64)) x.2)])) (fun n x => F_i_SquaresPlanL8 fu a0 n x.1 x.2 = some r) fu (([(0 : Int)] : List Int), ([] : List (Int × Int))) h ?_
      rintro n8 ⟨v6, v7⟩ h
      cases n8 with
      | zero => first | cases h | (rw [F_i_SquaresPlanL8] at h; cases h)
      | succ n8 =>
        rw [F_i_SquaresPlanL8] at h
        refine aw_seq ?_
        refine aw_seq ?_
        obtain ⟨v8, ev8, h⟩ := bind_some h
        obtain ⟨v9, ev9, h⟩ := bind_some h
        refine aw_region ttOK (C := (ACall Try.prog 25 [.v (.c (.ls false (.num .i64) a0))] [] [] (.v (.c (.int .i64 v8))) []) ∧ (ACall Try.prog 24 [.v (.c (.int .u64 (IntKind.u64.wrap v8)))] [] [] (.v (.c (.int .i64 v9))) []) ∧ True) (hs := [(3, { call := some { f := 25, casts := [.same], r := .v (.c (.int .i64 v8)) } }), (5, { call := some { f := 24, casts := [.same], r := .v (.c (.int .i64 v9)) } })]) (gs := []) (rn := []) (l' := [(0, .v (.c (.ls false (.num .i64) a0))), (2, .v (.c (.p 100 0))), (4, .v (.c (.p 110 0))), (5, .v (.c (.ho 111))), (6, .v (.c (.ho 112))), (31, .v (.c (.bool (decide ((List.length v6 : Int) < v9)))))]) (h' := [(100, .bx [.int .i64 (0 : Int), .nl, .nl]), (110, .bx [.int .i64 (1 : Int), .ho 950, .nl]), (111, .vc 3 (.num .i64) v6), (112, .vc 3 (.num .i64) ([] : List Int)), (950, .vc 67 (.pr (.num .i64) (.num .i64)) v7)]) (by kernel_rfl) ⟨(F_slices_Max_Lint_int_ok ev8), (F_bits_Len_ok ev9), trivial⟩ ?_
        refine aw_if (decide ((List.length v6 : Int) < v9)) (by kernel_rfl) (fun hb => ?_) (fun hb => ?_)
        · rw [ite_t hb] at h
          refine aw_ghost (gs := []) (rn := []) (l' := [(0, .v (.c (.ls false (.num .i64) a0))), (2, .v (.c (.p 100 0))), (4, .v (.c (.p 110 0))), (5, .v (.c (.ho 111))), (6, .v (.c (.ho 112)))]) (h' := [(100, .bx [.int .i64 (0 : Int), .nl, .nl]), (110, .bx [.int .i64 (1 : Int), .ho 950, .nl]), (111, .vc 3 (.num .i64) v6), (112, .vc 3 (.num .i64) ([] : List Int)), (950, .vc 67 (.pr (.num .i64) (.num .i64)) v7)]) (by kernel_rfl) ?_
          refine aw_skip ?_
          refine aw_block ?_
          refine aw_seq ?_
          obtain ⟨c0, h⟩ := chk_some h
          refine aw_region ttOK (C := (0 ≤ (IntKind.i64.wrap ((List.length v6 : Int) - (1 : Int))) ∧ (IntKind.i64.wrap ((List.length v6 : Int) - (1 : Int))) < (List.length v6 : Int)) ∧ True) (hs := []) (gs := []) (rn := []) (l' := [(0, .v (.c (.ls false (.num .i64) a0))), (2, .v (.c (.p 100 0))), (4, .v (.c (.p 110 0))), (5, .v (.c (.ho 111))), (6, .v (.c (.ho 112))), (7, .v (.c (.int .i64 (List.getD v6 ((IntKind.i64.wrap ((List.length v6 : Int) - (1 : Int)))).toNat (0 : Int)))))]) (h' := [(100, .bx [.int .i64 (0 : Int), .nl, .nl]), (110, .bx [.int .i64 (1 : Int), .ho 950, .nl]), (111, .vc 3 (.num .i64) v6), (112, .vc 3 (.num .i64) ([] : List Int)), (950, .vc 67 (.pr (.num .i64) (.num .i64)) v7)]) (by kernel_rfl) ⟨c0, trivial⟩ ?_
          obtain ⟨v10, ev10, h⟩ := bind_some h
          obtain ⟨c0, h⟩ := chk_some h
          refine aw_region ttOK (C := (ACall Try.prog 26 [.v (.c (.p 0 0)), .v (.c (.int .i64 (List.getD v6 ((IntKind.i64.wrap ((List.length v6 : Int) - (1 : Int)))).toNat (0 : Int)))), .v (.c (.int .i64 (List.getD v6 ((IntKind.i64.wrap ((List.length v6 : Int) - (1 : Int)))).toNat (0 : Int))))] [.bx [.int .i64 (1 : Int), .ho 1, .nl], .vc 67 (.pr (.num .i64) (.num .i64)) v7] [0] (.v (.c (.int .i64 v10.1))) [.bx [.int .i64 (1 : Int), .ho 1, .nl], .vc 67 (.pr (.num .i64) (.num .i64)) v10.2]) ∧ ((List.length v6 + List.length ([v10.1] : List Int)) * 8 ≤ 140737488355328) ∧ True) (hs := [(4, { call := some { f := 26, casts := [.same, .same, .same], sel := [110, 950], kp := [0], r := .v (.c (.int .i64 v10.1)), Hout := [.bx [.int .i64 (1 : Int), .ho 1, .nl], .vc 67 (.pr (.num .i64) (.num .i64)) v10.2], ren := [110, 132] } }), (5, { id := 133 }), (6, { id := 134 })]) (gs := []) (rn := [(134, 111), (132, 950)]) (l' := [(0, .v (.c (.ls false (.num .i64) a0))), (2, .v (.c (.p 100 0))), (4, .v (.c (.p 110 0))), (5, .v (.c (.ho 111))), (6, .v (.c (.ho 112)))]) (h' := [(100, .bx [.int .i64 (0 : Int), .nl, .nl]), (110, .bx [.int .i64 (1 : Int), .ho 950, .nl]), (111, .vc 3 (.num .i64) (v6 ++ ([v10.1] : List Int))), (112, .vc 3 (.num .i64) ([] : List Int)), (950, .vc 67 (.pr (.num .i64) (.num .i64)) v10.2)]) (by kernel_rfl) ⟨(F_i_maker_multiply_frg_ok ev10), c0, trivial⟩ ?_
          exact ⟨_, ((v6 ++ ([v10.1] : List Int)), v10.2), Nat.lt_succ_self _, h, rfl, rfl⟩
        · rw [ite_f hb] at h
          refine aw_ghost (gs := []) (rn := []) (l' := [(0, .v (.c (.ls false (.num .i64) a0))), (2, .v (.c (.p 100 0))), (4, .v (.c (.p 110 0))), (5, .v (.c (.ho 111))), (6, .v (.c (.ho 112)))]) (h' := [(100, .bx [.int .i64 (0 : Int), .nl, .nl]), (110, .bx [.int .i64 (1 : Int), .ho 950, .nl]), (111, .vc 3 (.num .i64) v6), (112, .vc 3 (.num .i64) ([] : List Int)), (950, .vc 67 (.pr (.num .i64) (.num .i64)) v7)]) (by kernel_rfl) ?_
          refine aw_exit ?_
          exact ⟨((0 : Int), (1 : Int), v6, ([] : List Int), v7), h, rfl, rfl⟩

theorem F_i_Plan_uses_wze_ok {fu : Nat} {a0 : Int} {a1 : List (Int × Int)} {a2 : List Int} {r : List Int} (h : F_i_Plan_uses_wze fu a0 a1 a2 = some r) :
    ACall Try.prog 60 [.v (.c (.p 0 0))] [.bx [.int .i64 a0, .ls false (.pr (.num .i64) (.num .i64)) a1, .ls false (.num .i64) a2]] [0] (.v (.c (.ho 1))) [.bx [.int .i64 a0, .ls false (.pr (.num .i64) (.num .i64)) a1, .ls false (.num .i64) a2], .vc 3 (.num .i64) r] := by
  unfold F_i_Plan_uses_wze at h
  refine acall_of_aw ttOK Try.func60 (by kernel_rfl) (c := _) rfl (N := 52) (by kernel_rfl) (Nat.le_of_ble_eq_true rfl) ?_
  refine aw_seq ?_
  refine aw_region ttOK (C := True) (hs := []) (gs := []) (rn := []) (l' := [(0, .v (.c (.p 0 0)))]) (h' := [(0, .bx [.int .i64 a0, .ls false (.pr (.num .i64) (.num .i64)) a1, .ls false (.num .i64) a2])]) (by kernel_rfl) trivial ?_
  refine aw_seq ?_
  obtain ⟨v1, ev1, h⟩ := bind_some h
  obtain ⟨c0, h⟩ := chk_some h
  refine aw_region ttOK (C := (ACall Try.prog 51 [.v (.c (.p 0 0))] [.bx [.int .i64 a0, .ls false (.pr (.num .i64) (.num .i64)) a1, .ls false (.num .i64) a2]] [0] (.v (.c (.int .i64 v1))) [.bx [.int .i64 a0, .ls false (.pr (.num .i64) (.num .i64)) a1, .ls false (.num .i64) a2]]) ∧ (0 ≤ v1 ∧ v1 ≤ v1 ∧ v1 * (8 : Nat) ≤ 140737488355328) ∧ True) (hs := [(1, { call := some { f := 51, casts := [.same], sel := [0], kp := [0], r := .v (.c (.int .i64 v1)), Hout := [.bx [.int .i64 a0, .ls false (.pr (.num .i64) (.num .i64)) a1, .ls false (.num .i64) a2]], ren := [0] } }), (2, { id := 102 })]) (gs := []) (rn := []) (l' := [(0, .v (.c (.p 0 0))), (3, .v (.c (.ho 102)))]) (h' := [(0, .bx [.int .i64 a0, .ls false (.pr (.num .i64) (.num .i64)) a1, .ls false (.num .i64) a2]), (102, .vc 3 (.num .i64) (List.replicate (v1).toNat (0 : Int)))]) (by kernel_rfl) ⟨(F_i_Plan_many_wze_ok ev1), c0, trivial⟩ ?_
  refine aw_join (X := List Int) (fun x => ([(0, .v (.c (.p 0 0))), (3, .v (.c (.ho 102)))], [(0, .bx [.int .i64 a0, .ls false (.pr (.num .i64) (.num .i64)) a1, .ls false (.num .i64) a2]), (102, .vc 3 (.num .i64) x)])) (fun x => F_i_Plan_uses_wzeJ1 fu a2 x = some r) ?_ ?_
  · rintro v2 h
    unfold F_i_Plan_uses_wzeJ1 at h
    refine aw_join (X := List Int) (fun x => ([(3, .v (.c (.ho 102)))], [(0, .bx [.int .i64 a0, .ls false (.pr (.num .i64) (.num .i64)) a1, .ls false (.num .i64) a2]), (102, .vc 3 (.num .i64) x)])) (fun x => F_i_Plan_uses_wzeJ2 fu x = some r) ?_ ?_
    · rintro v3 h
      unfold F_i_Plan_uses_wzeJ2 at h
      refine aw_seq ?_
      refine aw_region ttOK (C := True) (hs := []) (gs := []) (rn := []) (l' := [(2, .v (.c (.ho 102)))]) (h' := [(0, .bx [.int .i64 a0, .ls false (.pr (.num .i64) (.num .i64)) a1, .ls false (.num .i64) a2]), (102, .vc 3 (.num .i64) v3)]) (by kernel_rfl) trivial ?_
      refine aw_ghost (gs := []) (rn := []) (l' := [(2, .v (.c (.ho 102)))]) (h' := [(0, .bx [.int .i64 a0, .ls false (.pr (.num .i64) (.num .i64)) a1, .ls false (.num .i64) a2]), (102, .vc 3 (.num .i64) v3)]) (by kernel_rfl) ?_
      refine aw_ret (ret_ok [0, 102] ?_)
      cases h
      kernel_rfl
    · refine aw_seq ?_
      refine aw_region ttOK (C := True) (hs := []) (gs := []) (rn := []) (l' := [(3, .v (.c (.ho 102))), (38, .v (.c (.ls false (.num .i64) a2))), (39, .v (.c (.int .i64 (List.length a2 : Int)))), (40, .v (.c (.int .i64 (0 : Int))))]) (h' := [(0, .bx [.int .i64 a0, .ls false (.pr (.num .i64) (.num .i64)) a1, .ls false (.num .i64) a2]), (102, .vc 3 (.num .i64) v2)]) (by kernel_rfl) trivial ?_
      refine aw_block ?_
      refine aw_loopF (X := Int × List Int) (fun x => ([(3, .v (.c (.ho 102))), (38, .v (.c (.ls false (.num .i64) a2))), (39, .v (.c (.int .i64 (List.length a2 : Int)))), (40, .v (.c (.int .i64 x.1)))], [(0, .bx [.int .i64 a0, .ls false (.pr (.num .i64) (.num .i64)) a1, .ls false (.num .i64) a2]), (102, .vc 3 (.num .i64) x.2)])) (fun n x => F_i_Plan_uses_wzeL3 fu a2 n x.1 x.2 = some r) fu ((0 : Int), v2) h ?_
      rintro n3 ⟨v5, v6⟩ h
      cases n3 with
      | zero => first | cases h | (rw [F_i_Plan_uses_wzeL3] at h; cases h)
      | succ n3 =>
        rw [F_i_Plan_uses_wzeL3] at h
        refine aw_seq ?_
        refine aw_region ttOK (C := True) (hs := []) (gs := []) (rn := []) (l' := [(3, .v (.c (.ho 102))), (38, .v (.c (.ls false (.num .i64) a2))), (39, .v (.c (.int .i64 (List.length a2 : Int)))), (40, .v (.c (.int .i64 v5))), (41, .v (.c (.bool (decide (v5 < (List.length a2 : Int))))))]) (h' := [(0, .bx [.int .i64 a0, .ls false (.pr (.num .i64) (.num .i64)) a1, .ls false (.num .i64) a2]), (102, .vc 3 (.num .i64) v6)]) (by kernel_rfl) trivial ?_
        refine aw_seq ?_
        refine aw_if (decide (v5 < (List.length a2 : Int))) (by kernel_rfl) (fun hb => ?_) (fun hb => ?_)
        · rw [ite_t hb] at h
          refine aw_ghost (gs := []) (rn := []) (l' := [(3, .v (.c (.ho 102))), (38, .v (.c (.ls false (.num .i64) a2))), (39, .v (.c (.int .i64 (List.length a2 : Int)))), (40, .v (.c (.int .i64 v5)))]) (h' := [(0, .bx [.int .i64 a0, .ls false (.pr (.num .i64) (.num .i64)) a1, .ls false (.num .i64) a2]), (102, .vc 3 (.num .i64) v6)]) (by kernel_rfl) ?_
          refine aw_skip ?_
          refine aw_seq ?_
          refine aw_block ?_
          refine aw_seq ?_
          obtain ⟨c0, h⟩ := chk_some h
          refine aw_region ttOK (C := (0 ≤ v5 ∧ v5 < (List.length a2 : Int)) ∧ True) (hs := []) (gs := []) (rn := []) (l' := [(3, .v (.c (.ho 102))), (7, .v (.c (.int .i64 (List.getD a2 (v5).toNat (0 : Int))))), (38, .v (.c (.ls false (.num .i64) a2))), (39, .v (.c (.int .i64 (List.length a2 : Int)))), (40, .v (.c (.int .i64 v5)))]) (h' := [(0, .bx [.int .i64 a0, .ls false (.pr (.num .i64) (.num .i64)) a1, .ls false (.num .i64) a2]), (102, .vc 3 (.num .i64) v6)]) (by kernel_rfl) ⟨c0, trivial⟩ ?_
          obtain ⟨⟨c0, c1⟩, h⟩ := chk_some h
          refine aw_region ttOK (C := (0 ≤ (List.getD a2 (v5).toNat (0 : Int)) ∧ (List.getD a2 (v5).toNat (0 : Int)) < (List.length v6 : Int)) ∧ (0 ≤ (List.getD a2 (v5).toNat (0 : Int)) ∧ (List.getD a2 (v5).toNat (0 : Int)) < (List.length v6 : Int)) ∧ True) (hs := []) (gs := []) (rn := []) (l' := [(3, .v (.c (.ho 102))), (38, .v (.c (.ls false (.num .i64) a2))), (39, .v (.c (.int .i64 (List.length a2 : Int)))), (40, .v (.c (.int .i64 v5)))]) (h' := [(0, .bx [.int .i64 a0, .ls false (.pr (.num .i64) (.num .i64)) a1, .ls false (.num .i64) a2]), (102, .vc 3 (.num .i64) (List.set v6 ((List.getD a2 (v5).toNat (0 : Int))).toNat (IntKind.i64.wrap ((List.getD v6 ((List.getD a2 (v5).toNat (0 : Int))).toNat (0 : Int)) + (1 : Int)))))]) (by kernel_rfl) ⟨c0, c1, trivial⟩ ?_
          refine aw_region ttOK (C := True) (hs := []) (gs := []) (rn := []) (l' := [(3, .v (.c (.ho 102))), (38, .v (.c (.ls false (.num .i64) a2))), (39, .v (.c (.int .i64 (List.length a2 : Int)))), (40, .v (.c (.int .i64 (IntKind.i64.wrap (v5 + (1 : Int))))))]) (h' := [(0, .bx [.int .i64 a0, .ls false (.pr (.num .i64) (.num .i64)) a1, .ls false (.num .i64) a2]), (102, .vc 3 (.num .i64) (List.set v6 ((List.getD a2 (v5).toNat (0 : Int))).toNat (IntKind.i64.wrap ((List.getD v6 ((List.getD a2 (v5).toNat (0 : Int))).toNat (0 : Int)) + (1 : Int)))))]) (by kernel_rfl) trivial ?_
          exact ⟨_, ((IntKind.i64.wrap (v5 + (1 : Int))), (List.set v6 ((List.getD a2 (v5).toNat (0 : Int))).toNat (IntKind.i64.wrap ((List.getD v6 ((List.getD a2 (v5).toNat (0 : Int))).toNat (0 : Int)) + (1 : Int))))), Nat.lt_succ_self _, h, rfl, rfl⟩
        · rw [ite_f hb] at h
          refine aw_ghost (gs := []) (rn := []) (l' := [(3, .v (.c (.ho 102)))]) (h' := [(0, .bx [.int .i64 a0, .ls false (.pr (.num .i64) (.num .i64)) a1, .ls false (.num .i64) a2]), (102, .vc 3 (.num .i64) v6)]) (by kernel_rfl) ?_
          refine aw_exit ?_
          exact ⟨v6, h, rfl, rfl⟩
  · refine aw_seq ?_
    refine aw_region ttOK (C := True) (hs := []) (gs := []) (rn := []) (l' := [(0, .v (.c (.p 0 0))), (3, .v (.c (.ho 102))), (14, .v (.c (.ls false (.pr (.num .i64) (.num .i64)) a1))), (15, .v (.c (.int .i64 (List.length a1 : Int)))), (16, .v (.c (.int .i64 (0 : Int))))]) (h' := [(0, .bx [.int .i64 a0, .ls false (.pr (.num .i64) (.num .i64)) a1, .ls false (.num .i64) a2]), (102, .vc 3 (.num .i64) (List.replicate (v1).toNat (0 : Int)))]) (by kernel_rfl) trivial ?_
    refine aw_block ?_
    refine aw_loopF (X := Int × List Int) (fun x => ([(0, .v (.c (.p 0 0))), (3, .v (.c (.ho 102))), (14, .v (.c (.ls false (.pr (.num .i64) (.num .i64)) a1))), (15, .v (.c (.int .i64 (List.length a1 : Int)))), (16, .v (.c (.int .i64 x.1)))], [(0, .bx [.int .i64 a0, .ls false (.pr (.num .i64) (.num .i64)) a1, .ls false (.num .i64) a2]), (102, .vc 3 (.num .i64) x.2)])) (fun n x => F_i_Plan_uses_wzeL4 fu a1 a2 n x.1 x.2 = some r) fu ((0 : Int), (List.replicate (v1).toNat (0 : Int))) h ?_
    rintro n4 ⟨v4, v5⟩ h
    cases n4 with
    | zero => first | cases h | (rw [F_i_Plan_uses_wzeL4] at h; cases h)
    | succ n4 =>
      rw [F_i_Plan_uses_wzeL4] at h
      refine aw_seq ?_
      refine aw_region ttOK (C := True) (hs := []) (gs := []) (rn := []) (l' := [(0, .v (.c (.p 0 0))), (3, .v (.c (.ho 102))), (14, .v (.c (.ls false (.pr (.num .i64) (.num .i64)) a1))), (15, .v (.c (.int .i64 (List.length a1 : Int)))), (16, .v (.c (.int .i64 v4))), (17, .v (.c (.bool (decide (v4 < (List.length a1 : Int))))))]) (h' := [(0, .bx [.int .i64 a0, .ls false (.pr (.num .i64) (.num .i64)) a1, .ls false (.num .i64) a2]), (102, .vc 3 (.num .i64) v5)]) (by kernel_rfl) trivial ?_
      refine aw_seq ?_
      refine aw_if (decide (v4 < (List.length a1 : Int))) (by kernel_rfl) (fun hb => ?_) (fun hb => ?_)
      · rw [ite_t hb] at h
        refine aw_ghost (gs := []) (rn := []) (l' := [(0, .v (.c (.p 0 0))), (3, .v (.c (.ho 102))), (14, .v (.c (.ls false (.pr (.num .i64) (.num .i64)) a1))), (15, .v (.c (.int .i64 (List.length a1 : Int)))), (16, .v (.c (.int .i64 v4)))]) (h' := [(0, .bx [.int .i64 a0, .ls false (.pr (.num .i64) (.num .i64)) a1, .ls false (.num .i64) a2]), (102, .vc 3 (.num .i64) v5)]) (by kernel_rfl) ?_
        refine aw_skip ?_
        refine aw_seq ?_
        refine aw_block ?_
        refine aw_seq ?_
        obtain ⟨c0, h⟩ := chk_some h
        refine aw_region ttOK (C := (0 ≤ v4 ∧ v4 < (List.length a1 : Int)) ∧ True) (hs := [(2, { id := 113 })]) (gs := []) (rn := []) (l' := [(0, .v (.c (.p 0 0))), (3, .v (.c (.ho 102))), (5, .v (.c (.p 113 0))), (14, .v (.c (.ls false (.pr (.num .i64) (.num .i64)) a1))), (15, .v (.c (.int .i64 (List.length a1 : Int)))), (16, .v (.c (.int .i64 v4)))]) (h' := [(0, .bx [.int .i64 a0, .ls false (.pr (.num .i64) (.num .i64)) a1, .ls false (.num .i64) a2]), (102, .vc 3 (.num .i64) v5), (113, .bx [.int .i64 (List.getD a1 (v4).toNat ((0 : Int), (0 : Int))).1, .int .i64 (List.getD a1 (v4).toNat ((0 : Int), (0 : Int))).2])]) (by kernel_rfl) ⟨c0, trivial⟩ ?_
        refine aw_seq ?_
        obtain ⟨⟨c0, c1⟩, h⟩ := chk_some h
        refine aw_region ttOK (C := (0 ≤ (List.getD a1 (v4).toNat ((0 : Int), (0 : Int))).1 ∧ (List.getD a1 (v4).toNat ((0 : Int), (0 : Int))).1 < (List.length v5 : Int)) ∧ (0 ≤ (List.getD a1 (v4).toNat ((0 : Int), (0 : Int))).1 ∧ (List.getD a1 (v4).toNat ((0 : Int), (0 : Int))).1 < (List.length v5 : Int)) ∧ True) (hs := []) (gs := []) (rn := []) (l' := [(0, .v (.c (.p 0 0))), (3, .v (.c (.ho 102))), (5, .v (.c (.p 113 0))), (14, .v (.c (.ls false (.pr (.num .i64) (.num .i64)) a1))), (15, .v (.c (.int .i64 (List.length a1 : Int)))), (16, .v (.c (.int .i64 v4)))]) (h' := [(0, .bx [.int .i64 a0, .ls false (.pr (.num .i64) (.num .i64)) a1, .ls false (.num .i64) a2]), (102, .vc 3 (.num .i64) (List.set v5 ((List.getD a1 (v4).toNat ((0 : Int), (0 : Int))).1).toNat (IntKind.i64.wrap ((List.getD v5 ((List.getD a1 (v4).toNat ((0 : Int), (0 : Int))).1).toNat (0 : Int)) + (1 : Int))))), (113, .bx [.int .i64 (List.getD a1 (v4).toNat ((0 : Int), (0 : Int))).1, .int .i64 (List.getD a1 (v4).toNat ((0 : Int), (0 : Int))).2])]) (by kernel_rfl) ⟨c0, c1, trivial⟩ ?_
        obtain ⟨⟨c0, c1⟩, h⟩ := chk_some h
        refine aw_region ttOK (C := (0 ≤ (List.getD a1 (v4).toNat ((0 : Int), (0 : Int))).2 ∧ (List.getD a1 (v4).toNat ((0 : Int), (0 : Int))).2 < (List.length (List.set v5 ((List.getD a1 (v4).toNat ((0 : Int), (0 : Int))).1).toNat (IntKind.i64.wrap ((List.getD v5 ((List.getD a1 (v4).toNat ((0 : Int), (0 : Int))).1).toNat (0 : Int)) + (1 : Int)))) : Int)) ∧ (0 ≤ (List.getD a1 (v4).toNat ((0 : Int), (0 : Int))).2 ∧ (List.getD a1 (v4).toNat ((0 : Int), (0 : Int))).2 < (List.length (List.set v5 ((List.getD a1 (v4).toNat ((0 : Int), (0 : Int))).1).toNat (IntKind.i64.wrap ((List.getD v5 ((List.getD a1 (v4).toNat ((0 : Int), (0 : Int))).1).toNat (0 : Int)) + (1 : Int)))) : Int)) ∧ True) (hs := []) (gs := []) (rn := []) (l' := [(0, .v (.c (.p 0 0))), (3, .v (.c (.ho 102))), (14, .v (.c (.ls false (.pr (.num .i64) (.num .i64)) a1))), (15, .v (.c (.int .i64 (List.length a1 : Int)))), (16, .v (.c (.int .i64 v4)))]) (h' := [(0, .bx [.int .i64 a0, .ls false (.pr (.num .i64) (.num .i64)) a1, .ls false (.num .i64) a2]), (102, .vc 3 (.num .i64) (List.set (List.set v5 ((List.getD a1 (v4).toNat ((0 : Int), (0 : Int))).1).toNat (IntKind.i64.wrap ((List.getD v5 ((List.getD a1 (v4).toNat ((0 : Int), (0 : Int))).1).toNat (0 : Int)) + (1 : Int)))) ((List.getD a1 (v4).toNat ((0 : Int), (0 : Int))).2).toNat (IntKind.i64.wrap ((List.getD (List.set v5 ((List.getD a1 (v4).toNat ((0 : Int), (0 : Int))).1).toNat (IntKind.i64.wrap ((List.getD v5 ((List.getD a1 (v4).toNat ((0 : Int), (0 : Int))).1).toNat (0 : Int)) + (1 : Int)))) ((List.getD a1 (v4).toNat ((0 : Int), (0 : Int))).2).toNat (0 : Int)) + (1 : Int)))))]) (by kernel_rfl) ⟨c0, c1, trivial⟩ ?_
        refine aw_region ttOK (C := True) (hs := []) (gs := []) (rn := []) (l' := [(0, .v (.c (.p 0 0))), (3, .v (.c (.ho 102))), (14, .v (.c (.ls false (.pr (.num .i64) (.num .i64)) a1))), (15, .v (.c (.int .i64 (List.length a1 : Int)))), (16, .v (.c (.int .i64 (IntKind.i64.wrap (v4 + (1 : Int))))))]) (h' := [(0, .bx [.int .i64 a0, .ls false (.pr (.num .i64) (.num .i64)) a1, .ls false (.num .i64) a2]), (102, .vc 3 (.num .i64) (List.set (List.set v5 ((List.getD a1 (v4).toNat ((0 : Int), (0 : Int))).1).toNat (IntKind.i64.wrap ((List.getD v5 ((List.getD a1 (v4).toNat ((0 : Int), (0 : Int))).1).toNat (0 : Int)) + (1 : Int)))) ((List.getD a1 (v4).toNat ((0 : Int), (0 : Int))).2).toNat (IntKind.i64.wrap ((List.getD (List.set v5 ((List.getD a1 (v4).toNat ((0 : Int), (0 : Int))).1).toNat (IntKind.i64.wrap ((List.getD v5 ((List.getD a1 (v4).toNat ((0 : Int), (0 : Int))).1).toNat (0 : Int)) + (1 : Int)))) ((List.getD a1 (v4).toNat ((0 : Int), (0 : Int))).2).toNat (0 : Int)) + (1 : Int)))))]) (by kernel_rfl) trivial ?_
        exact ⟨_, ((IntKind.i64.wrap (v4 + (1 : Int))), (List.set (List.set v5 ((List.getD a1 (v4).toNat ((0 : Int), (0 : Int))).1).toNat (IntKind.i64.wrap ((List.getD v5 ((List.getD a1 (v4).toNat ((0 : Int), (0 : Int))).1).toNat (0 : Int)) + (1 : Int)))) ((List.getD a1 (v4).toNat ((0 : Int), (0 : Int))).2).toNat (IntKind.i64.wrap ((List.getD (List.set v5 ((List.getD a1 (v4).toNat ((0 : Int), (0 : Int))).1).toNat (IntKind.i64.wrap ((List.getD v5 ((List.getD a1 (v4).toNat ((0 : Int), (0 : Int))).1).toNat (0 : Int)) + (1 : Int)))) ((List.getD a1 (v4).toNat ((0 : Int), (0 : Int))).2).toNat (0 : Int)) + (1 : Int))))), Nat.lt_succ_self _, h, rfl, rfl⟩
      · rw [ite_f hb] at h
        refine aw_ghost (gs := []) (rn := []) (l' := [(0, .v (.c (.p 0 0))), (3, .v (.c (.ho 102)))]) (h' := [(0, .bx [.int .i64 a0, .ls false (.pr (.num .i64) (.num .i64)) a1, .ls false (.num .i64) a2]), (102, .vc 3 (.num .i64) v5)]) (by kernel_rfl) ?_
        refine aw_exit ?_
        exact ⟨v5, h, rfl, rfl⟩

theorem F_slices_Index_Lint_int_ok {fu : Nat} {a0 : List Int} {a1 : Int} {r : Int} (h : F_slices_Index_Lint_int fu a0 a1 = some r) :
    ACall Try.prog 70 [.v (.c (.ls false (.num .i64) a0)), .v (.c (.int .i64 a1))] [] [] (.v (.c (.int .i64 r))) [] := by
  unfold F_slices_Index_Lint_int at h
  refine acall_of_aw ttOK Try.func70 (by kernel_rfl) (c := _) rfl (N := 19) (by kernel_rfl) (Nat.le_of_ble_eq_true rfl) ?_
  refine aw_seq ?_
  refine aw_region ttOK (C := True) (hs := []) (gs := []) (rn := []) (l' := [(0, .v (.c (.ls false (.num .i64) a0))), (1, .v (.c (.int .i64 a1)))]) (h' := []) (by kernel_rfl) trivial ?_
  refine aw_join (X := Unit) (fun x => ([], [])) (fun x => F_slices_Index_Lint_intJ1 fu = some r) ?_ ?_
  · rintro _ h
    unfold F_slices_Index_Lint_intJ1 at h
    refine aw_seq ?_
    refine aw_region ttOK (C := True) (hs := []) (gs := []) (rn := []) (l' := [(4, .v (.c (.int .i64 (-1 : Int))))]) (h' := []) (by kernel_rfl) trivial ?_
    refine aw_ghost (gs := []) (rn := []) (l' := [(4, .v (.c (.int .i64 (-1 : Int))))]) (h' := []) (by kernel_rfl) ?_
    refine aw_ret (ret_ok [] ?_)
    cases h
    kernel_rfl
  · refine aw_seq ?_
    refine aw_region ttOK (C := True) (hs := []) (gs := []) (rn := []) (l' := [(0, .v (.c (.ls false (.num .i64) a0))), (1, .v (.c (.int .i64 a1))), (7, .v (.c (.int .i64 (List.length a0 : Int)))), (8, .v (.c (.int .i64 (0 : Int))))]) (h' := []) (by kernel_rfl) trivial ?_
    refine aw_block ?_
    refine aw_loopF (X := Int) (fun x => ([(0, .v (.c (.ls false (.num .i64) a0))), (1, .v (.c (.int .i64 a1))), (7, .v (.c (.int .i64 (List.length a0 : Int)))), (8, .v (.c (.int .i64 x)))], [])) (fun n x => F_slices_Index_Lint_intL2 fu a0 a1 n x = some r) fu (0 : Int) h ?_
    rintro n2 v2 h
    cases n2 with
    | zero => first | cases h | (rw [F_slices_Index_Lint_intL2] at h; cases h)
    | succ n2 =>
      rw [F_slices_Index_Lint_intL2] at h
      refine aw_seq ?_
      refine aw_region ttOK (C := True) (hs := []) (gs := []) (rn := []) (l' := [(0, .v (.c (.ls false (.num .i64) a0))), (1, .v (.c (.int .i64 a1))), (7, .v (.c (.int .i64 (List.length a0 : Int)))), (8, .v (.c (.int .i64 v2))), (9, .v (.c (.bool (decide (v2 < (List.length a0 : Int))))))]) (h' := []) (by kernel_rfl) trivial ?_
      refine aw_seq ?_
      refine aw_if (decide (v2 < (List.length a0 : Int))) (by kernel_rfl) (fun hb => ?_) (fun hb => ?_)
      · rw [ite_t hb] at h
        refine aw_ghost (gs := []) (rn := []) (l' := [(0, .v (.c (.ls false (.num .i64) a0))), (1, .v (.c (.int .i64 a1))), (7, .v (.c (.int .i64 (List.length a0 : Int)))), (8, .v (.c (.int .i64 v2)))]) (h' := []) (by kernel_rfl) ?_
        refine aw_skip ?_
        refine aw_seq ?_
        refine aw_block ?_
        refine aw_seq ?_
        refine aw_region ttOK (C := True) (hs := []) (gs := []) (rn := []) (l' := [(0, .v (.c (.ls false (.num .i64) a0))), (1, .v (.c (.int .i64 a1))), (5, .v (.c (.int .i64 v2))), (7, .v (.c (.int .i64 (List.length a0 : Int)))), (8, .v (.c (.int .i64 v2)))]) (h' := []) (by kernel_rfl) trivial ?_
        refine aw_seq ?_
        obtain ⟨c0, h⟩ := chk_some h
        refine aw_region ttOK (C := (0 ≤ v2 ∧ v2 < (List.length a0 : Int)) ∧ True) (hs := []) (gs := []) (rn := []) (l' := [(0, .v (.c (.ls false (.num .i64) a0))), (1, .v (.c (.int .i64 a1))), (5, .v (.c (.int .i64 v2))), (7, .v (.c (.int .i64 (List.length a0 : Int)))), (8, .v (.c (.int .i64 v2))), (16, .v (.c (.bool (a1 == (List.getD a0 (v2).toNat (0 : Int))))))]) (h' := []) (by kernel_rfl) ⟨c0, trivial⟩ ?_
        refine aw_if (a1 == (List.getD a0 (v2).toNat (0 : Int))) (by kernel_rfl) (fun hb => ?_) (fun hb => ?_)
        · rw [ite_t hb] at h
          refine aw_seq ?_
          refine aw_region ttOK (C := True) (hs := []) (gs := []) (rn := []) (l' := [(4, .v (.c (.int .i64 v2)))]) (h' := []) (by kernel_rfl) trivial ?_
          refine aw_ghost (gs := []) (rn := []) (l' := [(4, .v (.c (.int .i64 v2)))]) (h' := []) (by kernel_rfl) ?_
          refine aw_ret (ret_ok [] ?_)
          cases h
          kernel_rfl
        · rw [ite_f hb] at h
          refine aw_ghost (gs := []) (rn := []) (l' := [(0, .v (.c (.ls false (.num .i64) a0))), (1, .v (.c (.int .i64 a1))), (7, .v (.c (.int .i64 (List.length a0 : Int)))), (8, .v (.c (.int .i64 v2)))]) (h' := []) (by kernel_rfl) ?_
          refine aw_skip ?_
          refine aw_region ttOK (C := True) (hs := []) (gs := []) (rn := []) (l' := [(0, .v (.c (.ls false (.num .i64) a0))), (1, .v (.c (.int .i64 a1))), (7, .v (.c (.int .i64 (List.length a0 : Int)))), (8, .v (.c (.int .i64 (IntKind.i64.wrap (v2 + (1 : Int))))))]) (h' := []) (by kernel_rfl) trivial ?_
          exact ⟨_, (IntKind.i64.wrap (v2 + (1 : Int))), Nat.lt_succ_self _, h, rfl, rfl⟩
      · rw [ite_f hb] at h
        refine aw_ghost (gs := []) (rn := []) (l' := []) (h' := []) (by kernel_rfl) ?_
        refine aw_exit ?_
        exact ⟨(), h, rfl, rfl⟩

theorem F_slices_Contains_Lint_int_ok {fu : Nat} {a0 : List Int} {a1 : Int} {r : Bool} (h : F_slices_Contains_Lint_int fu a0 a1 = some r) :
    ACall Try.prog 59 [.v (.c (.ls false (.num .i64) a0)), .v (.c (.int .i64 a1))] [] [] (.v (.c (.bool r))) [] := by
  unfold F_slices_Contains_Lint_int at h
  refine acall_of_aw ttOK Try.func59 (by kernel_rfl) (c := _) rfl (N := 9) (by kernel_rfl) (Nat.le_of_ble_eq_true rfl) ?_
  refine aw_seq ?_
  refine aw_region ttOK (C := True) (hs := []) (gs := []) (rn := []) (l' := [(0, .v (.c (.ls false (.num .i64) a0))), (1, .v (.c (.int .i64 a1)))]) (h' := []) (by kernel_rfl) trivial ?_
  refine aw_seq ?_
  obtain ⟨v1, ev1, h⟩ := bind_some h
  refine aw_region ttOK (C := (ACall Try.prog 70 [.v (.c (.ls false (.num .i64) a0)), .v (.c (.int .i64 a1))] [] [] (.v (.c (.int .i64 v1))) []) ∧ True) (hs := [(2, { call := some { f := 70, casts := [.same, .same], r := .v (.c (.int .i64 v1)) } })]) (gs := []) (rn := []) (l' := [(4, .v (.c (.bool (decide (v1 ≥ (0 : Int))))))]) (h' := []) (by kernel_rfl) ⟨(F_slices_Index_Lint_int_ok ev1), trivial⟩ ?_
  refine aw_ghost (gs := []) (rn := []) (l' := [(4, .v (.c (.bool (decide (v1 ≥ (0 : Int))))))]) (h' := []) (by kernel_rfl) ?_
  refine aw_ret (ret_ok [] ?_)
  cases h
  kernel_rfl

theorem F_i_Plan_canTurn_wze_ok {fu : Nat} {a0 : Int} {a1 : List (Int × Int)} {a2 : List Int} {r : Bool} (h : F_i_Plan_canTurn_wze fu a0 a1 a2 = some r) :
    ACall Try.prog 35 [.v (.c (.p 0 0))] [.bx [.int .i64 a0, .ls false (.pr (.num .i64) (.num .i64)) a1, .ls false (.num .i64) a2]] [0] (.v (.c (.bool r))) [.bx [.int .i64 a0, .ls false (.pr (.num .i64) (.num .i64)) a1, .ls false (.num .i64) a2]] := by
  unfold F_i_Plan_canTurn_wze at h
  refine acall_of_aw ttOK Try.func35 (by kernel_rfl) (c := _) rfl (N := 15) (by kernel_rfl) (Nat.le_of_ble_eq_true rfl) ?_
  refine aw_seq ?_
  refine aw_region ttOK (C := True) (hs := []) (gs := []) (rn := []) (l' := [(0, .v (.c (.p 0 0)))]) (h' := [(0, .bx [.int .i64 a0, .ls false (.pr (.num .i64) (.num .i64)) a1, .ls false (.num .i64) a2])]) (by kernel_rfl) trivial ?_
  refine aw_seq ?_
  obtain ⟨v1, ev1, h⟩ := bind_some h
  obtain ⟨v2, ev2, h⟩ := bind_some h
  refine aw_region ttOK (C := (((decide ((List.length a2 : Int) > (0 : Int))) == true) = true → ((decide ((List.length a2 : Int) > (0 : Int))) == true) = true) ∧ (((decide ((List.length a2 : Int) > (0 : Int))) == true) = true → ACall Try.prog 60 [.v (.c (.p 0 0))] [.bx [.int .i64 a0, .ls false (.pr (.num .i64) (.num .i64)) a1, .ls false (.num .i64) a2]] [0] (.v (.c (.ls false (.num .i64) v1))) [.bx [.int .i64 a0, .ls false (.pr (.num .i64) (.num .i64)) a1, .ls false (.num .i64) a2]]) ∧ (((decide ((List.length a2 : Int) > (0 : Int))) == true) = true → ((decide ((List.length a2 : Int) > (0 : Int))) == true) = true) ∧ (((decide ((List.length a2 : Int) > (0 : Int))) == true) = true → ACall Try.prog 59 [.v (.c (.ls false (.num .i64) v1)), .v (.c (.int .i64 (0 : Int)))] [] [] (.v (.c (.bool v2))) []) ∧ (((decide ((List.length a2 : Int) > (0 : Int))) == true) = true → ((decide ((List.length a2 : Int) > (0 : Int))) == true) = true) ∧ ((decide ((List.length a2 : Int) > (0 : Int))) = true → ((decide ((List.length a2 : Int) > (0 : Int))) == true) = true) ∧ True) (hs := [(8, { call := some { f := 60, casts := [.same], sel := [0], r := .v (.c (.ls false (.num .i64) v1)), quiet := true } }), (9, { call := some { f := 59, casts := [.same, .same], r := .v (.c (.bool v2)) } })]) (gs := []) (rn := []) (l' := [(2, .v (.c (.bool (cond (decide ((List.length a2 : Int) > (0 : Int))) (!v2) false))))]) (h' := [(0, .bx [.int .i64 a0, .ls false (.pr (.num .i64) (.num .i64)) a1, .ls false (.num .i64) a2])]) (by kernel_rfl) ⟨(fun h => h), (fun hg => (acall_view (js := [1]) (F_i_Plan_uses_wze_ok (gcl_some ev1 hg)) (by kernel_rfl))), (fun h => h), (fun hg => (F_slices_Contains_Lint_int_ok (gcl_some ev2 hg))), (fun h => h), (fun h => beq_iff_eq.2 h), trivial⟩ ?_
  refine aw_ghost (gs := []) (rn := []) (l' := [(2, .v (.c (.bool (cond (decide ((List.length a2 : Int) > (0 : Int))) (!v2) false))))]) (h' := [(0, .bx [.int .i64 a0, .ls false (.pr (.num .i64) (.num .i64)) a1, .ls false (.num .i64) a2])]) (by kernel_rfl) ?_
  refine aw_ret (ret_ok [0] ?_)
  cases h
  kernel_rfl

end Go.Proofs.Ytiplmapndahmmaa
