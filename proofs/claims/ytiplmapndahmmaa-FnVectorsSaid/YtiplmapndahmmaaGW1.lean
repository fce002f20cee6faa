/- That the functions compute so: printed by a program of ours (gen.py). -/
import Derived.Test.YtiplmapndahmmaaGD
import Derived.Test.YtiplmapndahmmaaGT
import Derived.Test.YtiplmapndahmmaaGW0
namespace Go.Proofs.Ytiplmapndahmmaa
open Al
set_option linter.unusedVariables false
set_option linter.constructorNameAsVariable false
theorem F_i_maker_times_qdj_ok {fu : Nat} {a0 : Int} {a1 : Int} {a2 : Int} {r : Int × List (Int × Int)} (h : F_i_maker_times_qdj fu a0 a1 a2 = some r) :
    ACall Try.prog 27 [.v (.c (.p 0 0)), .v (.c (.int .i64 a0)), .v (.c (.int .i64 a1))] [.bx [.int .i64 a2, .nl, .nl]] [0] (.v (.c (.int .i64 r.1))) [.bx [.int .i64 a2, .ho 1, .nl], .vc 67 (.pr (.num .i64) (.num .i64)) r.2] := by
  unfold F_i_maker_times_qdj at h
  refine acall_of_aw ttOK Try.func27 (by kernel_rfl) (c := _) rfl (N := 14) (by kernel_rfl) (Nat.le_of_ble_eq_true rfl) ?_
  refine aw_seq ?_
  refine aw_region ttOK (C := True) (hs := []) (gs := []) (rn := []) (l' := [(0, .v (.c (.p 0 0))), (1, .v (.c (.int .i64 a0))), (2, .v (.c (.int .i64 a1)))]) (h' := [(0, .bx [.int .i64 a2, .nl, .nl])]) (by kernel_rfl) trivial ?_
  refine aw_seq ?_
  refine aw_seq ?_
  refine aw_region ttOK (C := True) (hs := []) (gs := []) (rn := []) (l' := [(0, .v (.c (.p 0 0))), (1, .v (.c (.int .i64 a0))), (2, .v (.c (.int .i64 a1))), (8, .v (.c (.bool (decide (a0 < (0 : Int))))))]) (h' := [(0, .bx [.int .i64 a2, .nl, .nl])]) (by kernel_rfl) trivial ?_
  refine aw_if (decide (a0 < (0 : Int))) (by kernel_rfl) (fun hb => ?_) (fun hb => ?_)
  · rw [ite_t hb] at h
    refine aw_seq ?_
    refine aw_region ttOK (C := True) (hs := []) (gs := []) (rn := []) (l' := [(6, .v (.c (.int .i64 a1)))]) (h' := [(0, .bx [.int .i64 a2, .nl, .nl])]) (by kernel_rfl) trivial ?_
    refine aw_ghost (gs := [.cown 0 1 950 67 (.pr (.num .i64) (.num .i64))]) (rn := []) (l' := [(6, .v (.c (.int .i64 a1)))]) (h' := [(0, .bx [.int .i64 a2, .ho 950, .nl]), (950, .vc 67 (.pr (.num .i64) (.num .i64)) ([] : List (Int × Int)))]) (by kernel_rfl) ?_
    refine aw_ret (ret_ok [0, 950] ?_)
    cases h
    kernel_rfl
  · rw [ite_f hb] at h
    refine aw_ghost (gs := []) (rn := []) (l' := [(0, .v (.c (.p 0 0))), (1, .v (.c (.int .i64 a0))), (2, .v (.c (.int .i64 a1)))]) (h' := [(0, .bx [.int .i64 a2, .nl, .nl])]) (by kernel_rfl) ?_
    refine aw_skip ?_
    refine aw_seq ?_
    obtain ⟨v1, ev1, h⟩ := bind_some h
    refine aw_region ttOK (C := (ACall Try.prog 26 [.v (.c (.p 0 0)), .v (.c (.int .i64 a0)), .v (.c (.int .i64 a1))] [.bx [.int .i64 a2, .nl, .nl]] [0] (.v (.c (.int .i64 v1.1))) [.bx [.int .i64 a2, .ho 1, .nl], .vc 67 (.pr (.num .i64) (.num .i64)) v1.2]) ∧ True) (hs := [(3, { call := some { f := 26, casts := [.same, .same, .same], sel := [0], kp := [0], r := .v (.c (.int .i64 v1.1)), Hout := [.bx [.int .i64 a2, .ho 1, .nl], .vc 67 (.pr (.num .i64) (.num .i64)) v1.2], ren := [0, 108] } })]) (gs := []) (rn := []) (l' := [(6, .v (.c (.int .i64 v1.1)))]) (h' := [(0, .bx [.int .i64 a2, .ho 108, .nl]), (108, .vc 67 (.pr (.num .i64) (.num .i64)) v1.2)]) (by kernel_rfl) ⟨(F_i_maker_multiply_qdj_ok ev1), trivial⟩ ?_
    refine aw_ghost (gs := []) (rn := [(108, 950)]) (l' := [(6, .v (.c (.int .i64 v1.1)))]) (h' := [(0, .bx [.int .i64 a2, .ho 950, .nl]), (950, .vc 67 (.pr (.num .i64) (.num .i64)) v1.2)]) (by kernel_rfl) ?_
    refine aw_ret (ret_ok [0, 950] ?_)
    cases h
    kernel_rfl

theorem F_i_Plan_turned_wze_ok {fu : Nat} {a0 : Int} {a1 : List (Int × Int)} {a2 : List Int} {r : Int × List (Int × Int) × List Int} (h : F_i_Plan_turned_wze fu a0 a1 a2 = some r) :
    ACall Try.prog 36 [.v (.c (.p 0 0))] [.bx [.int .i64 a0, .ls false (.pr (.num .i64) (.num .i64)) a1, .ls false (.num .i64) a2]] [0] (.v (.ag [.int .i64 r.1, .ls false (.pr (.num .i64) (.num .i64)) r.2.1, .ls false (.num .i64) r.2.2])) [.bx [.int .i64 a0, .ls false (.pr (.num .i64) (.num .i64)) a1, .ls false (.num .i64) a2]] := by
  unfold F_i_Plan_turned_wze at h
  refine acall_of_aw ttOK Try.func36 (by kernel_rfl) (c := _) rfl (N := 100) (by kernel_rfl) (Nat.le_of_ble_eq_true rfl) ?_
  refine aw_seq ?_
  refine aw_region ttOK (C := True) (hs := [(0, { id := 100 })]) (gs := []) (rn := []) (l' := [(0, .v (.c (.p 0 0))), (2, .v (.c (.p 100 0)))]) (h' := [(0, .bx [.int .i64 a0, .ls false (.pr (.num .i64) (.num .i64)) a1, .ls false (.num .i64) a2]), (100, .bx [.int .i64 (0 : Int), .nl, .nl])]) (by kernel_rfl) trivial ?_
  refine aw_seq ?_
  obtain ⟨v1, ev1, h⟩ := bind_some h
  obtain ⟨v2, ev2, h⟩ := bind_some h
  obtain ⟨c0, h⟩ := chk_some h
  refine aw_draw ttOK ttMix (C := (ACall Try.prog 23 [.v (.c (.int .i64 (List.length a2 : Int)))] [] [] (.v (.c (.p 0 0))) [.bx [.int .i64 (List.length a2 : Int), .nl, .nl]]) ∧ (ACall Try.prog 51 [.v (.c (.p 0 0))] [.bx [.int .i64 a0, .ls false (.pr (.num .i64) (.num .i64)) a1, .ls false (.num .i64) a2]] [0] (.v (.c (.int .i64 v2))) [.bx [.int .i64 a0, .ls false (.pr (.num .i64) (.num .i64)) a1, .ls false (.num .i64) a2]]) ∧ (0 ≤ v2 ∧ v2 ≤ v2 ∧ v2 * (8 : Nat) ≤ 140737488355328) ∧ True) (hs := [(5, { call := some { f := 23, casts := [.same], r := .v (.c (.p 0 0)), Hout := [.bx [.int .i64 (List.length a2 : Int), .nl, .nl]], ren := [106] } }), (7, { call := some { f := 51, casts := [.same], sel := [0], kp := [0], r := .v (.c (.int .i64 v2)), Hout := [.bx [.int .i64 a0, .ls false (.pr (.num .i64) (.num .i64)) a1, .ls false (.num .i64) a2]], ren := [0] } }), (8, { id := 108 })]) (anc := [(1, [0]), (2, [0, 1]), (3, [0, 1, 2]), (4, [0, 1, 2, 3]), (5, [0, 1, 2, 3, 4]), (7, [0, 1, 2, 3, 4, 5, 6]), (8, [0, 1, 2, 3, 4, 5, 6, 7]), (9, [0, 1, 2, 3, 4, 5, 6, 7]), (10, [0, 1, 2, 3, 4, 5, 6, 7, 8, 9])]) (tch := [(5, [106]), (7, [0]), (8, [108])]) (gs := []) (rn := []) (l' := [(0, .v (.c (.p 0 0))), (2, .v (.c (.p 100 0))), (3, .v (.c (.p 106 0))), (4, .v (.c (.ho 108)))]) (h' := [(0, .bx [.int .i64 a0, .ls false (.pr (.num .i64) (.num .i64)) a1, .ls false (.num .i64) a2]), (100, .bx [.int .i64 (0 : Int), .nl, .nl]), (106, .bx [.int .i64 (List.length a2 : Int), .nl, .nl]), (108, .vc 3 (.num .i64) (List.replicate (v2).toNat (0 : Int)))]) (by kernel_rfl) ⟨(F_i_newMaker_ok ev1), (F_i_Plan_many_wze_ok ev2), c0, trivial⟩ ?_
  refine aw_join (X := Int × Int × List Int × List (Int × Int)) (fun x => ([(0, .v (.c (.p 0 0))), (2, .v (.c (.p 100 0))), (3, .v (.c (.p 106 0))), (4, .v (.c (.ho 108)))], [(0, .bx [.int .i64 a0, .ls false (.pr (.num .i64) (.num .i64)) a1, .ls false (.num .i64) a2]), (100, .bx [.int .i64 x.1, .nl, .nl]), (106, .bx [.int .i64 x.2.1, .ho 950, .nl]), (108, .vc 3 (.num .i64) x.2.2.1), (950, .vc 67 (.pr (.num .i64) (.num .i64)) x.2.2.2)])) (fun x => F_i_Plan_turned_wzeJ1 fu a0 x.1 x.2.1 x.2.2.1 x.2.2.2 = some r) ?_ ?_
  · rintro ⟨v3, v4, v5, v6⟩ h
    unfold F_i_Plan_turned_wzeJ1 at h
    refine aw_seq ?_
    obtain ⟨c0, h⟩ := chk_some h
    obtain ⟨v7, ev7, h⟩ := bind_some h
    refine aw_draw ttOK ttMix (C := (0 ≤ (0 : Int) ∧ (0 : Int) ≤ a0 ∧ a0 ≤ (List.length v5 : Int) ∧ a0 = a0 ∧ (some a0).isSome = true) ∧ (ACall Try.prog 29 [.v (.c (.p 0 0)), .v (.c (.ls false (.num .i64) (List.drop ((0 : Int)).toNat (List.take (a0).toNat v5))))] [.bx [.int .i64 v4, .ho 1, .nl], .vc 67 (.pr (.num .i64) (.num .i64)) v6] [0] (.v (.ag [.int .i64 v4, .ls false (.pr (.num .i64) (.num .i64)) v6, .ls false (.num .i64) (List.drop ((0 : Int)).toNat (List.take (a0).toNat v5))])) [.bx [.int .i64 v4, .ls false (.pr (.num .i64) (.num .i64)) v6, .ls false (.num .i64) (List.drop ((0 : Int)).toNat (List.take (a0).toNat v5))]]) ∧ True) (hs := [(10, { frz := [108] }), (11, { call := some { f := 29, casts := [.same, .view], sel := [106, 950], kp := [0], r := .v (.ag [.int .i64 v4, .ls false (.pr (.num .i64) (.num .i64)) v6, .ls false (.num .i64) (List.drop ((0 : Int)).toNat (List.take (a0).toNat v5))]), Hout := [.bx [.int .i64 v4, .ls false (.pr (.num .i64) (.num .i64)) v6, .ls false (.num .i64) (List.drop ((0 : Int)).toNat (List.take (a0).toNat v5))]], ren := [106] } })]) (anc := [(3, [2]), (4, [2, 3]), (5, [2, 3, 4]), (7, [6]), (8, [6, 7]), (9, [6, 7, 8]), (10, [1, 2, 3, 4, 5, 6, 7, 8, 9]), (11, [0, 1, 2, 3, 4, 5, 6, 7, 8, 9, 10]), (12, [0, 1, 2, 3, 4, 5, 6, 7, 8, 9, 10, 11])]) (tch := [(10, [108]), (11, [106, 950]), (12, [100])]) (gs := []) (rn := []) (l' := [(2, .v (.c (.p 100 0)))]) (h' := [(0, .bx [.int .i64 a0, .ls false (.pr (.num .i64) (.num .i64)) a1, .ls false (.num .i64) a2]), (100, .bx [.int .i64 v4, .ls false (.pr (.num .i64) (.num .i64)) v6, .ls false (.num .i64) (List.drop ((0 : Int)).toNat (List.take (a0).toNat v5))])]) (by kernel_rfl) ⟨c0, (F_i_maker_plan_dzy_ok ev7), trivial⟩ ?_
    refine aw_ghost (gs := []) (rn := []) (l' := [(2, .v (.c (.p 100 0)))]) (h' := [(0, .bx [.int .i64 a0, .ls false (.pr (.num .i64) (.num .i64)) a1, .ls false (.num .i64) a2]), (100, .bx [.int .i64 v4, .ls false (.pr (.num .i64) (.num .i64)) v6, .ls false (.num .i64) (List.drop ((0 : Int)).toNat (List.take (a0).toNat v5))])]) (by kernel_rfl) ?_
    refine aw_ret (ret_ok [0] ?_)
    cases h
    kernel_rfl
  · refine aw_seq ?_
    obtain ⟨v3, ev3, h⟩ := bind_some h
    refine aw_region ttOK (C := (ACall Try.prog 51 [.v (.c (.p 0 0))] [.bx [.int .i64 a0, .ls false (.pr (.num .i64) (.num .i64)) a1, .ls false (.num .i64) a2]] [0] (.v (.c (.int .i64 v3))) [.bx [.int .i64 a0, .ls false (.pr (.num .i64) (.num .i64)) a1, .ls false (.num .i64) a2]]) ∧ True) (hs := [(1, { call := some { f := 51, casts := [.same], sel := [0], kp := [0], r := .v (.c (.int .i64 v3)), Hout := [.bx [.int .i64 a0, .ls false (.pr (.num .i64) (.num .i64)) a1, .ls false (.num .i64) a2]], ren := [0] } })]) (gs := []) (rn := []) (l' := [(0, .v (.c (.p 0 0))), (2, .v (.c (.p 100 0))), (3, .v (.c (.p 106 0))), (4, .v (.c (.ho 108))), (5, .v (.c (.int .i64 (IntKind.i64.wrap (v3 - (1 : Int))))))]) (h' := [(0, .bx [.int .i64 a0, .ls false (.pr (.num .i64) (.num .i64)) a1, .ls false (.num .i64) a2]), (100, .bx [.int .i64 (0 : Int), .nl, .nl]), (106, .bx [.int .i64 (List.length a2 : Int), .nl, .nl]), (108, .vc 3 (.num .i64) (List.replicate (v2).toNat (0 : Int)))]) (by kernel_rfl) ⟨(F_i_Plan_many_wze_ok ev3), trivial⟩ ?_
    refine aw_block ?_
    refine aw_ghost (gs := [.cown 106 1 950 67 (.pr (.num .i64) (.num .i64))]) (rn := []) (l' := [(0, .v (.c (.p 0 0))), (2, .v (.c (.p 100 0))), (3, .v (.c (.p 106 0))), (4, .v (.c (.ho 108))), (5, .v (.c (.int .i64 (IntKind.i64.wrap (v3 - (1 : Int))))))]) (h' := [(0, .bx [.int .i64 a0, .ls false (.pr (.num .i64) (.num .i64)) a1, .ls false (.num .i64) a2]), (100, .bx [.int .i64 (0 : Int), .nl, .nl]), (106, .bx [.int .i64 (List.length a2 : Int), .ho 950, .nl]), (108, .vc 3 (.num .i64) (List.replicate (v2).toNat (0 : Int))), (950, .vc 67 (.pr (.num .i64) (.num .i64)) ([] : List (Int × Int)))]) (by kernel_rfl) ?_
    refine aw_loopF (X := Int × Int × Int × List Int × List (Int × Int)) (fun x => ([(0, .v (.c (.p 0 0))), (2, .v (.c (.p 100 0))), (3, .v (.c (.p 106 0))), (4, .v (.c (.ho 108))), (5, .v (.c (.int .i64 x.1)))], [(0, .bx [.int .i64 a0, .ls false (.pr (.num .i64) (.num .i64)) a1, .ls false (.num .i64) a2]), (100, .bx [.int .i64 x.2.1, .nl, .nl]), (106, .bx [.int .i64 x.2.2.1, .ho 950, .nl]), (108, .vc 3 (.num .i64) x.2.2.2.1), (950, .vc 67 (.pr (.num .i64) (.num .i64)) x.2.2.2.2)])) (fun n x => F_i_Plan_turned_wzeL2 fu a2 a1 a0 n x.1 x.2.1 x.2.2.1 x.2.2.2.1 x.2.2.2.2 = some r) fu ((IntKind.i64.wrap (v3 - (1 : Int))), (0 : Int), (List.length a2 : Int), (List.replicate (v2).toNat (0 : Int)), ([] : List (Int × Int))) h ?_
    rintro n2 ⟨v9, v10, v11, v12, v13⟩ h
    cases n2 with
    | zero => first | cases h | (rw [F_i_Plan_turned_wzeL2] at h; cases h)
    | succ n2 =>
      rw [F_i_Plan_turned_wzeL2] at h
      refine aw_seq ?_
      refine aw_seq ?_
      refine aw_region ttOK (C := True) (hs := []) (gs := []) (rn := []) (l' := [(0, .v (.c (.p 0 0))), (2, .v (.c (.p 100 0))), (3, .v (.c (.p 106 0))), (4, .v (.c (.ho 108))), (5, .v (.c (.int .i64 v9))), (26, .v (.c (.bool (decide (v9 ≥ (0 : Int))))))]) (h' := [(0, .bx [.int .i64 a0, .ls false (.pr (.num .i64) (.num .i64)) a1, .ls false (.num .i64) a2]), (100, .bx [.int .i64 v10, .nl, .nl]), (106, .bx [.int .i64 v11, .ho 950, .nl]), (108, .vc 3 (.num .i64) v12), (950, .vc 67 (.pr (.num .i64) (.num .i64)) v13)]) (by kernel_rfl) trivial ?_
      refine aw_if (decide (v9 ≥ (0 : Int))) (by kernel_rfl) (fun hb => ?_) (fun hb => ?_)
      · rw [ite_t hb] at h
        refine aw_ghost (gs := []) (rn := []) (l' := [(0, .v (.c (.p 0 0))), (2, .v (.c (.p 100 0))), (3, .v (.c (.p 106 0))), (4, .v (.c (.ho 108))), (5, .v (.c (.int .i64 v9)))]) (h' := [(0, .bx [.int .i64 a0, .ls false (.pr (.num .i64) (.num .i64)) a1, .ls false (.num .i64) a2]), (100, .bx [.int .i64 v10, .nl, .nl]), (106, .bx [.int .i64 v11, .ho 950, .nl]), (108, .vc 3 (.num .i64) v12), (950, .vc 67 (.pr (.num .i64) (.num .i64)) v13)]) (by kernel_rfl) ?_
        refine aw_skip ?_
        refine aw_join (X := Int × Int × Int × List Int × List (Int × Int)) (fun x => ([(0, .v (.c (.p 0 0))), (2, .v (.c (.p 100 0))), (3, .v (.c (.p 106 0))), (4, .v (.c (.ho 108))), (5, .v (.c (.int .i64 x.1)))], [(0, .bx [.int .i64 a0, .ls false (.pr (.num .i64) (.num .i64)) a1, .ls false (.num .i64) a2]), (100, .bx [.int .i64 x.2.1, .nl, .nl]), (106, .bx [.int .i64 x.2.2.1, .ho 950, .nl]), (108, .vc 3 (.num .i64) x.2.2.2.1), (950, .vc 67 (.pr (.num .i64) (.num .i64)) x.2.2.2.2)])) (fun x => F_i_Plan_turned_wzeJ3 fu (F_i_Plan_turned_wzeL2 fu a2 a1 a0 n2) x.1 x.2.1 x.2.2.1 x.2.2.2.1 x.2.2.2.2 = some r) ?_ ?_
        · rintro ⟨v14, v15, v16, v17, v18⟩ h
          unfold F_i_Plan_turned_wzeJ3 at h
          refine aw_region ttOK (C := True) (hs := []) (gs := []) (rn := []) (l' := [(0, .v (.c (.p 0 0))), (2, .v (.c (.p 100 0))), (3, .v (.c (.p 106 0))), (4, .v (.c (.ho 108))), (5, .v (.c (.int .i64 (IntKind.i64.wrap (v14 - (1 : Int))))))]) (h' := [(0, .bx [.int .i64 a0, .ls false (.pr (.num .i64) (.num .i64)) a1, .ls false (.num .i64) a2]), (100, .bx [.int .i64 v15, .nl, .nl]), (106, .bx [.int .i64 v16, .ho 950, .nl]), (108, .vc 3 (.num .i64) v17), (950, .vc 67 (.pr (.num .i64) (.num .i64)) v18)]) (by kernel_rfl) trivial ?_
          exact ⟨_, ((IntKind.i64.wrap (v14 - (1 : Int))), v15, v16, v17, v18), Nat.lt_succ_self _, h, rfl, rfl⟩
        · refine aw_block ?_
          refine aw_seq ?_
          refine aw_region ttOK (C := True) (hs := []) (gs := []) (rn := []) (l' := [(0, .v (.c (.p 0 0))), (2, .v (.c (.p 100 0))), (3, .v (.c (.p 106 0))), (4, .v (.c (.ho 108))), (5, .v (.c (.int .i64 v9))), (6, .v (.c (.int .i64 (-1 : Int))))]) (h' := [(0, .bx [.int .i64 a0, .ls false (.pr (.num .i64) (.num .i64)) a1, .ls false (.num .i64) a2]), (100, .bx [.int .i64 v10, .nl, .nl]), (106, .bx [.int .i64 v11, .ho 950, .nl]), (108, .vc 3 (.num .i64) v12), (950, .vc 67 (.pr (.num .i64) (.num .i64)) v13)]) (by kernel_rfl) trivial ?_
          refine aw_join (X := Int × Int × Int × Int × List Int × List (Int × Int)) (fun x => ([(0, .v (.c (.p 0 0))), (2, .v (.c (.p 100 0))), (3, .v (.c (.p 106 0))), (4, .v (.c (.ho 108))), (5, .v (.c (.int .i64 x.1))), (6, .v (.c (.int .i64 x.2.1)))], [(0, .bx [.int .i64 a0, .ls false (.pr (.num .i64) (.num .i64)) a1, .ls false (.num .i64) a2]), (100, .bx [.int .i64 x.2.2.1, .nl, .nl]), (106, .bx [.int .i64 x.2.2.2.1, .ho 950, .nl]), (108, .vc 3 (.num .i64) x.2.2.2.2.1), (950, .vc 67 (.pr (.num .i64) (.num .i64)) x.2.2.2.2.2)])) (fun x => F_i_Plan_turned_wzeJ4 fu a1 a0 (F_i_Plan_turned_wzeL2 fu a2 a1 a0 n2) x.1 x.2.1 x.2.2.1 x.2.2.2.1 x.2.2.2.2.1 x.2.2.2.2.2 = some r) ?_ ?_
          · rintro ⟨v14, v15, v16, v17, v18, v19⟩ h
            unfold F_i_Plan_turned_wzeJ4 at h
            refine aw_join (X := Int × Int × Int × Int × List Int × List (Int × Int)) (fun x => ([(0, .v (.c (.p 0 0))), (2, .v (.c (.p 100 0))), (3, .v (.c (.p 106 0))), (4, .v (.c (.ho 108))), (5, .v (.c (.int .i64 x.1))), (6, .v (.c (.int .i64 x.2.1)))], [(0, .bx [.int .i64 a0, .ls false (.pr (.num .i64) (.num .i64)) a1, .ls false (.num .i64) a2]), (100, .bx [.int .i64 x.2.2.1, .nl, .nl]), (106, .bx [.int .i64 x.2.2.2.1, .ho 950, .nl]), (108, .vc 3 (.num .i64) x.2.2.2.2.1), (950, .vc 67 (.pr (.num .i64) (.num .i64)) x.2.2.2.2.2)])) (fun x => F_i_Plan_turned_wzeJ5 fu (F_i_Plan_turned_wzeL2 fu a2 a1 a0 n2) x.1 x.2.1 x.2.2.1 x.2.2.2.1 x.2.2.2.2.1 x.2.2.2.2.2 = some r) ?_ ?_
            · rintro ⟨v20, v21, v22, v23, v24, v25⟩ h
              unfold F_i_Plan_turned_wzeJ5 at h
              obtain ⟨c0, h⟩ := chk_some h
              refine aw_region ttOK (C := (0 ≤ v20 ∧ v20 < (List.length v24 : Int)) ∧ True) (hs := []) (gs := []) (rn := []) (l' := [(0, .v (.c (.p 0 0))), (2, .v (.c (.p 100 0))), (3, .v (.c (.p 106 0))), (4, .v (.c (.ho 108))), (5, .v (.c (.int .i64 v20)))]) (h' := [(0, .bx [.int .i64 a0, .ls false (.pr (.num .i64) (.num .i64)) a1, .ls false (.num .i64) a2]), (100, .bx [.int .i64 v22, .nl, .nl]), (106, .bx [.int .i64 v23, .ho 950, .nl]), (108, .vc 3 (.num .i64) (List.set v24 (v20).toNat v21)), (950, .vc 67 (.pr (.num .i64) (.num .i64)) v25)]) (by kernel_rfl) ⟨c0, trivial⟩ ?_
              exact ⟨(v20, v22, v23, (List.set v24 (v20).toNat v21), v25), h, rfl, rfl⟩
            · refine aw_seq ?_
              refine aw_region ttOK (C := True) (hs := []) (gs := []) (rn := []) (l' := [(0, .v (.c (.p 0 0))), (2, .v (.c (.p 100 0))), (3, .v (.c (.p 106 0))), (4, .v (.c (.ho 108))), (5, .v (.c (.int .i64 v14))), (6, .v (.c (.int .i64 v15))), (50, .v (.c (.ls false (.pr (.num .i64) (.num .i64)) a1))), (51, .v (.c (.int .i64 (List.length a1 : Int)))), (52, .v (.c (.int .i64 (0 : Int))))]) (h' := [(0, .bx [.int .i64 a0, .ls false (.pr (.num .i64) (.num .i64)) a1, .ls false (.num .i64) a2]), (100, .bx [.int .i64 v16, .nl, .nl]), (106, .bx [.int .i64 v17, .ho 950, .nl]), (108, .vc 3 (.num .i64) v18), (950, .vc 67 (.pr (.num .i64) (.num .i64)) v19)]) (by kernel_rfl) trivial ?_
              refine aw_block ?_
              refine aw_loopF (X := Int × Int × Int × Int × Int × Int × List Int × List (Int × Int)) (fun x => ([(0, .v (.c (.p 0 0))), (2, .v (.c (.p 100 0))), (3, .v (.c (.p 106 0))), (4, .v (.c (.ho 108))), (5, .v (.c (.int .i64 x.1))), (6, .v (.c (.int .i64 x.2.1))), (50, .v (.c (.ls false (.pr (.num .i64) (.num .i64)) a1))), (51, .v (.c (.int .i64 x.2.2.1))), (52, .v (.c (.int .i64 x.2.2.2.1)))], [(0, .bx [.int .i64 a0, .ls false (.pr (.num .i64) (.num .i64)) a1, .ls false (.num .i64) a2]), (100, .bx [.int .i64 x.2.2.2.2.1, .nl, .nl]), (106, .bx [.int .i64 x.2.2.2.2.2.1, .ho 950, .nl]), (108, .vc 3 (.num .i64) x.2.2.2.2.2.2.1), (950, .vc 67 (.pr (.num .i64) (.num .i64)) x.2.2.2.2.2.2.2)])) (fun n x => F_i_Plan_turned_wzeL6 fu a1 a0 (F_i_Plan_turned_wzeL2 fu a2 a1 a0 n2) n x.1 x.2.1 x.2.2.1 x.2.2.2.1 x.2.2.2.2.1 x.2.2.2.2.2.1 x.2.2.2.2.2.2.1 x.2.2.2.2.2.2.2 = some r) fu (v14, v15, (List.length a1 : Int), (0 : Int), v16, v17, v18, v19) h ?_
              rintro n6 ⟨v28, v29, v30, v31, v32, v33, v34, v35⟩ h
              cases n6 with
              | zero => first | cases h | (rw [F_i_Plan_turned_wzeL6] at h; cases h)
              | succ n6 =>
                rw [F_i_Plan_turned_wzeL6] at h
                refine aw_seq ?_
                refine aw_region ttOK (C := True) (hs := []) (gs := []) (rn := []) (l' := [(0, .v (.c (.p 0 0))), (2, .v (.c (.p 100 0))), (3, .v (.c (.p 106 0))), (4, .v (.c (.ho 108))), (5, .v (.c (.int .i64 v28))), (6, .v (.c (.int .i64 v29))), (50, .v (.c (.ls false (.pr (.num .i64) (.num .i64)) a1))), (51, .v (.c (.int .i64 v30))), (52, .v (.c (.int .i64 v31))), (53, .v (.c (.bool (decide (v31 < v30)))))]) (h' := [(0, .bx [.int .i64 a0, .ls false (.pr (.num .i64) (.num .i64)) a1, .ls false (.num .i64) a2]), (100, .bx [.int .i64 v32, .nl, .nl]), (106, .bx [.int .i64 v33, .ho 950, .nl]), (108, .vc 3 (.num .i64) v34), (950, .vc 67 (.pr (.num .i64) (.num .i64)) v35)]) (by kernel_rfl) trivial ?_
                refine aw_seq ?_
                refine aw_if (decide (v31 < v30)) (by kernel_rfl) (fun hb => ?_) (fun hb => ?_)
                · rw [ite_t hb] at h
                  refine aw_ghost (gs := []) (rn := []) (l' := [(0, .v (.c (.p 0 0))), (2, .v (.c (.p 100 0))), (3, .v (.c (.p 106 0))), (4, .v (.c (.ho 108))), (5, .v (.c (.int .i64 v28))), (6, .v (.c (.int .i64 v29))), (50, .v (.c (.ls false (.pr (.num .i64) (.num .i64)) a1))), (51, .v (.c (.int .i64 v30))), (52, .v (.c (.int .i64 v31)))]) (h' := [(0, .bx [.int .i64 a0, .ls false (.pr (.num .i64) (.num .i64)) a1, .ls false (.num .i64) a2]), (100, .bx [.int .i64 v32, .nl, .nl]), (106, .bx [.int .i64 v33, .ho 950, .nl]), (108, .vc 3 (.num .i64) v34), (950, .vc 67 (.pr (.num .i64) (.num .i64)) v35)]) (by kernel_rfl) ?_
                  refine aw_skip ?_
                  refine aw_join (X := Int × Int × Int × Int × Int × Int × List Int × List (Int × Int)) (fun x => ([(0, .v (.c (.p 0 0))), (2, .v (.c (.p 100 0))), (3, .v (.c (.p 106 0))), (4, .v (.c (.ho 108))), (5, .v (.c (.int .i64 x.1))), (6, .v (.c (.int .i64 x.2.1))), (50, .v (.c (.ls false (.pr (.num .i64) (.num .i64)) a1))), (51, .v (.c (.int .i64 x.2.2.1))), (52, .v (.c (.int .i64 x.2.2.2.1)))], [(0, .bx [.int .i64 a0, .ls false (.pr (.num .i64) (.num .i64)) a1, .ls false (.num .i64) a2]), (100, .bx [.int .i64 x.2.2.2.2.1, .nl, .nl]), (106, .bx [.int .i64 x.2.2.2.2.2.1, .ho 950, .nl]), (108, .vc 3 (.num .i64) x.2.2.2.2.2.2.1), (950, .vc 67 (.pr (.num .i64) (.num .i64)) x.2.2.2.2.2.2.2)])) (fun x => F_i_Plan_turned_wzeJ7 fu (F_i_Plan_turned_wzeL6 fu a1 a0 (F_i_Plan_turned_wzeL2 fu a2 a1 a0 n2) n6) x.1 x.2.1 x.2.2.1 x.2.2.2.1 x.2.2.2.2.1 x.2.2.2.2.2.1 x.2.2.2.2.2.2.1 x.2.2.2.2.2.2.2 = some r) ?_ ?_
                  · rintro ⟨v36, v37, v38, v39, v40, v41, v42, v43⟩ h
                    unfold F_i_Plan_turned_wzeJ7 at h
                    refine aw_region ttOK (C := True) (hs := []) (gs := []) (rn := []) (l' := [(0, .v (.c (.p 0 0))), (2, .v (.c (.p 100 0))), (3, .v (.c (.p 106 0))), (4, .v (.c (.ho 108))), (5, .v (.c (.int .i64 v36))), (6, .v (.c (.int .i64 v37))), (50, .v (.c (.ls false (.pr (.num .i64) (.num .i64)) a1))), (51, .v (.c (.int .i64 v38))), (52, .v (.c (.int .i64 (IntKind.i64.wrap (v39 + (1 : Int))))))]) (h' := [(0, .bx [.int .i64 a0, .ls false (.pr (.num .i64) (.num .i64)) a1, .ls false (.num .i64) a2]), (100, .bx [.int .i64 v40, .nl, .nl]), (106, .bx [.int .i64 v41, .ho 950, .nl]), (108, .vc 3 (.num .i64) v42), (950, .vc 67 (.pr (.num .i64) (.num .i64)) v43)]) (by kernel_rfl) trivial ?_
                    exact ⟨_, (v36, v37, v38, (IntKind.i64.wrap (v39 + (1 : Int))), v40, v41, v42, v43), Nat.lt_succ_self _, h, rfl, rfl⟩
                  · refine aw_block ?_
                    refine aw_seq ?_
                    obtain ⟨c0, h⟩ := chk_some h
                    refine aw_region ttOK (C := (0 ≤ v31 ∧ v31 < (List.length a1 : Int)) ∧ True) (hs := [(3, { id := 149 })]) (gs := []) (rn := []) (l' := [(0, .v (.c (.p 0 0))), (2, .v (.c (.p 100 0))), (3, .v (.c (.p 106 0))), (4, .v (.c (.ho 108))), (5, .v (.c (.int .i64 v28))), (6, .v (.c (.int .i64 v29))), (9, .v (.c (.int .i64 v31))), (10, .v (.c (.p 149 0))), (50, .v (.c (.ls false (.pr (.num .i64) (.num .i64)) a1))), (51, .v (.c (.int .i64 v30))), (52, .v (.c (.int .i64 v31)))]) (h' := [(0, .bx [.int .i64 a0, .ls false (.pr (.num .i64) (.num .i64)) a1, .ls false (.num .i64) a2]), (100, .bx [.int .i64 v32, .nl, .nl]), (106, .bx [.int .i64 v33, .ho 950, .nl]), (108, .vc 3 (.num .i64) v34), (149, .bx [.int .i64 (List.getD a1 (v31).toNat ((0 : Int), (0 : Int))).1, .int .i64 (List.getD a1 (v31).toNat ((0 : Int), (0 : Int))).2]), (950, .vc 67 (.pr (.num .i64) (.num .i64)) v35)]) (by kernel_rfl) ⟨c0, trivial⟩ ?_
                    refine aw_seq ?_
                    refine aw_region ttOK (C := True) (hs := [(4, { id := 156 })]) (gs := []) (rn := []) (l' := [(0, .v (.c (.p 0 0))), (2, .v (.c (.p 100 0))), (3, .v (.c (.p 106 0))), (4, .v (.c (.ho 108))), (5, .v (.c (.int .i64 v28))), (6, .v (.c (.int .i64 v29))), (9, .v (.c (.int .i64 v31))), (50, .v (.c (.ls false (.pr (.num .i64) (.num .i64)) a1))), (51, .v (.c (.int .i64 v30))), (52, .v (.c (.int .i64 v31))), (61, .v (.c (.ho 156))), (62, .v (.c (.int .i64 (List.length ([(List.getD a1 (v31).toNat ((0 : Int), (0 : Int))).1, (List.getD a1 (v31).toNat ((0 : Int), (0 : Int))).2] : List Int) : Int)))), (63, .v (.c (.int .i64 (0 : Int))))]) (h' := [(0, .bx [.int .i64 a0, .ls false (.pr (.num .i64) (.num .i64)) a1, .ls false (.num .i64) a2]), (100, .bx [.int .i64 v32, .nl, .nl]), (106, .bx [.int .i64 v33, .ho 950, .nl]), (108, .vc 3 (.num .i64) v34), (156, .vc 3 (.num .i64) ([(List.getD a1 (v31).toNat ((0 : Int), (0 : Int))).1, (List.getD a1 (v31).toNat ((0 : Int), (0 : Int))).2] : List Int)), (950, .vc 67 (.pr (.num .i64) (.num .i64)) v35)]) (by kernel_rfl) trivial ?_
                    refine aw_block ?_
                    refine aw_loopF (X := Int × Int × List (Int × Int)) (fun x => ([(0, .v (.c (.p 0 0))), (2, .v (.c (.p 100 0))), (3, .v (.c (.p 106 0))), (4, .v (.c (.ho 108))), (5, .v (.c (.int .i64 v28))), (6, .v (.c (.int .i64 x.1))), (9, .v (.c (.int .i64 v31))), (50, .v (.c (.ls false (.pr (.num .i64) (.num .i64)) a1))), (51, .v (.c (.int .i64 v30))), (52, .v (.c (.int .i64 v31))), (61, .v (.c (.ho 156))), (62, .v (.c (.int .i64 (List.length ([(List.getD a1 (v31).toNat ((0 : Int), (0 : Int))).1, (List.getD a1 (v31).toNat ((0 : Int), (0 : Int))).2] : List Int) : Int)))), (63, .v (.c (.int .i64 x.2.1)))], [(0, .bx [.int .i64 a0, .ls false (.pr (.num .i64) (.num .i64)) a1, .ls false (.num .i64) a2]), (100, .bx [.int .i64 v32, .nl, .nl]), (106, .bx [.int .i64 v33, .ho 950, .nl]), (108, .vc 3 (.num .i64) v34), (156, .vc 3 (.num .i64) ([(List.getD a1 (v31).toNat ((0 : Int), (0 : Int))).1, (List.getD a1 (v31).toNat ((0 : Int), (0 : Int))).2] : List Int)), (950, .vc 67 (.pr (.num .i64) (.num .i64)) x.2.2)])) (fun n x => F_i_Plan_turned_wzeL8 fu a1 v31 v28 a0 v34 v33 (F_i_Plan_turned_wzeL6 fu a1 a0 (F_i_Plan_turned_wzeL2 fu a2 a1 a0 n2) n6) v30 v32 n x.1 x.2.1 x.2.2 = some r) fu (v29, (0 : Int), v35) h ?_
                    rintro n8 ⟨v39, v40, v41⟩ h
                    cases n8 with
                    | zero => first | cases h | (rw [F_i_Plan_turned_wzeL8] at h; cases h)
                    | succ n8 =>
                      rw [F_i_Plan_turned_wzeL8] at h
                      refine aw_seq ?_
                      refine aw_region ttOK (C := True) (hs := []) (gs := []) (rn := []) (l' := [(0, .v (.c (.p 0 0))), (2, .v (.c (.p 100 0))), (3, .v (.c (.p 106 0))), (4, .v (.c (.ho 108))), (5, .v (.c (.int .i64 v28))), (6, .v (.c (.int .i64 v39))), (9, .v (.c (.int .i64 v31))), (50, .v (.c (.ls false (.pr (.num .i64) (.num .i64)) a1))), (51, .v (.c (.int .i64 v30))), (52, .v (.c (.int .i64 v31))), (61, .v (.c (.ho 156))), (62, .v (.c (.int .i64 (List.length ([(List.getD a1 (v31).toNat ((0 : Int), (0 : Int))).1, (List.getD a1 (v31).toNat ((0 : Int), (0 : Int))).2] : List Int) : Int)))), (63, .v (.c (.int .i64 v40))), (64, .v (.c (.bool (decide (v40 < (List.length ([(List.getD a1 (v31).toNat ((0 : Int), (0 : Int))).1, (List.getD a1 (v31).toNat ((0 : Int), (0 : Int))).2] : List Int) : Int))))))]) (h' := [(0, .bx [.int .i64 a0, .ls false (.pr (.num .i64) (.num .i64)) a1, .ls false (.num .i64) a2]), (100, .bx [.int .i64 v32, .nl, .nl]), (106, .bx [.int .i64 v33, .ho 950, .nl]), (108, .vc 3 (.num .i64) v34), (156, .vc 3 (.num .i64) ([(List.getD a1 (v31).toNat ((0 : Int), (0 : Int))).1, (List.getD a1 (v31).toNat ((0 : Int), (0 : Int))).2] : List Int)), (950, .vc 67 (.pr (.num .i64) (.num .i64)) v41)]) (by kernel_rfl) trivial ?_
                      refine aw_seq ?_
                      refine aw_if (decide (v40 < (List.length ([(List.getD a1 (v31).toNat ((0 : Int), (0 : Int))).1, (List.getD a1 (v31).toNat ((0 : Int), (0 : Int))).2] : List Int) : Int))) (by kernel_rfl) (fun hb => ?_) (fun hb => ?_)
                      · rw [ite_t hb] at h
                        refine aw_ghost (gs := []) (rn := []) (l' := [(0, .v (.c (.p 0 0))), (2, .v (.c (.p 100 0))), (3, .v (.c (.p 106 0))), (4, .v (.c (.ho 108))), (5, .v (.c (.int .i64 v28))), (6, .v (.c (.int .i64 v39))), (9, .v (.c (.int .i64 v31))), (50, .v (.c (.ls false (.pr (.num .i64) (.num .i64)) a1))), (51, .v (.c (.int .i64 v30))), (52, .v (.c (.int .i64 v31))), (61, .v (.c (.ho 156))), (62, .v (.c (.int .i64 (List.length ([(List.getD a1 (v31).toNat ((0 : Int), (0 : Int))).1, (List.getD a1 (v31).toNat ((0 : Int), (0 : Int))).2] : List Int) : Int)))), (63, .v (.c (.int .i64 v40)))]) (h' := [(0, .bx [.int .i64 a0, .ls false (.pr (.num .i64) (.num .i64)) a1, .ls false (.num .i64) a2]), (100, .bx [.int .i64 v32, .nl, .nl]), (106, .bx [.int .i64 v33, .ho 950, .nl]), (108, .vc 3 (.num .i64) v34), (156, .vc 3 (.num .i64) ([(List.getD a1 (v31).toNat ((0 : Int), (0 : Int))).1, (List.getD a1 (v31).toNat ((0 : Int), (0 : Int))).2] : List Int)), (950, .vc 67 (.pr (.num .i64) (.num .i64)) v41)]) (by kernel_rfl) ?_
                        refine aw_skip ?_
                        refine aw_join (X := Int × List (Int × Int)) (fun x => ([(0, .v (.c (.p 0 0))), (2, .v (.c (.p 100 0))), (3, .v (.c (.p 106 0))), (4, .v (.c (.ho 108))), (5, .v (.c (.int .i64 v28))), (6, .v (.c (.int .i64 x.1))), (9, .v (.c (.int .i64 v31))), (50, .v (.c (.ls false (.pr (.num .i64) (.num .i64)) a1))), (51, .v (.c (.int .i64 v30))), (52, .v (.c (.int .i64 v31))), (61, .v (.c (.ho 156))), (62, .v (.c (.int .i64 (List.length ([(List.getD a1 (v31).toNat ((0 : Int), (0 : Int))).1, (List.getD a1 (v31).toNat ((0 : Int), (0 : Int))).2] : List Int) : Int)))), (63, .v (.c (.int .i64 v40)))], [(0, .bx [.int .i64 a0, .ls false (.pr (.num .i64) (.num .i64)) a1, .ls false (.num .i64) a2]), (100, .bx [.int .i64 v32, .nl, .nl]), (106, .bx [.int .i64 v33, .ho 177, .nl]), (108, .vc 3 (.num .i64) v34), (156, .vc 3 (.num .i64) ([(List.getD a1 (v31).toNat ((0 : Int), (0 : Int))).1, (List.getD a1 (v31).toNat ((0 : Int), (0 : Int))).2] : List Int)), (177, .vc 67 (.pr (.num .i64) (.num .i64)) x.2)])) (fun x => F_i_Plan_turned_wzeJ9 fu (F_i_Plan_turned_wzeL8 fu a1 v31 v28 a0 v34 v33 (F_i_Plan_turned_wzeL6 fu a1 a0 (F_i_Plan_turned_wzeL2 fu a2 a1 a0 n2) n6) v30 v32 n8) v40 x.1 x.2 = some r) ?_ ?_
                        · rintro ⟨v42, v43⟩ h
                          unfold F_i_Plan_turned_wzeJ9 at h
                          refine aw_region ttOK (C := True) (hs := []) (gs := []) (rn := [(177, 950)]) (l' := [(0, .v (.c (.p 0 0))), (2, .v (.c (.p 100 0))), (3, .v (.c (.p 106 0))), (4, .v (.c (.ho 108))), (5, .v (.c (.int .i64 v28))), (6, .v (.c (.int .i64 v42))), (9, .v (.c (.int .i64 v31))), (50, .v (.c (.ls false (.pr (.num .i64) (.num .i64)) a1))), (51, .v (.c (.int .i64 v30))), (52, .v (.c (.int .i64 v31))), (61, .v (.c (.ho 156))), (62, .v (.c (.int .i64 (List.length ([(List.getD a1 (v31).toNat ((0 : Int), (0 : Int))).1, (List.getD a1 (v31).toNat ((0 : Int), (0 : Int))).2] : List Int) : Int)))), (63, .v (.c (.int .i64 (IntKind.i64.wrap (v40 + (1 : Int))))))]) (h' := [(0, .bx [.int .i64 a0, .ls false (.pr (.num .i64) (.num .i64)) a1, .ls false (.num .i64) a2]), (100, .bx [.int .i64 v32, .nl, .nl]), (106, .bx [.int .i64 v33, .ho 950, .nl]), (108, .vc 3 (.num .i64) v34), (156, .vc 3 (.num .i64) ([(List.getD a1 (v31).toNat ((0 : Int), (0 : Int))).1, (List.getD a1 (v31).toNat ((0 : Int), (0 : Int))).2] : List Int)), (950, .vc 67 (.pr (.num .i64) (.num .i64)) v43)]) (by kernel_rfl) trivial ?_
                          exact ⟨_, (v42, (IntKind.i64.wrap (v40 + (1 : Int))), v43), Nat.lt_succ_self _, h, rfl, rfl⟩
                        · refine aw_block ?_
                          refine aw_seq ?_
                          obtain ⟨c0, h⟩ := chk_some h
                          refine aw_region ttOK (C := (0 ≤ v40 ∧ v40 < (List.length ([(List.getD a1 (v31).toNat ((0 : Int), (0 : Int))).1, (List.getD a1 (v31).toNat ((0 : Int), (0 : Int))).2] : List Int) : Int)) ∧ True) (hs := []) (gs := []) (rn := []) (l' := [(0, .v (.c (.p 0 0))), (2, .v (.c (.p 100 0))), (3, .v (.c (.p 106 0))), (4, .v (.c (.ho 108))), (5, .v (.c (.int .i64 v28))), (6, .v (.c (.int .i64 v39))), (9, .v (.c (.int .i64 v31))), (12, .v (.c (.int .i64 (List.getD ([(List.getD a1 (v31).toNat ((0 : Int), (0 : Int))).1, (List.getD a1 (v31).toNat ((0 : Int), (0 : Int))).2] : List Int) (v40).toNat (0 : Int))))), (50, .v (.c (.ls false (.pr (.num .i64) (.num .i64)) a1))), (51, .v (.c (.int .i64 v30))), (52, .v (.c (.int .i64 v31))), (61, .v (.c (.ho 156))), (62, .v (.c (.int .i64 (List.length ([(List.getD a1 (v31).toNat ((0 : Int), (0 : Int))).1, (List.getD a1 (v31).toNat ((0 : Int), (0 : Int))).2] : List Int) : Int)))), (63, .v (.c (.int .i64 v40)))]) (h' := [(0, .bx [.int .i64 a0, .ls false (.pr (.num .i64) (.num .i64)) a1, .ls false (.num .i64) a2]), (100, .bx [.int .i64 v32, .nl, .nl]), (106, .bx [.int .i64 v33, .ho 950, .nl]), (108, .vc 3 (.num .i64) v34), (156, .vc 3 (.num .i64) ([(List.getD a1 (v31).toNat ((0 : Int), (0 : Int))).1, (List.getD a1 (v31).toNat ((0 : Int), (0 : Int))).2] : List Int)), (950, .vc 67 (.pr (.num .i64) (.num .i64)) v41)]) (by kernel_rfl) ⟨c0, trivial⟩ ?_
                          refine aw_seq ?_
                          refine aw_region ttOK (C := True) (hs := []) (gs := []) (rn := []) (l' := [(0, .v (.c (.p 0 0))), (2, .v (.c (.p 100 0))), (3, .v (.c (.p 106 0))), (4, .v (.c (.ho 108))), (5, .v (.c (.int .i64 v28))), (6, .v (.c (.int .i64 v39))), (9, .v (.c (.int .i64 v31))), (50, .v (.c (.ls false (.pr (.num .i64) (.num .i64)) a1))), (51, .v (.c (.int .i64 v30))), (52, .v (.c (.int .i64 v31))), (61, .v (.c (.ho 156))), (62, .v (.c (.int .i64 (List.length ([(List.getD a1 (v31).toNat ((0 : Int), (0 : Int))).1, (List.getD a1 (v31).toNat ((0 : Int), (0 : Int))).2] : List Int) : Int)))), (63, .v (.c (.int .i64 v40))), (69, .v (.c (.bool ((List.getD ([(List.getD a1 (v31).toNat ((0 : Int), (0 : Int))).1, (List.getD a1 (v31).toNat ((0 : Int), (0 : Int))).2] : List Int) (v40).toNat (0 : Int)) == v28))))]) (h' := [(0, .bx [.int .i64 a0, .ls false (.pr (.num .i64) (.num .i64)) a1, .ls false (.num .i64) a2]), (100, .bx [.int .i64 v32, .nl, .nl]), (106, .bx [.int .i64 v33, .ho 950, .nl]), (108, .vc 3 (.num .i64) v34), (156, .vc 3 (.num .i64) ([(List.getD a1 (v31).toNat ((0 : Int), (0 : Int))).1, (List.getD a1 (v31).toNat ((0 : Int), (0 : Int))).2] : List Int)), (950, .vc 67 (.pr (.num .i64) (.num .i64)) v41)]) (by kernel_rfl) trivial ?_
                          refine aw_if ((List.getD ([(List.getD a1 (v31).toNat ((0 : Int), (0 : Int))).1, (List.getD a1 (v31).toNat ((0 : Int), (0 : Int))).2] : List Int) (v40).toNat (0 : Int)) == v28) (by kernel_rfl) (fun hb => ?_) (fun hb => ?_)
                          · rw [ite_t hb] at h
                            obtain ⟨c0, h⟩ := chk_some h
                            obtain ⟨v42, ev42, h⟩ := bind_some h
                            refine aw_region ttOK (C := (0 ≤ (IntKind.i64.wrap (a0 + v31)) ∧ (IntKind.i64.wrap (a0 + v31)) < (List.length v34 : Int)) ∧ (ACall Try.prog 27 [.v (.c (.p 0 0)), .v (.c (.int .i64 v39)), .v (.c (.int .i64 (List.getD v34 ((IntKind.i64.wrap (a0 + v31))).toNat (0 : Int))))] [.bx [.int .i64 v33, .ho 1, .nl], .vc 67 (.pr (.num .i64) (.num .i64)) v41] [0] (.v (.c (.int .i64 v42.1))) [.bx [.int .i64 v33, .ho 1, .nl], .vc 67 (.pr (.num .i64) (.num .i64)) v42.2]) ∧ True) (hs := [(11, { call := some { f := 27, casts := [.same, .same, .same], sel := [106, 950], kp := [0], r := .v (.c (.int .i64 v42.1)), Hout := [.bx [.int .i64 v33, .ho 1, .nl], .vc 67 (.pr (.num .i64) (.num .i64)) v42.2], ren := [106, 177] } })]) (gs := []) (rn := []) (l' := [(0, .v (.c (.p 0 0))), (2, .v (.c (.p 100 0))), (3, .v (.c (.p 106 0))), (4, .v (.c (.ho 108))), (5, .v (.c (.int .i64 v28))), (6, .v (.c (.int .i64 v42.1))), (9, .v (.c (.int .i64 v31))), (50, .v (.c (.ls false (.pr (.num .i64) (.num .i64)) a1))), (51, .v (.c (.int .i64 v30))), (52, .v (.c (.int .i64 v31))), (61, .v (.c (.ho 156))), (62, .v (.c (.int .i64 (List.length ([(List.getD a1 (v31).toNat ((0 : Int), (0 : Int))).1, (List.getD a1 (v31).toNat ((0 : Int), (0 : Int))).2] : List Int) : Int)))), (63, .v (.c (.int .i64 v40)))]) (h' := [(0, .bx [.int .i64 a0, .ls false (.pr (.num .i64) (.num .i64)) a1, .ls false (.num .i64) a2]), (100, .bx [.int .i64 v32, .nl, .nl]), (106, .bx [.int .i64 v33, .ho 177, .nl]), (108, .vc 3 (.num .i64) v34), (156, .vc 3 (.num .i64) ([(List.getD a1 (v31).toNat ((0 : Int), (0 : Int))).1, (List.getD a1 (v31).toNat ((0 : Int), (0 : Int))).2] : List Int)), (177, .vc 67 (.pr (.num .i64) (.num .i64)) v42.2)]) (by kernel_rfl) ⟨c0, (F_i_maker_times_frg_ok ev42), trivial⟩ ?_
                            exact ⟨(v42.1, v42.2), h, rfl, rfl⟩
                          · rw [ite_f hb] at h
                            refine aw_ghost (gs := []) (rn := [(950, 177)]) (l' := [(0, .v (.c (.p 0 0))), (2, .v (.c (.p 100 0))), (3, .v (.c (.p 106 0))), (4, .v (.c (.ho 108))), (5, .v (.c (.int .i64 v28))), (6, .v (.c (.int .i64 v39))), (9, .v (.c (.int .i64 v31))), (50, .v (.c (.ls false (.pr (.num .i64) (.num .i64)) a1))), (51, .v (.c (.int .i64 v30))), (52, .v (.c (.int .i64 v31))), (61, .v (.c (.ho 156))), (62, .v (.c (.int .i64 (List.length ([(List.getD a1 (v31).toNat ((0 : Int), (0 : Int))).1, (List.getD a1 (v31).toNat ((0 : Int), (0 : Int))).2] : List Int) : Int)))), (63, .v (.c (.int .i64 v40)))]) (h' := [(0, .bx [.int .i64 a0, .ls false (.pr (.num .i64) (.num .i64)) a1, .ls false (.num .i64) a2]), (100, .bx [.int .i64 v32, .nl, .nl]), (106, .bx [.int .i64 v33, .ho 177, .nl]), (108, .vc 3 (.num .i64) v34), (156, .vc 3 (.num .i64) ([(List.getD a1 (v31).toNat ((0 : Int), (0 : Int))).1, (List.getD a1 (v31).toNat ((0 : Int), (0 : Int))).2] : List Int)), (177, .vc 67 (.pr (.num .i64) (.num .i64)) v41)]) (by kernel_rfl) ?_
                            refine aw_skip ?_
                            exact ⟨(v39, v41), h, rfl, rfl⟩
                      · rw [ite_f hb] at h
                        refine aw_ghost (gs := []) (rn := []) (l' := [(0, .v (.c (.p 0 0))), (2, .v (.c (.p 100 0))), (3, .v (.c (.p 106 0))), (4, .v (.c (.ho 108))), (5, .v (.c (.int .i64 v28))), (6, .v (.c (.int .i64 v39))), (50, .v (.c (.ls false (.pr (.num .i64) (.num .i64)) a1))), (51, .v (.c (.int .i64 v30))), (52, .v (.c (.int .i64 v31)))]) (h' := [(0, .bx [.int .i64 a0, .ls false (.pr (.num .i64) (.num .i64)) a1, .ls false (.num .i64) a2]), (100, .bx [.int .i64 v32, .nl, .nl]), (106, .bx [.int .i64 v33, .ho 950, .nl]), (108, .vc 3 (.num .i64) v34), (950, .vc 67 (.pr (.num .i64) (.num .i64)) v41)]) (by kernel_rfl) ?_
                        refine aw_exit ?_
                        exact ⟨(v28, v39, v30, v31, v32, v33, v34, v41), h, rfl, rfl⟩
                · rw [ite_f hb] at h
                  refine aw_ghost (gs := []) (rn := []) (l' := [(0, .v (.c (.p 0 0))), (2, .v (.c (.p 100 0))), (3, .v (.c (.p 106 0))), (4, .v (.c (.ho 108))), (5, .v (.c (.int .i64 v28))), (6, .v (.c (.int .i64 v29)))]) (h' := [(0, .bx [.int .i64 a0, .ls false (.pr (.num .i64) (.num .i64)) a1, .ls false (.num .i64) a2]), (100, .bx [.int .i64 v32, .nl, .nl]), (106, .bx [.int .i64 v33, .ho 950, .nl]), (108, .vc 3 (.num .i64) v34), (950, .vc 67 (.pr (.num .i64) (.num .i64)) v35)]) (by kernel_rfl) ?_
                  refine aw_exit ?_
                  exact ⟨(v28, v29, v32, v33, v34, v35), h, rfl, rfl⟩
          · refine aw_seq ?_
            refine aw_region ttOK (C := True) (hs := []) (gs := []) (rn := []) (l' := [(0, .v (.c (.p 0 0))), (2, .v (.c (.p 100 0))), (3, .v (.c (.p 106 0))), (4, .v (.c (.ho 108))), (5, .v (.c (.int .i64 v9))), (6, .v (.c (.int .i64 (-1 : Int)))), (32, .v (.c (.ls false (.num .i64) a2))), (33, .v (.c (.int .i64 (List.length a2 : Int)))), (34, .v (.c (.int .i64 (0 : Int))))]) (h' := [(0, .bx [.int .i64 a0, .ls false (.pr (.num .i64) (.num .i64)) a1, .ls false (.num .i64) a2]), (100, .bx [.int .i64 v10, .nl, .nl]), (106, .bx [.int .i64 v11, .ho 950, .nl]), (108, .vc 3 (.num .i64) v12), (950, .vc 67 (.pr (.num .i64) (.num .i64)) v13)]) (by kernel_rfl) trivial ?_
            refine aw_block ?_
            refine aw_loopF (X := Int × Int × List (Int × Int)) (fun x => ([(0, .v (.c (.p 0 0))), (2, .v (.c (.p 100 0))), (3, .v (.c (.p 106 0))), (4, .v (.c (.ho 108))), (5, .v (.c (.int .i64 v9))), (6, .v (.c (.int .i64 x.1))), (32, .v (.c (.ls false (.num .i64) a2))), (33, .v (.c (.int .i64 (List.length a2 : Int)))), (34, .v (.c (.int .i64 x.2.1)))], [(0, .bx [.int .i64 a0, .ls false (.pr (.num .i64) (.num .i64)) a1, .ls false (.num .i64) a2]), (100, .bx [.int .i64 v10, .nl, .nl]), (106, .bx [.int .i64 v11, .ho 950, .nl]), (108, .vc 3 (.num .i64) v12), (950, .vc 67 (.pr (.num .i64) (.num .i64)) x.2.2)])) (fun n x => F_i_Plan_turned_wzeL10 fu a2 v9 v11 a1 a0 (F_i_Plan_turned_wzeL2 fu a2 a1 a0 n2) v10 v12 n x.1 x.2.1 x.2.2 = some r) fu ((-1 : Int), (0 : Int), v13) h ?_
            rintro n10 ⟨v17, v18, v19⟩ h
            cases n10 with
            | zero => first | cases h | (rw [F_i_Plan_turned_wzeL10] at h; cases h)
            | succ n10 =>
              rw [F_i_Plan_turned_wzeL10] at h
              refine aw_seq ?_
              refine aw_region ttOK (C := True) (hs := []) (gs := []) (rn := []) (l' := [(0, .v (.c (.p 0 0))), (2, .v (.c (.p 100 0))), (3, .v (.c (.p 106 0))), (4, .v (.c (.ho 108))), (5, .v (.c (.int .i64 v9))), (6, .v (.c (.int .i64 v17))), (32, .v (.c (.ls false (.num .i64) a2))), (33, .v (.c (.int .i64 (List.length a2 : Int)))), (34, .v (.c (.int .i64 v18))), (35, .v (.c (.bool (decide (v18 < (List.length a2 : Int))))))]) (h' := [(0, .bx [.int .i64 a0, .ls false (.pr (.num .i64) (.num .i64)) a1, .ls false (.num .i64) a2]), (100, .bx [.int .i64 v10, .nl, .nl]), (106, .bx [.int .i64 v11, .ho 950, .nl]), (108, .vc 3 (.num .i64) v12), (950, .vc 67 (.pr (.num .i64) (.num .i64)) v19)]) (by kernel_rfl) trivial ?_
              refine aw_seq ?_
              refine aw_if (decide (v18 < (List.length a2 : Int))) (by kernel_rfl) (fun hb => ?_) (fun hb => ?_)
              · rw [ite_t hb] at h
                refine aw_ghost (gs := []) (rn := []) (l' := [(0, .v (.c (.p 0 0))), (2, .v (.c (.p 100 0))), (3, .v (.c (.p 106 0))), (4, .v (.c (.ho 108))), (5, .v (.c (.int .i64 v9))), (6, .v (.c (.int .i64 v17))), (32, .v (.c (.ls false (.num .i64) a2))), (33, .v (.c (.int .i64 (List.length a2 : Int)))), (34, .v (.c (.int .i64 v18)))]) (h' := [(0, .bx [.int .i64 a0, .ls false (.pr (.num .i64) (.num .i64)) a1, .ls false (.num .i64) a2]), (100, .bx [.int .i64 v10, .nl, .nl]), (106, .bx [.int .i64 v11, .ho 950, .nl]), (108, .vc 3 (.num .i64) v12), (950, .vc 67 (.pr (.num .i64) (.num .i64)) v19)]) (by kernel_rfl) ?_
                refine aw_skip ?_
                refine aw_join (X := Int × List (Int × Int)) (fun x => ([(0, .v (.c (.p 0 0))), (2, .v (.c (.p 100 0))), (3, .v (.c (.p 106 0))), (4, .v (.c (.ho 108))), (5, .v (.c (.int .i64 v9))), (6, .v (.c (.int .i64 x.1))), (32, .v (.c (.ls false (.num .i64) a2))), (33, .v (.c (.int .i64 (List.length a2 : Int)))), (34, .v (.c (.int .i64 v18)))], [(0, .bx [.int .i64 a0, .ls false (.pr (.num .i64) (.num .i64)) a1, .ls false (.num .i64) a2]), (100, .bx [.int .i64 v10, .nl, .nl]), (106, .bx [.int .i64 v11, .ho 135, .nl]), (108, .vc 3 (.num .i64) v12), (135, .vc 67 (.pr (.num .i64) (.num .i64)) x.2)])) (fun x => F_i_Plan_turned_wzeJ11 fu (F_i_Plan_turned_wzeL10 fu a2 v9 v11 a1 a0 (F_i_Plan_turned_wzeL2 fu a2 a1 a0 n2) v10 v12 n10) v18 x.1 x.2 = some r) ?_ ?_
                · rintro ⟨v20, v21⟩ h
                  unfold F_i_Plan_turned_wzeJ11 at h
                  refine aw_region ttOK (C := True) (hs := []) (gs := []) (rn := [(135, 950)]) (l' := [(0, .v (.c (.p 0 0))), (2, .v (.c (.p 100 0))), (3, .v (.c (.p 106 0))), (4, .v (.c (.ho 108))), (5, .v (.c (.int .i64 v9))), (6, .v (.c (.int .i64 v20))), (32, .v (.c (.ls false (.num .i64) a2))), (33, .v (.c (.int .i64 (List.length a2 : Int)))), (34, .v (.c (.int .i64 (IntKind.i64.wrap (v18 + (1 : Int))))))]) (h' := [(0, .bx [.int .i64 a0, .ls false (.pr (.num .i64) (.num .i64)) a1, .ls false (.num .i64) a2]), (100, .bx [.int .i64 v10, .nl, .nl]), (106, .bx [.int .i64 v11, .ho 950, .nl]), (108, .vc 3 (.num .i64) v12), (950, .vc 67 (.pr (.num .i64) (.num .i64)) v21)]) (by kernel_rfl) trivial ?_
                  exact ⟨_, (v20, (IntKind.i64.wrap (v18 + (1 : Int))), v21), Nat.lt_succ_self _, h, rfl, rfl⟩
                · refine aw_block ?_
                  refine aw_seq ?_
                  obtain ⟨c0, h⟩ := chk_some h
                  refine aw_region ttOK (C := (0 ≤ v18 ∧ v18 < (List.length a2 : Int)) ∧ True) (hs := []) (gs := []) (rn := []) (l' := [(0, .v (.c (.p 0 0))), (2, .v (.c (.p 100 0))), (3, .v (.c (.p 106 0))), (4, .v (.c (.ho 108))), (5, .v (.c (.int .i64 v9))), (6, .v (.c (.int .i64 v17))), (7, .v (.c (.int .i64 v18))), (8, .v (.c (.int .i64 (List.getD a2 (v18).toNat (0 : Int))))), (32, .v (.c (.ls false (.num .i64) a2))), (33, .v (.c (.int .i64 (List.length a2 : Int)))), (34, .v (.c (.int .i64 v18)))]) (h' := [(0, .bx [.int .i64 a0, .ls false (.pr (.num .i64) (.num .i64)) a1, .ls false (.num .i64) a2]), (100, .bx [.int .i64 v10, .nl, .nl]), (106, .bx [.int .i64 v11, .ho 950, .nl]), (108, .vc 3 (.num .i64) v12), (950, .vc 67 (.pr (.num .i64) (.num .i64)) v19)]) (by kernel_rfl) ⟨c0, trivial⟩ ?_
                  refine aw_seq ?_
                  refine aw_region ttOK (C := True) (hs := []) (gs := []) (rn := []) (l' := [(0, .v (.c (.p 0 0))), (2, .v (.c (.p 100 0))), (3, .v (.c (.p 106 0))), (4, .v (.c (.ho 108))), (5, .v (.c (.int .i64 v9))), (6, .v (.c (.int .i64 v17))), (7, .v (.c (.int .i64 v18))), (32, .v (.c (.ls false (.num .i64) a2))), (33, .v (.c (.int .i64 (List.length a2 : Int)))), (34, .v (.c (.int .i64 v18))), (41, .v (.c (.bool ((List.getD a2 (v18).toNat (0 : Int)) == v9))))]) (h' := [(0, .bx [.int .i64 a0, .ls false (.pr (.num .i64) (.num .i64)) a1, .ls false (.num .i64) a2]), (100, .bx [.int .i64 v10, .nl, .nl]), (106, .bx [.int .i64 v11, .ho 950, .nl]), (108, .vc 3 (.num .i64) v12), (950, .vc 67 (.pr (.num .i64) (.num .i64)) v19)]) (by kernel_rfl) trivial ?_
                  refine aw_if ((List.getD a2 (v18).toNat (0 : Int)) == v9) (by kernel_rfl) (fun hb => ?_) (fun hb => ?_)
                  · rw [ite_t hb] at h
                    obtain ⟨v20, ev20, h⟩ := bind_some h
                    refine aw_region ttOK (C := (ACall Try.prog 27 [.v (.c (.p 0 0)), .v (.c (.int .i64 v17)), .v (.c (.int .i64 v18))] [.bx [.int .i64 v11, .ho 1, .nl], .vc 67 (.pr (.num .i64) (.num .i64)) v19] [0] (.v (.c (.int .i64 v20.1))) [.bx [.int .i64 v11, .ho 1, .nl], .vc 67 (.pr (.num .i64) (.num .i64)) v20.2]) ∧ True) (hs := [(3, { call := some { f := 27, casts := [.same, .same, .same], sel := [106, 950], kp := [0], r := .v (.c (.int .i64 v20.1)), Hout := [.bx [.int .i64 v11, .ho 1, .nl], .vc 67 (.pr (.num .i64) (.num .i64)) v20.2], ren := [106, 135] } })]) (gs := []) (rn := []) (l' := [(0, .v (.c (.p 0 0))), (2, .v (.c (.p 100 0))), (3, .v (.c (.p 106 0))), (4, .v (.c (.ho 108))), (5, .v (.c (.int .i64 v9))), (6, .v (.c (.int .i64 v20.1))), (32, .v (.c (.ls false (.num .i64) a2))), (33, .v (.c (.int .i64 (List.length a2 : Int)))), (34, .v (.c (.int .i64 v18)))]) (h' := [(0, .bx [.int .i64 a0, .ls false (.pr (.num .i64) (.num .i64)) a1, .ls false (.num .i64) a2]), (100, .bx [.int .i64 v10, .nl, .nl]), (106, .bx [.int .i64 v11, .ho 135, .nl]), (108, .vc 3 (.num .i64) v12), (135, .vc 67 (.pr (.num .i64) (.num .i64)) v20.2)]) (by kernel_rfl) ⟨(F_i_maker_times_frg_ok ev20), trivial⟩ ?_
                    exact ⟨(v20.1, v20.2), h, rfl, rfl⟩
                  · rw [ite_f hb] at h
                    refine aw_ghost (gs := []) (rn := [(950, 135)]) (l' := [(0, .v (.c (.p 0 0))), (2, .v (.c (.p 100 0))), (3, .v (.c (.p 106 0))), (4, .v (.c (.ho 108))), (5, .v (.c (.int .i64 v9))), (6, .v (.c (.int .i64 v17))), (32, .v (.c (.ls false (.num .i64) a2))), (33, .v (.c (.int .i64 (List.length a2 : Int)))), (34, .v (.c (.int .i64 v18)))]) (h' := [(0, .bx [.int .i64 a0, .ls false (.pr (.num .i64) (.num .i64)) a1, .ls false (.num .i64) a2]), (100, .bx [.int .i64 v10, .nl, .nl]), (106, .bx [.int .i64 v11, .ho 135, .nl]), (108, .vc 3 (.num .i64) v12), (135, .vc 67 (.pr (.num .i64) (.num .i64)) v19)]) (by kernel_rfl) ?_
                    refine aw_skip ?_
                    exact ⟨(v17, v19), h, rfl, rfl⟩
              · rw [ite_f hb] at h
                refine aw_ghost (gs := []) (rn := []) (l' := [(0, .v (.c (.p 0 0))), (2, .v (.c (.p 100 0))), (3, .v (.c (.p 106 0))), (4, .v (.c (.ho 108))), (5, .v (.c (.int .i64 v9))), (6, .v (.c (.int .i64 v17)))]) (h' := [(0, .bx [.int .i64 a0, .ls false (.pr (.num .i64) (.num .i64)) a1, .ls false (.num .i64) a2]), (100, .bx [.int .i64 v10, .nl, .nl]), (106, .bx [.int .i64 v11, .ho 950, .nl]), (108, .vc 3 (.num .i64) v12), (950, .vc 67 (.pr (.num .i64) (.num .i64)) v19)]) (by kernel_rfl) ?_
                refine aw_exit ?_
                exact ⟨(v9, v17, v10, v11, v12, v19), h, rfl, rfl⟩
      · rw [ite_f hb] at h
        refine aw_ghost (gs := []) (rn := []) (l' := [(0, .v (.c (.p 0 0))), (2, .v (.c (.p 100 0))), (3, .v (.c (.p 106 0))), (4, .v (.c (.ho 108)))]) (h' := [(0, .bx [.int .i64 a0, .ls false (.pr (.num .i64) (.num .i64)) a1, .ls false (.num .i64) a2]), (100, .bx [.int .i64 v10, .nl, .nl]), (106, .bx [.int .i64 v11, .ho 950, .nl]), (108, .vc 3 (.num .i64) v12), (950, .vc 67 (.pr (.num .i64) (.num .i64)) v13)]) (by kernel_rfl) ?_
        refine aw_exit ?_
        exact ⟨(v10, v11, v12, v13), h, rfl, rfl⟩

theorem F_i_TurnPlan_ok {fu : Nat} {a0 : Int} {a1 : List (Int × Int)} {a2 : List Int} {r : Bool × Int × List (Int × Int) × List Int} (h : F_i_TurnPlan fu a0 a1 a2 = some r) :
    ACall Try.prog 15 [.v (.ag [.int .i64 a0, .ls false (.pr (.num .i64) (.num .i64)) a1, .ls false (.num .i64) a2])] [] [] (.tu [.ag [.int .i64 r.2.1, .ls false (.pr (.num .i64) (.num .i64)) r.2.2.1, .ls false (.num .i64) r.2.2.2], .c (.bool r.1)]) [] := by
  unfold F_i_TurnPlan at h
  refine acall_of_aw ttOK Try.func15 (by kernel_rfl) (c := _) rfl (N := 16) (by kernel_rfl) (Nat.le_of_ble_eq_true rfl) ?_
  refine aw_seq ?_
  refine aw_region ttOK (C := True) (hs := [(0, { id := 100 }), (1, { id := 101 })]) (gs := []) (rn := []) (l' := [(1, .v (.c (.p 100 0))), (2, .v (.c (.p 101 0)))]) (h' := [(100, .bx [.int .i64 a0, .ls false (.pr (.num .i64) (.num .i64)) a1, .ls false (.num .i64) a2]), (101, .bx [.int .i64 (0 : Int), .nl, .nl])]) (by kernel_rfl) trivial ?_
  refine aw_seq ?_
  refine aw_seq ?_
  obtain ⟨v1, ev1, h⟩ := bind_some h
  obtain ⟨v2, ev2, h⟩ := bind_some h
  refine aw_region ttOK (C := (ACall Try.prog 31 [.v (.ag [.int .i64 a0, .ls false (.pr (.num .i64) (.num .i64)) a1, .ls false (.num .i64) a2])] [] [] (.v (.c (.bool v1))) []) ∧ (((!v1) == false) = true → ACall Try.prog 35 [.v (.c (.p 0 0))] [.bx [.int .i64 a0, .ls false (.pr (.num .i64) (.num .i64)) a1, .ls false (.num .i64) a2]] [0] (.v (.c (.bool v2))) [.bx [.int .i64 a0, .ls false (.pr (.num .i64) (.num .i64)) a1, .ls false (.num .i64) a2]]) ∧ (((!v1) == false) = true → ((!v1) == false) = true) ∧ ((!v1) = false → ((!v1) == false) = true) ∧ True) (hs := [(1, { call := some { f := 31, casts := [.same], r := .v (.c (.bool v1)) } }), (4, { call := some { f := 35, casts := [.same], sel := [100], r := .v (.c (.bool v2)), quiet := true } })]) (gs := []) (rn := []) (l' := [(1, .v (.c (.p 100 0))), (2, .v (.c (.p 101 0))), (10, .v (.c (.bool (cond (!v1) true (!v2)))))]) (h' := [(100, .bx [.int .i64 a0, .ls false (.pr (.num .i64) (.num .i64)) a1, .ls false (.num .i64) a2]), (101, .bx [.int .i64 (0 : Int), .nl, .nl])]) (by kernel_rfl) ⟨(F_i_IsPlan_ok ev1), (fun hg => (F_i_Plan_canTurn_wze_ok (gcl_some ev2 hg))), (fun h => h), (fun h => beq_iff_eq.2 h), trivial⟩ ?_
  refine aw_if (cond (!v1) true (!v2)) (by kernel_rfl) (fun hb => ?_) (fun hb => ?_)
  · rw [ite_t hb] at h
    refine aw_seq ?_
    refine aw_region ttOK (C := True) (hs := []) (gs := []) (rn := []) (l' := [(2, .v (.c (.p 101 0))), (3, .v (.c (.bool false)))]) (h' := [(101, .bx [.int .i64 (0 : Int), .nl, .nl])]) (by kernel_rfl) trivial ?_
    refine aw_ghost (gs := [.cnil 101 1 (.pr (.num .i64) (.num .i64)), .cview 101 1, .cnil 101 2 (.num .i64), .cview 101 2]) (rn := []) (l' := [(2, .v (.c (.p 101 0))), (3, .v (.c (.bool false)))]) (h' := [(101, .bx [.int .i64 (0 : Int), .ls false (.pr (.num .i64) (.num .i64)) ([] : List (Int × Int)), .ls false (.num .i64) ([] : List Int)])]) (by kernel_rfl) ?_
    refine aw_ret (ret_ok [] ?_)
    cases h
    kernel_rfl
  · rw [ite_f hb] at h
    refine aw_ghost (gs := []) (rn := []) (l' := [(1, .v (.c (.p 100 0))), (2, .v (.c (.p 101 0)))]) (h' := [(100, .bx [.int .i64 a0, .ls false (.pr (.num .i64) (.num .i64)) a1, .ls false (.num .i64) a2]), (101, .bx [.int .i64 (0 : Int), .nl, .nl])]) (by kernel_rfl) ?_
    refine aw_skip ?_
    refine aw_seq ?_
    obtain ⟨v3, ev3, h⟩ := bind_some h
    obtain ⟨v4, ev4, h⟩ := bind_some h
    refine aw_region ttOK (C := (ACall Try.prog 36 [.v (.c (.p 0 0))] [.bx [.int .i64 a0, .ls false (.pr (.num .i64) (.num .i64)) a1, .ls false (.num .i64) a2]] [0] (.v (.ag [.int .i64 v3.1, .ls false (.pr (.num .i64) (.num .i64)) v3.2.1, .ls false (.num .i64) v3.2.2])) [.bx [.int .i64 a0, .ls false (.pr (.num .i64) (.num .i64)) a1, .ls false (.num .i64) a2]]) ∧ (ACall Try.prog 28 [.v (.ag [.int .i64 v3.1, .ls false (.pr (.num .i64) (.num .i64)) v3.2.1, .ls false (.num .i64) v3.2.2])] [] [] (.tu [.ag [.int .i64 v4.2.1, .ls false (.pr (.num .i64) (.num .i64)) v4.2.2.1, .ls false (.num .i64) v4.2.2.2], .c (.bool v4.1)]) []) ∧ True) (hs := [(0, { call := some { f := 36, casts := [.same], sel := [100], kp := [0], r := .v (.ag [.int .i64 v3.1, .ls false (.pr (.num .i64) (.num .i64)) v3.2.1, .ls false (.num .i64) v3.2.2]), Hout := [.bx [.int .i64 a0, .ls false (.pr (.num .i64) (.num .i64)) a1, .ls false (.num .i64) a2]], ren := [100] } }), (1, { call := some { f := 28, casts := [.same], r := .tu [.ag [.int .i64 v4.2.1, .ls false (.pr (.num .i64) (.num .i64)) v4.2.2.1, .ls false (.num .i64) v4.2.2.2], .c (.bool v4.1)] } })]) (gs := []) (rn := []) (l' := [(2, .v (.c (.p 101 0))), (3, .v (.c (.bool v4.1)))]) (h' := [(101, .bx [.int .i64 v4.2.1, .ls false (.pr (.num .i64) (.num .i64)) v4.2.2.1, .ls false (.num .i64) v4.2.2.2])]) (by kernel_rfl) ⟨(F_i_Plan_turned_wze_ok ev3), (F_i_told_ok ev4), trivial⟩ ?_
    refine aw_ghost (gs := []) (rn := []) (l' := [(2, .v (.c (.p 101 0))), (3, .v (.c (.bool v4.1)))]) (h' := [(101, .bx [.int .i64 v4.2.1, .ls false (.pr (.num .i64) (.num .i64)) v4.2.2.1, .ls false (.num .i64) v4.2.2.2])]) (by kernel_rfl) ?_
    refine aw_ret (ret_ok [] ?_)
    cases h
    kernel_rfl

theorem F_i_VectorPlan_ok {fu : Nat} {a0 : List Int} {r : Bool × Int × List (Int × Int) × List Int} (h : F_i_VectorPlan fu a0 = some r) :
    ACall Try.prog 6 [.v (.c (.ls false (.num .i64) a0))] [] [] (.tu [.ag [.int .i64 r.2.1, .ls false (.pr (.num .i64) (.num .i64)) r.2.2.1, .ls false (.num .i64) r.2.2.2], .c (.bool r.1)]) [] := by
  unfold F_i_VectorPlan at h
  refine acall_of_aw ttOK Try.func6 (by kernel_rfl) (c := _) rfl (N := 18) (by kernel_rfl) (Nat.le_of_ble_eq_true rfl) ?_
  refine aw_seq ?_
  refine aw_region ttOK (C := True) (hs := [(0, { id := 100 })]) (gs := []) (rn := []) (l' := [(0, .v (.c (.ls false (.num .i64) a0))), (2, .v (.c (.p 100 0)))]) (h' := [(100, .bx [.int .i64 (0 : Int), .nl, .nl])]) (by kernel_rfl) trivial ?_
  refine aw_seq ?_
  obtain ⟨v1, ev1, h⟩ := bind_some h
  refine aw_region ttOK (C := (ACall Try.prog 9 [.v (.c (.ls false (.num .i64) a0))] [] [] (.tu [.ag [.int .i64 v1.2.1, .ls false (.pr (.num .i64) (.num .i64)) v1.2.2.1, .ls false (.num .i64) v1.2.2.2], .c (.bool v1.1)]) []) ∧ True) (hs := [(1, { call := some { f := 9, casts := [.same], r := .tu [.ag [.int .i64 v1.2.1, .ls false (.pr (.num .i64) (.num .i64)) v1.2.2.1, .ls false (.num .i64) v1.2.2.2], .c (.bool v1.1)] } }), (5, { id := 106 })]) (gs := []) (rn := []) (l' := [(2, .v (.c (.p 100 0))), (4, .v (.c (.p 106 0))), (5, .v (.c (.bool v1.1)))]) (h' := [(100, .bx [.int .i64 (0 : Int), .nl, .nl]), (106, .bx [.int .i64 v1.2.1, .ls false (.pr (.num .i64) (.num .i64)) v1.2.2.1, .ls false (.num .i64) v1.2.2.2])]) (by kernel_rfl) ⟨(F_i_SquaresPlan_ok ev1), trivial⟩ ?_
  refine aw_seq ?_
  refine aw_seq ?_
  refine aw_region ttOK (C := True) (hs := []) (gs := []) (rn := []) (l' := [(2, .v (.c (.p 100 0))), (4, .v (.c (.p 106 0))), (12, .v (.c (.bool (!v1.1))))]) (h' := [(100, .bx [.int .i64 (0 : Int), .nl, .nl]), (106, .bx [.int .i64 v1.2.1, .ls false (.pr (.num .i64) (.num .i64)) v1.2.2.1, .ls false (.num .i64) v1.2.2.2])]) (by kernel_rfl) trivial ?_
  refine aw_if (!v1.1) (by kernel_rfl) (fun hb => ?_) (fun hb => ?_)
  · rw [ite_t hb] at h
    refine aw_seq ?_
    refine aw_region ttOK (C := True) (hs := []) (gs := []) (rn := []) (l' := [(2, .v (.c (.p 100 0))), (3, .v (.c (.bool false)))]) (h' := [(100, .bx [.int .i64 (0 : Int), .nl, .nl])]) (by kernel_rfl) trivial ?_
    refine aw_ghost (gs := [.cnil 100 1 (.pr (.num .i64) (.num .i64)), .cview 100 1, .cnil 100 2 (.num .i64), .cview 100 2]) (rn := []) (l' := [(2, .v (.c (.p 100 0))), (3, .v (.c (.bool false)))]) (h' := [(100, .bx [.int .i64 (0 : Int), .ls false (.pr (.num .i64) (.num .i64)) ([] : List (Int × Int)), .ls false (.num .i64) ([] : List Int)])]) (by kernel_rfl) ?_
    refine aw_ret (ret_ok [] ?_)
    cases h
    kernel_rfl
  · rw [ite_f hb] at h
    refine aw_ghost (gs := []) (rn := []) (l' := [(2, .v (.c (.p 100 0))), (4, .v (.c (.p 106 0)))]) (h' := [(100, .bx [.int .i64 (0 : Int), .nl, .nl]), (106, .bx [.int .i64 v1.2.1, .ls false (.pr (.num .i64) (.num .i64)) v1.2.2.1, .ls false (.num .i64) v1.2.2.2])]) (by kernel_rfl) ?_
    refine aw_skip ?_
    refine aw_seq ?_
    obtain ⟨v2, ev2, h⟩ := bind_some h
    refine aw_region ttOK (C := (ACall Try.prog 15 [.v (.ag [.int .i64 v1.2.1, .ls false (.pr (.num .i64) (.num .i64)) v1.2.2.1, .ls false (.num .i64) v1.2.2.2])] [] [] (.tu [.ag [.int .i64 v2.2.1, .ls false (.pr (.num .i64) (.num .i64)) v2.2.2.1, .ls false (.num .i64) v2.2.2.2], .c (.bool v2.1)]) []) ∧ True) (hs := [(1, { call := some { f := 15, casts := [.same], r := .tu [.ag [.int .i64 v2.2.1, .ls false (.pr (.num .i64) (.num .i64)) v2.2.2.1, .ls false (.num .i64) v2.2.2.2], .c (.bool v2.1)] } })]) (gs := []) (rn := []) (l' := [(2, .v (.c (.p 100 0))), (3, .v (.c (.bool v2.1)))]) (h' := [(100, .bx [.int .i64 v2.2.1, .ls false (.pr (.num .i64) (.num .i64)) v2.2.2.1, .ls false (.num .i64) v2.2.2.2])]) (by kernel_rfl) ⟨(F_i_TurnPlan_ok ev2), trivial⟩ ?_
    refine aw_ghost (gs := []) (rn := []) (l' := [(2, .v (.c (.p 100 0))), (3, .v (.c (.bool v2.1)))]) (h' := [(100, .bx [.int .i64 v2.2.1, .ls false (.pr (.num .i64) (.num .i64)) v2.2.2.1, .ls false (.num .i64) v2.2.2.2])]) (by kernel_rfl) ?_
    refine aw_ret (ret_ok [] ?_)
    cases h
    kernel_rfl

theorem F_s_l1In_ok {fu : Nat} {a0 : Int} {a1 : Int} {a2 : Int} {r : Bool} (h : F_s_l1In fu a0 a1 a2 = some r) :
    ACall Try.prog 37 [.v (.c (.int .i64 a0)), .v (.c (.int .i64 a1)), .v (.c (.int .i64 a2))] [] [] (.v (.c (.bool r))) [] := by
  unfold F_s_l1In at h
  refine acall_of_aw ttOK Try.func37 (by kernel_rfl) (c := _) rfl (N := 15) (by kernel_rfl) (Nat.le_of_ble_eq_true rfl) ?_
  refine aw_seq ?_
  refine aw_region ttOK (C := True) (hs := []) (gs := []) (rn := []) (l' := [(0, .v (.c (.int .i64 a0))), (1, .v (.c (.int .i64 a1))), (2, .v (.c (.int .i64 a2)))]) (h' := []) (by kernel_rfl) trivial ?_
  refine aw_seq ?_
  refine aw_region ttOK (C := (((decide (a0 ≥ a1)) == true) = true → ((decide (a0 ≥ a1)) == true) = true) ∧ (((decide (a0 ≥ a1)) == true) = true → ((decide (a0 ≥ a1)) == true) = true) ∧ ((decide (a0 ≥ a1)) = true → ((decide (a0 ≥ a1)) == true) = true) ∧ True) (hs := []) (gs := []) (rn := []) (l' := [(6, .v (.c (.bool (cond (decide (a0 ≥ a1)) (decide (a0 ≤ a2)) false))))]) (h' := []) (by kernel_rfl) ⟨(fun h => h), (fun h => h), (fun h => beq_iff_eq.2 h), trivial⟩ ?_
  refine aw_ghost (gs := []) (rn := []) (l' := [(6, .v (.c (.bool (cond (decide (a0 ≥ a1)) (decide (a0 ≤ a2)) false))))]) (h' := []) (by kernel_rfl) ?_
  refine aw_ret (ret_ok [] ?_)
  cases h
  kernel_rfl

theorem F_s_l1All_ok {fu : Nat} {a0 : List Int} {a1 : Int} {a2 : Int} {r : Bool} (h : F_s_l1All fu a0 a1 a2 = some r) :
    ACall Try.prog 38 [.v (.c (.ls false (.num .i64) a0)), .v (.c (.int .i64 a1)), .v (.c (.int .i64 a2))] [] [] (.v (.c (.bool r))) [] := by
  unfold F_s_l1All at h
  refine acall_of_aw ttOK Try.func38 (by kernel_rfl) (c := _) rfl (N := 21) (by kernel_rfl) (Nat.le_of_ble_eq_true rfl) ?_
  refine aw_seq ?_
  refine aw_region ttOK (C := True) (hs := []) (gs := []) (rn := []) (l' := [(0, .v (.c (.ls false (.num .i64) a0))), (1, .v (.c (.int .i64 a1))), (2, .v (.c (.int .i64 a2)))]) (h' := []) (by kernel_rfl) trivial ?_
  refine aw_join (X := Unit) (fun x => ([], [])) (fun x => F_s_l1AllJ1 fu = some r) ?_ ?_
  · rintro _ h
    unfold F_s_l1AllJ1 at h
    refine aw_seq ?_
    refine aw_region ttOK (C := True) (hs := []) (gs := []) (rn := []) (l' := [(6, .v (.c (.bool true)))]) (h' := []) (by kernel_rfl) trivial ?_
    refine aw_ghost (gs := []) (rn := []) (l' := [(6, .v (.c (.bool true)))]) (h' := []) (by kernel_rfl) ?_
    refine aw_ret (ret_ok [] ?_)
    cases h
    kernel_rfl
  · refine aw_seq ?_
    refine aw_region ttOK (C := True) (hs := []) (gs := []) (rn := []) (l' := [(1, .v (.c (.int .i64 a1))), (2, .v (.c (.int .i64 a2))), (9, .v (.c (.ls false (.num .i64) a0))), (10, .v (.c (.int .i64 (List.length a0 : Int)))), (11, .v (.c (.int .i64 (0 : Int))))]) (h' := []) (by kernel_rfl) trivial ?_
    refine aw_block ?_
    refine aw_loopF (X := Int) (fun x => ([(1, .v (.c (.int .i64 a1))), (2, .v (.c (.int .i64 a2))), (9, .v (.c (.ls false (.num .i64) a0))), (10, .v (.c (.int .i64 (List.length a0 : Int)))), (11, .v (.c (.int .i64 x)))], [])) (fun n x => F_s_l1AllL2 fu a0 a1 a2 n x = some r) fu (0 : Int) h ?_
    rintro n2 v2 h
    cases n2 with
    | zero => first | cases h | (rw [F_s_l1AllL2] at h; cases h)
    | succ n2 =>
      rw [F_s_l1AllL2] at h
      refine aw_seq ?_
      refine aw_region ttOK (C := True) (hs := []) (gs := []) (rn := []) (l' := [(1, .v (.c (.int .i64 a1))), (2, .v (.c (.int .i64 a2))), (9, .v (.c (.ls false (.num .i64) a0))), (10, .v (.c (.int .i64 (List.length a0 : Int)))), (11, .v (.c (.int .i64 v2))), (12, .v (.c (.bool (decide (v2 < (List.length a0 : Int))))))]) (h' := []) (by kernel_rfl) trivial ?_
      refine aw_seq ?_
      refine aw_if (decide (v2 < (List.length a0 : Int))) (by kernel_rfl) (fun hb => ?_) (fun hb => ?_)
      · rw [ite_t hb] at h
        refine aw_ghost (gs := []) (rn := []) (l' := [(1, .v (.c (.int .i64 a1))), (2, .v (.c (.int .i64 a2))), (9, .v (.c (.ls false (.num .i64) a0))), (10, .v (.c (.int .i64 (List.length a0 : Int)))), (11, .v (.c (.int .i64 v2)))]) (h' := []) (by kernel_rfl) ?_
        refine aw_skip ?_
        refine aw_seq ?_
        refine aw_block ?_
        refine aw_seq ?_
        obtain ⟨c0, h⟩ := chk_some h
        refine aw_region ttOK (C := (0 ≤ v2 ∧ v2 < (List.length a0 : Int)) ∧ True) (hs := []) (gs := []) (rn := []) (l' := [(1, .v (.c (.int .i64 a1))), (2, .v (.c (.int .i64 a2))), (8, .v (.c (.int .i64 (List.getD a0 (v2).toNat (0 : Int))))), (9, .v (.c (.ls false (.num .i64) a0))), (10, .v (.c (.int .i64 (List.length a0 : Int)))), (11, .v (.c (.int .i64 v2)))]) (h' := []) (by kernel_rfl) ⟨c0, trivial⟩ ?_
        refine aw_seq ?_
        obtain ⟨v3, ev3, h⟩ := bind_some h
        refine aw_region ttOK (C := (ACall Try.prog 37 [.v (.c (.int .i64 (List.getD a0 (v2).toNat (0 : Int)))), .v (.c (.int .i64 a1)), .v (.c (.int .i64 a2))] [] [] (.v (.c (.bool v3))) []) ∧ True) (hs := [(3, { call := some { f := 37, casts := [.same, .same, .same], r := .v (.c (.bool v3)) } })]) (gs := []) (rn := []) (l' := [(1, .v (.c (.int .i64 a1))), (2, .v (.c (.int .i64 a2))), (9, .v (.c (.ls false (.num .i64) a0))), (10, .v (.c (.int .i64 (List.length a0 : Int)))), (11, .v (.c (.int .i64 v2))), (19, .v (.c (.bool (!v3))))]) (h' := []) (by kernel_rfl) ⟨(F_s_l1In_ok ev3), trivial⟩ ?_
        refine aw_if (!v3) (by kernel_rfl) (fun hb => ?_) (fun hb => ?_)
        · rw [ite_t hb] at h
          refine aw_seq ?_
          refine aw_region ttOK (C := True) (hs := []) (gs := []) (rn := []) (l' := [(6, .v (.c (.bool false)))]) (h' := []) (by kernel_rfl) trivial ?_
          refine aw_ghost (gs := []) (rn := []) (l' := [(6, .v (.c (.bool false)))]) (h' := []) (by kernel_rfl) ?_
          refine aw_ret (ret_ok [] ?_)
          cases h
          kernel_rfl
        · rw [ite_f hb] at h
          refine aw_ghost (gs := []) (rn := []) (l' := [(1, .v (.c (.int .i64 a1))), (2, .v (.c (.int .i64 a2))), (9, .v (.c (.ls false (.num .i64) a0))), (10, .v (.c (.int .i64 (List.length a0 : Int)))), (11, .v (.c (.int .i64 v2)))]) (h' := []) (by kernel_rfl) ?_
          refine aw_skip ?_
          refine aw_region ttOK (C := True) (hs := []) (gs := []) (rn := []) (l' := [(1, .v (.c (.int .i64 a1))), (2, .v (.c (.int .i64 a2))), (9, .v (.c (.ls false (.num .i64) a0))), (10, .v (.c (.int .i64 (List.length a0 : Int)))), (11, .v (.c (.int .i64 (IntKind.i64.wrap (v2 + (1 : Int))))))]) (h' := []) (by kernel_rfl) trivial ?_
          exact ⟨_, (IntKind.i64.wrap (v2 + (1 : Int))), Nat.lt_succ_self _, h, rfl, rfl⟩
      · rw [ite_f hb] at h
        refine aw_ghost (gs := []) (rn := []) (l' := []) (h' := []) (by kernel_rfl) ?_
        refine aw_exit ?_
        exact ⟨(), h, rfl, rfl⟩

theorem F_s_l1Most_ok {fu : Nat} {a0 : Int} {a1 : Int} {r : Int} (h : F_s_l1Most fu a0 a1 = some r) :
    ACall Try.prog 61 [.v (.c (.int .i64 a0)), .v (.c (.int .i64 a1))] [] [] (.v (.c (.int .i64 r))) [] := by
  unfold F_s_l1Most at h
  refine acall_of_aw ttOK Try.func61 (by kernel_rfl) (c := _) rfl (N := 10) (by kernel_rfl) (Nat.le_of_ble_eq_true rfl) ?_
  refine aw_seq ?_
  refine aw_region ttOK (C := True) (hs := []) (gs := []) (rn := []) (l' := [(0, .v (.c (.int .i64 a0))), (1, .v (.c (.int .i64 a1)))]) (h' := []) (by kernel_rfl) trivial ?_
  refine aw_seq ?_
  refine aw_seq ?_
  refine aw_region ttOK (C := True) (hs := []) (gs := []) (rn := []) (l' := [(0, .v (.c (.int .i64 a0))), (1, .v (.c (.int .i64 a1))), (7, .v (.c (.bool (decide (a0 > a1)))))]) (h' := []) (by kernel_rfl) trivial ?_
  refine aw_if (decide (a0 > a1)) (by kernel_rfl) (fun hb => ?_) (fun hb => ?_)
  · rw [ite_t hb] at h
    refine aw_seq ?_
    refine aw_region ttOK (C := True) (hs := []) (gs := []) (rn := []) (l' := [(4, .v (.c (.int .i64 a0)))]) (h' := []) (by kernel_rfl) trivial ?_
    refine aw_ghost (gs := []) (rn := []) (l' := [(4, .v (.c (.int .i64 a0)))]) (h' := []) (by kernel_rfl) ?_
    refine aw_ret (ret_ok [] ?_)
    cases h
    kernel_rfl
  · rw [ite_f hb] at h
    refine aw_ghost (gs := []) (rn := []) (l' := [(1, .v (.c (.int .i64 a1)))]) (h' := []) (by kernel_rfl) ?_
    refine aw_skip ?_
    refine aw_seq ?_
    refine aw_region ttOK (C := True) (hs := []) (gs := []) (rn := []) (l' := [(4, .v (.c (.int .i64 a1)))]) (h' := []) (by kernel_rfl) trivial ?_
    refine aw_ghost (gs := []) (rn := []) (l' := [(4, .v (.c (.int .i64 a1)))]) (h' := []) (by kernel_rfl) ?_
    refine aw_ret (ret_ok [] ?_)
    cases h
    kernel_rfl

theorem F_s_meGreatest_ok {fu : Nat} {a0 : List Int} {r : Int} (h : F_s_meGreatest fu a0 = some r) :
    ACall Try.prog 40 [.v (.c (.ls false (.num .i64) a0))] [] [] (.v (.c (.int .i64 r))) [] := by
  unfold F_s_meGreatest at h
  refine acall_of_aw ttOK Try.func40 (by kernel_rfl) (c := _) rfl (N := 17) (by kernel_rfl) (Nat.le_of_ble_eq_true rfl) ?_
  refine aw_seq ?_
  refine aw_region ttOK (C := True) (hs := []) (gs := []) (rn := []) (l' := [(0, .v (.c (.ls false (.num .i64) a0)))]) (h' := []) (by kernel_rfl) trivial ?_
  refine aw_seq ?_
  refine aw_region ttOK (C := True) (hs := []) (gs := []) (rn := []) (l' := [(0, .v (.c (.ls false (.num .i64) a0))), (3, .v (.c (.int .i64 (0 : Int))))]) (h' := []) (by kernel_rfl) trivial ?_
  refine aw_join (X := Int) (fun x => ([(3, .v (.c (.int .i64 x)))], [])) (fun x => F_s_meGreatestJ1 fu x = some r) ?_ ?_
  · rintro v1 h
    unfold F_s_meGreatestJ1 at h
    refine aw_seq ?_
    refine aw_region ttOK (C := True) (hs := []) (gs := []) (rn := []) (l' := [(2, .v (.c (.int .i64 v1)))]) (h' := []) (by kernel_rfl) trivial ?_
    refine aw_ghost (gs := []) (rn := []) (l' := [(2, .v (.c (.int .i64 v1)))]) (h' := []) (by kernel_rfl) ?_
    refine aw_ret (ret_ok [] ?_)
    cases h
    kernel_rfl
  · refine aw_seq ?_
    refine aw_region ttOK (C := True) (hs := []) (gs := []) (rn := []) (l' := [(3, .v (.c (.int .i64 (0 : Int)))), (6, .v (.c (.ls false (.num .i64) a0))), (7, .v (.c (.int .i64 (List.length a0 : Int)))), (8, .v (.c (.int .i64 (0 : Int))))]) (h' := []) (by kernel_rfl) trivial ?_
    refine aw_block ?_
    refine aw_loopF (X := Int × Int) (fun x => ([(3, .v (.c (.int .i64 x.1))), (6, .v (.c (.ls false (.num .i64) a0))), (7, .v (.c (.int .i64 (List.length a0 : Int)))), (8, .v (.c (.int .i64 x.2)))], [])) (fun n x => F_s_meGreatestL2 fu a0 n x.1 x.2 = some r) fu ((0 : Int), (0 : Int)) h ?_
    rintro n2 ⟨v3, v4⟩ h
    cases n2 with
    | zero => first | cases h | (rw [F_s_meGreatestL2] at h; cases h)
    | succ n2 =>
      rw [F_s_meGreatestL2] at h
      refine aw_seq ?_
      refine aw_region ttOK (C := True) (hs := []) (gs := []) (rn := []) (l' := [(3, .v (.c (.int .i64 v3))), (6, .v (.c (.ls false (.num .i64) a0))), (7, .v (.c (.int .i64 (List.length a0 : Int)))), (8, .v (.c (.int .i64 v4))), (9, .v (.c (.bool (decide (v4 < (List.length a0 : Int))))))]) (h' := []) (by kernel_rfl) trivial ?_
      refine aw_seq ?_
      refine aw_if (decide (v4 < (List.length a0 : Int))) (by kernel_rfl) (fun hb => ?_) (fun hb => ?_)
      · rw [ite_t hb] at h
        refine aw_ghost (gs := []) (rn := []) (l' := [(3, .v (.c (.int .i64 v3))), (6, .v (.c (.ls false (.num .i64) a0))), (7, .v (.c (.int .i64 (List.length a0 : Int)))), (8, .v (.c (.int .i64 v4)))]) (h' := []) (by kernel_rfl) ?_
        refine aw_skip ?_
        refine aw_seq ?_
        refine aw_block ?_
        refine aw_seq ?_
        obtain ⟨c0, h⟩ := chk_some h
        refine aw_region ttOK (C := (0 ≤ v4 ∧ v4 < (List.length a0 : Int)) ∧ True) (hs := []) (gs := []) (rn := []) (l' := [(3, .v (.c (.int .i64 v3))), (5, .v (.c (.int .i64 (List.getD a0 (v4).toNat (0 : Int))))), (6, .v (.c (.ls false (.num .i64) a0))), (7, .v (.c (.int .i64 (List.length a0 : Int)))), (8, .v (.c (.int .i64 v4)))]) (h' := []) (by kernel_rfl) ⟨c0, trivial⟩ ?_
        obtain ⟨v5, ev5, h⟩ := bind_some h
        refine aw_region ttOK (C := (ACall Try.prog 61 [.v (.c (.int .i64 v3)), .v (.c (.int .i64 (List.getD a0 (v4).toNat (0 : Int))))] [] [] (.v (.c (.int .i64 v5))) []) ∧ True) (hs := [(2, { call := some { f := 61, casts := [.same, .same], r := .v (.c (.int .i64 v5)) } })]) (gs := []) (rn := []) (l' := [(3, .v (.c (.int .i64 v5))), (6, .v (.c (.ls false (.num .i64) a0))), (7, .v (.c (.int .i64 (List.length a0 : Int)))), (8, .v (.c (.int .i64 v4)))]) (h' := []) (by kernel_rfl) ⟨(F_s_l1Most_ok ev5), trivial⟩ ?_
        refine aw_region ttOK (C := True) (hs := []) (gs := []) (rn := []) (l' := [(3, .v (.c (.int .i64 v5))), (6, .v (.c (.ls false (.num .i64) a0))), (7, .v (.c (.int .i64 (List.length a0 : Int)))), (8, .v (.c (.int .i64 (IntKind.i64.wrap (v4 + (1 : Int))))))]) (h' := []) (by kernel_rfl) trivial ?_
        exact ⟨_, (v5, (IntKind.i64.wrap (v4 + (1 : Int)))), Nat.lt_succ_self _, h, rfl, rfl⟩
      · rw [ite_f hb] at h
        refine aw_ghost (gs := []) (rn := []) (l' := [(3, .v (.c (.int .i64 v3)))]) (h' := []) (by kernel_rfl) ?_
        refine aw_exit ?_
        exact ⟨v3, h, rfl, rfl⟩

theorem F_s_chLength_ok {fu : Nat} {a0 : Int} {r : Int} (h : F_s_chLength fu a0 = some r) :
    ACall Try.prog 39 [.v (.c (.int .i64 a0))] [] [] (.v (.c (.int .i64 r))) [] := by
  unfold F_s_chLength at h
  refine acall_of_aw ttOK Try.func39 (by kernel_rfl) (c := _) rfl (N := 11) (by kernel_rfl) (Nat.le_of_ble_eq_true rfl) ?_
  refine aw_seq ?_
  refine aw_region ttOK (C := True) (hs := []) (gs := []) (rn := []) (l' := [(0, .v (.c (.int .i64 a0)))]) (h' := []) (by kernel_rfl) trivial ?_
  refine aw_seq ?_
  refine aw_region ttOK (C := True) (hs := []) (gs := []) (rn := []) (l' := [(0, .v (.c (.int .i64 a0))), (3, .v (.c (.int .i64 (0 : Int))))]) (h' := []) (by kernel_rfl) trivial ?_
  refine aw_join (X := Int) (fun x => ([(3, .v (.c (.int .i64 x)))], [])) (fun x => F_s_chLengthJ1 fu x = some r) ?_ ?_
  · rintro v1 h
    unfold F_s_chLengthJ1 at h
    refine aw_seq ?_
    refine aw_region ttOK (C := True) (hs := []) (gs := []) (rn := []) (l' := [(2, .v (.c (.int .i64 v1)))]) (h' := []) (by kernel_rfl) trivial ?_
    refine aw_ghost (gs := []) (rn := []) (l' := [(2, .v (.c (.int .i64 v1)))]) (h' := []) (by kernel_rfl) ?_
    refine aw_ret (ret_ok [] ?_)
    cases h
    kernel_rfl
  · refine aw_block ?_
    refine aw_loopF (X := Int) (fun x => ([(0, .v (.c (.int .i64 a0))), (3, .v (.c (.int .i64 x)))], [])) (fun n x => F_s_chLengthL2 fu a0 n x = some r) fu (0 : Int) h ?_
    rintro n2 v2 h
    cases n2 with
    | zero => first | cases h | (rw [F_s_chLengthL2] at h; cases h)
    | succ n2 =>
      rw [F_s_chLengthL2] at h
      refine aw_seq ?_
      refine aw_seq ?_
      obtain ⟨c0, h⟩ := chk_some h
      refine aw_region ttOK (C := (0 ≤ v2) ∧ True) (hs := []) (gs := []) (rn := []) (l' := [(0, .v (.c (.int .i64 a0))), (3, .v (.c (.int .i64 v2))), (7, .v (.c (.bool (decide ((shrI .i64 a0 v2) > (0 : Int))))))]) (h' := []) (by kernel_rfl) ⟨c0, trivial⟩ ?_
      refine aw_if (decide ((shrI .i64 a0 v2) > (0 : Int))) (by kernel_rfl) (fun hb => ?_) (fun hb => ?_)
      · rw [ite_t hb] at h
        refine aw_ghost (gs := []) (rn := []) (l' := [(0, .v (.c (.int .i64 a0))), (3, .v (.c (.int .i64 v2)))]) (h' := []) (by kernel_rfl) ?_
        refine aw_skip ?_
        refine aw_block ?_
        refine aw_region ttOK (C := True) (hs := []) (gs := []) (rn := []) (l' := [(0, .v (.c (.int .i64 a0))), (3, .v (.c (.int .i64 (IntKind.i64.wrap (v2 + (1 : Int))))))]) (h' := []) (by kernel_rfl) trivial ?_
        exact ⟨_, (IntKind.i64.wrap (v2 + (1 : Int))), Nat.lt_succ_self _, h, rfl, rfl⟩
      · rw [ite_f hb] at h
        refine aw_ghost (gs := []) (rn := []) (l' := [(3, .v (.c (.int .i64 v2)))]) (h' := []) (by kernel_rfl) ?_
        refine aw_exit ?_
        exact ⟨v2, h, rfl, rfl⟩

theorem F_s_l1Least_ok {fu : Nat} {a0 : Int} {a1 : Int} {r : Int} (h : F_s_l1Least fu a0 a1 = some r) :
    ACall Try.prog 71 [.v (.c (.int .i64 a0)), .v (.c (.int .i64 a1))] [] [] (.v (.c (.int .i64 r))) [] := by
  unfold F_s_l1Least at h
  refine acall_of_aw ttOK Try.func71 (by kernel_rfl) (c := _) rfl (N := 10) (by kernel_rfl) (Nat.le_of_ble_eq_true rfl) ?_
  refine aw_seq ?_
  refine aw_region ttOK (C := True) (hs := []) (gs := []) (rn := []) (l' := [(0, .v (.c (.int .i64 a0))), (1, .v (.c (.int .i64 a1)))]) (h' := []) (by kernel_rfl) trivial ?_
  refine aw_seq ?_
  refine aw_seq ?_
  refine aw_region ttOK (C := True) (hs := []) (gs := []) (rn := []) (l' := [(0, .v (.c (.int .i64 a0))), (1, .v (.c (.int .i64 a1))), (7, .v (.c (.bool (decide (a0 < a1)))))]) (h' := []) (by kernel_rfl) trivial ?_
  refine aw_if (decide (a0 < a1)) (by kernel_rfl) (fun hb => ?_) (fun hb => ?_)
  · rw [ite_t hb] at h
    refine aw_seq ?_
    refine aw_region ttOK (C := True) (hs := []) (gs := []) (rn := []) (l' := [(4, .v (.c (.int .i64 a0)))]) (h' := []) (by kernel_rfl) trivial ?_
    refine aw_ghost (gs := []) (rn := []) (l' := [(4, .v (.c (.int .i64 a0)))]) (h' := []) (by kernel_rfl) ?_
    refine aw_ret (ret_ok [] ?_)
    cases h
    kernel_rfl
  · rw [ite_f hb] at h
    refine aw_ghost (gs := []) (rn := []) (l' := [(1, .v (.c (.int .i64 a1)))]) (h' := []) (by kernel_rfl) ?_
    refine aw_skip ?_
    refine aw_seq ?_
    refine aw_region ttOK (C := True) (hs := []) (gs := []) (rn := []) (l' := [(4, .v (.c (.int .i64 a1)))]) (h' := []) (by kernel_rfl) trivial ?_
    refine aw_ghost (gs := []) (rn := []) (l' := [(4, .v (.c (.int .i64 a1)))]) (h' := []) (by kernel_rfl) ?_
    refine aw_ret (ret_ok [] ?_)
    cases h
    kernel_rfl

theorem F_s_plStep_ok {fu : Nat} {a0 : Int} {a1 : Int} {r : Int × Int} (h : F_s_plStep fu a0 a1 = some r) :
    ACall Try.prog 62 [.v (.c (.int .i64 a0)), .v (.c (.int .i64 a1))] [] [] (.v (.ag [.int .i64 r.1, .int .i64 r.2])) [] := by
  unfold F_s_plStep at h
  refine acall_of_aw ttOK Try.func62 (by kernel_rfl) (c := _) rfl (N := 12) (by kernel_rfl) (Nat.le_of_ble_eq_true rfl) ?_
  refine aw_seq ?_
  refine aw_region ttOK (C := True) (hs := [(0, { id := 100 })]) (gs := []) (rn := []) (l' := [(0, .v (.c (.int .i64 a0))), (1, .v (.c (.int .i64 a1))), (4, .v (.c (.p 100 0)))]) (h' := [(100, .bx [.int .i64 (0 : Int), .int .i64 (0 : Int)])]) (by kernel_rfl) trivial ?_
  refine aw_seq ?_
  obtain ⟨v1, ev1, h⟩ := bind_some h
  obtain ⟨v2, ev2, h⟩ := bind_some h
  refine aw_region ttOK (C := (ACall Try.prog 71 [.v (.c (.int .i64 a0)), .v (.c (.int .i64 a1))] [] [] (.v (.c (.int .i64 v1))) []) ∧ (ACall Try.prog 61 [.v (.c (.int .i64 a0)), .v (.c (.int .i64 a1))] [] [] (.v (.c (.int .i64 v2))) []) ∧ True) (hs := [(2, { call := some { f := 71, casts := [.same, .same], r := .v (.c (.int .i64 v1)) } }), (5, { call := some { f := 61, casts := [.same, .same], r := .v (.c (.int .i64 v2)) } })]) (gs := []) (rn := []) (l' := [(4, .v (.c (.p 100 0)))]) (h' := [(100, .bx [.int .i64 v1, .int .i64 v2])]) (by kernel_rfl) ⟨(F_s_l1Least_ok ev1), (F_s_l1Most_ok ev2), trivial⟩ ?_
  refine aw_ghost (gs := []) (rn := []) (l' := [(4, .v (.c (.p 100 0)))]) (h' := [(100, .bx [.int .i64 v1, .int .i64 v2])]) (by kernel_rfl) ?_
  refine aw_ret (ret_ok [] ?_)
  cases h
  kernel_rfl

theorem F_s_meTimes_ok {fu : Nat} {a0 : Int} {a1 : List (Int × Int)} {a2 : List Int} {a3 : Int} {a4 : Int} {r : Int × List (Int × Int)} (h : F_s_meTimes fu a0 a1 a2 a3 a4 = some r) :
    ACall Try.prog 41 [.v (.ag [.int .i64 a0, .ls false (.pr (.num .i64) (.num .i64)) a1, .ls false (.num .i64) a2]), .v (.c (.int .i64 a3)), .v (.c (.int .i64 a4))] [] [] (.tu [.ag [.int .i64 a0, .ls false (.pr (.num .i64) (.num .i64)) r.2, .nl], .c (.int .i64 r.1)]) [] := by
  unfold F_s_meTimes at h
  refine acall_of_aw ttOK Try.func41 (by kernel_rfl) (c := _) rfl (N := 28) (by kernel_rfl) (Nat.le_of_ble_eq_true rfl) ?_
  refine aw_seq ?_
  refine aw_region ttOK (C := True) (hs := [(0, { id := 100 }), (1, { id := 101 })]) (gs := []) (rn := []) (l' := [(1, .v (.c (.int .i64 a3))), (2, .v (.c (.int .i64 a4))), (3, .v (.c (.p 100 0))), (6, .v (.c (.p 101 0)))]) (h' := [(100, .bx [.int .i64 a0, .ls false (.pr (.num .i64) (.num .i64)) a1, .ls false (.num .i64) a2]), (101, .bx [.int .i64 (0 : Int), .nl, .nl])]) (by kernel_rfl) trivial ?_
  refine aw_seq ?_
  obtain ⟨c0, h⟩ := chk_some h
  obtain ⟨v1, ev1, h⟩ := bind_some h
  obtain ⟨c1, h⟩ := chk_some h
  refine aw_draw ttOK ttMix (C := ((List.length ([] : List (Int × Int)) + List.length a1) * 16 ≤ 140737488355328) ∧ (ACall Try.prog 62 [.v (.c (.int .i64 a3)), .v (.c (.int .i64 a4))] [] [] (.v (.ag [.int .i64 v1.1, .int .i64 v1.2])) []) ∧ ((List.length (([] : List (Int × Int)) ++ a1) + List.length ([(v1.1, v1.2)] : List (Int × Int))) * 16 ≤ 140737488355328) ∧ True) (hs := [(2, { id := 105 }), (5, { id := 108 }), (8, { call := some { f := 62, casts := [.same, .same], r := .v (.ag [.int .i64 v1.1, .int .i64 v1.2]) } }), (9, { id := 111 }), (10, { id := 112 }), (12, { id := 114 })]) (anc := [(1, [0]), (4, [3]), (5, [2, 3, 4]), (8, [2, 3, 4, 5, 6, 7]), (9, [2, 3, 4, 5, 6, 7, 8]), (10, [2, 3, 4, 5, 6, 7, 8, 9]), (11, [0, 1, 2, 3, 4, 5, 6, 7, 8, 9, 10]), (13, [0, 1, 2, 3, 4, 5, 6, 7, 8, 9, 10, 11, 12])]) (tch := [(2, [105]), (5, [105, 108]), (9, [111]), (10, [108, 112]), (12, [114]), (13, [114])]) (gs := []) (rn := []) (l' := [(3, .v (.c (.p 100 0))), (6, .v (.c (.p 101 0))), (8, .v (.c (.p 114 0)))]) (h' := [(100, .bx [.int .i64 a0, .ls false (.pr (.num .i64) (.num .i64)) a1, .ls false (.num .i64) a2]), (101, .bx [.int .i64 (0 : Int), .nl, .nl]), (112, .vc 67 (.pr (.num .i64) (.num .i64)) ((([] : List (Int × Int)) ++ a1) ++ ([(v1.1, v1.2)] : List (Int × Int)))), (114, .bx [.int .i64 a0, .ho 112, .nl])]) (by kernel_rfl) ⟨c0, (F_s_plStep_ok ev1), c1, trivial⟩ ?_
  refine aw_seq ?_
  refine aw_draw ttOK ttMix (C := True) (hs := []) (anc := [(2, [1]), (4, [3]), (5, [3, 4]), (6, [1, 2, 3, 4, 5]), (7, [0]), (8, [0, 1, 2, 3, 4, 5, 6, 7])]) (tch := [(7, [101])]) (gs := []) (rn := []) (l' := [(6, .v (.c (.p 101 0))), (7, .v (.c (.int .i64 (IntKind.i64.wrap (a0 + (List.length a1 : Int))))))]) (h' := [(101, .bx [.int .i64 a0, .ho 112, .nl]), (112, .vc 67 (.pr (.num .i64) (.num .i64)) ((([] : List (Int × Int)) ++ a1) ++ ([(v1.1, v1.2)] : List (Int × Int))))]) (by kernel_rfl) trivial ?_
  refine aw_ghost (gs := [.frz 112, .cview 101 1]) (rn := []) (l' := [(6, .v (.c (.p 101 0))), (7, .v (.c (.int .i64 (IntKind.i64.wrap (a0 + (List.length a1 : Int))))))]) (h' := [(101, .bx [.int .i64 a0, .ls false (.pr (.num .i64) (.num .i64)) ((([] : List (Int × Int)) ++ a1) ++ ([(v1.1, v1.2)] : List (Int × Int))), .nl])]) (by kernel_rfl) ?_
  refine aw_ret (ret_ok [] ?_)
  cases h
  kernel_rfl

theorem F_s_meDigits_ok {fu : Nat} {a0 : Int} {a1 : Int} {r : List Int} (h : F_s_meDigits fu a0 a1 = some r) :
    ACall Try.prog 42 [.v (.c (.int .i64 a0)), .v (.c (.int .i64 a1))] [] [] (.v (.c (.ho 0))) [.vc 3 (.num .i64) r] := by
  unfold F_s_meDigits at h
  refine acall_of_aw ttOK Try.func42 (by kernel_rfl) (c := _) rfl (N := 18) (by kernel_rfl) (Nat.le_of_ble_eq_true rfl) ?_
  refine aw_seq ?_
  refine aw_region ttOK (C := True) (hs := []) (gs := []) (rn := []) (l' := [(0, .v (.c (.int .i64 a0))), (1, .v (.c (.int .i64 a1)))]) (h' := []) (by kernel_rfl) trivial ?_
  refine aw_seq ?_
  refine aw_region ttOK (C := True) (hs := []) (gs := []) (rn := []) (l' := [(0, .v (.c (.int .i64 a0))), (1, .v (.c (.int .i64 a1))), (5, .v (.c (.nl)))]) (h' := []) (by kernel_rfl) trivial ?_
  refine aw_join (X := List Int) (fun x => ([(5, .v (.c (.ho 950)))], [(950, .vc 3 (.num .i64) x)])) (fun x => F_s_meDigitsJ1 fu x = some r) ?_ ?_
  · rintro v1 h
    unfold F_s_meDigitsJ1 at h
    refine aw_seq ?_
    refine aw_region ttOK (C := True) (hs := []) (gs := []) (rn := []) (l' := [(4, .v (.c (.ho 950)))]) (h' := [(950, .vc 3 (.num .i64) v1)]) (by kernel_rfl) trivial ?_
    refine aw_ghost (gs := []) (rn := []) (l' := [(4, .v (.c (.ho 950)))]) (h' := [(950, .vc 3 (.num .i64) v1)]) (by kernel_rfl) ?_
    refine aw_ret (ret_ok [950] ?_)
    cases h
    kernel_rfl
  · refine aw_block ?_
    refine aw_ghost (gs := [.own 5 950 3 (.num .i64)]) (rn := []) (l' := [(0, .v (.c (.int .i64 a0))), (1, .v (.c (.int .i64 a1))), (5, .v (.c (.ho 950)))]) (h' := [(950, .vc 3 (.num .i64) ([] : List Int))]) (by kernel_rfl) ?_
    refine aw_loopF (X := Int × List Int) (fun x => ([(0, .v (.c (.int .i64 x.1))), (1, .v (.c (.int .i64 a1))), (5, .v (.c (.ho 950)))], [(950, .vc 3 (.num .i64) x.2)])) (fun n x => F_s_meDigitsL2 fu a1 n x.1 x.2 = some r) fu (a0, ([] : List Int)) h ?_
    rintro n2 ⟨v3, v4⟩ h
    cases n2 with
    | zero => first | cases h | (rw [F_s_meDigitsL2] at h; cases h)
    | succ n2 =>
      rw [F_s_meDigitsL2] at h
      refine aw_seq ?_
      refine aw_seq ?_
      refine aw_region ttOK (C := True) (hs := []) (gs := []) (rn := []) (l' := [(0, .v (.c (.int .i64 v3))), (1, .v (.c (.int .i64 a1))), (5, .v (.c (.ho 950))), (7, .v (.c (.bool (decide (v3 > (0 : Int))))))]) (h' := [(950, .vc 3 (.num .i64) v4)]) (by kernel_rfl) trivial ?_
      refine aw_if (decide (v3 > (0 : Int))) (by kernel_rfl) (fun hb => ?_) (fun hb => ?_)
      · rw [ite_t hb] at h
        refine aw_ghost (gs := []) (rn := []) (l' := [(0, .v (.c (.int .i64 v3))), (1, .v (.c (.int .i64 a1))), (5, .v (.c (.ho 950)))]) (h' := [(950, .vc 3 (.num .i64) v4)]) (by kernel_rfl) ?_
        refine aw_skip ?_
        refine aw_seq ?_
        refine aw_block ?_
        obtain ⟨⟨c0, c1⟩, h⟩ := chk_some h
        refine aw_region ttOK (C := (a1 ≠ 0) ∧ ((List.length v4 + List.length ([(Int.tmod v3 a1)] : List Int)) * 8 ≤ 140737488355328) ∧ True) (hs := [(4, { id := 108 }), (5, { id := 109 })]) (gs := []) (rn := []) (l' := [(0, .v (.c (.int .i64 v3))), (1, .v (.c (.int .i64 a1))), (5, .v (.c (.ho 109)))]) (h' := [(109, .vc 3 (.num .i64) (v4 ++ ([(Int.tmod v3 a1)] : List Int)))]) (by kernel_rfl) ⟨c0, c1, trivial⟩ ?_
        obtain ⟨c0, h⟩ := chk_some h
        refine aw_region ttOK (C := (a1 ≠ 0) ∧ True) (hs := []) (gs := []) (rn := [(109, 950)]) (l' := [(0, .v (.c (.int .i64 (IntKind.i64.wrap (Int.tdiv v3 a1))))), (1, .v (.c (.int .i64 a1))), (5, .v (.c (.ho 950)))]) (h' := [(950, .vc 3 (.num .i64) (v4 ++ ([(Int.tmod v3 a1)] : List Int)))]) (by kernel_rfl) ⟨c0, trivial⟩ ?_
        exact ⟨_, ((IntKind.i64.wrap (Int.tdiv v3 a1)), (v4 ++ ([(Int.tmod v3 a1)] : List Int))), Nat.lt_succ_self _, h, rfl, rfl⟩
      · rw [ite_f hb] at h
        refine aw_ghost (gs := []) (rn := []) (l' := [(5, .v (.c (.ho 950)))]) (h' := [(950, .vc 3 (.num .i64) v4)]) (by kernel_rfl) ?_
        refine aw_exit ?_
        exact ⟨v4, h, rfl, rfl⟩

theorem F_s_plSum_ok {fu : Nat} {a0 : List Int} {a1 : List Int} {r : List Int} (h : F_s_plSum fu a0 a1 = some r) :
    ACall Try.prog 72 [.v (.c (.ls false (.num .i64) a0)), .v (.c (.ls false (.num .i64) a1))] [] [] (.v (.c (.ho 0))) [.vc 3 (.num .i64) r] := by
  unfold F_s_plSum at h
  refine acall_of_aw ttOK Try.func72 (by kernel_rfl) (c := _) rfl (N := 27) (by kernel_rfl) (Nat.le_of_ble_eq_true rfl) ?_
  refine aw_seq ?_
  refine aw_region ttOK (C := True) (hs := []) (gs := []) (rn := []) (l' := [(0, .v (.c (.ls false (.num .i64) a0))), (1, .v (.c (.ls false (.num .i64) a1)))]) (h' := []) (by kernel_rfl) trivial ?_
  refine aw_seq ?_
  refine aw_region ttOK (C := True) (hs := []) (gs := []) (rn := []) (l' := [(0, .v (.c (.ls false (.num .i64) a0))), (1, .v (.c (.ls false (.num .i64) a1))), (5, .v (.c (.nl)))]) (h' := []) (by kernel_rfl) trivial ?_
  refine aw_join (X := List Int) (fun x => ([(5, .v (.c (.ho 950)))], [(950, .vc 3 (.num .i64) x)])) (fun x => F_s_plSumJ1 fu x = some r) ?_ ?_
  · rintro v1 h
    unfold F_s_plSumJ1 at h
    refine aw_seq ?_
    refine aw_region ttOK (C := True) (hs := []) (gs := []) (rn := []) (l' := [(4, .v (.c (.ho 950)))]) (h' := [(950, .vc 3 (.num .i64) v1)]) (by kernel_rfl) trivial ?_
    refine aw_ghost (gs := []) (rn := []) (l' := [(4, .v (.c (.ho 950)))]) (h' := [(950, .vc 3 (.num .i64) v1)]) (by kernel_rfl) ?_
    refine aw_ret (ret_ok [950] ?_)
    cases h
    kernel_rfl
  · refine aw_seq ?_
    refine aw_region ttOK (C := True) (hs := []) (gs := []) (rn := []) (l' := [(0, .v (.c (.ls false (.num .i64) a0))), (1, .v (.c (.ls false (.num .i64) a1))), (5, .v (.c (.nl))), (8, .v (.c (.int .i64 (List.length a0 : Int)))), (9, .v (.c (.int .i64 (0 : Int))))]) (h' := []) (by kernel_rfl) trivial ?_
    refine aw_block ?_
    refine aw_ghost (gs := [.own 5 950 3 (.num .i64)]) (rn := []) (l' := [(0, .v (.c (.ls false (.num .i64) a0))), (1, .v (.c (.ls false (.num .i64) a1))), (5, .v (.c (.ho 950))), (8, .v (.c (.int .i64 (List.length a0 : Int)))), (9, .v (.c (.int .i64 (0 : Int))))]) (h' := [(950, .vc 3 (.num .i64) ([] : List Int))]) (by kernel_rfl) ?_
    refine aw_loopF (X := Int × List Int) (fun x => ([(0, .v (.c (.ls false (.num .i64) a0))), (1, .v (.c (.ls false (.num .i64) a1))), (5, .v (.c (.ho 950))), (8, .v (.c (.int .i64 (List.length a0 : Int)))), (9, .v (.c (.int .i64 x.1)))], [(950, .vc 3 (.num .i64) x.2)])) (fun n x => F_s_plSumL2 fu a0 a1 n x.1 x.2 = some r) fu ((0 : Int), ([] : List Int)) h ?_
    rintro n2 ⟨v3, v4⟩ h
    cases n2 with
    | zero => first | cases h | (rw [F_s_plSumL2] at h; cases h)
    | succ n2 =>
      rw [F_s_plSumL2] at h
      refine aw_seq ?_
      refine aw_region ttOK (C := True) (hs := []) (gs := []) (rn := []) (l' := [(0, .v (.c (.ls false (.num .i64) a0))), (1, .v (.c (.ls false (.num .i64) a1))), (5, .v (.c (.ho 950))), (8, .v (.c (.int .i64 (List.length a0 : Int)))), (9, .v (.c (.int .i64 v3))), (10, .v (.c (.bool (decide (v3 < (List.length a0 : Int))))))]) (h' := [(950, .vc 3 (.num .i64) v4)]) (by kernel_rfl) trivial ?_
      refine aw_seq ?_
      refine aw_if (decide (v3 < (List.length a0 : Int))) (by kernel_rfl) (fun hb => ?_) (fun hb => ?_)
      · rw [ite_t hb] at h
        refine aw_ghost (gs := []) (rn := []) (l' := [(0, .v (.c (.ls false (.num .i64) a0))), (1, .v (.c (.ls false (.num .i64) a1))), (5, .v (.c (.ho 950))), (8, .v (.c (.int .i64 (List.length a0 : Int)))), (9, .v (.c (.int .i64 v3)))]) (h' := [(950, .vc 3 (.num .i64) v4)]) (by kernel_rfl) ?_
        refine aw_skip ?_
        refine aw_seq ?_
        refine aw_block ?_
        refine aw_seq ?_
        refine aw_region ttOK (C := True) (hs := []) (gs := []) (rn := []) (l' := [(0, .v (.c (.ls false (.num .i64) a0))), (1, .v (.c (.ls false (.num .i64) a1))), (5, .v (.c (.ho 950))), (6, .v (.c (.int .i64 v3))), (8, .v (.c (.int .i64 (List.length a0 : Int)))), (9, .v (.c (.int .i64 v3)))]) (h' := [(950, .vc 3 (.num .i64) v4)]) (by kernel_rfl) trivial ?_
        obtain ⟨⟨c0, c1⟩, h⟩ := chk_some h
        obtain ⟨v5, ev5, h⟩ := bind_some h
        obtain ⟨c2, h⟩ := chk_some h
        refine aw_draw ttOK ttMix (C := (0 ≤ v3 ∧ v3 < (List.length a0 : Int)) ∧ (0 ≤ v3 ∧ v3 < (List.length a1 : Int)) ∧ (ACall Try.prog 71 [.v (.c (.int .i64 (IntKind.i64.wrap ((List.getD a0 (v3).toNat (0 : Int)) + (List.getD a1 (v3).toNat (0 : Int)))))), .v (.c (.int .i64 (1000001 : Int)))] [] [] (.v (.c (.int .i64 v5))) []) ∧ ((List.length v4 + List.length ([v5] : List Int)) * 8 ≤ 140737488355328) ∧ True) (hs := [(10, { call := some { f := 71, casts := [.same, .same], r := .v (.c (.int .i64 v5)) } }), (11, { id := 118 }), (12, { id := 119 })]) (anc := [(3, [1, 2]), (4, [1, 2, 3]), (7, [5, 6]), (8, [5, 6, 7]), (9, [1, 2, 3, 4, 5, 6, 7, 8]), (10, [1, 2, 3, 4, 5, 6, 7, 8, 9]), (11, [1, 2, 3, 4, 5, 6, 7, 8, 9, 10]), (12, [0, 1, 2, 3, 4, 5, 6, 7, 8, 9, 10, 11]), (13, [0, 1, 2, 3, 4, 5, 6, 7, 8, 9, 10, 11, 12])]) (tch := [(11, [118]), (12, [119, 950])]) (gs := []) (rn := []) (l' := [(0, .v (.c (.ls false (.num .i64) a0))), (1, .v (.c (.ls false (.num .i64) a1))), (5, .v (.c (.ho 119))), (8, .v (.c (.int .i64 (List.length a0 : Int)))), (9, .v (.c (.int .i64 v3)))]) (h' := [(119, .vc 3 (.num .i64) (v4 ++ ([v5] : List Int)))]) (by kernel_rfl) ⟨c0, c1, (F_s_l1Least_ok ev5), c2, trivial⟩ ?_
        refine aw_region ttOK (C := True) (hs := []) (gs := []) (rn := [(119, 950)]) (l' := [(0, .v (.c (.ls false (.num .i64) a0))), (1, .v (.c (.ls false (.num .i64) a1))), (5, .v (.c (.ho 950))), (8, .v (.c (.int .i64 (List.length a0 : Int)))), (9, .v (.c (.int .i64 (IntKind.i64.wrap (v3 + (1 : Int))))))]) (h' := [(950, .vc 3 (.num .i64) (v4 ++ ([v5] : List Int)))]) (by kernel_rfl) trivial ?_
        exact ⟨_, ((IntKind.i64.wrap (v3 + (1 : Int))), (v4 ++ ([v5] : List Int))), Nat.lt_succ_self _, h, rfl, rfl⟩
      · rw [ite_f hb] at h
        refine aw_ghost (gs := []) (rn := []) (l' := [(5, .v (.c (.ho 950)))]) (h' := [(950, .vc 3 (.num .i64) v4)]) (by kernel_rfl) ?_
        refine aw_exit ?_
        exact ⟨v4, h, rfl, rfl⟩

theorem F_s_plExponents_ok {fu : Nat} {a0 : Int} {a1 : List (Int × Int)} {a2 : List Int} {r : List (List Int)} (h : F_s_plExponents fu a0 a1 a2 = some r) :
    ACall Try.prog 63 [.v (.ag [.int .i64 a0, .ls false (.pr (.num .i64) (.num .i64)) a1, .ls false (.num .i64) a2])] [] [] (.v (.c (.ho 0))) [.vc 24 (.sl (.num .i64)) r] := by
  unfold F_s_plExponents at h
  refine acall_of_aw ttOK Try.func63 (by kernel_rfl) (c := _) rfl (N := 47) (by kernel_rfl) (Nat.le_of_ble_eq_true rfl) ?_
  refine aw_seq ?_
  refine aw_region ttOK (C := True) (hs := [(0, { id := 100 })]) (gs := []) (rn := []) (l' := [(1, .v (.c (.p 100 0)))]) (h' := [(100, .bx [.int .i64 a0, .ls false (.pr (.num .i64) (.num .i64)) a1, .ls false (.num .i64) a2])]) (by kernel_rfl) trivial ?_
  refine aw_seq ?_
  refine aw_region ttOK (C := True) (hs := []) (gs := []) (rn := []) (l' := [(1, .v (.c (.p 100 0))), (3, .v (.c (.nl)))]) (h' := [(100, .bx [.int .i64 a0, .ls false (.pr (.num .i64) (.num .i64)) a1, .ls false (.num .i64) a2])]) (by kernel_rfl) trivial ?_
  refine aw_join (X := List (List Int)) (fun x => ([(1, .v (.c (.p 100 0))), (3, .v (.c (.ho 950)))], [(100, .bx [.int .i64 a0, .ls false (.pr (.num .i64) (.num .i64)) a1, .ls false (.num .i64) a2]), (950, .vc 24 (.sl (.num .i64)) x)])) (fun x => F_s_plExponentsJ1 fu a1 x = some r) ?_ ?_
  · rintro v1 h
    unfold F_s_plExponentsJ1 at h
    refine aw_join (X := List (List Int)) (fun x => ([(3, .v (.c (.ho 950)))], [(950, .vc 24 (.sl (.num .i64)) x)])) (fun x => F_s_plExponentsJ2 fu x = some r) ?_ ?_
    · rintro v2 h
      unfold F_s_plExponentsJ2 at h
      refine aw_seq ?_
      refine aw_region ttOK (C := True) (hs := []) (gs := []) (rn := []) (l' := [(2, .v (.c (.ho 950)))]) (h' := [(950, .vc 24 (.sl (.num .i64)) v2)]) (by kernel_rfl) trivial ?_
      refine aw_ghost (gs := []) (rn := []) (l' := [(2, .v (.c (.ho 950)))]) (h' := [(950, .vc 24 (.sl (.num .i64)) v2)]) (by kernel_rfl) ?_
      refine aw_ret (ret_ok [950] ?_)
      cases h
      kernel_rfl
    · refine aw_seq ?_
      refine aw_region ttOK (C := True) (hs := []) (gs := []) (rn := []) (l' := [(3, .v (.c (.ho 950))), (25, .v (.c (.ls false (.pr (.num .i64) (.num .i64)) a1))), (26, .v (.c (.int .i64 (List.length a1 : Int)))), (27, .v (.c (.int .i64 (0 : Int))))]) (h' := [(950, .vc 24 (.sl (.num .i64)) v1)]) (by kernel_rfl) trivial ?_
      refine aw_block ?_
      refine aw_loopF (X := Int × List (List Int)) (fun x => ([(3, .v (.c (.ho 950))), (25, .v (.c (.ls false (.pr (.num .i64) (.num .i64)) a1))), (26, .v (.c (.int .i64 (List.length a1 : Int)))), (27, .v (.c (.int .i64 x.1)))], [(950, .vc 24 (.sl (.num .i64)) x.2)])) (fun n x => F_s_plExponentsL3 fu a1 n x.1 x.2 = some r) fu ((0 : Int), v1) h ?_
      rintro n3 ⟨v4, v5⟩ h
      cases n3 with
      | zero => first | cases h | (rw [F_s_plExponentsL3] at h; cases h)
      | succ n3 =>
        rw [F_s_plExponentsL3] at h
        refine aw_seq ?_
        refine aw_region ttOK (C := True) (hs := []) (gs := []) (rn := []) (l' := [(3, .v (.c (.ho 950))), (25, .v (.c (.ls false (.pr (.num .i64) (.num .i64)) a1))), (26, .v (.c (.int .i64 (List.length a1 : Int)))), (27, .v (.c (.int .i64 v4))), (28, .v (.c (.bool (decide (v4 < (List.length a1 : Int))))))]) (h' := [(950, .vc 24 (.sl (.num .i64)) v5)]) (by kernel_rfl) trivial ?_
        refine aw_seq ?_
        refine aw_if (decide (v4 < (List.length a1 : Int))) (by kernel_rfl) (fun hb => ?_) (fun hb => ?_)
        · rw [ite_t hb] at h
          refine aw_ghost (gs := []) (rn := []) (l' := [(3, .v (.c (.ho 950))), (25, .v (.c (.ls false (.pr (.num .i64) (.num .i64)) a1))), (26, .v (.c (.int .i64 (List.length a1 : Int)))), (27, .v (.c (.int .i64 v4)))]) (h' := [(950, .vc 24 (.sl (.num .i64)) v5)]) (by kernel_rfl) ?_
          refine aw_skip ?_
          refine aw_seq ?_
          refine aw_block ?_
          refine aw_seq ?_
          obtain ⟨c0, h⟩ := chk_some h
          refine aw_region ttOK (C := (0 ≤ v4 ∧ v4 < (List.length a1 : Int)) ∧ True) (hs := [(2, { id := 131 })]) (gs := []) (rn := []) (l' := [(3, .v (.c (.ho 950))), (7, .v (.c (.p 131 0))), (25, .v (.c (.ls false (.pr (.num .i64) (.num .i64)) a1))), (26, .v (.c (.int .i64 (List.length a1 : Int)))), (27, .v (.c (.int .i64 v4)))]) (h' := [(131, .bx [.int .i64 (List.getD a1 (v4).toNat ((0 : Int), (0 : Int))).1, .int .i64 (List.getD a1 (v4).toNat ((0 : Int), (0 : Int))).2]), (950, .vc 24 (.sl (.num .i64)) v5)]) (by kernel_rfl) ⟨c0, trivial⟩ ?_
          obtain ⟨⟨c0, c1⟩, h⟩ := chk_some h
          obtain ⟨v6, ev6, h⟩ := bind_some h
          obtain ⟨c2, h⟩ := chk_some h
          refine aw_draw ttOK ttMix (C := (0 ≤ (List.getD a1 (v4).toNat ((0 : Int), (0 : Int))).1 ∧ (List.getD a1 (v4).toNat ((0 : Int), (0 : Int))).1 < (List.length v5 : Int)) ∧ (0 ≤ (List.getD a1 (v4).toNat ((0 : Int), (0 : Int))).2 ∧ (List.getD a1 (v4).toNat ((0 : Int), (0 : Int))).2 < (List.length v5 : Int)) ∧ (ACall Try.prog 72 [.v (.c (.ls false (.num .i64) (List.getD v5 ((List.getD a1 (v4).toNat ((0 : Int), (0 : Int))).1).toNat ([] : List Int)))), .v (.c (.ls false (.num .i64) (List.getD v5 ((List.getD a1 (v4).toNat ((0 : Int), (0 : Int))).2).toNat ([] : List Int))))] [] [] (.v (.c (.ho 0))) [.vc 3 (.num .i64) v6]) ∧ ((List.length v5 + List.length ([v6] : List (List Int))) * 24 ≤ 140737488355328) ∧ True) (hs := [(11, { call := some { f := 72, casts := [.same, .same], r := .v (.c (.ho 0)), Hout := [.vc 3 (.num .i64) v6], ren := [144] } }), (12, { id := 145, frz := [144] }), (13, { id := 146 })]) (anc := [(3, [2]), (4, [1, 2, 3]), (5, [1, 2, 3, 4]), (8, [7]), (9, [6, 7, 8]), (10, [6, 7, 8, 9]), (11, [1, 2, 3, 4, 5, 6, 7, 8, 9, 10]), (12, [1, 2, 3, 4, 5, 6, 7, 8, 9, 10, 11]), (13, [0, 1, 2, 3, 4, 5, 6, 7, 8, 9, 10, 11, 12]), (14, [0, 1, 2, 3, 4, 5, 6, 7, 8, 9, 10, 11, 12, 13])]) (tch := [(11, [144]), (12, [144, 145]), (13, [146, 950])]) (gs := []) (rn := []) (l' := [(3, .v (.c (.ho 146))), (25, .v (.c (.ls false (.pr (.num .i64) (.num .i64)) a1))), (26, .v (.c (.int .i64 (List.length a1 : Int)))), (27, .v (.c (.int .i64 v4)))]) (h' := [(146, .vc 24 (.sl (.num .i64)) (v5 ++ ([v6] : List (List Int))))]) (by kernel_rfl) ⟨c0, c1, (F_s_plSum_ok ev6), c2, trivial⟩ ?_
          refine aw_region ttOK (C := True) (hs := []) (gs := []) (rn := [(146, 950)]) (l' := [(3, .v (.c (.ho 950))), (25, .v (.c (.ls false (.pr (.num .i64) (.num .i64)) a1))), (26, .v (.c (.int .i64 (List.length a1 : Int)))), (27, .v (.c (.int .i64 (IntKind.i64.wrap (v4 + (1 : Int))))))]) (h' := [(950, .vc 24 (.sl (.num .i64)) (v5 ++ ([v6] : List (List Int))))]) (by kernel_rfl) trivial ?_
          exact ⟨_, ((IntKind.i64.wrap (v4 + (1 : Int))), (v5 ++ ([v6] : List (List Int)))), Nat.lt_succ_self _, h, rfl, rfl⟩
        · rw [ite_f hb] at h
          refine aw_ghost (gs := []) (rn := []) (l' := [(3, .v (.c (.ho 950)))]) (h' := [(950, .vc 24 (.sl (.num .i64)) v5)]) (by kernel_rfl) ?_
          refine aw_exit ?_
          exact ⟨v5, h, rfl, rfl⟩
  · refine aw_seq ?_
    refine aw_region ttOK (C := True) (hs := []) (gs := []) (rn := []) (l' := [(1, .v (.c (.p 100 0))), (3, .v (.c (.nl))), (4, .v (.c (.int .i64 (0 : Int))))]) (h' := [(100, .bx [.int .i64 a0, .ls false (.pr (.num .i64) (.num .i64)) a1, .ls false (.num .i64) a2])]) (by kernel_rfl) trivial ?_
    refine aw_block ?_
    refine aw_ghost (gs := [.own 3 950 24 (.sl (.num .i64))]) (rn := []) (l' := [(1, .v (.c (.p 100 0))), (3, .v (.c (.ho 950))), (4, .v (.c (.int .i64 (0 : Int))))]) (h' := [(100, .bx [.int .i64 a0, .ls false (.pr (.num .i64) (.num .i64)) a1, .ls false (.num .i64) a2]), (950, .vc 24 (.sl (.num .i64)) ([] : List (List Int)))]) (by kernel_rfl) ?_
    refine aw_loopF (X := Int × List (List Int)) (fun x => ([(1, .v (.c (.p 100 0))), (3, .v (.c (.ho 950))), (4, .v (.c (.int .i64 x.1)))], [(100, .bx [.int .i64 a0, .ls false (.pr (.num .i64) (.num .i64)) a1, .ls false (.num .i64) a2]), (950, .vc 24 (.sl (.num .i64)) x.2)])) (fun n x => F_s_plExponentsL4 fu a0 a1 n x.1 x.2 = some r) fu ((0 : Int), ([] : List (List Int))) h ?_
    rintro n4 ⟨v3, v4⟩ h
    cases n4 with
    | zero => first | cases h | (rw [F_s_plExponentsL4] at h; cases h)
    | succ n4 =>
      rw [F_s_plExponentsL4] at h
      refine aw_seq ?_
      refine aw_seq ?_
      refine aw_region ttOK (C := True) (hs := []) (gs := []) (rn := []) (l' := [(1, .v (.c (.p 100 0))), (3, .v (.c (.ho 950))), (4, .v (.c (.int .i64 v3))), (11, .v (.c (.bool (decide (v3 < a0)))))]) (h' := [(100, .bx [.int .i64 a0, .ls false (.pr (.num .i64) (.num .i64)) a1, .ls false (.num .i64) a2]), (950, .vc 24 (.sl (.num .i64)) v4)]) (by kernel_rfl) trivial ?_
      refine aw_if (decide (v3 < a0)) (by kernel_rfl) (fun hb => ?_) (fun hb => ?_)
      · rw [ite_t hb] at h
        refine aw_ghost (gs := []) (rn := []) (l' := [(1, .v (.c (.p 100 0))), (3, .v (.c (.ho 950))), (4, .v (.c (.int .i64 v3)))]) (h' := [(100, .bx [.int .i64 a0, .ls false (.pr (.num .i64) (.num .i64)) a1, .ls false (.num .i64) a2]), (950, .vc 24 (.sl (.num .i64)) v4)]) (by kernel_rfl) ?_
        refine aw_skip ?_
        refine aw_seq ?_
        refine aw_block ?_
        refine aw_seq ?_
        obtain ⟨c0, h⟩ := chk_some h
        refine aw_region ttOK (C := (0 ≤ a0 ∧ a0 ≤ a0 ∧ a0 * (8 : Nat) ≤ 140737488355328) ∧ True) (hs := [(2, { id := 110 })]) (gs := []) (rn := []) (l' := [(1, .v (.c (.p 100 0))), (3, .v (.c (.ho 950))), (4, .v (.c (.int .i64 v3))), (5, .v (.c (.ho 110)))]) (h' := [(100, .bx [.int .i64 a0, .ls false (.pr (.num .i64) (.num .i64)) a1, .ls false (.num .i64) a2]), (110, .vc 3 (.num .i64) (List.replicate (a0).toNat (0 : Int))), (950, .vc 24 (.sl (.num .i64)) v4)]) (by kernel_rfl) ⟨c0, trivial⟩ ?_
        refine aw_seq ?_
        obtain ⟨c0, h⟩ := chk_some h
        refine aw_region ttOK (C := (0 ≤ v3 ∧ v3 < (List.length (List.replicate (a0).toNat (0 : Int)) : Int)) ∧ True) (hs := []) (gs := []) (rn := []) (l' := [(1, .v (.c (.p 100 0))), (3, .v (.c (.ho 950))), (4, .v (.c (.int .i64 v3))), (5, .v (.c (.ho 110)))]) (h' := [(100, .bx [.int .i64 a0, .ls false (.pr (.num .i64) (.num .i64)) a1, .ls false (.num .i64) a2]), (110, .vc 3 (.num .i64) (List.set (List.replicate (a0).toNat (0 : Int)) (v3).toNat (1 : Int))), (950, .vc 24 (.sl (.num .i64)) v4)]) (by kernel_rfl) ⟨c0, trivial⟩ ?_
        obtain ⟨c0, h⟩ := chk_some h
        refine aw_region ttOK (C := ((List.length v4 + List.length ([(List.set (List.replicate (a0).toNat (0 : Int)) (v3).toNat (1 : Int))] : List (List Int))) * 24 ≤ 140737488355328) ∧ True) (hs := [(2, { id := 118, frz := [110] }), (3, { id := 119 })]) (gs := []) (rn := []) (l' := [(1, .v (.c (.p 100 0))), (3, .v (.c (.ho 119))), (4, .v (.c (.int .i64 v3)))]) (h' := [(100, .bx [.int .i64 a0, .ls false (.pr (.num .i64) (.num .i64)) a1, .ls false (.num .i64) a2]), (119, .vc 24 (.sl (.num .i64)) (v4 ++ ([(List.set (List.replicate (a0).toNat (0 : Int)) (v3).toNat (1 : Int))] : List (List Int))))]) (by kernel_rfl) ⟨c0, trivial⟩ ?_
        refine aw_region ttOK (C := True) (hs := []) (gs := []) (rn := [(119, 950)]) (l' := [(1, .v (.c (.p 100 0))), (3, .v (.c (.ho 950))), (4, .v (.c (.int .i64 (IntKind.i64.wrap (v3 + (1 : Int))))))]) (h' := [(100, .bx [.int .i64 a0, .ls false (.pr (.num .i64) (.num .i64)) a1, .ls false (.num .i64) a2]), (950, .vc 24 (.sl (.num .i64)) (v4 ++ ([(List.set (List.replicate (a0).toNat (0 : Int)) (v3).toNat (1 : Int))] : List (List Int))))]) (by kernel_rfl) trivial ?_
        exact ⟨_, ((IntKind.i64.wrap (v3 + (1 : Int))), (v4 ++ ([(List.set (List.replicate (a0).toNat (0 : Int)) (v3).toNat (1 : Int))] : List (List Int)))), Nat.lt_succ_self _, h, rfl, rfl⟩
      · rw [ite_f hb] at h
        refine aw_ghost (gs := []) (rn := []) (l' := [(1, .v (.c (.p 100 0))), (3, .v (.c (.ho 950)))]) (h' := [(100, .bx [.int .i64 a0, .ls false (.pr (.num .i64) (.num .i64)) a1, .ls false (.num .i64) a2]), (950, .vc 24 (.sl (.num .i64)) v4)]) (by kernel_rfl) ?_
        refine aw_exit ?_
        exact ⟨v4, h, rfl, rfl⟩

theorem F_s_plGood_ok {fu : Nat} {a0 : Int} {a1 : List (Int × Int)} {a2 : List Int} {r : Bool} (h : F_s_plGood fu a0 a1 a2 = some r) :
    ACall Try.prog 44 [.v (.ag [.int .i64 a0, .ls false (.pr (.num .i64) (.num .i64)) a1, .ls false (.num .i64) a2])] [] [] (.v (.c (.bool r))) [] := by
  unfold F_s_plGood at h
  refine acall_of_aw ttOK Try.func44 (by kernel_rfl) (c := _) rfl (N := 68) (by kernel_rfl) (Nat.le_of_ble_eq_true rfl) ?_
  refine aw_seq ?_
  refine aw_region ttOK (C := True) (hs := [(0, { id := 100 })]) (gs := []) (rn := []) (l' := [(1, .v (.c (.p 100 0)))]) (h' := [(100, .bx [.int .i64 a0, .ls false (.pr (.num .i64) (.num .i64)) a1, .ls false (.num .i64) a2])]) (by kernel_rfl) trivial ?_
  refine aw_seq ?_
  refine aw_seq ?_
  obtain ⟨v1, ev1, h⟩ := bind_some h
  refine aw_region ttOK (C := (ACall Try.prog 37 [.v (.c (.int .i64 a0)), .v (.c (.int .i64 (1 : Int))), .v (.c (.int .i64 (6 : Int)))] [] [] (.v (.c (.bool v1))) []) ∧ (((!v1) == false) = true → ((!v1) == false) = true) ∧ (((!v1) == false) = true → ((!v1) == false) = true) ∧ (((!v1) == false) = true → ((!v1) == false) = true) ∧ ((!v1) = false → ((!v1) == false) = true) ∧ (((cond (!v1) true (decide ((List.length a1 : Int) > (40 : Int)))) == false) = true → ((cond (!v1) true (decide ((List.length a1 : Int) > (40 : Int)))) == false) = true) ∧ (((cond (!v1) true (decide ((List.length a1 : Int) > (40 : Int)))) == false) = true → ((cond (!v1) true (decide ((List.length a1 : Int) > (40 : Int)))) == false) = true) ∧ (((cond (!v1) true (decide ((List.length a1 : Int) > (40 : Int)))) == false) = true → ((cond (!v1) true (decide ((List.length a1 : Int) > (40 : Int)))) == false) = true) ∧ ((cond (!v1) true (decide ((List.length a1 : Int) > (40 : Int)))) = false → ((cond (!v1) true (decide ((List.length a1 : Int) > (40 : Int)))) == false) = true) ∧ True) (hs := [(2, { call := some { f := 37, casts := [.same, .same, .same], r := .v (.c (.bool v1)) } })]) (gs := []) (rn := []) (l' := [(1, .v (.c (.p 100 0))), (22, .v (.c (.bool (cond (cond (!v1) true (decide ((List.length a1 : Int) > (40 : Int)))) true (decide ((List.length a2 : Int) > (6 : Int)))))))]) (h' := [(100, .bx [.int .i64 a0, .ls false (.pr (.num .i64) (.num .i64)) a1, .ls false (.num .i64) a2])]) (by kernel_rfl) ⟨(F_s_l1In_ok ev1), (fun h => h), (fun h => h), (fun h => h), (fun h => beq_iff_eq.2 h), (fun h => h), (fun h => h), (fun h => h), (fun h => beq_iff_eq.2 h), trivial⟩ ?_
  refine aw_if (cond (cond (!v1) true (decide ((List.length a1 : Int) > (40 : Int)))) true (decide ((List.length a2 : Int) > (6 : Int)))) (by kernel_rfl) (fun hb => ?_) (fun hb => ?_)
  · rw [ite_t hb] at h
    refine aw_seq ?_
    refine aw_region ttOK (C := True) (hs := []) (gs := []) (rn := []) (l' := [(2, .v (.c (.bool false)))]) (h' := []) (by kernel_rfl) trivial ?_
    refine aw_ghost (gs := []) (rn := []) (l' := [(2, .v (.c (.bool false)))]) (h' := []) (by kernel_rfl) ?_
    refine aw_ret (ret_ok [] ?_)
    cases h
    kernel_rfl
  · rw [ite_f hb] at h
    refine aw_ghost (gs := []) (rn := []) (l' := [(1, .v (.c (.p 100 0)))]) (h' := [(100, .bx [.int .i64 a0, .ls false (.pr (.num .i64) (.num .i64)) a1, .ls false (.num .i64) a2])]) (by kernel_rfl) ?_
    refine aw_skip ?_
    refine aw_join (X := Unit) (fun x => ([(1, .v (.c (.p 100 0)))], [(100, .bx [.int .i64 a0, .ls false (.pr (.num .i64) (.num .i64)) a1, .ls false (.num .i64) a2])])) (fun x => F_s_plGoodJ1 fu a0 a1 a2 = some r) ?_ ?_
    · rintro _ h
      unfold F_s_plGoodJ1 at h
      refine aw_join (X := Unit) (fun x => ([(1, .v (.c (.p 100 0)))], [(100, .bx [.int .i64 a0, .ls false (.pr (.num .i64) (.num .i64)) a1, .ls false (.num .i64) a2])])) (fun x => F_s_plGoodJ2 fu a2 a0 a1 = some r) ?_ ?_
      · rintro _ h
        unfold F_s_plGoodJ2 at h
        refine aw_seq ?_
        obtain ⟨v2, ev2, h⟩ := bind_some h
        refine aw_region ttOK (C := (ACall Try.prog 38 [.v (.c (.ls false (.num .i64) a2)), .v (.c (.int .i64 (0 : Int))), .v (.c (.int .i64 (IntKind.i64.wrap ((IntKind.i64.wrap (a0 + (List.length a1 : Int))) - (1 : Int)))))] [] [] (.v (.c (.bool v2))) []) ∧ True) (hs := [(9, { call := some { f := 38, casts := [.same, .same, .same], r := .v (.c (.bool v2)) } })]) (gs := []) (rn := []) (l' := [(2, .v (.c (.bool v2)))]) (h' := []) (by kernel_rfl) ⟨(F_s_l1All_ok ev2), trivial⟩ ?_
        refine aw_ghost (gs := []) (rn := []) (l' := [(2, .v (.c (.bool v2)))]) (h' := []) (by kernel_rfl) ?_
        refine aw_ret (ret_ok [] ?_)
        cases h
        kernel_rfl
      · refine aw_seq ?_
        obtain ⟨v2, ev2, h⟩ := bind_some h
        refine aw_region ttOK (C := (ACall Try.prog 63 [.v (.ag [.int .i64 a0, .ls false (.pr (.num .i64) (.num .i64)) a1, .ls false (.num .i64) a2])] [] [] (.v (.c (.ho 0))) [.vc 24 (.sl (.num .i64)) v2]) ∧ True) (hs := [(1, { call := some { f := 63, casts := [.same], r := .v (.c (.ho 0)), Hout := [.vc 24 (.sl (.num .i64)) v2], ren := [144] } })]) (gs := []) (rn := []) (l' := [(1, .v (.c (.p 100 0))), (48, .v (.c (.ho 144))), (49, .v (.c (.int .i64 (List.length v2 : Int)))), (50, .v (.c (.int .i64 (0 : Int))))]) (h' := [(100, .bx [.int .i64 a0, .ls false (.pr (.num .i64) (.num .i64)) a1, .ls false (.num .i64) a2]), (144, .vc 24 (.sl (.num .i64)) v2)]) (by kernel_rfl) ⟨(F_s_plExponents_ok ev2), trivial⟩ ?_
        refine aw_block ?_
        refine aw_loopF (X := Int) (fun x => ([(1, .v (.c (.p 100 0))), (48, .v (.c (.ho 144))), (49, .v (.c (.int .i64 (List.length v2 : Int)))), (50, .v (.c (.int .i64 x)))], [(100, .bx [.int .i64 a0, .ls false (.pr (.num .i64) (.num .i64)) a1, .ls false (.num .i64) a2]), (144, .vc 24 (.sl (.num .i64)) v2)])) (fun n x => F_s_plGoodL3 fu v2 a2 a0 a1 n x = some r) fu (0 : Int) h ?_
        rintro n3 v4 h
        cases n3 with
        | zero => first | cases h | (rw [F_s_plGoodL3] at h; cases h)
        | succ n3 =>
          rw [F_s_plGoodL3] at h
          refine aw_seq ?_
          refine aw_region ttOK (C := True) (hs := []) (gs := []) (rn := []) (l' := [(1, .v (.c (.p 100 0))), (48, .v (.c (.ho 144))), (49, .v (.c (.int .i64 (List.length v2 : Int)))), (50, .v (.c (.int .i64 v4))), (51, .v (.c (.bool (decide (v4 < (List.length v2 : Int))))))]) (h' := [(100, .bx [.int .i64 a0, .ls false (.pr (.num .i64) (.num .i64)) a1, .ls false (.num .i64) a2]), (144, .vc 24 (.sl (.num .i64)) v2)]) (by kernel_rfl) trivial ?_
          refine aw_seq ?_
          refine aw_if (decide (v4 < (List.length v2 : Int))) (by kernel_rfl) (fun hb => ?_) (fun hb => ?_)
          · rw [ite_t hb] at h
            refine aw_ghost (gs := []) (rn := []) (l' := [(1, .v (.c (.p 100 0))), (48, .v (.c (.ho 144))), (49, .v (.c (.int .i64 (List.length v2 : Int)))), (50, .v (.c (.int .i64 v4)))]) (h' := [(100, .bx [.int .i64 a0, .ls false (.pr (.num .i64) (.num .i64)) a1, .ls false (.num .i64) a2]), (144, .vc 24 (.sl (.num .i64)) v2)]) (by kernel_rfl) ?_
            refine aw_skip ?_
            refine aw_seq ?_
            refine aw_block ?_
            refine aw_seq ?_
            obtain ⟨c0, h⟩ := chk_some h
            refine aw_region ttOK (C := (0 ≤ v4 ∧ v4 < (List.length v2 : Int)) ∧ True) (hs := []) (gs := []) (rn := []) (l' := [(1, .v (.c (.p 100 0))), (6, .v (.c (.ls false (.num .i64) (List.getD v2 (v4).toNat ([] : List Int))))), (48, .v (.c (.ho 144))), (49, .v (.c (.int .i64 (List.length v2 : Int)))), (50, .v (.c (.int .i64 v4)))]) (h' := [(100, .bx [.int .i64 a0, .ls false (.pr (.num .i64) (.num .i64)) a1, .ls false (.num .i64) a2]), (144, .vc 24 (.sl (.num .i64)) v2)]) (by kernel_rfl) ⟨c0, trivial⟩ ?_
            refine aw_seq ?_
            obtain ⟨v5, ev5, h⟩ := bind_some h
            refine aw_region ttOK (C := (ACall Try.prog 38 [.v (.c (.ls false (.num .i64) (List.getD v2 (v4).toNat ([] : List Int)))), .v (.c (.int .i64 (0 : Int))), .v (.c (.int .i64 (1000000 : Int)))] [] [] (.v (.c (.bool v5))) []) ∧ True) (hs := [(1, { call := some { f := 38, casts := [.same, .same, .same], r := .v (.c (.bool v5)) } })]) (gs := []) (rn := []) (l' := [(1, .v (.c (.p 100 0))), (48, .v (.c (.ho 144))), (49, .v (.c (.int .i64 (List.length v2 : Int)))), (50, .v (.c (.int .i64 v4))), (56, .v (.c (.bool (!v5))))]) (h' := [(100, .bx [.int .i64 a0, .ls false (.pr (.num .i64) (.num .i64)) a1, .ls false (.num .i64) a2]), (144, .vc 24 (.sl (.num .i64)) v2)]) (by kernel_rfl) ⟨(F_s_l1All_ok ev5), trivial⟩ ?_
            refine aw_if (!v5) (by kernel_rfl) (fun hb => ?_) (fun hb => ?_)
            · rw [ite_t hb] at h
              refine aw_seq ?_
              refine aw_region ttOK (C := True) (hs := []) (gs := []) (rn := []) (l' := [(2, .v (.c (.bool false)))]) (h' := []) (by kernel_rfl) trivial ?_
              refine aw_ghost (gs := []) (rn := []) (l' := [(2, .v (.c (.bool false)))]) (h' := []) (by kernel_rfl) ?_
              refine aw_ret (ret_ok [] ?_)
              cases h
              kernel_rfl
            · rw [ite_f hb] at h
              refine aw_ghost (gs := []) (rn := []) (l' := [(1, .v (.c (.p 100 0))), (48, .v (.c (.ho 144))), (49, .v (.c (.int .i64 (List.length v2 : Int)))), (50, .v (.c (.int .i64 v4)))]) (h' := [(100, .bx [.int .i64 a0, .ls false (.pr (.num .i64) (.num .i64)) a1, .ls false (.num .i64) a2]), (144, .vc 24 (.sl (.num .i64)) v2)]) (by kernel_rfl) ?_
              refine aw_skip ?_
              refine aw_region ttOK (C := True) (hs := []) (gs := []) (rn := []) (l' := [(1, .v (.c (.p 100 0))), (48, .v (.c (.ho 144))), (49, .v (.c (.int .i64 (List.length v2 : Int)))), (50, .v (.c (.int .i64 (IntKind.i64.wrap (v4 + (1 : Int))))))]) (h' := [(100, .bx [.int .i64 a0, .ls false (.pr (.num .i64) (.num .i64)) a1, .ls false (.num .i64) a2]), (144, .vc 24 (.sl (.num .i64)) v2)]) (by kernel_rfl) trivial ?_
              exact ⟨_, (IntKind.i64.wrap (v4 + (1 : Int))), Nat.lt_succ_self _, h, rfl, rfl⟩
          · rw [ite_f hb] at h
            refine aw_ghost (gs := []) (rn := []) (l' := [(1, .v (.c (.p 100 0)))]) (h' := [(100, .bx [.int .i64 a0, .ls false (.pr (.num .i64) (.num .i64)) a1, .ls false (.num .i64) a2])]) (by kernel_rfl) ?_
            refine aw_exit ?_
            exact ⟨(), h, rfl, rfl⟩
    · refine aw_seq ?_
      refine aw_region ttOK (C := True) (hs := []) (gs := []) (rn := []) (l' := [(1, .v (.c (.p 100 0))), (24, .v (.c (.ls false (.pr (.num .i64) (.num .i64)) a1))), (25, .v (.c (.int .i64 (List.length a1 : Int)))), (26, .v (.c (.int .i64 (0 : Int))))]) (h' := [(100, .bx [.int .i64 a0, .ls false (.pr (.num .i64) (.num .i64)) a1, .ls false (.num .i64) a2])]) (by kernel_rfl) trivial ?_
      refine aw_block ?_
      refine aw_loopF (X := Int) (fun x => ([(1, .v (.c (.p 100 0))), (24, .v (.c (.ls false (.pr (.num .i64) (.num .i64)) a1))), (25, .v (.c (.int .i64 (List.length a1 : Int)))), (26, .v (.c (.int .i64 x)))], [(100, .bx [.int .i64 a0, .ls false (.pr (.num .i64) (.num .i64)) a1, .ls false (.num .i64) a2])])) (fun n x => F_s_plGoodL4 fu a1 a0 a2 n x = some r) fu (0 : Int) h ?_
      rintro n4 v3 h
      cases n4 with
      | zero => first | cases h | (rw [F_s_plGoodL4] at h; cases h)
      | succ n4 =>
        rw [F_s_plGoodL4] at h
        refine aw_seq ?_
        refine aw_region ttOK (C := True) (hs := []) (gs := []) (rn := []) (l' := [(1, .v (.c (.p 100 0))), (24, .v (.c (.ls false (.pr (.num .i64) (.num .i64)) a1))), (25, .v (.c (.int .i64 (List.length a1 : Int)))), (26, .v (.c (.int .i64 v3))), (27, .v (.c (.bool (decide (v3 < (List.length a1 : Int))))))]) (h' := [(100, .bx [.int .i64 a0, .ls false (.pr (.num .i64) (.num .i64)) a1, .ls false (.num .i64) a2])]) (by kernel_rfl) trivial ?_
        refine aw_seq ?_
        refine aw_if (decide (v3 < (List.length a1 : Int))) (by kernel_rfl) (fun hb => ?_) (fun hb => ?_)
        · rw [ite_t hb] at h
          refine aw_ghost (gs := []) (rn := []) (l' := [(1, .v (.c (.p 100 0))), (24, .v (.c (.ls false (.pr (.num .i64) (.num .i64)) a1))), (25, .v (.c (.int .i64 (List.length a1 : Int)))), (26, .v (.c (.int .i64 v3)))]) (h' := [(100, .bx [.int .i64 a0, .ls false (.pr (.num .i64) (.num .i64)) a1, .ls false (.num .i64) a2])]) (by kernel_rfl) ?_
          refine aw_skip ?_
          refine aw_seq ?_
          refine aw_block ?_
          refine aw_seq ?_
          obtain ⟨c0, h⟩ := chk_some h
          refine aw_region ttOK (C := (0 ≤ v3 ∧ v3 < (List.length a1 : Int)) ∧ True) (hs := [(3, { id := 124 })]) (gs := []) (rn := []) (l' := [(1, .v (.c (.p 100 0))), (3, .v (.c (.int .i64 v3))), (4, .v (.c (.p 124 0))), (24, .v (.c (.ls false (.pr (.num .i64) (.num .i64)) a1))), (25, .v (.c (.int .i64 (List.length a1 : Int)))), (26, .v (.c (.int .i64 v3)))]) (h' := [(100, .bx [.int .i64 a0, .ls false (.pr (.num .i64) (.num .i64)) a1, .ls false (.num .i64) a2]), (124, .bx [.int .i64 (List.getD a1 (v3).toNat ((0 : Int), (0 : Int))).1, .int .i64 (List.getD a1 (v3).toNat ((0 : Int), (0 : Int))).2])]) (by kernel_rfl) ⟨c0, trivial⟩ ?_
          refine aw_seq ?_
          obtain ⟨v4, ev4, h⟩ := bind_some h
          refine aw_region ttOK (C := (ACall Try.prog 37 [.v (.c (.int .i64 (List.getD a1 (v3).toNat ((0 : Int), (0 : Int))).1)), .v (.c (.int .i64 (0 : Int))), .v (.c (.int .i64 (List.getD a1 (v3).toNat ((0 : Int), (0 : Int))).2))] [] [] (.v (.c (.bool v4))) []) ∧ (((!v4) == false) = true → ((!v4) == false) = true) ∧ (((!v4) == false) = true → ((!v4) == false) = true) ∧ (((!v4) == false) = true → ((!v4) == false) = true) ∧ (((!v4) == false) = true → ((!v4) == false) = true) ∧ (((!v4) == false) = true → ((!v4) == false) = true) ∧ (((!v4) == false) = true → ((!v4) == false) = true) ∧ ((!v4) = false → ((!v4) == false) = true) ∧ True) (hs := [(4, { call := some { f := 37, casts := [.same, .same, .same], r := .v (.c (.bool v4)) } })]) (gs := []) (rn := []) (l' := [(1, .v (.c (.p 100 0))), (24, .v (.c (.ls false (.pr (.num .i64) (.num .i64)) a1))), (25, .v (.c (.int .i64 (List.length a1 : Int)))), (26, .v (.c (.int .i64 v3))), (45, .v (.c (.bool (cond (!v4) true (decide ((List.getD a1 (v3).toNat ((0 : Int), (0 : Int))).2 ≥ (IntKind.i64.wrap (a0 + v3))))))))]) (h' := [(100, .bx [.int .i64 a0, .ls false (.pr (.num .i64) (.num .i64)) a1, .ls false (.num .i64) a2])]) (by kernel_rfl) ⟨(F_s_l1In_ok ev4), (fun h => h), (fun h => h), (fun h => h), (fun h => h), (fun h => h), (fun h => h), (fun h => beq_iff_eq.2 h), trivial⟩ ?_
          refine aw_if (cond (!v4) true (decide ((List.getD a1 (v3).toNat ((0 : Int), (0 : Int))).2 ≥ (IntKind.i64.wrap (a0 + v3))))) (by kernel_rfl) (fun hb => ?_) (fun hb => ?_)
          · rw [ite_t hb] at h
            refine aw_seq ?_
            refine aw_region ttOK (C := True) (hs := []) (gs := []) (rn := []) (l' := [(2, .v (.c (.bool false)))]) (h' := []) (by kernel_rfl) trivial ?_
            refine aw_ghost (gs := []) (rn := []) (l' := [(2, .v (.c (.bool false)))]) (h' := []) (by kernel_rfl) ?_
            refine aw_ret (ret_ok [] ?_)
            cases h
            kernel_rfl
          · rw [ite_f hb] at h
            refine aw_ghost (gs := []) (rn := []) (l' := [(1, .v (.c (.p 100 0))), (24, .v (.c (.ls false (.pr (.num .i64) (.num .i64)) a1))), (25, .v (.c (.int .i64 (List.length a1 : Int)))), (26, .v (.c (.int .i64 v3)))]) (h' := [(100, .bx [.int .i64 a0, .ls false (.pr (.num .i64) (.num .i64)) a1, .ls false (.num .i64) a2])]) (by kernel_rfl) ?_
            refine aw_skip ?_
            refine aw_region ttOK (C := True) (hs := []) (gs := []) (rn := []) (l' := [(1, .v (.c (.p 100 0))), (24, .v (.c (.ls false (.pr (.num .i64) (.num .i64)) a1))), (25, .v (.c (.int .i64 (List.length a1 : Int)))), (26, .v (.c (.int .i64 (IntKind.i64.wrap (v3 + (1 : Int))))))]) (h' := [(100, .bx [.int .i64 a0, .ls false (.pr (.num .i64) (.num .i64)) a1, .ls false (.num .i64) a2])]) (by kernel_rfl) trivial ?_
            exact ⟨_, (IntKind.i64.wrap (v3 + (1 : Int))), Nat.lt_succ_self _, h, rfl, rfl⟩
        · rw [ite_f hb] at h
          refine aw_ghost (gs := []) (rn := []) (l' := [(1, .v (.c (.p 100 0)))]) (h' := [(100, .bx [.int .i64 a0, .ls false (.pr (.num .i64) (.num .i64)) a1, .ls false (.num .i64) a2])]) (by kernel_rfl) ?_
          refine aw_exit ?_
          exact ⟨(), h, rfl, rfl⟩

theorem F_s_plIf_ok {fu : Nat} {a0 : Int} {a1 : List (Int × Int)} {a2 : List Int} {r : Bool × Int × List (Int × Int) × List Int} (h : F_s_plIf fu a0 a1 a2 = some r) :
    ACall Try.prog 43 [.v (.ag [.int .i64 a0, .ls false (.pr (.num .i64) (.num .i64)) a1, .ls false (.num .i64) a2])] [] [] (.tu [.ag [.int .i64 r.2.1, .ls false (.pr (.num .i64) (.num .i64)) r.2.2.1, .ls false (.num .i64) r.2.2.2], .c (.bool r.1)]) [] := by
  unfold F_s_plIf at h
  refine acall_of_aw ttOK Try.func43 (by kernel_rfl) (c := _) rfl (N := 9) (by kernel_rfl) (Nat.le_of_ble_eq_true rfl) ?_
  refine aw_seq ?_
  refine aw_region ttOK (C := True) (hs := [(0, { id := 100 }), (1, { id := 101 })]) (gs := []) (rn := []) (l' := [(1, .v (.c (.p 100 0))), (2, .v (.c (.p 101 0)))]) (h' := [(100, .bx [.int .i64 a0, .ls false (.pr (.num .i64) (.num .i64)) a1, .ls false (.num .i64) a2]), (101, .bx [.int .i64 (0 : Int), .nl, .nl])]) (by kernel_rfl) trivial ?_
  refine aw_seq ?_
  refine aw_seq ?_
  obtain ⟨v1, ev1, h⟩ := bind_some h
  refine aw_region ttOK (C := (ACall Try.prog 44 [.v (.ag [.int .i64 a0, .ls false (.pr (.num .i64) (.num .i64)) a1, .ls false (.num .i64) a2])] [] [] (.v (.c (.bool v1))) []) ∧ True) (hs := [(1, { call := some { f := 44, casts := [.same], r := .v (.c (.bool v1)) } })]) (gs := []) (rn := []) (l' := [(1, .v (.c (.p 100 0))), (2, .v (.c (.p 101 0))), (6, .v (.c (.bool (!v1))))]) (h' := [(100, .bx [.int .i64 a0, .ls false (.pr (.num .i64) (.num .i64)) a1, .ls false (.num .i64) a2]), (101, .bx [.int .i64 (0 : Int), .nl, .nl])]) (by kernel_rfl) ⟨(F_s_plGood_ok ev1), trivial⟩ ?_
  refine aw_if (!v1) (by kernel_rfl) (fun hb => ?_) (fun hb => ?_)
  · rw [ite_t hb] at h
    refine aw_seq ?_
    refine aw_region ttOK (C := True) (hs := []) (gs := []) (rn := []) (l' := [(2, .v (.c (.p 101 0))), (3, .v (.c (.bool false)))]) (h' := [(101, .bx [.int .i64 (0 : Int), .nl, .nl])]) (by kernel_rfl) trivial ?_
    refine aw_ghost (gs := [.cnil 101 1 (.pr (.num .i64) (.num .i64)), .cview 101 1, .cnil 101 2 (.num .i64), .cview 101 2]) (rn := []) (l' := [(2, .v (.c (.p 101 0))), (3, .v (.c (.bool false)))]) (h' := [(101, .bx [.int .i64 (0 : Int), .ls false (.pr (.num .i64) (.num .i64)) ([] : List (Int × Int)), .ls false (.num .i64) ([] : List Int)])]) (by kernel_rfl) ?_
    refine aw_ret (ret_ok [] ?_)
    cases h
    kernel_rfl
  · rw [ite_f hb] at h
    refine aw_ghost (gs := []) (rn := []) (l' := [(1, .v (.c (.p 100 0))), (2, .v (.c (.p 101 0)))]) (h' := [(100, .bx [.int .i64 a0, .ls false (.pr (.num .i64) (.num .i64)) a1, .ls false (.num .i64) a2]), (101, .bx [.int .i64 (0 : Int), .nl, .nl])]) (by kernel_rfl) ?_
    refine aw_skip ?_
    refine aw_seq ?_
    refine aw_region ttOK (C := True) (hs := []) (gs := []) (rn := []) (l' := [(2, .v (.c (.p 101 0))), (3, .v (.c (.bool true)))]) (h' := [(101, .bx [.int .i64 a0, .ls false (.pr (.num .i64) (.num .i64)) a1, .ls false (.num .i64) a2])]) (by kernel_rfl) trivial ?_
    refine aw_ghost (gs := []) (rn := []) (l' := [(2, .v (.c (.p 101 0))), (3, .v (.c (.bool true)))]) (h' := [(101, .bx [.int .i64 a0, .ls false (.pr (.num .i64) (.num .i64)) a1, .ls false (.num .i64) a2])]) (by kernel_rfl) ?_
    refine aw_ret (ret_ok [] ?_)
    cases h
    kernel_rfl

theorem F_s_SquaresPlan_ok {fu : Nat} {a0 : List Int} {r : Bool × Int × List (Int × Int) × List Int} (h : F_s_SquaresPlan fu a0 = some r) :
    ACall Try.prog 16 [.v (.c (.ls false (.num .i64) a0))] [] [] (.tu [.ag [.int .i64 r.2.1, .ls false (.pr (.num .i64) (.num .i64)) r.2.2.1, .ls false (.num .i64) r.2.2.2], .c (.bool r.1)]) [] := by
  unfold F_s_SquaresPlan at h
  refine acall_of_aw ttOK Try.func16 (by kernel_rfl) (c := _) rfl (N := 81) (by kernel_rfl) (Nat.le_of_ble_eq_true rfl) ?_
  refine aw_seq ?_
  refine aw_region ttOK (C := True) (hs := [(0, { id := 100 })]) (gs := []) (rn := []) (l' := [(0, .v (.c (.ls false (.num .i64) a0))), (2, .v (.c (.p 100 0)))]) (h' := [(100, .bx [.int .i64 (0 : Int), .nl, .nl])]) (by kernel_rfl) trivial ?_
  refine aw_seq ?_
  refine aw_seq ?_
  obtain ⟨v1, ev1, h⟩ := bind_some h
  obtain ⟨v2, ev2, h⟩ := bind_some h
  refine aw_region ttOK (C := (ACall Try.prog 37 [.v (.c (.int .i64 (List.length a0 : Int))), .v (.c (.int .i64 (1 : Int))), .v (.c (.int .i64 (6 : Int)))] [] [] (.v (.c (.bool v1))) []) ∧ (((!v1) == false) = true → ((!v1) == false) = true) ∧ (((!v1) == false) = true → ACall Try.prog 38 [.v (.c (.ls false (.num .i64) a0)), .v (.c (.int .i64 (1 : Int))), .v (.c (.int .i64 (1000000 : Int)))] [] [] (.v (.c (.bool v2))) []) ∧ (((!v1) == false) = true → ((!v1) == false) = true) ∧ ((!v1) = false → ((!v1) == false) = true) ∧ True) (hs := [(2, { call := some { f := 37, casts := [.same, .same, .same], r := .v (.c (.bool v1)) } }), (6, { call := some { f := 38, casts := [.same, .same, .same], r := .v (.c (.bool v2)) } })]) (gs := []) (rn := []) (l' := [(0, .v (.c (.ls false (.num .i64) a0))), (2, .v (.c (.p 100 0))), (20, .v (.c (.bool (cond (!v1) true (!v2)))))]) (h' := [(100, .bx [.int .i64 (0 : Int), .nl, .nl])]) (by kernel_rfl) ⟨(F_s_l1In_ok ev1), (fun h => h), (fun hg => (F_s_l1All_ok (gcl_some ev2 hg))), (fun h => h), (fun h => beq_iff_eq.2 h), trivial⟩ ?_
  refine aw_if (cond (!v1) true (!v2)) (by kernel_rfl) (fun hb => ?_) (fun hb => ?_)
  · rw [ite_t hb] at h
    refine aw_seq ?_
    refine aw_region ttOK (C := True) (hs := []) (gs := []) (rn := []) (l' := [(2, .v (.c (.p 100 0))), (3, .v (.c (.bool false)))]) (h' := [(100, .bx [.int .i64 (0 : Int), .nl, .nl])]) (by kernel_rfl) trivial ?_
    refine aw_ghost (gs := [.cnil 100 1 (.pr (.num .i64) (.num .i64)), .cview 100 1, .cnil 100 2 (.num .i64), .cview 100 2]) (rn := []) (l' := [(2, .v (.c (.p 100 0))), (3, .v (.c (.bool false)))]) (h' := [(100, .bx [.int .i64 (0 : Int), .ls false (.pr (.num .i64) (.num .i64)) ([] : List (Int × Int)), .ls false (.num .i64) ([] : List Int)])]) (by kernel_rfl) ?_
    refine aw_ret (ret_ok [] ?_)
    cases h
    kernel_rfl
  · rw [ite_f hb] at h
    refine aw_ghost (gs := []) (rn := []) (l' := [(0, .v (.c (.ls false (.num .i64) a0))), (2, .v (.c (.p 100 0)))]) (h' := [(100, .bx [.int .i64 (0 : Int), .nl, .nl])]) (by kernel_rfl) ?_
    refine aw_skip ?_
    refine aw_seq ?_
    refine aw_region ttOK (C := True) (hs := [(1, { id := 112 })]) (gs := []) (rn := []) (l' := [(0, .v (.c (.ls false (.num .i64) a0))), (2, .v (.c (.p 100 0))), (4, .v (.c (.p 112 0)))]) (h' := [(100, .bx [.int .i64 (0 : Int), .nl, .nl]), (112, .bx [.int .i64 (1 : Int), .nl, .nl])]) (by kernel_rfl) trivial ?_
    refine aw_join (X := Int × Int × List (Int × Int)) (fun x => ([(0, .v (.c (.ls false (.num .i64) a0))), (2, .v (.c (.p 100 0))), (4, .v (.c (.p 112 0)))], [(100, .bx [.int .i64 x.1, .nl, .nl]), (112, .bx [.int .i64 x.2.1, .ls false (.pr (.num .i64) (.num .i64)) x.2.2, .nl])])) (fun x => F_s_SquaresPlanJ1 fu a0 x.1 x.2.1 x.2.2 = some r) ?_ ?_
    · rintro ⟨v3, v4, v5⟩ h
      unfold F_s_SquaresPlanJ1 at h
      refine aw_seq ?_
      refine aw_region ttOK (C := True) (hs := []) (gs := []) (rn := []) (l' := [(0, .v (.c (.ls false (.num .i64) a0))), (2, .v (.c (.p 100 0))), (4, .v (.c (.p 112 0))), (6, .v (.c (.nl)))]) (h' := [(100, .bx [.int .i64 v3, .nl, .nl]), (112, .bx [.int .i64 v4, .ls false (.pr (.num .i64) (.num .i64)) v5, .nl])]) (by kernel_rfl) trivial ?_
      refine aw_join (X := Int × Int × List (Int × Int) × List Int) (fun x => ([(2, .v (.c (.p 100 0))), (4, .v (.c (.p 112 0))), (6, .v (.c (.ho 950)))], [(100, .bx [.int .i64 x.1, .nl, .nl]), (112, .bx [.int .i64 x.2.1, .ls false (.pr (.num .i64) (.num .i64)) x.2.2.1, .nl]), (950, .vc 3 (.num .i64) x.2.2.2)])) (fun x => F_s_SquaresPlanJ2 fu x.1 x.2.1 x.2.2.1 x.2.2.2 = some r) ?_ ?_
      · rintro ⟨v6, v7, v8, v9⟩ h
        unfold F_s_SquaresPlanJ2 at h
        refine aw_seq ?_
        refine aw_region ttOK (C := True) (hs := []) (gs := []) (rn := []) (l' := [(2, .v (.c (.p 100 0))), (4, .v (.c (.p 112 0)))]) (h' := [(100, .bx [.int .i64 v6, .nl, .nl]), (112, .bx [.int .i64 v7, .ls false (.pr (.num .i64) (.num .i64)) v8, .ho 950]), (950, .vc 3 (.num .i64) v9)]) (by kernel_rfl) trivial ?_
        refine aw_seq ?_
        obtain ⟨v11, ev11, h⟩ := bind_some h
        refine aw_region ttOK (C := (ACall Try.prog 43 [.v (.ag [.int .i64 v7, .ls false (.pr (.num .i64) (.num .i64)) v8, .ls false (.num .i64) v9])] [] [] (.tu [.ag [.int .i64 v11.2.1, .ls false (.pr (.num .i64) (.num .i64)) v11.2.2.1, .ls false (.num .i64) v11.2.2.2], .c (.bool v11.1)]) []) ∧ True) (hs := [(1, { call := some { f := 43, casts := [.ags [.same, .same, .view]], r := .tu [.ag [.int .i64 v11.2.1, .ls false (.pr (.num .i64) (.num .i64)) v11.2.2.1, .ls false (.num .i64) v11.2.2.2], .c (.bool v11.1)] }, frz := [950] })]) (gs := []) (rn := []) (l' := [(2, .v (.c (.p 100 0))), (3, .v (.c (.bool v11.1)))]) (h' := [(100, .bx [.int .i64 v11.2.1, .ls false (.pr (.num .i64) (.num .i64)) v11.2.2.1, .ls false (.num .i64) v11.2.2.2])]) (by kernel_rfl) ⟨(F_s_plIf_ok ev11), trivial⟩ ?_
        refine aw_ghost (gs := []) (rn := []) (l' := [(2, .v (.c (.p 100 0))), (3, .v (.c (.bool v11.1)))]) (h' := [(100, .bx [.int .i64 v11.2.1, .ls false (.pr (.num .i64) (.num .i64)) v11.2.2.1, .ls false (.num .i64) v11.2.2.2])]) (by kernel_rfl) ?_
        refine aw_ret (ret_ok [] ?_)
        cases h
        kernel_rfl
      · refine aw_seq ?_
        refine aw_region ttOK (C := True) (hs := []) (gs := []) (rn := []) (l' := [(2, .v (.c (.p 100 0))), (4, .v (.c (.p 112 0))), (6, .v (.c (.nl))), (39, .v (.c (.ls false (.num .i64) a0))), (40, .v (.c (.int .i64 (List.length a0 : Int)))), (41, .v (.c (.int .i64 (0 : Int))))]) (h' := [(100, .bx [.int .i64 v3, .nl, .nl]), (112, .bx [.int .i64 v4, .ls false (.pr (.num .i64) (.num .i64)) v5, .nl])]) (by kernel_rfl) trivial ?_
        refine aw_block ?_
        refine aw_ghost (gs := [.own 6 950 3 (.num .i64)]) (rn := []) (l' := [(2, .v (.c (.p 100 0))), (4, .v (.c (.p 112 0))), (6, .v (.c (.ho 950))), (39, .v (.c (.ls false (.num .i64) a0))), (40, .v (.c (.int .i64 (List.length a0 : Int)))), (41, .v (.c (.int .i64 (0 : Int))))]) (h' := [(100, .bx [.int .i64 v3, .nl, .nl]), (112, .bx [.int .i64 v4, .ls false (.pr (.num .i64) (.num .i64)) v5, .nl]), (950, .vc 3 (.num .i64) ([] : List Int))]) (by kernel_rfl) ?_
        refine aw_loopF (X := Int × Int × Int × Int × List (Int × Int) × List Int) (fun x => ([(2, .v (.c (.p 100 0))), (4, .v (.c (.p 112 0))), (6, .v (.c (.ho 950))), (39, .v (.c (.ls false (.num .i64) a0))), (40, .v (.c (.int .i64 x.1))), (41, .v (.c (.int .i64 x.2.1)))], [(100, .bx [.int .i64 x.2.2.1, .nl, .nl]), (112, .bx [.int .i64 x.2.2.2.1, .ls false (.pr (.num .i64) (.num .i64)) x.2.2.2.2.1, .nl]), (950, .vc 3 (.num .i64) x.2.2.2.2.2)])) (fun n x => F_s_SquaresPlanL3 fu a0 n x.1 x.2.1 x.2.2.1 x.2.2.2.1 x.2.2.2.2.1 x.2.2.2.2.2 = some r) fu ((List.length a0 : Int), (0 : Int), v3, v4, v5, ([] : List Int)) h ?_
        rintro n3 ⟨v12, v13, v14, v15, v16, v17⟩ h
        cases n3 with
        | zero => first | cases h | (rw [F_s_SquaresPlanL3] at h; cases h)
        | succ n3 =>
          rw [F_s_SquaresPlanL3] at h
          refine aw_seq ?_
          refine aw_region ttOK (C := True) (hs := []) (gs := []) (rn := []) (l' := [(2, .v (.c (.p 100 0))), (4, .v (.c (.p 112 0))), (6, .v (.c (.ho 950))), (39, .v (.c (.ls false (.num .i64) a0))), (40, .v (.c (.int .i64 v12))), (41, .v (.c (.int .i64 v13))), (42, .v (.c (.bool (decide (v13 < v12)))))]) (h' := [(100, .bx [.int .i64 v14, .nl, .nl]), (112, .bx [.int .i64 v15, .ls false (.pr (.num .i64) (.num .i64)) v16, .nl]), (950, .vc 3 (.num .i64) v17)]) (by kernel_rfl) trivial ?_
          refine aw_seq ?_
          refine aw_if (decide (v13 < v12)) (by kernel_rfl) (fun hb => ?_) (fun hb => ?_)
          · rw [ite_t hb] at h
            refine aw_ghost (gs := []) (rn := []) (l' := [(2, .v (.c (.p 100 0))), (4, .v (.c (.p 112 0))), (6, .v (.c (.ho 950))), (39, .v (.c (.ls false (.num .i64) a0))), (40, .v (.c (.int .i64 v12))), (41, .v (.c (.int .i64 v13)))]) (h' := [(100, .bx [.int .i64 v14, .nl, .nl]), (112, .bx [.int .i64 v15, .ls false (.pr (.num .i64) (.num .i64)) v16, .nl]), (950, .vc 3 (.num .i64) v17)]) (by kernel_rfl) ?_
            refine aw_skip ?_
            refine aw_join (X := Int × Int × Int × Int × List (Int × Int) × List Int) (fun x => ([(2, .v (.c (.p 100 0))), (4, .v (.c (.p 112 0))), (6, .v (.c (.ho 171))), (39, .v (.c (.ls false (.num .i64) a0))), (40, .v (.c (.int .i64 x.1))), (41, .v (.c (.int .i64 x.2.1)))], [(100, .bx [.int .i64 x.2.2.1, .nl, .nl]), (112, .bx [.int .i64 x.2.2.2.1, .ls false (.pr (.num .i64) (.num .i64)) x.2.2.2.2.1, .nl]), (171, .vc 3 (.num .i64) x.2.2.2.2.2)])) (fun x => F_s_SquaresPlanJ4 fu (F_s_SquaresPlanL3 fu a0 n3) x.1 x.2.1 x.2.2.1 x.2.2.2.1 x.2.2.2.2.1 x.2.2.2.2.2 = some r) ?_ ?_
            · rintro ⟨v18, v19, v20, v21, v22, v23⟩ h
              unfold F_s_SquaresPlanJ4 at h
              refine aw_region ttOK (C := True) (hs := []) (gs := []) (rn := [(171, 950)]) (l' := [(2, .v (.c (.p 100 0))), (4, .v (.c (.p 112 0))), (6, .v (.c (.ho 950))), (39, .v (.c (.ls false (.num .i64) a0))), (40, .v (.c (.int .i64 v18))), (41, .v (.c (.int .i64 (IntKind.i64.wrap (v19 + (1 : Int))))))]) (h' := [(100, .bx [.int .i64 v20, .nl, .nl]), (112, .bx [.int .i64 v21, .ls false (.pr (.num .i64) (.num .i64)) v22, .nl]), (950, .vc 3 (.num .i64) v23)]) (by kernel_rfl) trivial ?_
              exact ⟨_, (v18, (IntKind.i64.wrap (v19 + (1 : Int))), v20, v21, v22, v23), Nat.lt_succ_self _, h, rfl, rfl⟩
            · refine aw_block ?_
              refine aw_seq ?_
              obtain ⟨c0, h⟩ := chk_some h
              refine aw_region ttOK (C := (0 ≤ v13 ∧ v13 < (List.length a0 : Int)) ∧ True) (hs := []) (gs := []) (rn := []) (l' := [(2, .v (.c (.p 100 0))), (4, .v (.c (.p 112 0))), (6, .v (.c (.ho 950))), (8, .v (.c (.int .i64 (List.getD a0 (v13).toNat (0 : Int))))), (39, .v (.c (.ls false (.num .i64) a0))), (40, .v (.c (.int .i64 v12))), (41, .v (.c (.int .i64 v13)))]) (h' := [(100, .bx [.int .i64 v14, .nl, .nl]), (112, .bx [.int .i64 v15, .ls false (.pr (.num .i64) (.num .i64)) v16, .nl]), (950, .vc 3 (.num .i64) v17)]) (by kernel_rfl) ⟨c0, trivial⟩ ?_
              refine aw_seq ?_
              refine aw_region ttOK (C := True) (hs := []) (gs := []) (rn := []) (l' := [(2, .v (.c (.p 100 0))), (4, .v (.c (.p 112 0))), (6, .v (.c (.ho 950))), (8, .v (.c (.int .i64 (List.getD a0 (v13).toNat (0 : Int))))), (9, .v (.c (.int .i64 (-1 : Int)))), (39, .v (.c (.ls false (.num .i64) a0))), (40, .v (.c (.int .i64 v12))), (41, .v (.c (.int .i64 v13)))]) (h' := [(100, .bx [.int .i64 v14, .nl, .nl]), (112, .bx [.int .i64 v15, .ls false (.pr (.num .i64) (.num .i64)) v16, .nl]), (950, .vc 3 (.num .i64) v17)]) (by kernel_rfl) trivial ?_
              refine aw_join (X := Int × Int × Int × Int × Int × List (Int × Int) × List Int) (fun x => ([(2, .v (.c (.p 100 0))), (4, .v (.c (.p 112 0))), (6, .v (.c (.ho 950))), (9, .v (.c (.int .i64 x.1))), (39, .v (.c (.ls false (.num .i64) a0))), (40, .v (.c (.int .i64 x.2.1))), (41, .v (.c (.int .i64 x.2.2.1)))], [(100, .bx [.int .i64 x.2.2.2.1, .nl, .nl]), (112, .bx [.int .i64 x.2.2.2.2.1, .ls false (.pr (.num .i64) (.num .i64)) x.2.2.2.2.2.1, .nl]), (950, .vc 3 (.num .i64) x.2.2.2.2.2.2)])) (fun x => F_s_SquaresPlanJ5 fu (F_s_SquaresPlanL3 fu a0 n3) x.1 x.2.1 x.2.2.1 x.2.2.2.1 x.2.2.2.2.1 x.2.2.2.2.2.1 x.2.2.2.2.2.2 = some r) ?_ ?_
              · rintro ⟨v18, v19, v20, v21, v22, v23, v24⟩ h
                unfold F_s_SquaresPlanJ5 at h
                obtain ⟨c0, h⟩ := chk_some h
                refine aw_region ttOK (C := ((List.length v24 + List.length ([v18] : List Int)) * 8 ≤ 140737488355328) ∧ True) (hs := [(2, { id := 170 }), (3, { id := 171 })]) (gs := []) (rn := []) (l' := [(2, .v (.c (.p 100 0))), (4, .v (.c (.p 112 0))), (6, .v (.c (.ho 171))), (39, .v (.c (.ls false (.num .i64) a0))), (40, .v (.c (.int .i64 v19))), (41, .v (.c (.int .i64 v20)))]) (h' := [(100, .bx [.int .i64 v21, .nl, .nl]), (112, .bx [.int .i64 v22, .ls false (.pr (.num .i64) (.num .i64)) v23, .nl]), (171, .vc 3 (.num .i64) (v24 ++ ([v18] : List Int)))]) (by kernel_rfl) ⟨c0, trivial⟩ ?_
                exact ⟨(v19, v20, v21, v22, v23, (v24 ++ ([v18] : List Int))), h, rfl, rfl⟩
              · refine aw_seq ?_
                obtain ⟨v18, ev18, h⟩ := bind_some h
                refine aw_region ttOK (C := (ACall Try.prog 42 [.v (.c (.int .i64 (List.getD a0 (v13).toNat (0 : Int)))), .v (.c (.int .i64 (2 : Int)))] [] [] (.v (.c (.ho 0))) [.vc 3 (.num .i64) v18]) ∧ True) (hs := [(1, { call := some { f := 42, casts := [.same, .same], r := .v (.c (.ho 0)), Hout := [.vc 3 (.num .i64) v18], ren := [140] } })]) (gs := []) (rn := []) (l' := [(2, .v (.c (.p 100 0))), (4, .v (.c (.p 112 0))), (6, .v (.c (.ho 950))), (9, .v (.c (.int .i64 (-1 : Int)))), (39, .v (.c (.ls false (.num .i64) a0))), (40, .v (.c (.int .i64 v12))), (41, .v (.c (.int .i64 v13))), (46, .v (.c (.ho 140))), (47, .v (.c (.int .i64 (List.length v18 : Int)))), (48, .v (.c (.int .i64 (0 : Int))))]) (h' := [(100, .bx [.int .i64 v14, .nl, .nl]), (112, .bx [.int .i64 v15, .ls false (.pr (.num .i64) (.num .i64)) v16, .nl]), (140, .vc 3 (.num .i64) v18), (950, .vc 3 (.num .i64) v17)]) (by kernel_rfl) ⟨(F_s_meDigits_ok ev18), trivial⟩ ?_
                refine aw_block ?_
                refine aw_loopF (X := Int × Int × List (Int × Int)) (fun x => ([(2, .v (.c (.p 100 0))), (4, .v (.c (.p 112 0))), (6, .v (.c (.ho 950))), (9, .v (.c (.int .i64 x.1))), (39, .v (.c (.ls false (.num .i64) a0))), (40, .v (.c (.int .i64 v12))), (41, .v (.c (.int .i64 v13))), (46, .v (.c (.ho 140))), (47, .v (.c (.int .i64 (List.length v18 : Int)))), (48, .v (.c (.int .i64 x.2.1)))], [(100, .bx [.int .i64 v14, .nl, .nl]), (112, .bx [.int .i64 v15, .ls false (.pr (.num .i64) (.num .i64)) x.2.2, .nl]), (140, .vc 3 (.num .i64) v18), (950, .vc 3 (.num .i64) v17)])) (fun n x => F_s_SquaresPlanL6 fu v18 v15 (F_s_SquaresPlanL3 fu a0 n3) v12 v13 v14 v17 n x.1 x.2.1 x.2.2 = some r) fu ((-1 : Int), (0 : Int), v16) h ?_
                rintro n6 ⟨v22, v23, v24⟩ h
                cases n6 with
                | zero => first | cases h | (rw [F_s_SquaresPlanL6] at h; cases h)
                | succ n6 =>
                  rw [F_s_SquaresPlanL6] at h
                  refine aw_seq ?_
                  refine aw_region ttOK (C := True) (hs := []) (gs := []) (rn := []) (l' := [(2, .v (.c (.p 100 0))), (4, .v (.c (.p 112 0))), (6, .v (.c (.ho 950))), (9, .v (.c (.int .i64 v22))), (39, .v (.c (.ls false (.num .i64) a0))), (40, .v (.c (.int .i64 v12))), (41, .v (.c (.int .i64 v13))), (46, .v (.c (.ho 140))), (47, .v (.c (.int .i64 (List.length v18 : Int)))), (48, .v (.c (.int .i64 v23))), (49, .v (.c (.bool (decide (v23 < (List.length v18 : Int))))))]) (h' := [(100, .bx [.int .i64 v14, .nl, .nl]), (112, .bx [.int .i64 v15, .ls false (.pr (.num .i64) (.num .i64)) v24, .nl]), (140, .vc 3 (.num .i64) v18), (950, .vc 3 (.num .i64) v17)]) (by kernel_rfl) trivial ?_
                  refine aw_seq ?_
                  refine aw_if (decide (v23 < (List.length v18 : Int))) (by kernel_rfl) (fun hb => ?_) (fun hb => ?_)
                  · rw [ite_t hb] at h
                    refine aw_ghost (gs := []) (rn := []) (l' := [(2, .v (.c (.p 100 0))), (4, .v (.c (.p 112 0))), (6, .v (.c (.ho 950))), (9, .v (.c (.int .i64 v22))), (39, .v (.c (.ls false (.num .i64) a0))), (40, .v (.c (.int .i64 v12))), (41, .v (.c (.int .i64 v13))), (46, .v (.c (.ho 140))), (47, .v (.c (.int .i64 (List.length v18 : Int)))), (48, .v (.c (.int .i64 v23)))]) (h' := [(100, .bx [.int .i64 v14, .nl, .nl]), (112, .bx [.int .i64 v15, .ls false (.pr (.num .i64) (.num .i64)) v24, .nl]), (140, .vc 3 (.num .i64) v18), (950, .vc 3 (.num .i64) v17)]) (by kernel_rfl) ?_
                    refine aw_skip ?_
                    refine aw_join (X := Int × List (Int × Int)) (fun x => ([(2, .v (.c (.p 100 0))), (4, .v (.c (.p 112 0))), (6, .v (.c (.ho 950))), (9, .v (.c (.int .i64 x.1))), (39, .v (.c (.ls false (.num .i64) a0))), (40, .v (.c (.int .i64 v12))), (41, .v (.c (.int .i64 v13))), (46, .v (.c (.ho 140))), (47, .v (.c (.int .i64 (List.length v18 : Int)))), (48, .v (.c (.int .i64 v23)))], [(100, .bx [.int .i64 v14, .nl, .nl]), (112, .bx [.int .i64 v15, .ls false (.pr (.num .i64) (.num .i64)) x.2, .nl]), (140, .vc 3 (.num .i64) v18), (950, .vc 3 (.num .i64) v17)])) (fun x => F_s_SquaresPlanJ7 fu (F_s_SquaresPlanL6 fu v18 v15 (F_s_SquaresPlanL3 fu a0 n3) v12 v13 v14 v17 n6) v23 x.1 x.2 = some r) ?_ ?_
                    · rintro ⟨v25, v26⟩ h
                      unfold F_s_SquaresPlanJ7 at h
                      refine aw_region ttOK (C := True) (hs := []) (gs := []) (rn := []) (l' := [(2, .v (.c (.p 100 0))), (4, .v (.c (.p 112 0))), (6, .v (.c (.ho 950))), (9, .v (.c (.int .i64 v25))), (39, .v (.c (.ls false (.num .i64) a0))), (40, .v (.c (.int .i64 v12))), (41, .v (.c (.int .i64 v13))), (46, .v (.c (.ho 140))), (47, .v (.c (.int .i64 (List.length v18 : Int)))), (48, .v (.c (.int .i64 (IntKind.i64.wrap (v23 + (1 : Int))))))]) (h' := [(100, .bx [.int .i64 v14, .nl, .nl]), (112, .bx [.int .i64 v15, .ls false (.pr (.num .i64) (.num .i64)) v26, .nl]), (140, .vc 3 (.num .i64) v18), (950, .vc 3 (.num .i64) v17)]) (by kernel_rfl) trivial ?_
                      exact ⟨_, (v25, (IntKind.i64.wrap (v23 + (1 : Int))), v26), Nat.lt_succ_self _, h, rfl, rfl⟩
                    · refine aw_block ?_
                      refine aw_seq ?_
                      obtain ⟨c0, h⟩ := chk_some h
                      refine aw_region ttOK (C := (0 ≤ v23 ∧ v23 < (List.length v18 : Int)) ∧ True) (hs := []) (gs := []) (rn := []) (l' := [(2, .v (.c (.p 100 0))), (4, .v (.c (.p 112 0))), (6, .v (.c (.ho 950))), (9, .v (.c (.int .i64 v22))), (10, .v (.c (.int .i64 v23))), (11, .v (.c (.int .i64 (List.getD v18 (v23).toNat (0 : Int))))), (39, .v (.c (.ls false (.num .i64) a0))), (40, .v (.c (.int .i64 v12))), (41, .v (.c (.int .i64 v13))), (46, .v (.c (.ho 140))), (47, .v (.c (.int .i64 (List.length v18 : Int)))), (48, .v (.c (.int .i64 v23)))]) (h' := [(100, .bx [.int .i64 v14, .nl, .nl]), (112, .bx [.int .i64 v15, .ls false (.pr (.num .i64) (.num .i64)) v24, .nl]), (140, .vc 3 (.num .i64) v18), (950, .vc 3 (.num .i64) v17)]) (by kernel_rfl) ⟨c0, trivial⟩ ?_
                      refine aw_seq ?_
                      refine aw_region ttOK (C := ((((List.getD v18 (v23).toNat (0 : Int)) == (1 : Int)) == true) = true → (((List.getD v18 (v23).toNat (0 : Int)) == (1 : Int)) == true) = true) ∧ (((List.getD v18 (v23).toNat (0 : Int)) == (1 : Int)) = true → (((List.getD v18 (v23).toNat (0 : Int)) == (1 : Int)) == true) = true) ∧ True) (hs := []) (gs := []) (rn := []) (l' := [(2, .v (.c (.p 100 0))), (4, .v (.c (.p 112 0))), (6, .v (.c (.ho 950))), (9, .v (.c (.int .i64 v22))), (10, .v (.c (.int .i64 v23))), (11, .v (.c (.int .i64 (List.getD v18 (v23).toNat (0 : Int))))), (39, .v (.c (.ls false (.num .i64) a0))), (40, .v (.c (.int .i64 v12))), (41, .v (.c (.int .i64 v13))), (46, .v (.c (.ho 140))), (47, .v (.c (.int .i64 (List.length v18 : Int)))), (48, .v (.c (.int .i64 v23))), (58, .v (.c (.bool (cond ((List.getD v18 (v23).toNat (0 : Int)) == (1 : Int)) (decide (v22 ≥ (0 : Int))) false))))]) (h' := [(100, .bx [.int .i64 v14, .nl, .nl]), (112, .bx [.int .i64 v15, .ls false (.pr (.num .i64) (.num .i64)) v24, .nl]), (140, .vc 3 (.num .i64) v18), (950, .vc 3 (.num .i64) v17)]) (by kernel_rfl) ⟨(fun h => h), (fun h => beq_iff_eq.2 h), trivial⟩ ?_
                      refine aw_if (cond ((List.getD v18 (v23).toNat (0 : Int)) == (1 : Int)) (decide (v22 ≥ (0 : Int))) false) (by kernel_rfl) (fun hb => ?_) (fun hb => ?_)
                      · rw [ite_t hb] at h
                        obtain ⟨v25, ev25, h⟩ := bind_some h
                        refine aw_region ttOK (C := (ACall Try.prog 41 [.v (.ag [.int .i64 v15, .ls false (.pr (.num .i64) (.num .i64)) v24, .ls false (.num .i64) ([] : List Int)]), .v (.c (.int .i64 v22)), .v (.c (.int .i64 v23))] [] [] (.tu [.ag [.int .i64 v15, .ls false (.pr (.num .i64) (.num .i64)) v25.2, .nl], .c (.int .i64 v25.1)]) []) ∧ True) (hs := [(3, { call := some { f := 41, casts := [.ags [.same, .same, .nil (.num .i64)], .same, .same], r := .tu [.ag [.int .i64 v15, .ls false (.pr (.num .i64) (.num .i64)) v25.2, .nl], .c (.int .i64 v25.1)] } })]) (gs := []) (rn := []) (l' := [(2, .v (.c (.p 100 0))), (4, .v (.c (.p 112 0))), (6, .v (.c (.ho 950))), (9, .v (.c (.int .i64 v25.1))), (39, .v (.c (.ls false (.num .i64) a0))), (40, .v (.c (.int .i64 v12))), (41, .v (.c (.int .i64 v13))), (46, .v (.c (.ho 140))), (47, .v (.c (.int .i64 (List.length v18 : Int)))), (48, .v (.c (.int .i64 v23)))]) (h' := [(100, .bx [.int .i64 v14, .nl, .nl]), (112, .bx [.int .i64 v15, .ls false (.pr (.num .i64) (.num .i64)) v25.2, .nl]), (140, .vc 3 (.num .i64) v18), (950, .vc 3 (.num .i64) v17)]) (by kernel_rfl) ⟨(F_s_meTimes_ok ev25), trivial⟩ ?_
                        exact ⟨(v25.1, v25.2), h, rfl, rfl⟩
                      · rw [ite_f hb] at h
                        refine aw_seq ?_
                        refine aw_region ttOK (C := True) (hs := []) (gs := []) (rn := []) (l' := [(2, .v (.c (.p 100 0))), (4, .v (.c (.p 112 0))), (6, .v (.c (.ho 950))), (9, .v (.c (.int .i64 v22))), (10, .v (.c (.int .i64 v23))), (39, .v (.c (.ls false (.num .i64) a0))), (40, .v (.c (.int .i64 v12))), (41, .v (.c (.int .i64 v13))), (46, .v (.c (.ho 140))), (47, .v (.c (.int .i64 (List.length v18 : Int)))), (48, .v (.c (.int .i64 v23))), (67, .v (.c (.bool ((List.getD v18 (v23).toNat (0 : Int)) == (1 : Int)))))]) (h' := [(100, .bx [.int .i64 v14, .nl, .nl]), (112, .bx [.int .i64 v15, .ls false (.pr (.num .i64) (.num .i64)) v24, .nl]), (140, .vc 3 (.num .i64) v18), (950, .vc 3 (.num .i64) v17)]) (by kernel_rfl) trivial ?_
                        refine aw_if ((List.getD v18 (v23).toNat (0 : Int)) == (1 : Int)) (by kernel_rfl) (fun hb => ?_) (fun hb => ?_)
                        · rw [ite_t hb] at h
                          refine aw_region ttOK (C := True) (hs := []) (gs := []) (rn := []) (l' := [(2, .v (.c (.p 100 0))), (4, .v (.c (.p 112 0))), (6, .v (.c (.ho 950))), (9, .v (.c (.int .i64 v23))), (39, .v (.c (.ls false (.num .i64) a0))), (40, .v (.c (.int .i64 v12))), (41, .v (.c (.int .i64 v13))), (46, .v (.c (.ho 140))), (47, .v (.c (.int .i64 (List.length v18 : Int)))), (48, .v (.c (.int .i64 v23)))]) (h' := [(100, .bx [.int .i64 v14, .nl, .nl]), (112, .bx [.int .i64 v15, .ls false (.pr (.num .i64) (.num .i64)) v24, .nl]), (140, .vc 3 (.num .i64) v18), (950, .vc 3 (.num .i64) v17)]) (by kernel_rfl) trivial ?_
                          exact ⟨(v23, v24), h, rfl, rfl⟩
                        · rw [ite_f hb] at h
                          refine aw_ghost (gs := []) (rn := []) (l' := [(2, .v (.c (.p 100 0))), (4, .v (.c (.p 112 0))), (6, .v (.c (.ho 950))), (9, .v (.c (.int .i64 v22))), (39, .v (.c (.ls false (.num .i64) a0))), (40, .v (.c (.int .i64 v12))), (41, .v (.c (.int .i64 v13))), (46, .v (.c (.ho 140))), (47, .v (.c (.int .i64 (List.length v18 : Int)))), (48, .v (.c (.int .i64 v23)))]) (h' := [(100, .bx [.int .i64 v14, .nl, .nl]), (112, .bx [.int .i64 v15, .ls false (.pr (.num .i64) (.num .i64)) v24, .nl]), (140, .vc 3 (.num .i64) v18), (950, .vc 3 (.num .i64) v17)]) (by kernel_rfl) ?_
                          refine aw_skip ?_
                          exact ⟨(v22, v24), h, rfl, rfl⟩
                  · rw [ite_f hb] at h
                    refine aw_ghost (gs := []) (rn := []) (l' := [(2, .v (.c (.p 100 0))), (4, .v (.c (.p 112 0))), (6, .v (.c (.ho 950))), (9, .v (.c (.int .i64 v22))), (39, .v (.c (.ls false (.num .i64) a0))), (40, .v (.c (.int .i64 v12))), (41, .v (.c (.int .i64 v13)))]) (h' := [(100, .bx [.int .i64 v14, .nl, .nl]), (112, .bx [.int .i64 v15, .ls false (.pr (.num .i64) (.num .i64)) v24, .nl]), (950, .vc 3 (.num .i64) v17)]) (by kernel_rfl) ?_
                    refine aw_exit ?_
                    exact ⟨(v22, v12, v13, v14, v15, v24, v17), h, rfl, rfl⟩
          · rw [ite_f hb] at h
            refine aw_ghost (gs := []) (rn := []) (l' := [(2, .v (.c (.p 100 0))), (4, .v (.c (.p 112 0))), (6, .v (.c (.ho 950)))]) (h' := [(100, .bx [.int .i64 v14, .nl, .nl]), (112, .bx [.int .i64 v15, .ls false (.pr (.num .i64) (.num .i64)) v16, .nl]), (950, .vc 3 (.num .i64) v17)]) (by kernel_rfl) ?_
            refine aw_exit ?_
            exact ⟨(v14, v15, v16, v17), h, rfl, rfl⟩
    · refine aw_seq ?_
      refine aw_region ttOK (C := True) (hs := []) (gs := []) (rn := []) (l' := [(0, .v (.c (.ls false (.num .i64) a0))), (2, .v (.c (.p 100 0))), (4, .v (.c (.p 112 0))), (5, .v (.c (.int .i64 (1 : Int))))]) (h' := [(100, .bx [.int .i64 (0 : Int), .nl, .nl]), (112, .bx [.int .i64 (1 : Int), .nl, .nl])]) (by kernel_rfl) trivial ?_
      refine aw_block ?_
      refine aw_ghost (gs := [.cnil 112 1 (.pr (.num .i64) (.num .i64)), .cview 112 1]) (rn := []) (l' := [(0, .v (.c (.ls false (.num .i64) a0))), (2, .v (.c (.p 100 0))), (4, .v (.c (.p 112 0))), (5, .v (.c (.int .i64 (1 : Int))))]) (h' := [(100, .bx [.int .i64 (0 : Int), .nl, .nl]), (112, .bx [.int .i64 (1 : Int), .ls false (.pr (.num .i64) (.num .i64)) ([] : List (Int × Int)), .nl])]) (by kernel_rfl) ?_
      refine aw_loopF (X := Int × List (Int × Int)) (fun x => ([(0, .v (.c (.ls false (.num .i64) a0))), (2, .v (.c (.p 100 0))), (4, .v (.c (.p 112 0))), (5, .v (.c (.int .i64 x.1)))], [(100, .bx [.int .i64 (0 : Int), .nl, .nl]), (112, .bx [.int .i64 (1 : Int), .ls false (.pr (.num .i64) (.num .i64)) x.2, .nl])])) (fun n x => F_s_SquaresPlanL8 fu a0 n x.1 x.2 = some r) fu ((1 : Int), ([] : List (Int × Int))) h ?_
      rintro n8 ⟨v5, v6⟩ h
      cases n8 with
      | zero => first | cases h | (rw [F_s_SquaresPlanL8] at h; cases h)
      | succ n8 =>
        rw [F_s_SquaresPlanL8] at h
        refine aw_seq ?_
        refine aw_seq ?_
        obtain ⟨v7, ev7, h⟩ := bind_some h
        obtain ⟨v8, ev8, h⟩ := bind_some h
        refine aw_region ttOK (C := (ACall Try.prog 40 [.v (.c (.ls false (.num .i64) a0))] [] [] (.v (.c (.int .i64 v7))) []) ∧ (ACall Try.prog 39 [.v (.c (.int .i64 v7))] [] [] (.v (.c (.int .i64 v8))) []) ∧ True) (hs := [(2, { call := some { f := 40, casts := [.same], r := .v (.c (.int .i64 v7)) } }), (3, { call := some { f := 39, casts := [.same], r := .v (.c (.int .i64 v8)) } })]) (gs := []) (rn := []) (l' := [(0, .v (.c (.ls false (.num .i64) a0))), (2, .v (.c (.p 100 0))), (4, .v (.c (.p 112 0))), (5, .v (.c (.int .i64 v5))), (27, .v (.c (.bool (decide (v5 < v8)))))]) (h' := [(100, .bx [.int .i64 (0 : Int), .nl, .nl]), (112, .bx [.int .i64 (1 : Int), .ls false (.pr (.num .i64) (.num .i64)) v6, .nl])]) (by kernel_rfl) ⟨(F_s_meGreatest_ok ev7), (F_s_chLength_ok ev8), trivial⟩ ?_
        refine aw_if (decide (v5 < v8)) (by kernel_rfl) (fun hb => ?_) (fun hb => ?_)
        · rw [ite_t hb] at h
          refine aw_ghost (gs := []) (rn := []) (l' := [(0, .v (.c (.ls false (.num .i64) a0))), (2, .v (.c (.p 100 0))), (4, .v (.c (.p 112 0))), (5, .v (.c (.int .i64 v5)))]) (h' := [(100, .bx [.int .i64 (0 : Int), .nl, .nl]), (112, .bx [.int .i64 (1 : Int), .ls false (.pr (.num .i64) (.num .i64)) v6, .nl])]) (by kernel_rfl) ?_
          refine aw_skip ?_
          refine aw_seq ?_
          refine aw_block ?_
          obtain ⟨v9, ev9, h⟩ := bind_some h
          refine aw_region ttOK (C := (ACall Try.prog 41 [.v (.ag [.int .i64 (1 : Int), .ls false (.pr (.num .i64) (.num .i64)) v6, .ls false (.num .i64) ([] : List Int)]), .v (.c (.int .i64 (IntKind.i64.wrap (v5 - (1 : Int))))), .v (.c (.int .i64 (IntKind.i64.wrap (v5 - (1 : Int)))))] [] [] (.tu [.ag [.int .i64 (1 : Int), .ls false (.pr (.num .i64) (.num .i64)) v9.2, .nl], .c (.int .i64 v9.1)]) []) ∧ True) (hs := [(5, { call := some { f := 41, casts := [.ags [.same, .same, .nil (.num .i64)], .same, .same], r := .tu [.ag [.int .i64 (1 : Int), .ls false (.pr (.num .i64) (.num .i64)) v9.2, .nl], .c (.int .i64 v9.1)] } })]) (gs := []) (rn := []) (l' := [(0, .v (.c (.ls false (.num .i64) a0))), (2, .v (.c (.p 100 0))), (4, .v (.c (.p 112 0))), (5, .v (.c (.int .i64 v5)))]) (h' := [(100, .bx [.int .i64 (0 : Int), .nl, .nl]), (112, .bx [.int .i64 (1 : Int), .ls false (.pr (.num .i64) (.num .i64)) v9.2, .nl])]) (by kernel_rfl) ⟨(F_s_meTimes_ok ev9), trivial⟩ ?_
          refine aw_region ttOK (C := True) (hs := []) (gs := []) (rn := []) (l' := [(0, .v (.c (.ls false (.num .i64) a0))), (2, .v (.c (.p 100 0))), (4, .v (.c (.p 112 0))), (5, .v (.c (.int .i64 (IntKind.i64.wrap (v5 + (1 : Int))))))]) (h' := [(100, .bx [.int .i64 (0 : Int), .nl, .nl]), (112, .bx [.int .i64 (1 : Int), .ls false (.pr (.num .i64) (.num .i64)) v9.2, .nl])]) (by kernel_rfl) trivial ?_
          exact ⟨_, ((IntKind.i64.wrap (v5 + (1 : Int))), v9.2), Nat.lt_succ_self _, h, rfl, rfl⟩
        · rw [ite_f hb] at h
          refine aw_ghost (gs := []) (rn := []) (l' := [(0, .v (.c (.ls false (.num .i64) a0))), (2, .v (.c (.p 100 0))), (4, .v (.c (.p 112 0)))]) (h' := [(100, .bx [.int .i64 (0 : Int), .nl, .nl]), (112, .bx [.int .i64 (1 : Int), .ls false (.pr (.num .i64) (.num .i64)) v6, .nl])]) (by kernel_rfl) ?_
          refine aw_exit ?_
          exact ⟨((0 : Int), (1 : Int), v6), h, rfl, rfl⟩

theorem F_s_duUses_ok {fu : Nat} {a0 : Int} {a1 : List (Int × Int)} {a2 : List Int} {r : List Int} (h : F_s_duUses fu a0 a1 a2 = some r) :
    ACall Try.prog 65 [.v (.ag [.int .i64 a0, .ls false (.pr (.num .i64) (.num .i64)) a1, .ls false (.num .i64) a2])] [] [] (.v (.c (.ho 0))) [.vc 3 (.num .i64) r] := by
  unfold F_s_duUses at h
  refine acall_of_aw ttOK Try.func65 (by kernel_rfl) (c := _) rfl (N := 52) (by kernel_rfl) (Nat.le_of_ble_eq_true rfl) ?_
  refine aw_seq ?_
  refine aw_region ttOK (C := True) (hs := [(0, { id := 100 })]) (gs := []) (rn := []) (l' := [(1, .v (.c (.p 100 0)))]) (h' := [(100, .bx [.int .i64 a0, .ls false (.pr (.num .i64) (.num .i64)) a1, .ls false (.num .i64) a2])]) (by kernel_rfl) trivial ?_
  refine aw_seq ?_
  obtain ⟨c0, h⟩ := chk_some h
  refine aw_region ttOK (C := (0 ≤ (IntKind.i64.wrap (a0 + (List.length a1 : Int))) ∧ (IntKind.i64.wrap (a0 + (List.length a1 : Int))) ≤ (IntKind.i64.wrap (a0 + (List.length a1 : Int))) ∧ (IntKind.i64.wrap (a0 + (List.length a1 : Int))) * (8 : Nat) ≤ 140737488355328) ∧ True) (hs := [(6, { id := 108 })]) (gs := []) (rn := []) (l' := [(1, .v (.c (.p 100 0))), (3, .v (.c (.ho 108)))]) (h' := [(100, .bx [.int .i64 a0, .ls false (.pr (.num .i64) (.num .i64)) a1, .ls false (.num .i64) a2]), (108, .vc 3 (.num .i64) (List.replicate ((IntKind.i64.wrap (a0 + (List.length a1 : Int)))).toNat (0 : Int)))]) (by kernel_rfl) ⟨c0, trivial⟩ ?_
  refine aw_join (X := List Int) (fun x => ([(1, .v (.c (.p 100 0))), (3, .v (.c (.ho 108)))], [(100, .bx [.int .i64 a0, .ls false (.pr (.num .i64) (.num .i64)) a1, .ls false (.num .i64) a2]), (108, .vc 3 (.num .i64) x)])) (fun x => F_s_duUsesJ1 fu a2 x = some r) ?_ ?_
  · rintro v1 h
    unfold F_s_duUsesJ1 at h
    refine aw_join (X := List Int) (fun x => ([(3, .v (.c (.ho 108)))], [(108, .vc 3 (.num .i64) x)])) (fun x => F_s_duUsesJ2 fu x = some r) ?_ ?_
    · rintro v2 h
      unfold F_s_duUsesJ2 at h
      refine aw_seq ?_
      refine aw_region ttOK (C := True) (hs := []) (gs := []) (rn := []) (l' := [(2, .v (.c (.ho 108)))]) (h' := [(108, .vc 3 (.num .i64) v2)]) (by kernel_rfl) trivial ?_
      refine aw_ghost (gs := []) (rn := []) (l' := [(2, .v (.c (.ho 108)))]) (h' := [(108, .vc 3 (.num .i64) v2)]) (by kernel_rfl) ?_
      refine aw_ret (ret_ok [108] ?_)
      cases h
      kernel_rfl
    · refine aw_seq ?_
      refine aw_region ttOK (C := True) (hs := []) (gs := []) (rn := []) (l' := [(3, .v (.c (.ho 108))), (38, .v (.c (.ls false (.num .i64) a2))), (39, .v (.c (.int .i64 (List.length a2 : Int)))), (40, .v (.c (.int .i64 (0 : Int))))]) (h' := [(108, .vc 3 (.num .i64) v1)]) (by kernel_rfl) trivial ?_
      refine aw_block ?_
      refine aw_loopF (X := Int × List Int) (fun x => ([(3, .v (.c (.ho 108))), (38, .v (.c (.ls false (.num .i64) a2))), (39, .v (.c (.int .i64 (List.length a2 : Int)))), (40, .v (.c (.int .i64 x.1)))], [(108, .vc 3 (.num .i64) x.2)])) (fun n x => F_s_duUsesL3 fu a2 n x.1 x.2 = some r) fu ((0 : Int), v1) h ?_
      rintro n3 ⟨v4, v5⟩ h
      cases n3 with
      | zero => first | cases h | (rw [F_s_duUsesL3] at h; cases h)
      | succ n3 =>
        rw [F_s_duUsesL3] at h
        refine aw_seq ?_
        refine aw_region ttOK (C := True) (hs := []) (gs := []) (rn := []) (l' := [(3, .v (.c (.ho 108))), (38, .v (.c (.ls false (.num .i64) a2))), (39, .v (.c (.int .i64 (List.length a2 : Int)))), (40, .v (.c (.int .i64 v4))), (41, .v (.c (.bool (decide (v4 < (List.length a2 : Int))))))]) (h' := [(108, .vc 3 (.num .i64) v5)]) (by kernel_rfl) trivial ?_
        refine aw_seq ?_
        refine aw_if (decide (v4 < (List.length a2 : Int))) (by kernel_rfl) (fun hb => ?_) (fun hb => ?_)
        · rw [ite_t hb] at h
          refine aw_ghost (gs := []) (rn := []) (l' := [(3, .v (.c (.ho 108))), (38, .v (.c (.ls false (.num .i64) a2))), (39, .v (.c (.int .i64 (List.length a2 : Int)))), (40, .v (.c (.int .i64 v4)))]) (h' := [(108, .vc 3 (.num .i64) v5)]) (by kernel_rfl) ?_
          refine aw_skip ?_
          refine aw_seq ?_
          refine aw_block ?_
          refine aw_seq ?_
          obtain ⟨c0, h⟩ := chk_some h
          refine aw_region ttOK (C := (0 ≤ v4 ∧ v4 < (List.length a2 : Int)) ∧ True) (hs := []) (gs := []) (rn := []) (l' := [(3, .v (.c (.ho 108))), (7, .v (.c (.int .i64 (List.getD a2 (v4).toNat (0 : Int))))), (38, .v (.c (.ls false (.num .i64) a2))), (39, .v (.c (.int .i64 (List.length a2 : Int)))), (40, .v (.c (.int .i64 v4)))]) (h' := [(108, .vc 3 (.num .i64) v5)]) (by kernel_rfl) ⟨c0, trivial⟩ ?_
          obtain ⟨⟨c0, c1⟩, h⟩ := chk_some h
          refine aw_region ttOK (C := (0 ≤ (List.getD a2 (v4).toNat (0 : Int)) ∧ (List.getD a2 (v4).toNat (0 : Int)) < (List.length v5 : Int)) ∧ (0 ≤ (List.getD a2 (v4).toNat (0 : Int)) ∧ (List.getD a2 (v4).toNat (0 : Int)) < (List.length v5 : Int)) ∧ True) (hs := []) (gs := []) (rn := []) (l' := [(3, .v (.c (.ho 108))), (38, .v (.c (.ls false (.num .i64) a2))), (39, .v (.c (.int .i64 (List.length a2 : Int)))), (40, .v (.c (.int .i64 v4)))]) (h' := [(108, .vc 3 (.num .i64) (List.set v5 ((List.getD a2 (v4).toNat (0 : Int))).toNat (IntKind.i64.wrap ((List.getD v5 ((List.getD a2 (v4).toNat (0 : Int))).toNat (0 : Int)) + (1 : Int)))))]) (by kernel_rfl) ⟨c0, c1, trivial⟩ ?_
          refine aw_region ttOK (C := True) (hs := []) (gs := []) (rn := []) (l' := [(3, .v (.c (.ho 108))), (38, .v (.c (.ls false (.num .i64) a2))), (39, .v (.c (.int .i64 (List.length a2 : Int)))), (40, .v (.c (.int .i64 (IntKind.i64.wrap (v4 + (1 : Int))))))]) (h' := [(108, .vc 3 (.num .i64) (List.set v5 ((List.getD a2 (v4).toNat (0 : Int))).toNat (IntKind.i64.wrap ((List.getD v5 ((List.getD a2 (v4).toNat (0 : Int))).toNat (0 : Int)) + (1 : Int)))))]) (by kernel_rfl) trivial ?_
          exact ⟨_, ((IntKind.i64.wrap (v4 + (1 : Int))), (List.set v5 ((List.getD a2 (v4).toNat (0 : Int))).toNat (IntKind.i64.wrap ((List.getD v5 ((List.getD a2 (v4).toNat (0 : Int))).toNat (0 : Int)) + (1 : Int))))), Nat.lt_succ_self _, h, rfl, rfl⟩
        · rw [ite_f hb] at h
          refine aw_ghost (gs := []) (rn := []) (l' := [(3, .v (.c (.ho 108)))]) (h' := [(108, .vc 3 (.num .i64) v5)]) (by kernel_rfl) ?_
          refine aw_exit ?_
          exact ⟨v5, h, rfl, rfl⟩
  · refine aw_seq ?_
    refine aw_region ttOK (C := True) (hs := []) (gs := []) (rn := []) (l' := [(1, .v (.c (.p 100 0))), (3, .v (.c (.ho 108))), (16, .v (.c (.ls false (.pr (.num .i64) (.num .i64)) a1))), (17, .v (.c (.int .i64 (List.length a1 : Int)))), (18, .v (.c (.int .i64 (0 : Int))))]) (h' := [(100, .bx [.int .i64 a0, .ls false (.pr (.num .i64) (.num .i64)) a1, .ls false (.num .i64) a2]), (108, .vc 3 (.num .i64) (List.replicate ((IntKind.i64.wrap (a0 + (List.length a1 : Int)))).toNat (0 : Int)))]) (by kernel_rfl) trivial ?_
    refine aw_block ?_
    refine aw_loopF (X := Int × List Int) (fun x => ([(1, .v (.c (.p 100 0))), (3, .v (.c (.ho 108))), (16, .v (.c (.ls false (.pr (.num .i64) (.num .i64)) a1))), (17, .v (.c (.int .i64 (List.length a1 : Int)))), (18, .v (.c (.int .i64 x.1)))], [(100, .bx [.int .i64 a0, .ls false (.pr (.num .i64) (.num .i64)) a1, .ls false (.num .i64) a2]), (108, .vc 3 (.num .i64) x.2)])) (fun n x => F_s_duUsesL4 fu a1 a2 n x.1 x.2 = some r) fu ((0 : Int), (List.replicate ((IntKind.i64.wrap (a0 + (List.length a1 : Int)))).toNat (0 : Int))) h ?_
    rintro n4 ⟨v3, v4⟩ h
    cases n4 with
    | zero => first | cases h | (rw [F_s_duUsesL4] at h; cases h)
    | succ n4 =>
      rw [F_s_duUsesL4] at h
      refine aw_seq ?_
      refine aw_region ttOK (C := True) (hs := []) (gs := []) (rn := []) (l' := [(1, .v (.c (.p 100 0))), (3, .v (.c (.ho 108))), (16, .v (.c (.ls false (.pr (.num .i64) (.num .i64)) a1))), (17, .v (.c (.int .i64 (List.length a1 : Int)))), (18, .v (.c (.int .i64 v3))), (19, .v (.c (.bool (decide (v3 < (List.length a1 : Int))))))]) (h' := [(100, .bx [.int .i64 a0, .ls false (.pr (.num .i64) (.num .i64)) a1, .ls false (.num .i64) a2]), (108, .vc 3 (.num .i64) v4)]) (by kernel_rfl) trivial ?_
      refine aw_seq ?_
      refine aw_if (decide (v3 < (List.length a1 : Int))) (by kernel_rfl) (fun hb => ?_) (fun hb => ?_)
      · rw [ite_t hb] at h
        refine aw_ghost (gs := []) (rn := []) (l' := [(1, .v (.c (.p 100 0))), (3, .v (.c (.ho 108))), (16, .v (.c (.ls false (.pr (.num .i64) (.num .i64)) a1))), (17, .v (.c (.int .i64 (List.length a1 : Int)))), (18, .v (.c (.int .i64 v3)))]) (h' := [(100, .bx [.int .i64 a0, .ls false (.pr (.num .i64) (.num .i64)) a1, .ls false (.num .i64) a2]), (108, .vc 3 (.num .i64) v4)]) (by kernel_rfl) ?_
        refine aw_skip ?_
        refine aw_seq ?_
        refine aw_block ?_
        refine aw_seq ?_
        obtain ⟨c0, h⟩ := chk_some h
        refine aw_region ttOK (C := (0 ≤ v3 ∧ v3 < (List.length a1 : Int)) ∧ True) (hs := [(2, { id := 117 })]) (gs := []) (rn := []) (l' := [(1, .v (.c (.p 100 0))), (3, .v (.c (.ho 108))), (5, .v (.c (.p 117 0))), (16, .v (.c (.ls false (.pr (.num .i64) (.num .i64)) a1))), (17, .v (.c (.int .i64 (List.length a1 : Int)))), (18, .v (.c (.int .i64 v3)))]) (h' := [(100, .bx [.int .i64 a0, .ls false (.pr (.num .i64) (.num .i64)) a1, .ls false (.num .i64) a2]), (108, .vc 3 (.num .i64) v4), (117, .bx [.int .i64 (List.getD a1 (v3).toNat ((0 : Int), (0 : Int))).1, .int .i64 (List.getD a1 (v3).toNat ((0 : Int), (0 : Int))).2])]) (by kernel_rfl) ⟨c0, trivial⟩ ?_
        refine aw_seq ?_
        obtain ⟨⟨c0, c1⟩, h⟩ := chk_some h
        refine aw_region ttOK (C := (0 ≤ (List.getD a1 (v3).toNat ((0 : Int), (0 : Int))).1 ∧ (List.getD a1 (v3).toNat ((0 : Int), (0 : Int))).1 < (List.length v4 : Int)) ∧ (0 ≤ (List.getD a1 (v3).toNat ((0 : Int), (0 : Int))).1 ∧ (List.getD a1 (v3).toNat ((0 : Int), (0 : Int))).1 < (List.length v4 : Int)) ∧ True) (hs := []) (gs := []) (rn := []) (l' := [(1, .v (.c (.p 100 0))), (3, .v (.c (.ho 108))), (5, .v (.c (.p 117 0))), (16, .v (.c (.ls false (.pr (.num .i64) (.num .i64)) a1))), (17, .v (.c (.int .i64 (List.length a1 : Int)))), (18, .v (.c (.int .i64 v3)))]) (h' := [(100, .bx [.int .i64 a0, .ls false (.pr (.num .i64) (.num .i64)) a1, .ls false (.num .i64) a2]), (108, .vc 3 (.num .i64) (List.set v4 ((List.getD a1 (v3).toNat ((0 : Int), (0 : Int))).1).toNat (IntKind.i64.wrap ((List.getD v4 ((List.getD a1 (v3).toNat ((0 : Int), (0 : Int))).1).toNat (0 : Int)) + (1 : Int))))), (117, .bx [.int .i64 (List.getD a1 (v3).toNat ((0 : Int), (0 : Int))).1, .int .i64 (List.getD a1 (v3).toNat ((0 : Int), (0 : Int))).2])]) (by kernel_rfl) ⟨c0, c1, trivial⟩ ?_
        obtain ⟨⟨c0, c1⟩, h⟩ := chk_some h
        refine aw_region ttOK (C := (0 ≤ (List.getD a1 (v3).toNat ((0 : Int), (0 : Int))).2 ∧ (List.getD a1 (v3).toNat ((0 : Int), (0 : Int))).2 < (List.length (List.set v4 ((List.getD a1 (v3).toNat ((0 : Int), (0 : Int))).1).toNat (IntKind.i64.wrap ((List.getD v4 ((List.getD a1 (v3).toNat ((0 : Int), (0 : Int))).1).toNat (0 : Int)) + (1 : Int)))) : Int)) ∧ (0 ≤ (List.getD a1 (v3).toNat ((0 : Int), (0 : Int))).2 ∧ (List.getD a1 (v3).toNat ((0 : Int), (0 : Int))).2 < (List.length (List.set v4 ((List.getD a1 (v3).toNat ((0 : Int), (0 : Int))).1).toNat (IntKind.i64.wrap ((List.getD v4 ((List.getD a1 (v3).toNat ((0 : Int), (0 : Int))).1).toNat (0 : Int)) + (1 : Int)))) : Int)) ∧ True) (hs := []) (gs := []) (rn := []) (l' := [(1, .v (.c (.p 100 0))), (3, .v (.c (.ho 108))), (16, .v (.c (.ls false (.pr (.num .i64) (.num .i64)) a1))), (17, .v (.c (.int .i64 (List.length a1 : Int)))), (18, .v (.c (.int .i64 v3)))]) (h' := [(100, .bx [.int .i64 a0, .ls false (.pr (.num .i64) (.num .i64)) a1, .ls false (.num .i64) a2]), (108, .vc 3 (.num .i64) (List.set (List.set v4 ((List.getD a1 (v3).toNat ((0 : Int), (0 : Int))).1).toNat (IntKind.i64.wrap ((List.getD v4 ((List.getD a1 (v3).toNat ((0 : Int), (0 : Int))).1).toNat (0 : Int)) + (1 : Int)))) ((List.getD a1 (v3).toNat ((0 : Int), (0 : Int))).2).toNat (IntKind.i64.wrap ((List.getD (List.set v4 ((List.getD a1 (v3).toNat ((0 : Int), (0 : Int))).1).toNat (IntKind.i64.wrap ((List.getD v4 ((List.getD a1 (v3).toNat ((0 : Int), (0 : Int))).1).toNat (0 : Int)) + (1 : Int)))) ((List.getD a1 (v3).toNat ((0 : Int), (0 : Int))).2).toNat (0 : Int)) + (1 : Int)))))]) (by kernel_rfl) ⟨c0, c1, trivial⟩ ?_
        refine aw_region ttOK (C := True) (hs := []) (gs := []) (rn := []) (l' := [(1, .v (.c (.p 100 0))), (3, .v (.c (.ho 108))), (16, .v (.c (.ls false (.pr (.num .i64) (.num .i64)) a1))), (17, .v (.c (.int .i64 (List.length a1 : Int)))), (18, .v (.c (.int .i64 (IntKind.i64.wrap (v3 + (1 : Int))))))]) (h' := [(100, .bx [.int .i64 a0, .ls false (.pr (.num .i64) (.num .i64)) a1, .ls false (.num .i64) a2]), (108, .vc 3 (.num .i64) (List.set (List.set v4 ((List.getD a1 (v3).toNat ((0 : Int), (0 : Int))).1).toNat (IntKind.i64.wrap ((List.getD v4 ((List.getD a1 (v3).toNat ((0 : Int), (0 : Int))).1).toNat (0 : Int)) + (1 : Int)))) ((List.getD a1 (v3).toNat ((0 : Int), (0 : Int))).2).toNat (IntKind.i64.wrap ((List.getD (List.set v4 ((List.getD a1 (v3).toNat ((0 : Int), (0 : Int))).1).toNat (IntKind.i64.wrap ((List.getD v4 ((List.getD a1 (v3).toNat ((0 : Int), (0 : Int))).1).toNat (0 : Int)) + (1 : Int)))) ((List.getD a1 (v3).toNat ((0 : Int), (0 : Int))).2).toNat (0 : Int)) + (1 : Int)))))]) (by kernel_rfl) trivial ?_
        exact ⟨_, ((IntKind.i64.wrap (v3 + (1 : Int))), (List.set (List.set v4 ((List.getD a1 (v3).toNat ((0 : Int), (0 : Int))).1).toNat (IntKind.i64.wrap ((List.getD v4 ((List.getD a1 (v3).toNat ((0 : Int), (0 : Int))).1).toNat (0 : Int)) + (1 : Int)))) ((List.getD a1 (v3).toNat ((0 : Int), (0 : Int))).2).toNat (IntKind.i64.wrap ((List.getD (List.set v4 ((List.getD a1 (v3).toNat ((0 : Int), (0 : Int))).1).toNat (IntKind.i64.wrap ((List.getD v4 ((List.getD a1 (v3).toNat ((0 : Int), (0 : Int))).1).toNat (0 : Int)) + (1 : Int)))) ((List.getD a1 (v3).toNat ((0 : Int), (0 : Int))).2).toNat (0 : Int)) + (1 : Int))))), Nat.lt_succ_self _, h, rfl, rfl⟩
      · rw [ite_f hb] at h
        refine aw_ghost (gs := []) (rn := []) (l' := [(1, .v (.c (.p 100 0))), (3, .v (.c (.ho 108)))]) (h' := [(100, .bx [.int .i64 a0, .ls false (.pr (.num .i64) (.num .i64)) a1, .ls false (.num .i64) a2]), (108, .vc 3 (.num .i64) v4)]) (by kernel_rfl) ?_
        refine aw_exit ?_
        exact ⟨v4, h, rfl, rfl⟩

theorem F_s_l1Has_ok {fu : Nat} {a0 : List Int} {a1 : Int} {r : Bool} (h : F_s_l1Has fu a0 a1 = some r) :
    ACall Try.prog 64 [.v (.c (.ls false (.num .i64) a0)), .v (.c (.int .i64 a1))] [] [] (.v (.c (.bool r))) [] := by
  unfold F_s_l1Has at h
  refine acall_of_aw ttOK Try.func64 (by kernel_rfl) (c := _) rfl (N := 17) (by kernel_rfl) (Nat.le_of_ble_eq_true rfl) ?_
  refine aw_seq ?_
  refine aw_region ttOK (C := True) (hs := []) (gs := []) (rn := []) (l' := [(0, .v (.c (.ls false (.num .i64) a0))), (1, .v (.c (.int .i64 a1)))]) (h' := []) (by kernel_rfl) trivial ?_
  refine aw_join (X := Unit) (fun x => ([], [])) (fun x => F_s_l1HasJ1 fu = some r) ?_ ?_
  · rintro _ h
    unfold F_s_l1HasJ1 at h
    refine aw_seq ?_
    refine aw_region ttOK (C := True) (hs := []) (gs := []) (rn := []) (l' := [(4, .v (.c (.bool false)))]) (h' := []) (by kernel_rfl) trivial ?_
    refine aw_ghost (gs := []) (rn := []) (l' := [(4, .v (.c (.bool false)))]) (h' := []) (by kernel_rfl) ?_
    refine aw_ret (ret_ok [] ?_)
    cases h
    kernel_rfl
  · refine aw_seq ?_
    refine aw_region ttOK (C := True) (hs := []) (gs := []) (rn := []) (l' := [(1, .v (.c (.int .i64 a1))), (7, .v (.c (.ls false (.num .i64) a0))), (8, .v (.c (.int .i64 (List.length a0 : Int)))), (9, .v (.c (.int .i64 (0 : Int))))]) (h' := []) (by kernel_rfl) trivial ?_
    refine aw_block ?_
    refine aw_loopF (X := Int) (fun x => ([(1, .v (.c (.int .i64 a1))), (7, .v (.c (.ls false (.num .i64) a0))), (8, .v (.c (.int .i64 (List.length a0 : Int)))), (9, .v (.c (.int .i64 x)))], [])) (fun n x => F_s_l1HasL2 fu a0 a1 n x = some r) fu (0 : Int) h ?_
    rintro n2 v2 h
    cases n2 with
    | zero => first | cases h | (rw [F_s_l1HasL2] at h; cases h)
    | succ n2 =>
      rw [F_s_l1HasL2] at h
      refine aw_seq ?_
      refine aw_region ttOK (C := True) (hs := []) (gs := []) (rn := []) (l' := [(1, .v (.c (.int .i64 a1))), (7, .v (.c (.ls false (.num .i64) a0))), (8, .v (.c (.int .i64 (List.length a0 : Int)))), (9, .v (.c (.int .i64 v2))), (10, .v (.c (.bool (decide (v2 < (List.length a0 : Int))))))]) (h' := []) (by kernel_rfl) trivial ?_
      refine aw_seq ?_
      refine aw_if (decide (v2 < (List.length a0 : Int))) (by kernel_rfl) (fun hb => ?_) (fun hb => ?_)
      · rw [ite_t hb] at h
        refine aw_ghost (gs := []) (rn := []) (l' := [(1, .v (.c (.int .i64 a1))), (7, .v (.c (.ls false (.num .i64) a0))), (8, .v (.c (.int .i64 (List.length a0 : Int)))), (9, .v (.c (.int .i64 v2)))]) (h' := []) (by kernel_rfl) ?_
        refine aw_skip ?_
        refine aw_seq ?_
        refine aw_block ?_
        refine aw_seq ?_
        obtain ⟨c0, h⟩ := chk_some h
        refine aw_region ttOK (C := (0 ≤ v2 ∧ v2 < (List.length a0 : Int)) ∧ True) (hs := []) (gs := []) (rn := []) (l' := [(1, .v (.c (.int .i64 a1))), (6, .v (.c (.int .i64 (List.getD a0 (v2).toNat (0 : Int))))), (7, .v (.c (.ls false (.num .i64) a0))), (8, .v (.c (.int .i64 (List.length a0 : Int)))), (9, .v (.c (.int .i64 v2)))]) (h' := []) (by kernel_rfl) ⟨c0, trivial⟩ ?_
        refine aw_seq ?_
        refine aw_region ttOK (C := True) (hs := []) (gs := []) (rn := []) (l' := [(1, .v (.c (.int .i64 a1))), (7, .v (.c (.ls false (.num .i64) a0))), (8, .v (.c (.int .i64 (List.length a0 : Int)))), (9, .v (.c (.int .i64 v2))), (15, .v (.c (.bool ((List.getD a0 (v2).toNat (0 : Int)) == a1))))]) (h' := []) (by kernel_rfl) trivial ?_
        refine aw_if ((List.getD a0 (v2).toNat (0 : Int)) == a1) (by kernel_rfl) (fun hb => ?_) (fun hb => ?_)
        · rw [ite_t hb] at h
          refine aw_seq ?_
          refine aw_region ttOK (C := True) (hs := []) (gs := []) (rn := []) (l' := [(4, .v (.c (.bool true)))]) (h' := []) (by kernel_rfl) trivial ?_
          refine aw_ghost (gs := []) (rn := []) (l' := [(4, .v (.c (.bool true)))]) (h' := []) (by kernel_rfl) ?_
          refine aw_ret (ret_ok [] ?_)
          cases h
          kernel_rfl
        · rw [ite_f hb] at h
          refine aw_ghost (gs := []) (rn := []) (l' := [(1, .v (.c (.int .i64 a1))), (7, .v (.c (.ls false (.num .i64) a0))), (8, .v (.c (.int .i64 (List.length a0 : Int)))), (9, .v (.c (.int .i64 v2)))]) (h' := []) (by kernel_rfl) ?_
          refine aw_skip ?_
          refine aw_region ttOK (C := True) (hs := []) (gs := []) (rn := []) (l' := [(1, .v (.c (.int .i64 a1))), (7, .v (.c (.ls false (.num .i64) a0))), (8, .v (.c (.int .i64 (List.length a0 : Int)))), (9, .v (.c (.int .i64 (IntKind.i64.wrap (v2 + (1 : Int))))))]) (h' := []) (by kernel_rfl) trivial ?_
          exact ⟨_, (IntKind.i64.wrap (v2 + (1 : Int))), Nat.lt_succ_self _, h, rfl, rfl⟩
      · rw [ite_f hb] at h
        refine aw_ghost (gs := []) (rn := []) (l' := []) (h' := []) (by kernel_rfl) ?_
        refine aw_exit ?_
        exact ⟨(), h, rfl, rfl⟩

theorem F_s_duCan_ok {fu : Nat} {a0 : Int} {a1 : List (Int × Int)} {a2 : List Int} {r : Bool} (h : F_s_duCan fu a0 a1 a2 = some r) :
    ACall Try.prog 45 [.v (.ag [.int .i64 a0, .ls false (.pr (.num .i64) (.num .i64)) a1, .ls false (.num .i64) a2])] [] [] (.v (.c (.bool r))) [] := by
  unfold F_s_duCan at h
  refine acall_of_aw ttOK Try.func45 (by kernel_rfl) (c := _) rfl (N := 13) (by kernel_rfl) (Nat.le_of_ble_eq_true rfl) ?_
  refine aw_seq ?_
  refine aw_region ttOK (C := True) (hs := [(0, { id := 100 })]) (gs := []) (rn := []) (l' := [(1, .v (.c (.p 100 0)))]) (h' := [(100, .bx [.int .i64 a0, .ls false (.pr (.num .i64) (.num .i64)) a1, .ls false (.num .i64) a2])]) (by kernel_rfl) trivial ?_
  refine aw_seq ?_
  obtain ⟨v1, ev1, h⟩ := bind_some h
  obtain ⟨v2, ev2, h⟩ := bind_some h
  refine aw_region ttOK (C := (((decide ((List.length a2 : Int) > (0 : Int))) == true) = true → ((decide ((List.length a2 : Int) > (0 : Int))) == true) = true) ∧ (((decide ((List.length a2 : Int) > (0 : Int))) == true) = true → ACall Try.prog 65 [.v (.ag [.int .i64 a0, .ls false (.pr (.num .i64) (.num .i64)) a1, .ls false (.num .i64) a2])] [] [] (.v (.c (.ls false (.num .i64) v1))) []) ∧ (((decide ((List.length a2 : Int) > (0 : Int))) == true) = true → ((decide ((List.length a2 : Int) > (0 : Int))) == true) = true) ∧ (((decide ((List.length a2 : Int) > (0 : Int))) == true) = true → ACall Try.prog 64 [.v (.c (.ls false (.num .i64) v1)), .v (.c (.int .i64 (0 : Int)))] [] [] (.v (.c (.bool v2))) []) ∧ (((decide ((List.length a2 : Int) > (0 : Int))) == true) = true → ((decide ((List.length a2 : Int) > (0 : Int))) == true) = true) ∧ ((decide ((List.length a2 : Int) > (0 : Int))) = true → ((decide ((List.length a2 : Int) > (0 : Int))) == true) = true) ∧ True) (hs := [(6, { call := some { f := 65, casts := [.same], r := .v (.c (.ls false (.num .i64) v1)) } }), (7, { call := some { f := 64, casts := [.same, .same], r := .v (.c (.bool v2)) } })]) (gs := []) (rn := []) (l' := [(2, .v (.c (.bool (cond (decide ((List.length a2 : Int) > (0 : Int))) (!v2) false))))]) (h' := []) (by kernel_rfl) ⟨(fun h => h), (fun hg => (acall_view (js := [0]) (F_s_duUses_ok (gcl_some ev1 hg)) (by kernel_rfl))), (fun h => h), (fun hg => (F_s_l1Has_ok (gcl_some ev2 hg))), (fun h => h), (fun h => beq_iff_eq.2 h), trivial⟩ ?_
  refine aw_ghost (gs := []) (rn := []) (l' := [(2, .v (.c (.bool (cond (decide ((List.length a2 : Int) > (0 : Int))) (!v2) false))))]) (h' := []) (by kernel_rfl) ?_
  refine aw_ret (ret_ok [] ?_)
  cases h
  kernel_rfl

theorem F_s_duFactors_ok {fu : Nat} {a0 : Int} {a1 : List (Int × Int)} {a2 : List Int} {a3 : Int} {a4 : List Int} {r : List Int} (h : F_s_duFactors fu a0 a1 a2 a3 a4 = some r) :
    ACall Try.prog 66 [.v (.ag [.int .i64 a0, .ls false (.pr (.num .i64) (.num .i64)) a1, .ls false (.num .i64) a2]), .v (.c (.int .i64 a3)), .v (.c (.ls false (.num .i64) a4))] [] [] (.v (.c (.ho 0))) [.vc 3 (.num .i64) r] := by
  unfold F_s_duFactors at h
  refine acall_of_aw ttOK Try.func66 (by kernel_rfl) (c := _) rfl (N := 66) (by kernel_rfl) (Nat.le_of_ble_eq_true rfl) ?_
  refine aw_seq ?_
  refine aw_region ttOK (C := True) (hs := [(0, { id := 100 })]) (gs := []) (rn := []) (l' := [(1, .v (.c (.int .i64 a3))), (2, .v (.c (.ls false (.num .i64) a4))), (3, .v (.c (.p 100 0)))]) (h' := [(100, .bx [.int .i64 a0, .ls false (.pr (.num .i64) (.num .i64)) a1, .ls false (.num .i64) a2])]) (by kernel_rfl) trivial ?_
  refine aw_seq ?_
  refine aw_region ttOK (C := True) (hs := []) (gs := []) (rn := []) (l' := [(1, .v (.c (.int .i64 a3))), (2, .v (.c (.ls false (.num .i64) a4))), (3, .v (.c (.p 100 0))), (7, .v (.c (.nl)))]) (h' := [(100, .bx [.int .i64 a0, .ls false (.pr (.num .i64) (.num .i64)) a1, .ls false (.num .i64) a2])]) (by kernel_rfl) trivial ?_
  refine aw_join (X := List Int) (fun x => ([(1, .v (.c (.int .i64 a3))), (2, .v (.c (.ls false (.num .i64) a4))), (3, .v (.c (.p 100 0))), (7, .v (.c (.ho 950)))], [(100, .bx [.int .i64 a0, .ls false (.pr (.num .i64) (.num .i64)) a1, .ls false (.num .i64) a2]), (950, .vc 3 (.num .i64) x)])) (fun x => F_s_duFactorsJ1 fu a1 a3 a0 a4 x = some r) ?_ ?_
  · rintro v1 h
    unfold F_s_duFactorsJ1 at h
    refine aw_join (X := List Int) (fun x => ([(7, .v (.c (.ho 950)))], [(950, .vc 3 (.num .i64) x)])) (fun x => F_s_duFactorsJ2 fu x = some r) ?_ ?_
    · rintro v2 h
      unfold F_s_duFactorsJ2 at h
      refine aw_seq ?_
      refine aw_region ttOK (C := True) (hs := []) (gs := []) (rn := []) (l' := [(6, .v (.c (.ho 950)))]) (h' := [(950, .vc 3 (.num .i64) v2)]) (by kernel_rfl) trivial ?_
      refine aw_ghost (gs := []) (rn := []) (l' := [(6, .v (.c (.ho 950)))]) (h' := [(950, .vc 3 (.num .i64) v2)]) (by kernel_rfl) ?_
      refine aw_ret (ret_ok [950] ?_)
      cases h
      kernel_rfl
    · refine aw_seq ?_
      refine aw_region ttOK (C := True) (hs := []) (gs := []) (rn := []) (l' := [(1, .v (.c (.int .i64 a3))), (2, .v (.c (.ls false (.num .i64) a4))), (3, .v (.c (.p 100 0))), (7, .v (.c (.ho 950))), (29, .v (.c (.ls false (.pr (.num .i64) (.num .i64)) a1))), (30, .v (.c (.int .i64 (List.length a1 : Int)))), (31, .v (.c (.int .i64 (0 : Int))))]) (h' := [(100, .bx [.int .i64 a0, .ls false (.pr (.num .i64) (.num .i64)) a1, .ls false (.num .i64) a2]), (950, .vc 3 (.num .i64) v1)]) (by kernel_rfl) trivial ?_
      refine aw_block ?_
      refine aw_loopF (X := Int × List Int) (fun x => ([(1, .v (.c (.int .i64 a3))), (2, .v (.c (.ls false (.num .i64) a4))), (3, .v (.c (.p 100 0))), (7, .v (.c (.ho 950))), (29, .v (.c (.ls false (.pr (.num .i64) (.num .i64)) a1))), (30, .v (.c (.int .i64 (List.length a1 : Int)))), (31, .v (.c (.int .i64 x.1)))], [(100, .bx [.int .i64 a0, .ls false (.pr (.num .i64) (.num .i64)) a1, .ls false (.num .i64) a2]), (950, .vc 3 (.num .i64) x.2)])) (fun n x => F_s_duFactorsL3 fu a1 a3 a0 a4 n x.1 x.2 = some r) fu ((0 : Int), v1) h ?_
      rintro n3 ⟨v4, v5⟩ h
      cases n3 with
      | zero => first | cases h | (rw [F_s_duFactorsL3] at h; cases h)
      | succ n3 =>
        rw [F_s_duFactorsL3] at h
        refine aw_seq ?_
        refine aw_region ttOK (C := True) (hs := []) (gs := []) (rn := []) (l' := [(1, .v (.c (.int .i64 a3))), (2, .v (.c (.ls false (.num .i64) a4))), (3, .v (.c (.p 100 0))), (7, .v (.c (.ho 950))), (29, .v (.c (.ls false (.pr (.num .i64) (.num .i64)) a1))), (30, .v (.c (.int .i64 (List.length a1 : Int)))), (31, .v (.c (.int .i64 v4))), (32, .v (.c (.bool (decide (v4 < (List.length a1 : Int))))))]) (h' := [(100, .bx [.int .i64 a0, .ls false (.pr (.num .i64) (.num .i64)) a1, .ls false (.num .i64) a2]), (950, .vc 3 (.num .i64) v5)]) (by kernel_rfl) trivial ?_
        refine aw_seq ?_
        refine aw_if (decide (v4 < (List.length a1 : Int))) (by kernel_rfl) (fun hb => ?_) (fun hb => ?_)
        · rw [ite_t hb] at h
          refine aw_ghost (gs := []) (rn := []) (l' := [(1, .v (.c (.int .i64 a3))), (2, .v (.c (.ls false (.num .i64) a4))), (3, .v (.c (.p 100 0))), (7, .v (.c (.ho 950))), (29, .v (.c (.ls false (.pr (.num .i64) (.num .i64)) a1))), (30, .v (.c (.int .i64 (List.length a1 : Int)))), (31, .v (.c (.int .i64 v4)))]) (h' := [(100, .bx [.int .i64 a0, .ls false (.pr (.num .i64) (.num .i64)) a1, .ls false (.num .i64) a2]), (950, .vc 3 (.num .i64) v5)]) (by kernel_rfl) ?_
          refine aw_skip ?_
          refine aw_join (X := List Int) (fun x => ([(1, .v (.c (.int .i64 a3))), (2, .v (.c (.ls false (.num .i64) a4))), (3, .v (.c (.p 100 0))), (7, .v (.c (.ho 162))), (29, .v (.c (.ls false (.pr (.num .i64) (.num .i64)) a1))), (30, .v (.c (.int .i64 (List.length a1 : Int)))), (31, .v (.c (.int .i64 v4)))], [(100, .bx [.int .i64 a0, .ls false (.pr (.num .i64) (.num .i64)) a1, .ls false (.num .i64) a2]), (162, .vc 3 (.num .i64) x)])) (fun x => F_s_duFactorsJ4 fu (F_s_duFactorsL3 fu a1 a3 a0 a4 n3) v4 x = some r) ?_ ?_
          · rintro v6 h
            unfold F_s_duFactorsJ4 at h
            refine aw_region ttOK (C := True) (hs := []) (gs := []) (rn := [(162, 950)]) (l' := [(1, .v (.c (.int .i64 a3))), (2, .v (.c (.ls false (.num .i64) a4))), (3, .v (.c (.p 100 0))), (7, .v (.c (.ho 950))), (29, .v (.c (.ls false (.pr (.num .i64) (.num .i64)) a1))), (30, .v (.c (.int .i64 (List.length a1 : Int)))), (31, .v (.c (.int .i64 (IntKind.i64.wrap (v4 + (1 : Int))))))]) (h' := [(100, .bx [.int .i64 a0, .ls false (.pr (.num .i64) (.num .i64)) a1, .ls false (.num .i64) a2]), (950, .vc 3 (.num .i64) v6)]) (by kernel_rfl) trivial ?_
            exact ⟨_, ((IntKind.i64.wrap (v4 + (1 : Int))), v6), Nat.lt_succ_self _, h, rfl, rfl⟩
          · refine aw_block ?_
            refine aw_seq ?_
            obtain ⟨c0, h⟩ := chk_some h
            refine aw_region ttOK (C := (0 ≤ v4 ∧ v4 < (List.length a1 : Int)) ∧ True) (hs := [(3, { id := 131 })]) (gs := []) (rn := []) (l' := [(1, .v (.c (.int .i64 a3))), (2, .v (.c (.ls false (.num .i64) a4))), (3, .v (.c (.p 100 0))), (7, .v (.c (.ho 950))), (10, .v (.c (.int .i64 v4))), (11, .v (.c (.p 131 0))), (29, .v (.c (.ls false (.pr (.num .i64) (.num .i64)) a1))), (30, .v (.c (.int .i64 (List.length a1 : Int)))), (31, .v (.c (.int .i64 v4)))]) (h' := [(100, .bx [.int .i64 a0, .ls false (.pr (.num .i64) (.num .i64)) a1, .ls false (.num .i64) a2]), (131, .bx [.int .i64 (List.getD a1 (v4).toNat ((0 : Int), (0 : Int))).1, .int .i64 (List.getD a1 (v4).toNat ((0 : Int), (0 : Int))).2]), (950, .vc 3 (.num .i64) v5)]) (by kernel_rfl) ⟨c0, trivial⟩ ?_
            refine aw_join (X := List Int) (fun x => ([(1, .v (.c (.int .i64 a3))), (2, .v (.c (.ls false (.num .i64) a4))), (3, .v (.c (.p 100 0))), (7, .v (.c (.ho 147))), (10, .v (.c (.int .i64 v4))), (11, .v (.c (.p 131 0))), (29, .v (.c (.ls false (.pr (.num .i64) (.num .i64)) a1))), (30, .v (.c (.int .i64 (List.length a1 : Int)))), (31, .v (.c (.int .i64 v4)))], [(100, .bx [.int .i64 a0, .ls false (.pr (.num .i64) (.num .i64)) a1, .ls false (.num .i64) a2]), (131, .bx [.int .i64 (List.getD a1 (v4).toNat ((0 : Int), (0 : Int))).1, .int .i64 (List.getD a1 (v4).toNat ((0 : Int), (0 : Int))).2]), (147, .vc 3 (.num .i64) x)])) (fun x => F_s_duFactorsJ5 fu a1 v4 a3 a0 a4 (F_s_duFactorsL3 fu a1 a3 a0 a4 n3) x = some r) ?_ ?_
            · rintro v6 h
              unfold F_s_duFactorsJ5 at h
              refine aw_seq ?_
              refine aw_region ttOK (C := True) (hs := []) (gs := []) (rn := []) (l' := [(1, .v (.c (.int .i64 a3))), (2, .v (.c (.ls false (.num .i64) a4))), (3, .v (.c (.p 100 0))), (7, .v (.c (.ho 147))), (10, .v (.c (.int .i64 v4))), (29, .v (.c (.ls false (.pr (.num .i64) (.num .i64)) a1))), (30, .v (.c (.int .i64 (List.length a1 : Int)))), (31, .v (.c (.int .i64 v4))), (53, .v (.c (.bool ((List.getD a1 (v4).toNat ((0 : Int), (0 : Int))).2 == a3))))]) (h' := [(100, .bx [.int .i64 a0, .ls false (.pr (.num .i64) (.num .i64)) a1, .ls false (.num .i64) a2]), (147, .vc 3 (.num .i64) v6)]) (by kernel_rfl) trivial ?_
              refine aw_if ((List.getD a1 (v4).toNat ((0 : Int), (0 : Int))).2 == a3) (by kernel_rfl) (fun hb => ?_) (fun hb => ?_)
              · rw [ite_t hb] at h
                obtain ⟨⟨c0, c1⟩, h⟩ := chk_some h
                refine aw_region ttOK (C := (0 ≤ (IntKind.i64.wrap (a0 + v4)) ∧ (IntKind.i64.wrap (a0 + v4)) < (List.length a4 : Int)) ∧ ((List.length v6 + List.length ([(List.getD a4 ((IntKind.i64.wrap (a0 + v4))).toNat (0 : Int))] : List Int)) * 8 ≤ 140737488355328) ∧ True) (hs := [(8, { id := 161 }), (9, { id := 162 })]) (gs := []) (rn := []) (l' := [(1, .v (.c (.int .i64 a3))), (2, .v (.c (.ls false (.num .i64) a4))), (3, .v (.c (.p 100 0))), (7, .v (.c (.ho 162))), (29, .v (.c (.ls false (.pr (.num .i64) (.num .i64)) a1))), (30, .v (.c (.int .i64 (List.length a1 : Int)))), (31, .v (.c (.int .i64 v4)))]) (h' := [(100, .bx [.int .i64 a0, .ls false (.pr (.num .i64) (.num .i64)) a1, .ls false (.num .i64) a2]), (162, .vc 3 (.num .i64) (v6 ++ ([(List.getD a4 ((IntKind.i64.wrap (a0 + v4))).toNat (0 : Int))] : List Int)))]) (by kernel_rfl) ⟨c0, c1, trivial⟩ ?_
                exact ⟨(v6 ++ ([(List.getD a4 ((IntKind.i64.wrap (a0 + v4))).toNat (0 : Int))] : List Int)), h, rfl, rfl⟩
              · rw [ite_f hb] at h
                refine aw_ghost (gs := []) (rn := [(147, 162)]) (l' := [(1, .v (.c (.int .i64 a3))), (2, .v (.c (.ls false (.num .i64) a4))), (3, .v (.c (.p 100 0))), (7, .v (.c (.ho 162))), (29, .v (.c (.ls false (.pr (.num .i64) (.num .i64)) a1))), (30, .v (.c (.int .i64 (List.length a1 : Int)))), (31, .v (.c (.int .i64 v4)))]) (h' := [(100, .bx [.int .i64 a0, .ls false (.pr (.num .i64) (.num .i64)) a1, .ls false (.num .i64) a2]), (162, .vc 3 (.num .i64) v6)]) (by kernel_rfl) ?_
                refine aw_skip ?_
                exact ⟨v6, h, rfl, rfl⟩
            · refine aw_seq ?_
              refine aw_region ttOK (C := True) (hs := []) (gs := []) (rn := []) (l' := [(1, .v (.c (.int .i64 a3))), (2, .v (.c (.ls false (.num .i64) a4))), (3, .v (.c (.p 100 0))), (7, .v (.c (.ho 950))), (10, .v (.c (.int .i64 v4))), (11, .v (.c (.p 131 0))), (29, .v (.c (.ls false (.pr (.num .i64) (.num .i64)) a1))), (30, .v (.c (.int .i64 (List.length a1 : Int)))), (31, .v (.c (.int .i64 v4))), (39, .v (.c (.bool ((List.getD a1 (v4).toNat ((0 : Int), (0 : Int))).1 == a3))))]) (h' := [(100, .bx [.int .i64 a0, .ls false (.pr (.num .i64) (.num .i64)) a1, .ls false (.num .i64) a2]), (131, .bx [.int .i64 (List.getD a1 (v4).toNat ((0 : Int), (0 : Int))).1, .int .i64 (List.getD a1 (v4).toNat ((0 : Int), (0 : Int))).2]), (950, .vc 3 (.num .i64) v5)]) (by kernel_rfl) trivial ?_
              refine aw_if ((List.getD a1 (v4).toNat ((0 : Int), (0 : Int))).1 == a3) (by kernel_rfl) (fun hb => ?_) (fun hb => ?_)
              · rw [ite_t hb] at h
                obtain ⟨⟨c0, c1⟩, h⟩ := chk_some h
                refine aw_region ttOK (C := (0 ≤ (IntKind.i64.wrap (a0 + v4)) ∧ (IntKind.i64.wrap (a0 + v4)) < (List.length a4 : Int)) ∧ ((List.length v5 + List.length ([(List.getD a4 ((IntKind.i64.wrap (a0 + v4))).toNat (0 : Int))] : List Int)) * 8 ≤ 140737488355328) ∧ True) (hs := [(8, { id := 146 }), (9, { id := 147 })]) (gs := []) (rn := []) (l' := [(1, .v (.c (.int .i64 a3))), (2, .v (.c (.ls false (.num .i64) a4))), (3, .v (.c (.p 100 0))), (7, .v (.c (.ho 147))), (10, .v (.c (.int .i64 v4))), (11, .v (.c (.p 131 0))), (29, .v (.c (.ls false (.pr (.num .i64) (.num .i64)) a1))), (30, .v (.c (.int .i64 (List.length a1 : Int)))), (31, .v (.c (.int .i64 v4)))]) (h' := [(100, .bx [.int .i64 a0, .ls false (.pr (.num .i64) (.num .i64)) a1, .ls false (.num .i64) a2]), (131, .bx [.int .i64 (List.getD a1 (v4).toNat ((0 : Int), (0 : Int))).1, .int .i64 (List.getD a1 (v4).toNat ((0 : Int), (0 : Int))).2]), (147, .vc 3 (.num .i64) (v5 ++ ([(List.getD a4 ((IntKind.i64.wrap (a0 + v4))).toNat (0 : Int))] : List Int)))]) (by kernel_rfl) ⟨c0, c1, trivial⟩ ?_
                exact ⟨(v5 ++ ([(List.getD a4 ((IntKind.i64.wrap (a0 + v4))).toNat (0 : Int))] : List Int)), h, rfl, rfl⟩
              · rw [ite_f hb] at h
                refine aw_ghost (gs := []) (rn := [(950, 147)]) (l' := [(1, .v (.c (.int .i64 a3))), (2, .v (.c (.ls false (.num .i64) a4))), (3, .v (.c (.p 100 0))), (7, .v (.c (.ho 147))), (10, .v (.c (.int .i64 v4))), (11, .v (.c (.p 131 0))), (29, .v (.c (.ls false (.pr (.num .i64) (.num .i64)) a1))), (30, .v (.c (.int .i64 (List.length a1 : Int)))), (31, .v (.c (.int .i64 v4)))]) (h' := [(100, .bx [.int .i64 a0, .ls false (.pr (.num .i64) (.num .i64)) a1, .ls false (.num .i64) a2]), (131, .bx [.int .i64 (List.getD a1 (v4).toNat ((0 : Int), (0 : Int))).1, .int .i64 (List.getD a1 (v4).toNat ((0 : Int), (0 : Int))).2]), (147, .vc 3 (.num .i64) v5)]) (by kernel_rfl) ?_
                refine aw_skip ?_
                exact ⟨v5, h, rfl, rfl⟩
        · rw [ite_f hb] at h
          refine aw_ghost (gs := []) (rn := []) (l' := [(7, .v (.c (.ho 950)))]) (h' := [(950, .vc 3 (.num .i64) v5)]) (by kernel_rfl) ?_
          refine aw_exit ?_
          exact ⟨v5, h, rfl, rfl⟩
  · refine aw_seq ?_
    refine aw_region ttOK (C := True) (hs := []) (gs := []) (rn := []) (l' := [(1, .v (.c (.int .i64 a3))), (2, .v (.c (.ls false (.num .i64) a4))), (3, .v (.c (.p 100 0))), (7, .v (.c (.nl))), (13, .v (.c (.ls false (.num .i64) a2))), (14, .v (.c (.int .i64 (List.length a2 : Int)))), (15, .v (.c (.int .i64 (0 : Int))))]) (h' := [(100, .bx [.int .i64 a0, .ls false (.pr (.num .i64) (.num .i64)) a1, .ls false (.num .i64) a2])]) (by kernel_rfl) trivial ?_
    refine aw_block ?_
    refine aw_ghost (gs := [.own 7 950 3 (.num .i64)]) (rn := []) (l' := [(1, .v (.c (.int .i64 a3))), (2, .v (.c (.ls false (.num .i64) a4))), (3, .v (.c (.p 100 0))), (7, .v (.c (.ho 950))), (13, .v (.c (.ls false (.num .i64) a2))), (14, .v (.c (.int .i64 (List.length a2 : Int)))), (15, .v (.c (.int .i64 (0 : Int))))]) (h' := [(100, .bx [.int .i64 a0, .ls false (.pr (.num .i64) (.num .i64)) a1, .ls false (.num .i64) a2]), (950, .vc 3 (.num .i64) ([] : List Int))]) (by kernel_rfl) ?_
    refine aw_loopF (X := Int × List Int) (fun x => ([(1, .v (.c (.int .i64 a3))), (2, .v (.c (.ls false (.num .i64) a4))), (3, .v (.c (.p 100 0))), (7, .v (.c (.ho 950))), (13, .v (.c (.ls false (.num .i64) a2))), (14, .v (.c (.int .i64 (List.length a2 : Int)))), (15, .v (.c (.int .i64 x.1)))], [(100, .bx [.int .i64 a0, .ls false (.pr (.num .i64) (.num .i64)) a1, .ls false (.num .i64) a2]), (950, .vc 3 (.num .i64) x.2)])) (fun n x => F_s_duFactorsL6 fu a2 a3 a1 a0 a4 n x.1 x.2 = some r) fu ((0 : Int), ([] : List Int)) h ?_
    rintro n6 ⟨v3, v4⟩ h
    cases n6 with
    | zero => first | cases h | (rw [F_s_duFactorsL6] at h; cases h)
    | succ n6 =>
      rw [F_s_duFactorsL6] at h
      refine aw_seq ?_
      refine aw_region ttOK (C := True) (hs := []) (gs := []) (rn := []) (l' := [(1, .v (.c (.int .i64 a3))), (2, .v (.c (.ls false (.num .i64) a4))), (3, .v (.c (.p 100 0))), (7, .v (.c (.ho 950))), (13, .v (.c (.ls false (.num .i64) a2))), (14, .v (.c (.int .i64 (List.length a2 : Int)))), (15, .v (.c (.int .i64 v3))), (16, .v (.c (.bool (decide (v3 < (List.length a2 : Int))))))]) (h' := [(100, .bx [.int .i64 a0, .ls false (.pr (.num .i64) (.num .i64)) a1, .ls false (.num .i64) a2]), (950, .vc 3 (.num .i64) v4)]) (by kernel_rfl) trivial ?_
      refine aw_seq ?_
      refine aw_if (decide (v3 < (List.length a2 : Int))) (by kernel_rfl) (fun hb => ?_) (fun hb => ?_)
      · rw [ite_t hb] at h
        refine aw_ghost (gs := []) (rn := []) (l' := [(1, .v (.c (.int .i64 a3))), (2, .v (.c (.ls false (.num .i64) a4))), (3, .v (.c (.p 100 0))), (7, .v (.c (.ho 950))), (13, .v (.c (.ls false (.num .i64) a2))), (14, .v (.c (.int .i64 (List.length a2 : Int)))), (15, .v (.c (.int .i64 v3)))]) (h' := [(100, .bx [.int .i64 a0, .ls false (.pr (.num .i64) (.num .i64)) a1, .ls false (.num .i64) a2]), (950, .vc 3 (.num .i64) v4)]) (by kernel_rfl) ?_
        refine aw_skip ?_
        refine aw_join (X := List Int) (fun x => ([(1, .v (.c (.int .i64 a3))), (2, .v (.c (.ls false (.num .i64) a4))), (3, .v (.c (.p 100 0))), (7, .v (.c (.ho 119))), (13, .v (.c (.ls false (.num .i64) a2))), (14, .v (.c (.int .i64 (List.length a2 : Int)))), (15, .v (.c (.int .i64 v3)))], [(100, .bx [.int .i64 a0, .ls false (.pr (.num .i64) (.num .i64)) a1, .ls false (.num .i64) a2]), (119, .vc 3 (.num .i64) x)])) (fun x => F_s_duFactorsJ7 fu (F_s_duFactorsL6 fu a2 a3 a1 a0 a4 n6) v3 x = some r) ?_ ?_
        · rintro v5 h
          unfold F_s_duFactorsJ7 at h
          refine aw_region ttOK (C := True) (hs := []) (gs := []) (rn := [(119, 950)]) (l' := [(1, .v (.c (.int .i64 a3))), (2, .v (.c (.ls false (.num .i64) a4))), (3, .v (.c (.p 100 0))), (7, .v (.c (.ho 950))), (13, .v (.c (.ls false (.num .i64) a2))), (14, .v (.c (.int .i64 (List.length a2 : Int)))), (15, .v (.c (.int .i64 (IntKind.i64.wrap (v3 + (1 : Int))))))]) (h' := [(100, .bx [.int .i64 a0, .ls false (.pr (.num .i64) (.num .i64)) a1, .ls false (.num .i64) a2]), (950, .vc 3 (.num .i64) v5)]) (by kernel_rfl) trivial ?_
          exact ⟨_, ((IntKind.i64.wrap (v3 + (1 : Int))), v5), Nat.lt_succ_self _, h, rfl, rfl⟩
        · refine aw_block ?_
          refine aw_seq ?_
          obtain ⟨c0, h⟩ := chk_some h
          refine aw_region ttOK (C := (0 ≤ v3 ∧ v3 < (List.length a2 : Int)) ∧ True) (hs := []) (gs := []) (rn := []) (l' := [(1, .v (.c (.int .i64 a3))), (2, .v (.c (.ls false (.num .i64) a4))), (3, .v (.c (.p 100 0))), (7, .v (.c (.ho 950))), (8, .v (.c (.int .i64 v3))), (9, .v (.c (.int .i64 (List.getD a2 (v3).toNat (0 : Int))))), (13, .v (.c (.ls false (.num .i64) a2))), (14, .v (.c (.int .i64 (List.length a2 : Int)))), (15, .v (.c (.int .i64 v3)))]) (h' := [(100, .bx [.int .i64 a0, .ls false (.pr (.num .i64) (.num .i64)) a1, .ls false (.num .i64) a2]), (950, .vc 3 (.num .i64) v4)]) (by kernel_rfl) ⟨c0, trivial⟩ ?_
          refine aw_seq ?_
          refine aw_region ttOK (C := True) (hs := []) (gs := []) (rn := []) (l' := [(1, .v (.c (.int .i64 a3))), (2, .v (.c (.ls false (.num .i64) a4))), (3, .v (.c (.p 100 0))), (7, .v (.c (.ho 950))), (8, .v (.c (.int .i64 v3))), (13, .v (.c (.ls false (.num .i64) a2))), (14, .v (.c (.int .i64 (List.length a2 : Int)))), (15, .v (.c (.int .i64 v3))), (22, .v (.c (.bool ((List.getD a2 (v3).toNat (0 : Int)) == a3))))]) (h' := [(100, .bx [.int .i64 a0, .ls false (.pr (.num .i64) (.num .i64)) a1, .ls false (.num .i64) a2]), (950, .vc 3 (.num .i64) v4)]) (by kernel_rfl) trivial ?_
          refine aw_if ((List.getD a2 (v3).toNat (0 : Int)) == a3) (by kernel_rfl) (fun hb => ?_) (fun hb => ?_)
          · rw [ite_t hb] at h
            obtain ⟨c0, h⟩ := chk_some h
            refine aw_region ttOK (C := ((List.length v4 + List.length ([v3] : List Int)) * 8 ≤ 140737488355328) ∧ True) (hs := [(2, { id := 118 }), (3, { id := 119 })]) (gs := []) (rn := []) (l' := [(1, .v (.c (.int .i64 a3))), (2, .v (.c (.ls false (.num .i64) a4))), (3, .v (.c (.p 100 0))), (7, .v (.c (.ho 119))), (13, .v (.c (.ls false (.num .i64) a2))), (14, .v (.c (.int .i64 (List.length a2 : Int)))), (15, .v (.c (.int .i64 v3)))]) (h' := [(100, .bx [.int .i64 a0, .ls false (.pr (.num .i64) (.num .i64)) a1, .ls false (.num .i64) a2]), (119, .vc 3 (.num .i64) (v4 ++ ([v3] : List Int)))]) (by kernel_rfl) ⟨c0, trivial⟩ ?_
            exact ⟨(v4 ++ ([v3] : List Int)), h, rfl, rfl⟩
          · rw [ite_f hb] at h
            refine aw_ghost (gs := []) (rn := [(950, 119)]) (l' := [(1, .v (.c (.int .i64 a3))), (2, .v (.c (.ls false (.num .i64) a4))), (3, .v (.c (.p 100 0))), (7, .v (.c (.ho 119))), (13, .v (.c (.ls false (.num .i64) a2))), (14, .v (.c (.int .i64 (List.length a2 : Int)))), (15, .v (.c (.int .i64 v3)))]) (h' := [(100, .bx [.int .i64 a0, .ls false (.pr (.num .i64) (.num .i64)) a1, .ls false (.num .i64) a2]), (119, .vc 3 (.num .i64) v4)]) (by kernel_rfl) ?_
            refine aw_skip ?_
            exact ⟨v4, h, rfl, rfl⟩
      · rw [ite_f hb] at h
        refine aw_ghost (gs := []) (rn := []) (l' := [(1, .v (.c (.int .i64 a3))), (2, .v (.c (.ls false (.num .i64) a4))), (3, .v (.c (.p 100 0))), (7, .v (.c (.ho 950)))]) (h' := [(100, .bx [.int .i64 a0, .ls false (.pr (.num .i64) (.num .i64)) a1, .ls false (.num .i64) a2]), (950, .vc 3 (.num .i64) v4)]) (by kernel_rfl) ?_
        refine aw_exit ?_
        exact ⟨v4, h, rfl, rfl⟩

theorem F_s_l1Own_ok {fu : Nat} {a0 : List Int} {r : List Int} (h : F_s_l1Own fu a0 = some r) :
    ACall Try.prog 67 [.v (.c (.ls false (.num .i64) a0))] [] [] (.v (.c (.ho 0))) [.vc 3 (.num .i64) r] := by
  unfold F_s_l1Own at h
  refine acall_of_aw ttOK Try.func67 (by kernel_rfl) (c := _) rfl (N := 6) (by kernel_rfl) (Nat.le_of_ble_eq_true rfl) ?_
  refine aw_seq ?_
  refine aw_region ttOK (C := True) (hs := []) (gs := []) (rn := []) (l' := [(0, .v (.c (.ls false (.num .i64) a0)))]) (h' := []) (by kernel_rfl) trivial ?_
  refine aw_seq ?_
  obtain ⟨c0, h⟩ := chk_some h
  refine aw_region ttOK (C := ((List.length ([] : List Int) + List.length a0) * 8 ≤ 140737488355328) ∧ True) (hs := [(0, { id := 101 }), (2, { id := 103 })]) (gs := []) (rn := []) (l' := [(2, .v (.c (.ho 103)))]) (h' := [(103, .vc 3 (.num .i64) (([] : List Int) ++ a0))]) (by kernel_rfl) ⟨c0, trivial⟩ ?_
  refine aw_ghost (gs := []) (rn := []) (l' := [(2, .v (.c (.ho 103)))]) (h' := [(103, .vc 3 (.num .i64) (([] : List Int) ++ a0))]) (by kernel_rfl) ?_
  refine aw_ret (ret_ok [103] ?_)
  cases h
  kernel_rfl

end Go.Proofs.Ytiplmapndahmmaa
