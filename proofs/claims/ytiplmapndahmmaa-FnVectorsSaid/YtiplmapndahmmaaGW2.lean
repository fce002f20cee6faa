/- That the functions compute so: printed by a program of ours (gen.py). -/
import Derived.Test.YtiplmapndahmmaaGD
import Derived.Test.YtiplmapndahmmaaGT
import Derived.Test.YtiplmapndahmmaaGW1
namespace Go.Proofs.Ytiplmapndahmmaa
open Al
set_option linter.unusedVariables false
set_option linter.constructorNameAsVariable false
theorem F_s_duTurn_ok {fu : Nat} {a0 : Int} {a1 : List (Int × Int)} {a2 : List Int} {r : Int × List (Int × Int) × List Int} (h : F_s_duTurn fu a0 a1 a2 = some r) :
    ACall Try.prog 46 [.v (.ag [.int .i64 a0, .ls false (.pr (.num .i64) (.num .i64)) a1, .ls false (.num .i64) a2])] [] [] (.v (.ag [.int .i64 r.1, .ls false (.pr (.num .i64) (.num .i64)) r.2.1, .ls false (.num .i64) r.2.2])) [] := by
  unfold F_s_duTurn at h
  refine acall_of_aw ttOK Try.func46 (by kernel_rfl) (c := _) rfl (N := 61) (by kernel_rfl) (Nat.le_of_ble_eq_true rfl) ?_
  refine aw_seq ?_
  refine aw_region ttOK (C := True) (hs := [(0, { id := 100 }), (1, { id := 101 })]) (gs := []) (rn := []) (l' := [(1, .v (.c (.p 100 0))), (2, .v (.c (.p 101 0)))]) (h' := [(100, .bx [.int .i64 a0, .ls false (.pr (.num .i64) (.num .i64)) a1, .ls false (.num .i64) a2]), (101, .bx [.int .i64 (0 : Int), .nl, .nl])]) (by kernel_rfl) trivial ?_
  refine aw_seq ?_
  refine aw_region ttOK (C := True) (hs := [(4, { id := 106 })]) (gs := []) (rn := []) (l' := [(1, .v (.c (.p 100 0))), (2, .v (.c (.p 101 0))), (3, .v (.c (.p 106 0)))]) (h' := [(100, .bx [.int .i64 a0, .ls false (.pr (.num .i64) (.num .i64)) a1, .ls false (.num .i64) a2]), (101, .bx [.int .i64 (0 : Int), .nl, .nl]), (106, .bx [.int .i64 (List.length a2 : Int), .nl, .nl])]) (by kernel_rfl) trivial ?_
  refine aw_seq ?_
  obtain ⟨c0, h⟩ := chk_some h
  refine aw_region ttOK (C := (0 ≤ (IntKind.i64.wrap (a0 + (List.length a1 : Int))) ∧ (IntKind.i64.wrap (a0 + (List.length a1 : Int))) ≤ (IntKind.i64.wrap (a0 + (List.length a1 : Int))) ∧ (IntKind.i64.wrap (a0 + (List.length a1 : Int))) * (8 : Nat) ≤ 140737488355328) ∧ True) (hs := [(6, { id := 114 })]) (gs := []) (rn := []) (l' := [(1, .v (.c (.p 100 0))), (2, .v (.c (.p 101 0))), (3, .v (.c (.p 106 0))), (4, .v (.c (.ho 114)))]) (h' := [(100, .bx [.int .i64 a0, .ls false (.pr (.num .i64) (.num .i64)) a1, .ls false (.num .i64) a2]), (101, .bx [.int .i64 (0 : Int), .nl, .nl]), (106, .bx [.int .i64 (List.length a2 : Int), .nl, .nl]), (114, .vc 3 (.num .i64) (List.replicate ((IntKind.i64.wrap (a0 + (List.length a1 : Int)))).toNat (0 : Int)))]) (by kernel_rfl) ⟨c0, trivial⟩ ?_
  refine aw_join (X := Int × Int × List (Int × Int) × List Int) (fun x => ([(1, .v (.c (.p 100 0))), (2, .v (.c (.p 101 0))), (3, .v (.c (.p 106 0))), (4, .v (.c (.ho 114)))], [(100, .bx [.int .i64 a0, .ls false (.pr (.num .i64) (.num .i64)) a1, .ls false (.num .i64) a2]), (101, .bx [.int .i64 x.1, .nl, .nl]), (106, .bx [.int .i64 x.2.1, .ls false (.pr (.num .i64) (.num .i64)) x.2.2.1, .nl]), (114, .vc 3 (.num .i64) x.2.2.2)])) (fun x => F_s_duTurnJ1 fu a0 x.1 x.2.1 x.2.2.1 x.2.2.2 = some r) ?_ ?_
  · rintro ⟨v1, v2, v3, v4⟩ h
    unfold F_s_duTurnJ1 at h
    refine aw_seq ?_
    obtain ⟨c0, h⟩ := chk_some h
    obtain ⟨v5, ev5, h⟩ := bind_some h
    refine aw_region ttOK (C := (0 ≤ (0 : Int) ∧ (0 : Int) ≤ a0 ∧ a0 ≤ (List.length v4 : Int)) ∧ (ACall Try.prog 67 [.v (.c (.ls false (.num .i64) (List.drop ((0 : Int)).toNat (List.take (a0).toNat v4))))] [] [] (.v (.c (.ho 0))) [.vc 3 (.num .i64) v5]) ∧ True) (hs := [(3, { frz := [114] }), (4, { call := some { f := 67, casts := [.same], r := .v (.c (.ho 0)), Hout := [.vc 3 (.num .i64) v5], ren := [161] } })]) (gs := []) (rn := []) (l' := [(2, .v (.c (.p 101 0))), (3, .v (.c (.p 106 0)))]) (h' := [(101, .bx [.int .i64 v1, .nl, .nl]), (106, .bx [.int .i64 v2, .ls false (.pr (.num .i64) (.num .i64)) v3, .ho 161]), (161, .vc 3 (.num .i64) v5)]) (by kernel_rfl) ⟨c0, (F_s_l1Own_ok ev5), trivial⟩ ?_
    refine aw_seq ?_
    refine aw_region ttOK (C := True) (hs := []) (gs := []) (rn := []) (l' := [(2, .v (.c (.p 101 0)))]) (h' := [(101, .bx [.int .i64 v2, .ls false (.pr (.num .i64) (.num .i64)) v3, .ho 161]), (161, .vc 3 (.num .i64) v5)]) (by kernel_rfl) trivial ?_
    refine aw_ghost (gs := [.frz 161, .cview 101 2]) (rn := []) (l' := [(2, .v (.c (.p 101 0)))]) (h' := [(101, .bx [.int .i64 v2, .ls false (.pr (.num .i64) (.num .i64)) v3, .ls false (.num .i64) v5])]) (by kernel_rfl) ?_
    refine aw_ret (ret_ok [] ?_)
    cases h
    kernel_rfl
  · refine aw_seq ?_
    refine aw_region ttOK (C := True) (hs := []) (gs := []) (rn := []) (l' := [(1, .v (.c (.p 100 0))), (2, .v (.c (.p 101 0))), (3, .v (.c (.p 106 0))), (4, .v (.c (.ho 114))), (5, .v (.c (.int .i64 (IntKind.i64.wrap ((List.length (List.replicate ((IntKind.i64.wrap (a0 + (List.length a1 : Int)))).toNat (0 : Int)) : Int) - (1 : Int))))))]) (h' := [(100, .bx [.int .i64 a0, .ls false (.pr (.num .i64) (.num .i64)) a1, .ls false (.num .i64) a2]), (101, .bx [.int .i64 (0 : Int), .nl, .nl]), (106, .bx [.int .i64 (List.length a2 : Int), .nl, .nl]), (114, .vc 3 (.num .i64) (List.replicate ((IntKind.i64.wrap (a0 + (List.length a1 : Int)))).toNat (0 : Int)))]) (by kernel_rfl) trivial ?_
    refine aw_block ?_
    refine aw_ghost (gs := [.cnil 106 1 (.pr (.num .i64) (.num .i64)), .cview 106 1]) (rn := []) (l' := [(1, .v (.c (.p 100 0))), (2, .v (.c (.p 101 0))), (3, .v (.c (.p 106 0))), (4, .v (.c (.ho 114))), (5, .v (.c (.int .i64 (IntKind.i64.wrap ((List.length (List.replicate ((IntKind.i64.wrap (a0 + (List.length a1 : Int)))).toNat (0 : Int)) : Int) - (1 : Int))))))]) (h' := [(100, .bx [.int .i64 a0, .ls false (.pr (.num .i64) (.num .i64)) a1, .ls false (.num .i64) a2]), (101, .bx [.int .i64 (0 : Int), .nl, .nl]), (106, .bx [.int .i64 (List.length a2 : Int), .ls false (.pr (.num .i64) (.num .i64)) ([] : List (Int × Int)), .nl]), (114, .vc 3 (.num .i64) (List.replicate ((IntKind.i64.wrap (a0 + (List.length a1 : Int)))).toNat (0 : Int)))]) (by kernel_rfl) ?_
    refine aw_loopF (X := Int × Int × Int × List (Int × Int) × List Int) (fun x => ([(1, .v (.c (.p 100 0))), (2, .v (.c (.p 101 0))), (3, .v (.c (.p 106 0))), (4, .v (.c (.ho 114))), (5, .v (.c (.int .i64 x.1)))], [(100, .bx [.int .i64 a0, .ls false (.pr (.num .i64) (.num .i64)) a1, .ls false (.num .i64) a2]), (101, .bx [.int .i64 x.2.1, .nl, .nl]), (106, .bx [.int .i64 x.2.2.1, .ls false (.pr (.num .i64) (.num .i64)) x.2.2.2.1, .nl]), (114, .vc 3 (.num .i64) x.2.2.2.2)])) (fun n x => F_s_duTurnL2 fu a0 a1 a2 n x.1 x.2.1 x.2.2.1 x.2.2.2.1 x.2.2.2.2 = some r) fu ((IntKind.i64.wrap ((List.length (List.replicate ((IntKind.i64.wrap (a0 + (List.length a1 : Int)))).toNat (0 : Int)) : Int) - (1 : Int))), (0 : Int), (List.length a2 : Int), ([] : List (Int × Int)), (List.replicate ((IntKind.i64.wrap (a0 + (List.length a1 : Int)))).toNat (0 : Int))) h ?_
    rintro n2 ⟨v6, v7, v8, v9, v10⟩ h
    cases n2 with
    | zero => first | cases h | (rw [F_s_duTurnL2] at h; cases h)
    | succ n2 =>
      rw [F_s_duTurnL2] at h
      refine aw_seq ?_
      refine aw_seq ?_
      refine aw_region ttOK (C := True) (hs := []) (gs := []) (rn := []) (l' := [(1, .v (.c (.p 100 0))), (2, .v (.c (.p 101 0))), (3, .v (.c (.p 106 0))), (4, .v (.c (.ho 114))), (5, .v (.c (.int .i64 v6))), (25, .v (.c (.bool (decide (v6 ≥ (0 : Int))))))]) (h' := [(100, .bx [.int .i64 a0, .ls false (.pr (.num .i64) (.num .i64)) a1, .ls false (.num .i64) a2]), (101, .bx [.int .i64 v7, .nl, .nl]), (106, .bx [.int .i64 v8, .ls false (.pr (.num .i64) (.num .i64)) v9, .nl]), (114, .vc 3 (.num .i64) v10)]) (by kernel_rfl) trivial ?_
      refine aw_if (decide (v6 ≥ (0 : Int))) (by kernel_rfl) (fun hb => ?_) (fun hb => ?_)
      · rw [ite_t hb] at h
        refine aw_ghost (gs := []) (rn := []) (l' := [(1, .v (.c (.p 100 0))), (2, .v (.c (.p 101 0))), (3, .v (.c (.p 106 0))), (4, .v (.c (.ho 114))), (5, .v (.c (.int .i64 v6)))]) (h' := [(100, .bx [.int .i64 a0, .ls false (.pr (.num .i64) (.num .i64)) a1, .ls false (.num .i64) a2]), (101, .bx [.int .i64 v7, .nl, .nl]), (106, .bx [.int .i64 v8, .ls false (.pr (.num .i64) (.num .i64)) v9, .nl]), (114, .vc 3 (.num .i64) v10)]) (by kernel_rfl) ?_
        refine aw_skip ?_
        refine aw_join (X := Int × Int × Int × List (Int × Int) × List Int) (fun x => ([(1, .v (.c (.p 100 0))), (2, .v (.c (.p 101 0))), (3, .v (.c (.p 106 0))), (4, .v (.c (.ho 114))), (5, .v (.c (.int .i64 x.1)))], [(100, .bx [.int .i64 a0, .ls false (.pr (.num .i64) (.num .i64)) a1, .ls false (.num .i64) a2]), (101, .bx [.int .i64 x.2.1, .nl, .nl]), (106, .bx [.int .i64 x.2.2.1, .ls false (.pr (.num .i64) (.num .i64)) x.2.2.2.1, .nl]), (114, .vc 3 (.num .i64) x.2.2.2.2)])) (fun x => F_s_duTurnJ3 fu (F_s_duTurnL2 fu a0 a1 a2 n2) x.1 x.2.1 x.2.2.1 x.2.2.2.1 x.2.2.2.2 = some r) ?_ ?_
        · rintro ⟨v11, v12, v13, v14, v15⟩ h
          unfold F_s_duTurnJ3 at h
          refine aw_region ttOK (C := True) (hs := []) (gs := []) (rn := []) (l' := [(1, .v (.c (.p 100 0))), (2, .v (.c (.p 101 0))), (3, .v (.c (.p 106 0))), (4, .v (.c (.ho 114))), (5, .v (.c (.int .i64 (IntKind.i64.wrap (v11 - (1 : Int))))))]) (h' := [(100, .bx [.int .i64 a0, .ls false (.pr (.num .i64) (.num .i64)) a1, .ls false (.num .i64) a2]), (101, .bx [.int .i64 v12, .nl, .nl]), (106, .bx [.int .i64 v13, .ls false (.pr (.num .i64) (.num .i64)) v14, .nl]), (114, .vc 3 (.num .i64) v15)]) (by kernel_rfl) trivial ?_
          exact ⟨_, ((IntKind.i64.wrap (v11 - (1 : Int))), v12, v13, v14, v15), Nat.lt_succ_self _, h, rfl, rfl⟩
        · refine aw_block ?_
          refine aw_seq ?_
          obtain ⟨v11, ev11, h⟩ := bind_some h
          refine aw_region ttOK (C := (ACall Try.prog 66 [.v (.ag [.int .i64 a0, .ls false (.pr (.num .i64) (.num .i64)) a1, .ls false (.num .i64) a2]), .v (.c (.int .i64 v6)), .v (.c (.ls false (.num .i64) v10))] [] [] (.v (.c (.ho 0))) [.vc 3 (.num .i64) v11]) ∧ True) (hs := [(3, { call := some { f := 66, casts := [.same, .same, .view], lend := [114], r := .v (.c (.ho 0)), Hout := [.vc 3 (.num .i64) v11], ren := [125] } })]) (gs := []) (rn := []) (l' := [(1, .v (.c (.p 100 0))), (2, .v (.c (.p 101 0))), (3, .v (.c (.p 106 0))), (4, .v (.c (.ho 114))), (5, .v (.c (.int .i64 v6))), (6, .v (.c (.ho 125)))]) (h' := [(100, .bx [.int .i64 a0, .ls false (.pr (.num .i64) (.num .i64)) a1, .ls false (.num .i64) a2]), (101, .bx [.int .i64 v7, .nl, .nl]), (106, .bx [.int .i64 v8, .ls false (.pr (.num .i64) (.num .i64)) v9, .nl]), (114, .vc 3 (.num .i64) v10), (125, .vc 3 (.num .i64) v11)]) (by kernel_rfl) ⟨(F_s_duFactors_ok ev11), trivial⟩ ?_
          refine aw_seq ?_
          obtain ⟨c0, h⟩ := chk_some h
          refine aw_region ttOK (C := (0 ≤ (0 : Int) ∧ (0 : Int) < (List.length v11 : Int)) ∧ True) (hs := []) (gs := []) (rn := []) (l' := [(1, .v (.c (.p 100 0))), (2, .v (.c (.p 101 0))), (3, .v (.c (.p 106 0))), (4, .v (.c (.ho 114))), (5, .v (.c (.int .i64 v6))), (6, .v (.c (.ho 125))), (7, .v (.c (.int .i64 (List.getD v11 ((0 : Int)).toNat (0 : Int)))))]) (h' := [(100, .bx [.int .i64 a0, .ls false (.pr (.num .i64) (.num .i64)) a1, .ls false (.num .i64) a2]), (101, .bx [.int .i64 v7, .nl, .nl]), (106, .bx [.int .i64 v8, .ls false (.pr (.num .i64) (.num .i64)) v9, .nl]), (114, .vc 3 (.num .i64) v10), (125, .vc 3 (.num .i64) v11)]) (by kernel_rfl) ⟨c0, trivial⟩ ?_
          refine aw_join (X := Int × Int × Int × Int × List (Int × Int) × List Int) (fun x => ([(1, .v (.c (.p 100 0))), (2, .v (.c (.p 101 0))), (3, .v (.c (.p 106 0))), (4, .v (.c (.ho 114))), (5, .v (.c (.int .i64 x.1))), (7, .v (.c (.int .i64 x.2.1)))], [(100, .bx [.int .i64 a0, .ls false (.pr (.num .i64) (.num .i64)) a1, .ls false (.num .i64) a2]), (101, .bx [.int .i64 x.2.2.1, .nl, .nl]), (106, .bx [.int .i64 x.2.2.2.1, .ls false (.pr (.num .i64) (.num .i64)) x.2.2.2.2.1, .nl]), (114, .vc 3 (.num .i64) x.2.2.2.2.2)])) (fun x => F_s_duTurnJ4 fu (F_s_duTurnL2 fu a0 a1 a2 n2) x.1 x.2.1 x.2.2.1 x.2.2.2.1 x.2.2.2.2.1 x.2.2.2.2.2 = some r) ?_ ?_
          · rintro ⟨v12, v13, v14, v15, v16, v17⟩ h
            unfold F_s_duTurnJ4 at h
            obtain ⟨c0, h⟩ := chk_some h
            refine aw_region ttOK (C := (0 ≤ v12 ∧ v12 < (List.length v17 : Int)) ∧ True) (hs := []) (gs := []) (rn := []) (l' := [(1, .v (.c (.p 100 0))), (2, .v (.c (.p 101 0))), (3, .v (.c (.p 106 0))), (4, .v (.c (.ho 114))), (5, .v (.c (.int .i64 v12)))]) (h' := [(100, .bx [.int .i64 a0, .ls false (.pr (.num .i64) (.num .i64)) a1, .ls false (.num .i64) a2]), (101, .bx [.int .i64 v14, .nl, .nl]), (106, .bx [.int .i64 v15, .ls false (.pr (.num .i64) (.num .i64)) v16, .nl]), (114, .vc 3 (.num .i64) (List.set v17 (v12).toNat v13))]) (by kernel_rfl) ⟨c0, trivial⟩ ?_
            exact ⟨(v12, v14, v15, v16, (List.set v17 (v12).toNat v13)), h, rfl, rfl⟩
          · refine aw_seq ?_
            obtain ⟨c0, h⟩ := chk_some h
            refine aw_region ttOK (C := (0 ≤ (1 : Int) ∧ (1 : Int) ≤ (List.length v11 : Int) ∧ (List.length v11 : Int) ≤ (List.length v11 : Int)) ∧ True) (hs := [(1, { frz := [125] })]) (gs := []) (rn := []) (l' := [(1, .v (.c (.p 100 0))), (2, .v (.c (.p 101 0))), (3, .v (.c (.p 106 0))), (4, .v (.c (.ho 114))), (5, .v (.c (.int .i64 v6))), (7, .v (.c (.int .i64 (List.getD v11 ((0 : Int)).toNat (0 : Int))))), (36, .v (.c (.ls false (.num .i64) (List.drop ((1 : Int)).toNat (List.take ((List.length v11 : Int)).toNat v11))))), (37, .v (.c (.int .i64 (List.length (List.drop ((1 : Int)).toNat (List.take ((List.length v11 : Int)).toNat v11)) : Int)))), (38, .v (.c (.int .i64 (0 : Int))))]) (h' := [(100, .bx [.int .i64 a0, .ls false (.pr (.num .i64) (.num .i64)) a1, .ls false (.num .i64) a2]), (101, .bx [.int .i64 v7, .nl, .nl]), (106, .bx [.int .i64 v8, .ls false (.pr (.num .i64) (.num .i64)) v9, .nl]), (114, .vc 3 (.num .i64) v10)]) (by kernel_rfl) ⟨c0, trivial⟩ ?_
            refine aw_block ?_
            refine aw_loopF (X := Int × Int × List (Int × Int)) (fun x => ([(1, .v (.c (.p 100 0))), (2, .v (.c (.p 101 0))), (3, .v (.c (.p 106 0))), (4, .v (.c (.ho 114))), (5, .v (.c (.int .i64 v6))), (7, .v (.c (.int .i64 x.1))), (36, .v (.c (.ls false (.num .i64) (List.drop ((1 : Int)).toNat (List.take ((List.length v11 : Int)).toNat v11))))), (37, .v (.c (.int .i64 (List.length (List.drop ((1 : Int)).toNat (List.take ((List.length v11 : Int)).toNat v11)) : Int)))), (38, .v (.c (.int .i64 x.2.1)))], [(100, .bx [.int .i64 a0, .ls false (.pr (.num .i64) (.num .i64)) a1, .ls false (.num .i64) a2]), (101, .bx [.int .i64 v7, .nl, .nl]), (106, .bx [.int .i64 v8, .ls false (.pr (.num .i64) (.num .i64)) x.2.2, .nl]), (114, .vc 3 (.num .i64) v10)])) (fun n x => F_s_duTurnL5 fu v11 v8 (F_s_duTurnL2 fu a0 a1 a2 n2) v6 v7 v10 n x.1 x.2.1 x.2.2 = some r) fu ((List.getD v11 ((0 : Int)).toNat (0 : Int)), (0 : Int), v9) h ?_
            rintro n5 ⟨v15, v16, v17⟩ h
            cases n5 with
            | zero => first | cases h | (rw [F_s_duTurnL5] at h; cases h)
            | succ n5 =>
              rw [F_s_duTurnL5] at h
              refine aw_seq ?_
              refine aw_region ttOK (C := True) (hs := []) (gs := []) (rn := []) (l' := [(1, .v (.c (.p 100 0))), (2, .v (.c (.p 101 0))), (3, .v (.c (.p 106 0))), (4, .v (.c (.ho 114))), (5, .v (.c (.int .i64 v6))), (7, .v (.c (.int .i64 v15))), (36, .v (.c (.ls false (.num .i64) (List.drop ((1 : Int)).toNat (List.take ((List.length v11 : Int)).toNat v11))))), (37, .v (.c (.int .i64 (List.length (List.drop ((1 : Int)).toNat (List.take ((List.length v11 : Int)).toNat v11)) : Int)))), (38, .v (.c (.int .i64 v16))), (39, .v (.c (.bool (decide (v16 < (List.length (List.drop ((1 : Int)).toNat (List.take ((List.length v11 : Int)).toNat v11)) : Int))))))]) (h' := [(100, .bx [.int .i64 a0, .ls false (.pr (.num .i64) (.num .i64)) a1, .ls false (.num .i64) a2]), (101, .bx [.int .i64 v7, .nl, .nl]), (106, .bx [.int .i64 v8, .ls false (.pr (.num .i64) (.num .i64)) v17, .nl]), (114, .vc 3 (.num .i64) v10)]) (by kernel_rfl) trivial ?_
              refine aw_seq ?_
              refine aw_if (decide (v16 < (List.length (List.drop ((1 : Int)).toNat (List.take ((List.length v11 : Int)).toNat v11)) : Int))) (by kernel_rfl) (fun hb => ?_) (fun hb => ?_)
              · rw [ite_t hb] at h
                refine aw_ghost (gs := []) (rn := []) (l' := [(1, .v (.c (.p 100 0))), (2, .v (.c (.p 101 0))), (3, .v (.c (.p 106 0))), (4, .v (.c (.ho 114))), (5, .v (.c (.int .i64 v6))), (7, .v (.c (.int .i64 v15))), (36, .v (.c (.ls false (.num .i64) (List.drop ((1 : Int)).toNat (List.take ((List.length v11 : Int)).toNat v11))))), (37, .v (.c (.int .i64 (List.length (List.drop ((1 : Int)).toNat (List.take ((List.length v11 : Int)).toNat v11)) : Int)))), (38, .v (.c (.int .i64 v16)))]) (h' := [(100, .bx [.int .i64 a0, .ls false (.pr (.num .i64) (.num .i64)) a1, .ls false (.num .i64) a2]), (101, .bx [.int .i64 v7, .nl, .nl]), (106, .bx [.int .i64 v8, .ls false (.pr (.num .i64) (.num .i64)) v17, .nl]), (114, .vc 3 (.num .i64) v10)]) (by kernel_rfl) ?_
                refine aw_skip ?_
                refine aw_seq ?_
                refine aw_block ?_
                refine aw_seq ?_
                obtain ⟨c0, h⟩ := chk_some h
                refine aw_region ttOK (C := (0 ≤ v16 ∧ v16 < (List.length (List.drop ((1 : Int)).toNat (List.take ((List.length v11 : Int)).toNat v11)) : Int)) ∧ True) (hs := []) (gs := []) (rn := []) (l' := [(1, .v (.c (.p 100 0))), (2, .v (.c (.p 101 0))), (3, .v (.c (.p 106 0))), (4, .v (.c (.ho 114))), (5, .v (.c (.int .i64 v6))), (7, .v (.c (.int .i64 v15))), (9, .v (.c (.int .i64 (List.getD (List.drop ((1 : Int)).toNat (List.take ((List.length v11 : Int)).toNat v11)) (v16).toNat (0 : Int))))), (36, .v (.c (.ls false (.num .i64) (List.drop ((1 : Int)).toNat (List.take ((List.length v11 : Int)).toNat v11))))), (37, .v (.c (.int .i64 (List.length (List.drop ((1 : Int)).toNat (List.take ((List.length v11 : Int)).toNat v11)) : Int)))), (38, .v (.c (.int .i64 v16)))]) (h' := [(100, .bx [.int .i64 a0, .ls false (.pr (.num .i64) (.num .i64)) a1, .ls false (.num .i64) a2]), (101, .bx [.int .i64 v7, .nl, .nl]), (106, .bx [.int .i64 v8, .ls false (.pr (.num .i64) (.num .i64)) v17, .nl]), (114, .vc 3 (.num .i64) v10)]) (by kernel_rfl) ⟨c0, trivial⟩ ?_
                obtain ⟨v18, ev18, h⟩ := bind_some h
                refine aw_region ttOK (C := (ACall Try.prog 41 [.v (.ag [.int .i64 v8, .ls false (.pr (.num .i64) (.num .i64)) v17, .ls false (.num .i64) ([] : List Int)]), .v (.c (.int .i64 v15)), .v (.c (.int .i64 (List.getD (List.drop ((1 : Int)).toNat (List.take ((List.length v11 : Int)).toNat v11)) (v16).toNat (0 : Int))))] [] [] (.tu [.ag [.int .i64 v8, .ls false (.pr (.num .i64) (.num .i64)) v18.2, .nl], .c (.int .i64 v18.1)]) []) ∧ True) (hs := [(3, { call := some { f := 41, casts := [.ags [.same, .same, .nil (.num .i64)], .same, .same], r := .tu [.ag [.int .i64 v8, .ls false (.pr (.num .i64) (.num .i64)) v18.2, .nl], .c (.int .i64 v18.1)] } })]) (gs := []) (rn := []) (l' := [(1, .v (.c (.p 100 0))), (2, .v (.c (.p 101 0))), (3, .v (.c (.p 106 0))), (4, .v (.c (.ho 114))), (5, .v (.c (.int .i64 v6))), (7, .v (.c (.int .i64 v18.1))), (36, .v (.c (.ls false (.num .i64) (List.drop ((1 : Int)).toNat (List.take ((List.length v11 : Int)).toNat v11))))), (37, .v (.c (.int .i64 (List.length (List.drop ((1 : Int)).toNat (List.take ((List.length v11 : Int)).toNat v11)) : Int)))), (38, .v (.c (.int .i64 v16)))]) (h' := [(100, .bx [.int .i64 a0, .ls false (.pr (.num .i64) (.num .i64)) a1, .ls false (.num .i64) a2]), (101, .bx [.int .i64 v7, .nl, .nl]), (106, .bx [.int .i64 v8, .ls false (.pr (.num .i64) (.num .i64)) v18.2, .nl]), (114, .vc 3 (.num .i64) v10)]) (by kernel_rfl) ⟨(F_s_meTimes_ok ev18), trivial⟩ ?_
                refine aw_region ttOK (C := True) (hs := []) (gs := []) (rn := []) (l' := [(1, .v (.c (.p 100 0))), (2, .v (.c (.p 101 0))), (3, .v (.c (.p 106 0))), (4, .v (.c (.ho 114))), (5, .v (.c (.int .i64 v6))), (7, .v (.c (.int .i64 v18.1))), (36, .v (.c (.ls false (.num .i64) (List.drop ((1 : Int)).toNat (List.take ((List.length v11 : Int)).toNat v11))))), (37, .v (.c (.int .i64 (List.length (List.drop ((1 : Int)).toNat (List.take ((List.length v11 : Int)).toNat v11)) : Int)))), (38, .v (.c (.int .i64 (IntKind.i64.wrap (v16 + (1 : Int))))))]) (h' := [(100, .bx [.int .i64 a0, .ls false (.pr (.num .i64) (.num .i64)) a1, .ls false (.num .i64) a2]), (101, .bx [.int .i64 v7, .nl, .nl]), (106, .bx [.int .i64 v8, .ls false (.pr (.num .i64) (.num .i64)) v18.2, .nl]), (114, .vc 3 (.num .i64) v10)]) (by kernel_rfl) trivial ?_
                exact ⟨_, (v18.1, (IntKind.i64.wrap (v16 + (1 : Int))), v18.2), Nat.lt_succ_self _, h, rfl, rfl⟩
              · rw [ite_f hb] at h
                refine aw_ghost (gs := []) (rn := []) (l' := [(1, .v (.c (.p 100 0))), (2, .v (.c (.p 101 0))), (3, .v (.c (.p 106 0))), (4, .v (.c (.ho 114))), (5, .v (.c (.int .i64 v6))), (7, .v (.c (.int .i64 v15)))]) (h' := [(100, .bx [.int .i64 a0, .ls false (.pr (.num .i64) (.num .i64)) a1, .ls false (.num .i64) a2]), (101, .bx [.int .i64 v7, .nl, .nl]), (106, .bx [.int .i64 v8, .ls false (.pr (.num .i64) (.num .i64)) v17, .nl]), (114, .vc 3 (.num .i64) v10)]) (by kernel_rfl) ?_
                refine aw_exit ?_
                exact ⟨(v6, v15, v7, v8, v17, v10), h, rfl, rfl⟩
      · rw [ite_f hb] at h
        refine aw_ghost (gs := []) (rn := []) (l' := [(1, .v (.c (.p 100 0))), (2, .v (.c (.p 101 0))), (3, .v (.c (.p 106 0))), (4, .v (.c (.ho 114)))]) (h' := [(100, .bx [.int .i64 a0, .ls false (.pr (.num .i64) (.num .i64)) a1, .ls false (.num .i64) a2]), (101, .bx [.int .i64 v7, .nl, .nl]), (106, .bx [.int .i64 v8, .ls false (.pr (.num .i64) (.num .i64)) v9, .nl]), (114, .vc 3 (.num .i64) v10)]) (by kernel_rfl) ?_
        refine aw_exit ?_
        exact ⟨(v7, v8, v9, v10), h, rfl, rfl⟩

theorem F_s_TurnPlan_ok {fu : Nat} {a0 : Int} {a1 : List (Int × Int)} {a2 : List Int} {r : Bool × Int × List (Int × Int) × List Int} (h : F_s_TurnPlan fu a0 a1 a2 = some r) :
    ACall Try.prog 17 [.v (.ag [.int .i64 a0, .ls false (.pr (.num .i64) (.num .i64)) a1, .ls false (.num .i64) a2])] [] [] (.tu [.ag [.int .i64 r.2.1, .ls false (.pr (.num .i64) (.num .i64)) r.2.2.1, .ls false (.num .i64) r.2.2.2], .c (.bool r.1)]) [] := by
  unfold F_s_TurnPlan at h
  refine acall_of_aw ttOK Try.func17 (by kernel_rfl) (c := _) rfl (N := 18) (by kernel_rfl) (Nat.le_of_ble_eq_true rfl) ?_
  refine aw_seq ?_
  refine aw_region ttOK (C := True) (hs := [(0, { id := 100 }), (1, { id := 101 })]) (gs := []) (rn := []) (l' := [(1, .v (.c (.p 100 0))), (2, .v (.c (.p 101 0)))]) (h' := [(100, .bx [.int .i64 a0, .ls false (.pr (.num .i64) (.num .i64)) a1, .ls false (.num .i64) a2]), (101, .bx [.int .i64 (0 : Int), .nl, .nl])]) (by kernel_rfl) trivial ?_
  refine aw_seq ?_
  refine aw_seq ?_
  obtain ⟨v1, ev1, h⟩ := bind_some h
  obtain ⟨v2, ev2, h⟩ := bind_some h
  refine aw_region ttOK (C := (ACall Try.prog 44 [.v (.ag [.int .i64 a0, .ls false (.pr (.num .i64) (.num .i64)) a1, .ls false (.num .i64) a2])] [] [] (.v (.c (.bool v1))) []) ∧ (((!v1) == false) = true → ((!v1) == false) = true) ∧ (((!v1) == false) = true → ACall Try.prog 45 [.v (.ag [.int .i64 a0, .ls false (.pr (.num .i64) (.num .i64)) a1, .ls false (.num .i64) a2])] [] [] (.v (.c (.bool v2))) []) ∧ (((!v1) == false) = true → ((!v1) == false) = true) ∧ ((!v1) = false → ((!v1) == false) = true) ∧ True) (hs := [(1, { call := some { f := 44, casts := [.same], r := .v (.c (.bool v1)) } }), (5, { call := some { f := 45, casts := [.same], r := .v (.c (.bool v2)) } })]) (gs := []) (rn := []) (l' := [(1, .v (.c (.p 100 0))), (2, .v (.c (.p 101 0))), (11, .v (.c (.bool (cond (!v1) true (!v2)))))]) (h' := [(100, .bx [.int .i64 a0, .ls false (.pr (.num .i64) (.num .i64)) a1, .ls false (.num .i64) a2]), (101, .bx [.int .i64 (0 : Int), .nl, .nl])]) (by kernel_rfl) ⟨(F_s_plGood_ok ev1), (fun h => h), (fun hg => (F_s_duCan_ok (gcl_some ev2 hg))), (fun h => h), (fun h => beq_iff_eq.2 h), trivial⟩ ?_
  refine aw_if (cond (!v1) true (!v2)) (by kernel_rfl) (fun hb => ?_) (fun hb => ?_)
  · rw [ite_t hb] at h
    refine aw_seq ?_
    refine aw_region ttOK (C := True) (hs := []) (gs := []) (rn := []) (l' := [(2, .v (.c (.p 101 0))), (3, .v (.c (.bool false)))]) (h' := [(101, .bx [.int .i64 (0 : Int), .nl, .nl])]) (by kernel_rfl) trivial ?_
    refine aw_ghost (gs := [.cnil 101 1 (.pr (.num .i64) (.num .i64)), .cview 101 1, .cnil 101 2 (.num .i64), .cview 101 2]) (rn := []) (l' := [(2, .v (.c (.p 101 0))), (3, .v (.c (.bool false)))]) (h' := [(101, .bx [.int .i64 (0 : Int), .ls false (.pr (.num .i64) (.num .i64)) ([] : List (Int × Int)), .ls false (.num .i64) ([] : List Int)])]) (by kernel_rfl) ?_
    refine aw_ret (ret_ok [] ?_)
    cases h
    kernel_rfl
  · rw [ite_f hb] at h
    refine aw_ghost (gs := []) (rn := []) (l' := [(1, .v (.c (.p 100 0))), (2, .v (.c (.p 101 0)))]) (h' := [(100, .bx [.int .i64 a0, .ls false (.pr (.num .i64) (.num .i64)) a1, .ls false (.num .i64) a2]), (101, .bx [.int .i64 (0 : Int), .nl, .nl])]) (by kernel_rfl) ?_
    refine aw_skip ?_
    refine aw_seq ?_
    obtain ⟨v3, ev3, h⟩ := bind_some h
    obtain ⟨v4, ev4, h⟩ := bind_some h
    refine aw_region ttOK (C := (ACall Try.prog 46 [.v (.ag [.int .i64 a0, .ls false (.pr (.num .i64) (.num .i64)) a1, .ls false (.num .i64) a2])] [] [] (.v (.ag [.int .i64 v3.1, .ls false (.pr (.num .i64) (.num .i64)) v3.2.1, .ls false (.num .i64) v3.2.2])) []) ∧ (ACall Try.prog 43 [.v (.ag [.int .i64 v3.1, .ls false (.pr (.num .i64) (.num .i64)) v3.2.1, .ls false (.num .i64) v3.2.2])] [] [] (.tu [.ag [.int .i64 v4.2.1, .ls false (.pr (.num .i64) (.num .i64)) v4.2.2.1, .ls false (.num .i64) v4.2.2.2], .c (.bool v4.1)]) []) ∧ True) (hs := [(1, { call := some { f := 46, casts := [.same], r := .v (.ag [.int .i64 v3.1, .ls false (.pr (.num .i64) (.num .i64)) v3.2.1, .ls false (.num .i64) v3.2.2]) } }), (2, { call := some { f := 43, casts := [.same], r := .tu [.ag [.int .i64 v4.2.1, .ls false (.pr (.num .i64) (.num .i64)) v4.2.2.1, .ls false (.num .i64) v4.2.2.2], .c (.bool v4.1)] } })]) (gs := []) (rn := []) (l' := [(2, .v (.c (.p 101 0))), (3, .v (.c (.bool v4.1)))]) (h' := [(101, .bx [.int .i64 v4.2.1, .ls false (.pr (.num .i64) (.num .i64)) v4.2.2.1, .ls false (.num .i64) v4.2.2.2])]) (by kernel_rfl) ⟨(F_s_duTurn_ok ev3), (F_s_plIf_ok ev4), trivial⟩ ?_
    refine aw_ghost (gs := []) (rn := []) (l' := [(2, .v (.c (.p 101 0))), (3, .v (.c (.bool v4.1)))]) (h' := [(101, .bx [.int .i64 v4.2.1, .ls false (.pr (.num .i64) (.num .i64)) v4.2.2.1, .ls false (.num .i64) v4.2.2.2])]) (by kernel_rfl) ?_
    refine aw_ret (ret_ok [] ?_)
    cases h
    kernel_rfl

theorem F_s_VectorPlan_ok {fu : Nat} {a0 : List Int} {r : Bool × Int × List (Int × Int) × List Int} (h : F_s_VectorPlan fu a0 = some r) :
    ACall Try.prog 7 [.v (.c (.ls false (.num .i64) a0))] [] [] (.tu [.ag [.int .i64 r.2.1, .ls false (.pr (.num .i64) (.num .i64)) r.2.2.1, .ls false (.num .i64) r.2.2.2], .c (.bool r.1)]) [] := by
  unfold F_s_VectorPlan at h
  refine acall_of_aw ttOK Try.func7 (by kernel_rfl) (c := _) rfl (N := 18) (by kernel_rfl) (Nat.le_of_ble_eq_true rfl) ?_
  refine aw_seq ?_
  refine aw_region ttOK (C := True) (hs := [(0, { id := 100 })]) (gs := []) (rn := []) (l' := [(0, .v (.c (.ls false (.num .i64) a0))), (2, .v (.c (.p 100 0)))]) (h' := [(100, .bx [.int .i64 (0 : Int), .nl, .nl])]) (by kernel_rfl) trivial ?_
  refine aw_seq ?_
  obtain ⟨v1, ev1, h⟩ := bind_some h
  refine aw_region ttOK (C := (ACall Try.prog 16 [.v (.c (.ls false (.num .i64) a0))] [] [] (.tu [.ag [.int .i64 v1.2.1, .ls false (.pr (.num .i64) (.num .i64)) v1.2.2.1, .ls false (.num .i64) v1.2.2.2], .c (.bool v1.1)]) []) ∧ True) (hs := [(1, { call := some { f := 16, casts := [.same], r := .tu [.ag [.int .i64 v1.2.1, .ls false (.pr (.num .i64) (.num .i64)) v1.2.2.1, .ls false (.num .i64) v1.2.2.2], .c (.bool v1.1)] } }), (5, { id := 106 })]) (gs := []) (rn := []) (l' := [(2, .v (.c (.p 100 0))), (4, .v (.c (.p 106 0))), (5, .v (.c (.bool v1.1)))]) (h' := [(100, .bx [.int .i64 (0 : Int), .nl, .nl]), (106, .bx [.int .i64 v1.2.1, .ls false (.pr (.num .i64) (.num .i64)) v1.2.2.1, .ls false (.num .i64) v1.2.2.2])]) (by kernel_rfl) ⟨(F_s_SquaresPlan_ok ev1), trivial⟩ ?_
  refine aw_seq ?_
  refine aw_seq ?_
  refine aw_region ttOK (C := True) (hs := []) (gs := []) (rn := []) (l' := [(2, .v (.c (.p 100 0))), (4, .v (.c (.p 106 0))), (12, .v (.c (.bool (!v1.1))))]) (h' := [(100, .bx [.int .i64 (0 : Int), .nl, .nl]), (106, .bx [.int .i64 v1.2.1, .ls false (.pr (.num .i64) (.num .i64)) v1.2.2.1, .ls false (.num .i64) v1.2.2.2])]) (by kernel_rfl) trivial ?_
  refine aw_if (!v1.1) (by kernel_rfl) (fun hb => ?_) (fun hb => ?_)
  · rw [ite_t hb] at h
    refine aw_seq ?_
    refine aw_region ttOK (C := True) (hs := []) (gs := []) (rn := []) (l' := [(2, .v (.c (.p 100 0))), (3, .v (.c (.bool false)))]) (h' := [(100, .bx [.int .i64 (0 : Int), .nl, .nl])]) (by kernel_rfl) trivial ?_
    refine aw_ghost (gs := [.cnil 100 1 (.pr (.num .i64) (.num .i64)), .cview 100 1, .cnil 100 2 (.num .i64), .cview 100 2]) (rn := []) (l' := [(2, .v (.c (.p 100 0))), (3, .v (.c (.bool false)))]) (h' := [(100, .bx [.int .i64 (0 : Int), .ls false (.pr (.num .i64) (.num .i64)) ([] : List (Int × Int)), .ls false (.num .i64) ([] : List Int)])]) (by kernel_rfl) ?_
    refine aw_ret (ret_ok [] ?_)
    cases h
    kernel_rfl
  · rw [ite_f hb] at h
    refine aw_ghost (gs := []) (rn := []) (l' := [(2, .v (.c (.p 100 0))), (4, .v (.c (.p 106 0)))]) (h' := [(100, .bx [.int .i64 (0 : Int), .nl, .nl]), (106, .bx [.int .i64 v1.2.1, .ls false (.pr (.num .i64) (.num .i64)) v1.2.2.1, .ls false (.num .i64) v1.2.2.2])]) (by kernel_rfl) ?_
    refine aw_skip ?_
    refine aw_seq ?_
    obtain ⟨v2, ev2, h⟩ := bind_some h
    refine aw_region ttOK (C := (ACall Try.prog 17 [.v (.ag [.int .i64 v1.2.1, .ls false (.pr (.num .i64) (.num .i64)) v1.2.2.1, .ls false (.num .i64) v1.2.2.2])] [] [] (.tu [.ag [.int .i64 v2.2.1, .ls false (.pr (.num .i64) (.num .i64)) v2.2.2.1, .ls false (.num .i64) v2.2.2.2], .c (.bool v2.1)]) []) ∧ True) (hs := [(1, { call := some { f := 17, casts := [.same], r := .tu [.ag [.int .i64 v2.2.1, .ls false (.pr (.num .i64) (.num .i64)) v2.2.2.1, .ls false (.num .i64) v2.2.2.2], .c (.bool v2.1)] } })]) (gs := []) (rn := []) (l' := [(2, .v (.c (.p 100 0))), (3, .v (.c (.bool v2.1)))]) (h' := [(100, .bx [.int .i64 v2.2.1, .ls false (.pr (.num .i64) (.num .i64)) v2.2.2.1, .ls false (.num .i64) v2.2.2.2])]) (by kernel_rfl) ⟨(F_s_TurnPlan_ok ev2), trivial⟩ ?_
    refine aw_ghost (gs := []) (rn := []) (l' := [(2, .v (.c (.p 100 0))), (3, .v (.c (.bool v2.1)))]) (h' := [(100, .bx [.int .i64 v2.2.1, .ls false (.pr (.num .i64) (.num .i64)) v2.2.2.1, .ls false (.num .i64) v2.2.2.2])]) (by kernel_rfl) ?_
    refine aw_ret (ret_ok [] ?_)
    cases h
    kernel_rfl

theorem F_l_pSameSteps_ok {fu : Nat} {a0 : List (Int × Int)} {a1 : List (Int × Int)} {r : Bool} (h : F_l_pSameSteps fu a0 a1 = some r) :
    ACall Try.prog 18 [.v (.c (.ls false (.pr (.num .i64) (.num .i64)) a0)), .v (.c (.ls false (.pr (.num .i64) (.num .i64)) a1))] [] [] (.v (.c (.bool r))) [] := by
  unfold F_l_pSameSteps at h
  refine acall_of_aw ttOK Try.func18 (by kernel_rfl) (c := _) rfl (N := 26) (by kernel_rfl) (Nat.le_of_ble_eq_true rfl) ?_
  refine aw_seq ?_
  refine aw_region ttOK (C := True) (hs := []) (gs := []) (rn := []) (l' := [(0, .v (.c (.ls false (.pr (.num .i64) (.num .i64)) a0))), (1, .v (.c (.ls false (.pr (.num .i64) (.num .i64)) a1)))]) (h' := []) (by kernel_rfl) trivial ?_
  refine aw_seq ?_
  refine aw_seq ?_
  refine aw_region ttOK (C := True) (hs := []) (gs := []) (rn := []) (l' := [(0, .v (.c (.ls false (.pr (.num .i64) (.num .i64)) a0))), (1, .v (.c (.ls false (.pr (.num .i64) (.num .i64)) a1))), (10, .v (.c (.bool ((List.length a0 : Int) != (List.length a1 : Int)))))]) (h' := []) (by kernel_rfl) trivial ?_
  refine aw_if ((List.length a0 : Int) != (List.length a1 : Int)) (by kernel_rfl) (fun hb => ?_) (fun hb => ?_)
  · rw [ite_t hb] at h
    refine aw_seq ?_
    refine aw_region ttOK (C := True) (hs := []) (gs := []) (rn := []) (l' := [(4, .v (.c (.bool false)))]) (h' := []) (by kernel_rfl) trivial ?_
    refine aw_ghost (gs := []) (rn := []) (l' := [(4, .v (.c (.bool false)))]) (h' := []) (by kernel_rfl) ?_
    refine aw_ret (ret_ok [] ?_)
    cases h
    kernel_rfl
  · rw [ite_f hb] at h
    refine aw_ghost (gs := []) (rn := []) (l' := [(0, .v (.c (.ls false (.pr (.num .i64) (.num .i64)) a0))), (1, .v (.c (.ls false (.pr (.num .i64) (.num .i64)) a1)))]) (h' := []) (by kernel_rfl) ?_
    refine aw_skip ?_
    refine aw_join (X := Unit) (fun x => ([], [])) (fun x => F_l_pSameStepsJ1 fu = some r) ?_ ?_
    · rintro _ h
      unfold F_l_pSameStepsJ1 at h
      refine aw_seq ?_
      refine aw_region ttOK (C := True) (hs := []) (gs := []) (rn := []) (l' := [(4, .v (.c (.bool true)))]) (h' := []) (by kernel_rfl) trivial ?_
      refine aw_ghost (gs := []) (rn := []) (l' := [(4, .v (.c (.bool true)))]) (h' := []) (by kernel_rfl) ?_
      refine aw_ret (ret_ok [] ?_)
      cases h
      kernel_rfl
    · refine aw_seq ?_
      refine aw_region ttOK (C := True) (hs := []) (gs := []) (rn := []) (l' := [(0, .v (.c (.ls false (.pr (.num .i64) (.num .i64)) a0))), (1, .v (.c (.ls false (.pr (.num .i64) (.num .i64)) a1))), (12, .v (.c (.int .i64 (List.length a0 : Int)))), (13, .v (.c (.int .i64 (0 : Int))))]) (h' := []) (by kernel_rfl) trivial ?_
      refine aw_block ?_
      refine aw_loopF (X := Int) (fun x => ([(0, .v (.c (.ls false (.pr (.num .i64) (.num .i64)) a0))), (1, .v (.c (.ls false (.pr (.num .i64) (.num .i64)) a1))), (12, .v (.c (.int .i64 (List.length a0 : Int)))), (13, .v (.c (.int .i64 x)))], [])) (fun n x => F_l_pSameStepsL2 fu a0 a1 n x = some r) fu (0 : Int) h ?_
      rintro n2 v2 h
      cases n2 with
      | zero => first | cases h | (rw [F_l_pSameStepsL2] at h; cases h)
      | succ n2 =>
        rw [F_l_pSameStepsL2] at h
        refine aw_seq ?_
        refine aw_region ttOK (C := True) (hs := []) (gs := []) (rn := []) (l' := [(0, .v (.c (.ls false (.pr (.num .i64) (.num .i64)) a0))), (1, .v (.c (.ls false (.pr (.num .i64) (.num .i64)) a1))), (12, .v (.c (.int .i64 (List.length a0 : Int)))), (13, .v (.c (.int .i64 v2))), (14, .v (.c (.bool (decide (v2 < (List.length a0 : Int))))))]) (h' := []) (by kernel_rfl) trivial ?_
        refine aw_seq ?_
        refine aw_if (decide (v2 < (List.length a0 : Int))) (by kernel_rfl) (fun hb => ?_) (fun hb => ?_)
        · rw [ite_t hb] at h
          refine aw_ghost (gs := []) (rn := []) (l' := [(0, .v (.c (.ls false (.pr (.num .i64) (.num .i64)) a0))), (1, .v (.c (.ls false (.pr (.num .i64) (.num .i64)) a1))), (12, .v (.c (.int .i64 (List.length a0 : Int)))), (13, .v (.c (.int .i64 v2)))]) (h' := []) (by kernel_rfl) ?_
          refine aw_skip ?_
          refine aw_seq ?_
          refine aw_block ?_
          refine aw_seq ?_
          refine aw_region ttOK (C := True) (hs := []) (gs := []) (rn := []) (l' := [(0, .v (.c (.ls false (.pr (.num .i64) (.num .i64)) a0))), (1, .v (.c (.ls false (.pr (.num .i64) (.num .i64)) a1))), (5, .v (.c (.int .i64 v2))), (12, .v (.c (.int .i64 (List.length a0 : Int)))), (13, .v (.c (.int .i64 v2)))]) (h' := []) (by kernel_rfl) trivial ?_
          refine aw_seq ?_
          obtain ⟨⟨c0, c1⟩, h⟩ := chk_some h
          refine aw_draw ttOK ttMix (C := (0 ≤ v2 ∧ v2 < (List.length a0 : Int)) ∧ (0 ≤ v2 ∧ v2 < (List.length a1 : Int)) ∧ True) (hs := []) (anc := []) (tch := []) (gs := []) (rn := []) (l' := [(0, .v (.c (.ls false (.pr (.num .i64) (.num .i64)) a0))), (1, .v (.c (.ls false (.pr (.num .i64) (.num .i64)) a1))), (12, .v (.c (.int .i64 (List.length a0 : Int)))), (13, .v (.c (.int .i64 v2))), (24, .v (.c (.bool (!(([(List.getD a0 (v2).toNat ((0 : Int), (0 : Int))).1, (List.getD a0 (v2).toNat ((0 : Int), (0 : Int))).2] : List Int) == [(List.getD a1 (v2).toNat ((0 : Int), (0 : Int))).1, (List.getD a1 (v2).toNat ((0 : Int), (0 : Int))).2])))))]) (h' := []) (by kernel_rfl) ⟨c0, c1, trivial⟩ ?_
          refine aw_if (!(([(List.getD a0 (v2).toNat ((0 : Int), (0 : Int))).1, (List.getD a0 (v2).toNat ((0 : Int), (0 : Int))).2] : List Int) == [(List.getD a1 (v2).toNat ((0 : Int), (0 : Int))).1, (List.getD a1 (v2).toNat ((0 : Int), (0 : Int))).2])) (by kernel_rfl) (fun hb => ?_) (fun hb => ?_)
          · rw [ite_t hb] at h
            refine aw_seq ?_
            refine aw_region ttOK (C := True) (hs := []) (gs := []) (rn := []) (l' := [(4, .v (.c (.bool false)))]) (h' := []) (by kernel_rfl) trivial ?_
            refine aw_ghost (gs := []) (rn := []) (l' := [(4, .v (.c (.bool false)))]) (h' := []) (by kernel_rfl) ?_
            refine aw_ret (ret_ok [] ?_)
            cases h
            kernel_rfl
          · rw [ite_f hb] at h
            refine aw_ghost (gs := []) (rn := []) (l' := [(0, .v (.c (.ls false (.pr (.num .i64) (.num .i64)) a0))), (1, .v (.c (.ls false (.pr (.num .i64) (.num .i64)) a1))), (12, .v (.c (.int .i64 (List.length a0 : Int)))), (13, .v (.c (.int .i64 v2)))]) (h' := []) (by kernel_rfl) ?_
            refine aw_skip ?_
            refine aw_region ttOK (C := True) (hs := []) (gs := []) (rn := []) (l' := [(0, .v (.c (.ls false (.pr (.num .i64) (.num .i64)) a0))), (1, .v (.c (.ls false (.pr (.num .i64) (.num .i64)) a1))), (12, .v (.c (.int .i64 (List.length a0 : Int)))), (13, .v (.c (.int .i64 (IntKind.i64.wrap (v2 + (1 : Int))))))]) (h' := []) (by kernel_rfl) trivial ?_
            exact ⟨_, (IntKind.i64.wrap (v2 + (1 : Int))), Nat.lt_succ_self _, h, rfl, rfl⟩
        · rw [ite_f hb] at h
          refine aw_ghost (gs := []) (rn := []) (l' := []) (h' := []) (by kernel_rfl) ?_
          refine aw_exit ?_
          exact ⟨(), h, rfl, rfl⟩

theorem F_l_pSameInts_ok {fu : Nat} {a0 : List Int} {a1 : List Int} {r : Bool} (h : F_l_pSameInts fu a0 a1 = some r) :
    ACall Try.prog 13 [.v (.c (.ls false (.num .i64) a0)), .v (.c (.ls false (.num .i64) a1))] [] [] (.v (.c (.bool r))) [] := by
  unfold F_l_pSameInts at h
  refine acall_of_aw ttOK Try.func13 (by kernel_rfl) (c := _) rfl (N := 26) (by kernel_rfl) (Nat.le_of_ble_eq_true rfl) ?_
  refine aw_seq ?_
  refine aw_region ttOK (C := True) (hs := []) (gs := []) (rn := []) (l' := [(0, .v (.c (.ls false (.num .i64) a0))), (1, .v (.c (.ls false (.num .i64) a1)))]) (h' := []) (by kernel_rfl) trivial ?_
  refine aw_seq ?_
  refine aw_seq ?_
  refine aw_region ttOK (C := True) (hs := []) (gs := []) (rn := []) (l' := [(0, .v (.c (.ls false (.num .i64) a0))), (1, .v (.c (.ls false (.num .i64) a1))), (10, .v (.c (.bool ((List.length a0 : Int) != (List.length a1 : Int)))))]) (h' := []) (by kernel_rfl) trivial ?_
  refine aw_if ((List.length a0 : Int) != (List.length a1 : Int)) (by kernel_rfl) (fun hb => ?_) (fun hb => ?_)
  · rw [ite_t hb] at h
    refine aw_seq ?_
    refine aw_region ttOK (C := True) (hs := []) (gs := []) (rn := []) (l' := [(4, .v (.c (.bool false)))]) (h' := []) (by kernel_rfl) trivial ?_
    refine aw_ghost (gs := []) (rn := []) (l' := [(4, .v (.c (.bool false)))]) (h' := []) (by kernel_rfl) ?_
    refine aw_ret (ret_ok [] ?_)
    cases h
    kernel_rfl
  · rw [ite_f hb] at h
    refine aw_ghost (gs := []) (rn := []) (l' := [(0, .v (.c (.ls false (.num .i64) a0))), (1, .v (.c (.ls false (.num .i64) a1)))]) (h' := []) (by kernel_rfl) ?_
    refine aw_skip ?_
    refine aw_join (X := Unit) (fun x => ([], [])) (fun x => F_l_pSameIntsJ1 fu = some r) ?_ ?_
    · rintro _ h
      unfold F_l_pSameIntsJ1 at h
      refine aw_seq ?_
      refine aw_region ttOK (C := True) (hs := []) (gs := []) (rn := []) (l' := [(4, .v (.c (.bool true)))]) (h' := []) (by kernel_rfl) trivial ?_
      refine aw_ghost (gs := []) (rn := []) (l' := [(4, .v (.c (.bool true)))]) (h' := []) (by kernel_rfl) ?_
      refine aw_ret (ret_ok [] ?_)
      cases h
      kernel_rfl
    · refine aw_seq ?_
      refine aw_region ttOK (C := True) (hs := []) (gs := []) (rn := []) (l' := [(0, .v (.c (.ls false (.num .i64) a0))), (1, .v (.c (.ls false (.num .i64) a1))), (12, .v (.c (.int .i64 (List.length a0 : Int)))), (13, .v (.c (.int .i64 (0 : Int))))]) (h' := []) (by kernel_rfl) trivial ?_
      refine aw_block ?_
      refine aw_loopF (X := Int) (fun x => ([(0, .v (.c (.ls false (.num .i64) a0))), (1, .v (.c (.ls false (.num .i64) a1))), (12, .v (.c (.int .i64 (List.length a0 : Int)))), (13, .v (.c (.int .i64 x)))], [])) (fun n x => F_l_pSameIntsL2 fu a0 a1 n x = some r) fu (0 : Int) h ?_
      rintro n2 v2 h
      cases n2 with
      | zero => first | cases h | (rw [F_l_pSameIntsL2] at h; cases h)
      | succ n2 =>
        rw [F_l_pSameIntsL2] at h
        refine aw_seq ?_
        refine aw_region ttOK (C := True) (hs := []) (gs := []) (rn := []) (l' := [(0, .v (.c (.ls false (.num .i64) a0))), (1, .v (.c (.ls false (.num .i64) a1))), (12, .v (.c (.int .i64 (List.length a0 : Int)))), (13, .v (.c (.int .i64 v2))), (14, .v (.c (.bool (decide (v2 < (List.length a0 : Int))))))]) (h' := []) (by kernel_rfl) trivial ?_
        refine aw_seq ?_
        refine aw_if (decide (v2 < (List.length a0 : Int))) (by kernel_rfl) (fun hb => ?_) (fun hb => ?_)
        · rw [ite_t hb] at h
          refine aw_ghost (gs := []) (rn := []) (l' := [(0, .v (.c (.ls false (.num .i64) a0))), (1, .v (.c (.ls false (.num .i64) a1))), (12, .v (.c (.int .i64 (List.length a0 : Int)))), (13, .v (.c (.int .i64 v2)))]) (h' := []) (by kernel_rfl) ?_
          refine aw_skip ?_
          refine aw_seq ?_
          refine aw_block ?_
          refine aw_seq ?_
          refine aw_region ttOK (C := True) (hs := []) (gs := []) (rn := []) (l' := [(0, .v (.c (.ls false (.num .i64) a0))), (1, .v (.c (.ls false (.num .i64) a1))), (5, .v (.c (.int .i64 v2))), (12, .v (.c (.int .i64 (List.length a0 : Int)))), (13, .v (.c (.int .i64 v2)))]) (h' := []) (by kernel_rfl) trivial ?_
          refine aw_seq ?_
          obtain ⟨⟨c0, c1⟩, h⟩ := chk_some h
          refine aw_draw ttOK ttMix (C := (0 ≤ v2 ∧ v2 < (List.length a0 : Int)) ∧ (0 ≤ v2 ∧ v2 < (List.length a1 : Int)) ∧ True) (hs := []) (anc := []) (tch := []) (gs := []) (rn := []) (l' := [(0, .v (.c (.ls false (.num .i64) a0))), (1, .v (.c (.ls false (.num .i64) a1))), (12, .v (.c (.int .i64 (List.length a0 : Int)))), (13, .v (.c (.int .i64 v2))), (24, .v (.c (.bool ((List.getD a0 (v2).toNat (0 : Int)) != (List.getD a1 (v2).toNat (0 : Int))))))]) (h' := []) (by kernel_rfl) ⟨c0, c1, trivial⟩ ?_
          refine aw_if ((List.getD a0 (v2).toNat (0 : Int)) != (List.getD a1 (v2).toNat (0 : Int))) (by kernel_rfl) (fun hb => ?_) (fun hb => ?_)
          · rw [ite_t hb] at h
            refine aw_seq ?_
            refine aw_region ttOK (C := True) (hs := []) (gs := []) (rn := []) (l' := [(4, .v (.c (.bool false)))]) (h' := []) (by kernel_rfl) trivial ?_
            refine aw_ghost (gs := []) (rn := []) (l' := [(4, .v (.c (.bool false)))]) (h' := []) (by kernel_rfl) ?_
            refine aw_ret (ret_ok [] ?_)
            cases h
            kernel_rfl
          · rw [ite_f hb] at h
            refine aw_ghost (gs := []) (rn := []) (l' := [(0, .v (.c (.ls false (.num .i64) a0))), (1, .v (.c (.ls false (.num .i64) a1))), (12, .v (.c (.int .i64 (List.length a0 : Int)))), (13, .v (.c (.int .i64 v2)))]) (h' := []) (by kernel_rfl) ?_
            refine aw_skip ?_
            refine aw_region ttOK (C := True) (hs := []) (gs := []) (rn := []) (l' := [(0, .v (.c (.ls false (.num .i64) a0))), (1, .v (.c (.ls false (.num .i64) a1))), (12, .v (.c (.int .i64 (List.length a0 : Int)))), (13, .v (.c (.int .i64 (IntKind.i64.wrap (v2 + (1 : Int))))))]) (h' := []) (by kernel_rfl) trivial ?_
            exact ⟨_, (IntKind.i64.wrap (v2 + (1 : Int))), Nat.lt_succ_self _, h, rfl, rfl⟩
        · rw [ite_f hb] at h
          refine aw_ghost (gs := []) (rn := []) (l' := []) (h' := []) (by kernel_rfl) ?_
          refine aw_exit ?_
          exact ⟨(), h, rfl, rfl⟩

theorem F_l_pSamePlan_ok {fu : Nat} {a0 : Int} {a1 : List (Int × Int)} {a2 : List Int} {a3 : Int} {a4 : List (Int × Int)} {a5 : List Int} {r : Bool} (h : F_l_pSamePlan fu a0 a1 a2 a3 a4 a5 = some r) :
    ACall Try.prog 8 [.v (.ag [.int .i64 a0, .ls false (.pr (.num .i64) (.num .i64)) a1, .ls false (.num .i64) a2]), .v (.ag [.int .i64 a3, .ls false (.pr (.num .i64) (.num .i64)) a4, .ls false (.num .i64) a5])] [] [] (.v (.c (.bool r))) [] := by
  unfold F_l_pSamePlan at h
  refine acall_of_aw ttOK Try.func8 (by kernel_rfl) (c := _) rfl (N := 24) (by kernel_rfl) (Nat.le_of_ble_eq_true rfl) ?_
  refine aw_seq ?_
  refine aw_region ttOK (C := True) (hs := [(0, { id := 100 }), (1, { id := 101 })]) (gs := []) (rn := []) (l' := [(2, .v (.c (.p 100 0))), (3, .v (.c (.p 101 0)))]) (h' := [(100, .bx [.int .i64 a0, .ls false (.pr (.num .i64) (.num .i64)) a1, .ls false (.num .i64) a2]), (101, .bx [.int .i64 a3, .ls false (.pr (.num .i64) (.num .i64)) a4, .ls false (.num .i64) a5])]) (by kernel_rfl) trivial ?_
  refine aw_seq ?_
  obtain ⟨v1, ev1, h⟩ := bind_some h
  obtain ⟨v2, ev2, h⟩ := bind_some h
  refine aw_region ttOK (C := (((a0 == a3) == true) = true → ((a0 == a3) == true) = true) ∧ (((a0 == a3) == true) = true → ((a0 == a3) == true) = true) ∧ (((a0 == a3) == true) = true → ((a0 == a3) == true) = true) ∧ (((a0 == a3) == true) = true → ((a0 == a3) == true) = true) ∧ (((a0 == a3) == true) = true → ACall Try.prog 18 [.v (.c (.ls false (.pr (.num .i64) (.num .i64)) a1)), .v (.c (.ls false (.pr (.num .i64) (.num .i64)) a4))] [] [] (.v (.c (.bool v1))) []) ∧ ((a0 == a3) = true → ((a0 == a3) == true) = true) ∧ (((cond (a0 == a3) v1 false) == true) = true → ((cond (a0 == a3) v1 false) == true) = true) ∧ (((cond (a0 == a3) v1 false) == true) = true → ((cond (a0 == a3) v1 false) == true) = true) ∧ (((cond (a0 == a3) v1 false) == true) = true → ((cond (a0 == a3) v1 false) == true) = true) ∧ (((cond (a0 == a3) v1 false) == true) = true → ((cond (a0 == a3) v1 false) == true) = true) ∧ (((cond (a0 == a3) v1 false) == true) = true → ACall Try.prog 13 [.v (.c (.ls false (.num .i64) a2)), .v (.c (.ls false (.num .i64) a5))] [] [] (.v (.c (.bool v2))) []) ∧ ((cond (a0 == a3) v1 false) = true → ((cond (a0 == a3) v1 false) == true) = true) ∧ True) (hs := [(10, { call := some { f := 18, casts := [.same, .same], r := .v (.c (.bool v1)) } }), (17, { call := some { f := 13, casts := [.same, .same], r := .v (.c (.bool v2)) } })]) (gs := []) (rn := []) (l' := [(4, .v (.c (.bool (cond (cond (a0 == a3) v1 false) v2 false))))]) (h' := []) (by kernel_rfl) ⟨(fun h => h), (fun h => h), (fun h => h), (fun h => h), (fun hg => (F_l_pSameSteps_ok (gcl_some ev1 hg))), (fun h => beq_iff_eq.2 h), (fun h => h), (fun h => h), (fun h => h), (fun h => h), (fun hg => (F_l_pSameInts_ok (gcl_some ev2 hg))), (fun h => beq_iff_eq.2 h), trivial⟩ ?_
  refine aw_ghost (gs := []) (rn := []) (l' := [(4, .v (.c (.bool (cond (cond (a0 == a3) v1 false) v2 false))))]) (h' := []) (by kernel_rfl) ?_
  refine aw_ret (ret_ok [] ?_)
  cases h
  kernel_rfl

theorem F_i_TogetherPlan_c1_ok {fu : Nat} {a0 : Int} {r : Bool} (h : F_i_TogetherPlan_c1 fu a0 = some r) :
    ACall Try.prog 30 [.v (.c (.int .i64 a0))] [] [] (.v (.c (.bool r))) [] := by
  unfold F_i_TogetherPlan_c1 at h
  refine acall_of_aw ttOK Try.func30 (by kernel_rfl) (c := _) rfl (N := 6) (by kernel_rfl) (Nat.le_of_ble_eq_true rfl) ?_
  refine aw_seq ?_
  refine aw_region ttOK (C := True) (hs := []) (gs := []) (rn := []) (l' := [(0, .v (.c (.int .i64 a0)))]) (h' := []) (by kernel_rfl) trivial ?_
  refine aw_seq ?_
  obtain ⟨v1, ev1, h⟩ := bind_some h
  refine aw_region ttOK (C := (ACall Try.prog 19 [.v (.c (.int .i64 a0)), .v (.c (.int .i64 (0 : Int))), .v (.c (.int .i64 (1000000 : Int)))] [] [] (.v (.c (.bool v1))) []) ∧ True) (hs := [(1, { call := some { f := 19, casts := [.same, .same, .same], r := .v (.c (.bool v1)) } })]) (gs := []) (rn := []) (l' := [(2, .v (.c (.bool (!v1))))]) (h' := []) (by kernel_rfl) ⟨(F_i_in_ok ev1), trivial⟩ ?_
  refine aw_ghost (gs := []) (rn := []) (l' := [(2, .v (.c (.bool (!v1))))]) (h' := []) (by kernel_rfl) ?_
  refine aw_ret (ret_ok [] ?_)
  cases h
  kernel_rfl

theorem F_slices_IndexFunc_Lint_int_fms_ok {fu : Nat} {a0 : List Int} {r : Int} (h : F_slices_IndexFunc_Lint_int_fms fu a0 = some r) :
    ACall Try.prog 47 [.v (.c (.ls false (.num .i64) a0)), .v (.c (.fn 30 []))] [] [] (.v (.c (.int .i64 r))) [] := by
  unfold F_slices_IndexFunc_Lint_int_fms at h
  refine acall_of_aw ttOK Try.func47 (by kernel_rfl) (c := _) rfl (N := 19) (by kernel_rfl) (Nat.le_of_ble_eq_true rfl) ?_
  refine aw_seq ?_
  refine aw_region ttOK (C := True) (hs := []) (gs := []) (rn := []) (l' := [(0, .v (.c (.ls false (.num .i64) a0))), (1, .v (.c (.fn 30 [])))]) (h' := []) (by kernel_rfl) trivial ?_
  refine aw_join (X := Unit) (fun x => ([], [])) (fun x => F_slices_IndexFunc_Lint_int_fmsJ1 fu = some r) ?_ ?_
  · rintro _ h
    unfold F_slices_IndexFunc_Lint_int_fmsJ1 at h
    refine aw_seq ?_
    refine aw_region ttOK (C := True) (hs := []) (gs := []) (rn := []) (l' := [(4, .v (.c (.int .i64 (-1 : Int))))]) (h' := []) (by kernel_rfl) trivial ?_
    refine aw_ghost (gs := []) (rn := []) (l' := [(4, .v (.c (.int .i64 (-1 : Int))))]) (h' := []) (by kernel_rfl) ?_
    refine aw_ret (ret_ok [] ?_)
    cases h
    kernel_rfl
  · refine aw_seq ?_
    refine aw_region ttOK (C := True) (hs := []) (gs := []) (rn := []) (l' := [(0, .v (.c (.ls false (.num .i64) a0))), (1, .v (.c (.fn 30 []))), (7, .v (.c (.int .i64 (List.length a0 : Int)))), (8, .v (.c (.int .i64 (0 : Int))))]) (h' := []) (by kernel_rfl) trivial ?_
    refine aw_block ?_
    refine aw_loopF (X := Int) (fun x => ([(0, .v (.c (.ls false (.num .i64) a0))), (1, .v (.c (.fn 30 []))), (7, .v (.c (.int .i64 (List.length a0 : Int)))), (8, .v (.c (.int .i64 x)))], [])) (fun n x => F_slices_IndexFunc_Lint_int_fmsL2 fu a0 n x = some r) fu (0 : Int) h ?_
    rintro n2 v2 h
    cases n2 with
    | zero => first | cases h | (rw [F_slices_IndexFunc_Lint_int_fmsL2] at h; cases h)
    | succ n2 =>
      rw [F_slices_IndexFunc_Lint_int_fmsL2] at h
      refine aw_seq ?_
      refine aw_region ttOK (C := True) (hs := []) (gs := []) (rn := []) (l' := [(0, .v (.c (.ls false (.num .i64) a0))), (1, .v (.c (.fn 30 []))), (7, .v (.c (.int .i64 (List.length a0 : Int)))), (8, .v (.c (.int .i64 v2))), (9, .v (.c (.bool (decide (v2 < (List.length a0 : Int))))))]) (h' := []) (by kernel_rfl) trivial ?_
      refine aw_seq ?_
      refine aw_if (decide (v2 < (List.length a0 : Int))) (by kernel_rfl) (fun hb => ?_) (fun hb => ?_)
      · rw [ite_t hb] at h
        refine aw_ghost (gs := []) (rn := []) (l' := [(0, .v (.c (.ls false (.num .i64) a0))), (1, .v (.c (.fn 30 []))), (7, .v (.c (.int .i64 (List.length a0 : Int)))), (8, .v (.c (.int .i64 v2)))]) (h' := []) (by kernel_rfl) ?_
        refine aw_skip ?_
        refine aw_seq ?_
        refine aw_block ?_
        refine aw_seq ?_
        refine aw_region ttOK (C := True) (hs := []) (gs := []) (rn := []) (l' := [(0, .v (.c (.ls false (.num .i64) a0))), (1, .v (.c (.fn 30 []))), (5, .v (.c (.int .i64 v2))), (7, .v (.c (.int .i64 (List.length a0 : Int)))), (8, .v (.c (.int .i64 v2)))]) (h' := []) (by kernel_rfl) trivial ?_
        refine aw_seq ?_
        obtain ⟨c0, h⟩ := chk_some h
        obtain ⟨v3, ev3, h⟩ := bind_some h
        refine aw_region ttOK (C := (0 ≤ v2 ∧ v2 < (List.length a0 : Int)) ∧ (ACall Try.prog 30 [.v (.c (.int .i64 (List.getD a0 (v2).toNat (0 : Int))))] [] [] (.v (.c (.bool v3))) []) ∧ True) (hs := [(5, { call := some { f := 30, casts := [.same], r := .v (.c (.bool v3)) } })]) (gs := []) (rn := []) (l' := [(0, .v (.c (.ls false (.num .i64) a0))), (1, .v (.c (.fn 30 []))), (5, .v (.c (.int .i64 v2))), (7, .v (.c (.int .i64 (List.length a0 : Int)))), (8, .v (.c (.int .i64 v2))), (16, .v (.c (.bool v3)))]) (h' := []) (by kernel_rfl) ⟨c0, (F_i_TogetherPlan_c1_ok ev3), trivial⟩ ?_
        refine aw_if v3 (by kernel_rfl) (fun hb => ?_) (fun hb => ?_)
        · rw [ite_t hb] at h
          refine aw_seq ?_
          refine aw_region ttOK (C := True) (hs := []) (gs := []) (rn := []) (l' := [(4, .v (.c (.int .i64 v2)))]) (h' := []) (by kernel_rfl) trivial ?_
          refine aw_ghost (gs := []) (rn := []) (l' := [(4, .v (.c (.int .i64 v2)))]) (h' := []) (by kernel_rfl) ?_
          refine aw_ret (ret_ok [] ?_)
          cases h
          kernel_rfl
        · rw [ite_f hb] at h
          refine aw_ghost (gs := []) (rn := []) (l' := [(0, .v (.c (.ls false (.num .i64) a0))), (1, .v (.c (.fn 30 []))), (7, .v (.c (.int .i64 (List.length a0 : Int)))), (8, .v (.c (.int .i64 v2)))]) (h' := []) (by kernel_rfl) ?_
          refine aw_skip ?_
          refine aw_region ttOK (C := True) (hs := []) (gs := []) (rn := []) (l' := [(0, .v (.c (.ls false (.num .i64) a0))), (1, .v (.c (.fn 30 []))), (7, .v (.c (.int .i64 (List.length a0 : Int)))), (8, .v (.c (.int .i64 (IntKind.i64.wrap (v2 + (1 : Int))))))]) (h' := []) (by kernel_rfl) trivial ?_
          exact ⟨_, (IntKind.i64.wrap (v2 + (1 : Int))), Nat.lt_succ_self _, h, rfl, rfl⟩
      · rw [ite_f hb] at h
        refine aw_ghost (gs := []) (rn := []) (l' := []) (h' := []) (by kernel_rfl) ?_
        refine aw_exit ?_
        exact ⟨(), h, rfl, rfl⟩

theorem F_slices_ContainsFunc_Lint_int_fms_ok {fu : Nat} {a0 : List Int} {r : Bool} (h : F_slices_ContainsFunc_Lint_int_fms fu a0 = some r) :
    ACall Try.prog 20 [.v (.c (.ls false (.num .i64) a0)), .v (.c (.fn 30 []))] [] [] (.v (.c (.bool r))) [] := by
  unfold F_slices_ContainsFunc_Lint_int_fms at h
  refine acall_of_aw ttOK Try.func20 (by kernel_rfl) (c := _) rfl (N := 9) (by kernel_rfl) (Nat.le_of_ble_eq_true rfl) ?_
  refine aw_seq ?_
  refine aw_region ttOK (C := True) (hs := []) (gs := []) (rn := []) (l' := [(0, .v (.c (.ls false (.num .i64) a0))), (1, .v (.c (.fn 30 [])))]) (h' := []) (by kernel_rfl) trivial ?_
  refine aw_seq ?_
  obtain ⟨v1, ev1, h⟩ := bind_some h
  refine aw_region ttOK (C := (ACall Try.prog 47 [.v (.c (.ls false (.num .i64) a0)), .v (.c (.fn 30 []))] [] [] (.v (.c (.int .i64 v1))) []) ∧ True) (hs := [(2, { call := some { f := 47, casts := [.same, .same], r := .v (.c (.int .i64 v1)) } })]) (gs := []) (rn := []) (l' := [(4, .v (.c (.bool (decide (v1 ≥ (0 : Int))))))]) (h' := []) (by kernel_rfl) ⟨(F_slices_IndexFunc_Lint_int_fms_ok ev1), trivial⟩ ?_
  refine aw_ghost (gs := []) (rn := []) (l' := [(4, .v (.c (.bool (decide (v1 ≥ (0 : Int))))))]) (h' := []) (by kernel_rfl) ?_
  refine aw_ret (ret_ok [] ?_)
  cases h
  kernel_rfl

theorem F_i_TogetherPlan_ok {fu : Nat} {a0 : List Int} {r : Bool × Int × List (Int × Int) × List Int} (h : F_i_TogetherPlan fu a0 = some r) :
    ACall Try.prog 11 [.v (.c (.ls false (.num .i64) a0))] [] [] (.tu [.ag [.int .i64 r.2.1, .ls false (.pr (.num .i64) (.num .i64)) r.2.2.1, .ls false (.num .i64) r.2.2.2], .c (.bool r.1)]) [] := by
  unfold F_i_TogetherPlan at h
  refine acall_of_aw ttOK Try.func11 (by kernel_rfl) (c := _) rfl (N := 65) (by kernel_rfl) (Nat.le_of_ble_eq_true rfl) ?_
  refine aw_seq ?_
  refine aw_region ttOK (C := True) (hs := [(0, { id := 100 })]) (gs := []) (rn := []) (l' := [(0, .v (.c (.ls false (.num .i64) a0))), (2, .v (.c (.p 100 0)))]) (h' := [(100, .bx [.int .i64 (0 : Int), .nl, .nl])]) (by kernel_rfl) trivial ?_
  refine aw_seq ?_
  refine aw_seq ?_
  obtain ⟨v1, ev1, h⟩ := bind_some h
  obtain ⟨v2, ev2, h⟩ := bind_some h
  obtain ⟨v3, ev3, h⟩ := bind_some h
  refine aw_region ttOK (C := (ACall Try.prog 19 [.v (.c (.int .i64 (List.length a0 : Int))), .v (.c (.int .i64 (1 : Int))), .v (.c (.int .i64 (6 : Int)))] [] [] (.v (.c (.bool v1))) []) ∧ (((!v1) == false) = true → ((!v1) == false) = true) ∧ (((!v1) == false) = true → ACall Try.prog 20 [.v (.c (.ls false (.num .i64) a0)), .v (.c (.fn 30 []))] [] [] (.v (.c (.bool v2))) []) ∧ ((!v1) = false → ((!v1) == false) = true) ∧ (((cond (!v1) true v2) == false) = true → ((cond (!v1) true v2) == false) = true) ∧ (((cond (!v1) true v2) == false) = true → ACall Try.prog 25 [.v (.c (.ls false (.num .i64) a0))] [] [] (.v (.c (.int .i64 v3))) []) ∧ (((cond (!v1) true v2) == false) = true → ((cond (!v1) true v2) == false) = true) ∧ ((cond (!v1) true v2) = false → ((cond (!v1) true v2) == false) = true) ∧ True) (hs := [(2, { call := some { f := 19, casts := [.same, .same, .same], r := .v (.c (.bool v1)) } }), (6, { call := some { f := 20, casts := [.same, .same], r := .v (.c (.bool v2)) } }), (10, { call := some { f := 25, casts := [.same], r := .v (.c (.int .i64 v3)) } })]) (gs := []) (rn := []) (l' := [(0, .v (.c (.ls false (.num .i64) a0))), (2, .v (.c (.p 100 0))), (21, .v (.c (.bool (cond (cond (!v1) true v2) true (v3 == (0 : Int))))))]) (h' := [(100, .bx [.int .i64 (0 : Int), .nl, .nl])]) (by kernel_rfl) ⟨(F_i_in_ok ev1), (fun h => h), (fun hg => (F_slices_ContainsFunc_Lint_int_fms_ok (gcl_some ev2 hg))), (fun h => beq_iff_eq.2 h), (fun h => h), (fun hg => (F_slices_Max_Lint_int_ok (gcl_some ev3 hg))), (fun h => h), (fun h => beq_iff_eq.2 h), trivial⟩ ?_
  refine aw_if (cond (cond (!v1) true v2) true (v3 == (0 : Int))) (by kernel_rfl) (fun hb => ?_) (fun hb => ?_)
  · rw [ite_t hb] at h
    refine aw_seq ?_
    refine aw_region ttOK (C := True) (hs := []) (gs := []) (rn := []) (l' := [(2, .v (.c (.p 100 0))), (3, .v (.c (.bool false)))]) (h' := [(100, .bx [.int .i64 (0 : Int), .nl, .nl])]) (by kernel_rfl) trivial ?_
    refine aw_ghost (gs := [.cnil 100 1 (.pr (.num .i64) (.num .i64)), .cview 100 1, .cnil 100 2 (.num .i64), .cview 100 2]) (rn := []) (l' := [(2, .v (.c (.p 100 0))), (3, .v (.c (.bool false)))]) (h' := [(100, .bx [.int .i64 (0 : Int), .ls false (.pr (.num .i64) (.num .i64)) ([] : List (Int × Int)), .ls false (.num .i64) ([] : List Int)])]) (by kernel_rfl) ?_
    refine aw_ret (ret_ok [] ?_)
    cases h
    kernel_rfl
  · rw [ite_f hb] at h
    refine aw_ghost (gs := []) (rn := []) (l' := [(0, .v (.c (.ls false (.num .i64) a0))), (2, .v (.c (.p 100 0)))]) (h' := [(100, .bx [.int .i64 (0 : Int), .nl, .nl])]) (by kernel_rfl) ?_
    refine aw_skip ?_
    refine aw_seq ?_
    obtain ⟨v4, ev4, h⟩ := bind_some h
    refine aw_region ttOK (C := (ACall Try.prog 23 [.v (.c (.int .i64 (List.length a0 : Int)))] [] [] (.v (.c (.p 0 0))) [.bx [.int .i64 (List.length a0 : Int), .nl, .nl]]) ∧ True) (hs := [(2, { call := some { f := 23, casts := [.same], r := .v (.c (.p 0 0)), Hout := [.bx [.int .i64 (List.length a0 : Int), .nl, .nl]], ren := [115] } })]) (gs := []) (rn := []) (l' := [(0, .v (.c (.ls false (.num .i64) a0))), (2, .v (.c (.p 100 0))), (4, .v (.c (.p 115 0))), (5, .v (.c (.int .i64 (-1 : Int))))]) (h' := [(100, .bx [.int .i64 (0 : Int), .nl, .nl]), (115, .bx [.int .i64 (List.length a0 : Int), .nl, .nl])]) (by kernel_rfl) ⟨(F_i_newMaker_ok ev4), trivial⟩ ?_
    refine aw_join (X := Int × Int × Int × List (Int × Int)) (fun x => ([(2, .v (.c (.p 100 0))), (4, .v (.c (.p 115 0))), (5, .v (.c (.int .i64 x.1)))], [(100, .bx [.int .i64 x.2.1, .nl, .nl]), (115, .bx [.int .i64 x.2.2.1, .ho 950, .nl]), (950, .vc 67 (.pr (.num .i64) (.num .i64)) x.2.2.2)])) (fun x => F_i_TogetherPlanJ1 fu x.1 x.2.1 x.2.2.1 x.2.2.2 = some r) ?_ ?_
    · rintro ⟨v5, v6, v7, v8⟩ h
      unfold F_i_TogetherPlanJ1 at h
      refine aw_seq ?_
      obtain ⟨v10, ev10, h⟩ := bind_some h
      obtain ⟨v11, ev11, h⟩ := bind_some h
      refine aw_region ttOK (C := (ACall Try.prog 29 [.v (.c (.p 0 0)), .v (.c (.ls false (.num .i64) ([v5] : List Int)))] [.bx [.int .i64 v7, .ho 1, .nl], .vc 67 (.pr (.num .i64) (.num .i64)) v8] [0] (.v (.ag [.int .i64 v7, .ls false (.pr (.num .i64) (.num .i64)) v8, .ls false (.num .i64) ([v5] : List Int)])) [.bx [.int .i64 v7, .ls false (.pr (.num .i64) (.num .i64)) v8, .ls false (.num .i64) ([v5] : List Int)]]) ∧ (ACall Try.prog 28 [.v (.ag [.int .i64 v7, .ls false (.pr (.num .i64) (.num .i64)) v8, .ls false (.num .i64) ([v5] : List Int)])] [] [] (.tu [.ag [.int .i64 v11.2.1, .ls false (.pr (.num .i64) (.num .i64)) v11.2.2.1, .ls false (.num .i64) v11.2.2.2], .c (.bool v11.1)]) []) ∧ True) (hs := [(2, { id := 157 }), (3, { call := some { f := 29, casts := [.same, .view], sel := [115, 950], kp := [0], r := .v (.ag [.int .i64 v7, .ls false (.pr (.num .i64) (.num .i64)) v8, .ls false (.num .i64) ([v5] : List Int)]), Hout := [.bx [.int .i64 v7, .ls false (.pr (.num .i64) (.num .i64)) v8, .ls false (.num .i64) ([v5] : List Int)]], ren := [115] }, frz := [157] }), (4, { call := some { f := 28, casts := [.same], r := .tu [.ag [.int .i64 v11.2.1, .ls false (.pr (.num .i64) (.num .i64)) v11.2.2.1, .ls false (.num .i64) v11.2.2.2], .c (.bool v11.1)] } })]) (gs := []) (rn := []) (l' := [(2, .v (.c (.p 100 0))), (3, .v (.c (.bool v11.1)))]) (h' := [(100, .bx [.int .i64 v11.2.1, .ls false (.pr (.num .i64) (.num .i64)) v11.2.2.1, .ls false (.num .i64) v11.2.2.2])]) (by kernel_rfl) ⟨(F_i_maker_plan_dzy_ok ev10), (F_i_told_ok ev11), trivial⟩ ?_
      refine aw_ghost (gs := []) (rn := []) (l' := [(2, .v (.c (.p 100 0))), (3, .v (.c (.bool v11.1)))]) (h' := [(100, .bx [.int .i64 v11.2.1, .ls false (.pr (.num .i64) (.num .i64)) v11.2.2.1, .ls false (.num .i64) v11.2.2.2])]) (by kernel_rfl) ?_
      refine aw_ret (ret_ok [] ?_)
      cases h
      kernel_rfl
    · refine aw_seq ?_
      obtain ⟨v5, ev5, h⟩ := bind_some h
      obtain ⟨v6, ev6, h⟩ := bind_some h
      refine aw_region ttOK (C := (ACall Try.prog 25 [.v (.c (.ls false (.num .i64) a0))] [] [] (.v (.c (.int .i64 v5))) []) ∧ (ACall Try.prog 24 [.v (.c (.int .u64 (IntKind.u64.wrap v5)))] [] [] (.v (.c (.int .i64 v6))) []) ∧ True) (hs := [(1, { call := some { f := 25, casts := [.same], r := .v (.c (.int .i64 v5)) } }), (3, { call := some { f := 24, casts := [.same], r := .v (.c (.int .i64 v6)) } })]) (gs := []) (rn := []) (l' := [(0, .v (.c (.ls false (.num .i64) a0))), (2, .v (.c (.p 100 0))), (4, .v (.c (.p 115 0))), (5, .v (.c (.int .i64 (-1 : Int)))), (6, .v (.c (.int .i64 (IntKind.i64.wrap (v6 - (1 : Int))))))]) (h' := [(100, .bx [.int .i64 (0 : Int), .nl, .nl]), (115, .bx [.int .i64 (List.length a0 : Int), .nl, .nl])]) (by kernel_rfl) ⟨(F_slices_Max_Lint_int_ok ev5), (F_bits_Len_ok ev6), trivial⟩ ?_
      refine aw_block ?_
      refine aw_ghost (gs := [.cown 115 1 950 67 (.pr (.num .i64) (.num .i64))]) (rn := []) (l' := [(0, .v (.c (.ls false (.num .i64) a0))), (2, .v (.c (.p 100 0))), (4, .v (.c (.p 115 0))), (5, .v (.c (.int .i64 (-1 : Int)))), (6, .v (.c (.int .i64 (IntKind.i64.wrap (v6 - (1 : Int))))))]) (h' := [(100, .bx [.int .i64 (0 : Int), .nl, .nl]), (115, .bx [.int .i64 (List.length a0 : Int), .ho 950, .nl]), (950, .vc 67 (.pr (.num .i64) (.num .i64)) ([] : List (Int × Int)))]) (by kernel_rfl) ?_
      refine aw_loopF (X := Int × Int × Int × Int × List (Int × Int)) (fun x => ([(0, .v (.c (.ls false (.num .i64) a0))), (2, .v (.c (.p 100 0))), (4, .v (.c (.p 115 0))), (5, .v (.c (.int .i64 x.1))), (6, .v (.c (.int .i64 x.2.1)))], [(100, .bx [.int .i64 x.2.2.1, .nl, .nl]), (115, .bx [.int .i64 x.2.2.2.1, .ho 950, .nl]), (950, .vc 67 (.pr (.num .i64) (.num .i64)) x.2.2.2.2)])) (fun n x => F_i_TogetherPlanL2 fu a0 n x.1 x.2.1 x.2.2.1 x.2.2.2.1 x.2.2.2.2 = some r) fu ((-1 : Int), (IntKind.i64.wrap (v6 - (1 : Int))), (0 : Int), (List.length a0 : Int), ([] : List (Int × Int))) h ?_
      rintro n2 ⟨v12, v13, v14, v15, v16⟩ h
      cases n2 with
      | zero => first | cases h | (rw [F_i_TogetherPlanL2] at h; cases h)
      | succ n2 =>
        rw [F_i_TogetherPlanL2] at h
        refine aw_seq ?_
        refine aw_seq ?_
        refine aw_region ttOK (C := True) (hs := []) (gs := []) (rn := []) (l' := [(0, .v (.c (.ls false (.num .i64) a0))), (2, .v (.c (.p 100 0))), (4, .v (.c (.p 115 0))), (5, .v (.c (.int .i64 v12))), (6, .v (.c (.int .i64 v13))), (32, .v (.c (.bool (decide (v13 ≥ (0 : Int))))))]) (h' := [(100, .bx [.int .i64 v14, .nl, .nl]), (115, .bx [.int .i64 v15, .ho 950, .nl]), (950, .vc 67 (.pr (.num .i64) (.num .i64)) v16)]) (by kernel_rfl) trivial ?_
        refine aw_if (decide (v13 ≥ (0 : Int))) (by kernel_rfl) (fun hb => ?_) (fun hb => ?_)
        · rw [ite_t hb] at h
          refine aw_ghost (gs := []) (rn := []) (l' := [(0, .v (.c (.ls false (.num .i64) a0))), (2, .v (.c (.p 100 0))), (4, .v (.c (.p 115 0))), (5, .v (.c (.int .i64 v12))), (6, .v (.c (.int .i64 v13)))]) (h' := [(100, .bx [.int .i64 v14, .nl, .nl]), (115, .bx [.int .i64 v15, .ho 950, .nl]), (950, .vc 67 (.pr (.num .i64) (.num .i64)) v16)]) (by kernel_rfl) ?_
          refine aw_skip ?_
          refine aw_join (X := Int × Int × Int × Int × List (Int × Int)) (fun x => ([(0, .v (.c (.ls false (.num .i64) a0))), (2, .v (.c (.p 100 0))), (4, .v (.c (.p 115 0))), (5, .v (.c (.int .i64 x.1))), (6, .v (.c (.int .i64 x.2.1)))], [(100, .bx [.int .i64 x.2.2.1, .nl, .nl]), (115, .bx [.int .i64 x.2.2.2.1, .ho 129, .nl]), (129, .vc 67 (.pr (.num .i64) (.num .i64)) x.2.2.2.2)])) (fun x => F_i_TogetherPlanJ3 fu (F_i_TogetherPlanL2 fu a0 n2) x.1 x.2.1 x.2.2.1 x.2.2.2.1 x.2.2.2.2 = some r) ?_ ?_
          · rintro ⟨v17, v18, v19, v20, v21⟩ h
            unfold F_i_TogetherPlanJ3 at h
            refine aw_region ttOK (C := True) (hs := []) (gs := []) (rn := [(129, 950)]) (l' := [(0, .v (.c (.ls false (.num .i64) a0))), (2, .v (.c (.p 100 0))), (4, .v (.c (.p 115 0))), (5, .v (.c (.int .i64 v17))), (6, .v (.c (.int .i64 (IntKind.i64.wrap (v18 - (1 : Int))))))]) (h' := [(100, .bx [.int .i64 v19, .nl, .nl]), (115, .bx [.int .i64 v20, .ho 950, .nl]), (950, .vc 67 (.pr (.num .i64) (.num .i64)) v21)]) (by kernel_rfl) trivial ?_
            exact ⟨_, (v17, (IntKind.i64.wrap (v18 - (1 : Int))), v19, v20, v21), Nat.lt_succ_self _, h, rfl, rfl⟩
          · refine aw_block ?_
            refine aw_join (X := Int × List (Int × Int)) (fun x => ([(0, .v (.c (.ls false (.num .i64) a0))), (2, .v (.c (.p 100 0))), (4, .v (.c (.p 115 0))), (5, .v (.c (.int .i64 x.1))), (6, .v (.c (.int .i64 v13)))], [(100, .bx [.int .i64 v14, .nl, .nl]), (115, .bx [.int .i64 v15, .ho 129, .nl]), (129, .vc 67 (.pr (.num .i64) (.num .i64)) x.2)])) (fun x => F_i_TogetherPlanJ4 fu a0 v13 v15 (F_i_TogetherPlanL2 fu a0 n2) v14 x.1 x.2 = some r) ?_ ?_
            · rintro ⟨v17, v18⟩ h
              unfold F_i_TogetherPlanJ4 at h
              refine aw_seq ?_
              refine aw_region ttOK (C := True) (hs := []) (gs := []) (rn := []) (l' := [(0, .v (.c (.ls false (.num .i64) a0))), (2, .v (.c (.p 100 0))), (4, .v (.c (.p 115 0))), (5, .v (.c (.int .i64 v17))), (6, .v (.c (.int .i64 v13))), (41, .v (.c (.ls false (.num .i64) a0))), (42, .v (.c (.int .i64 (List.length a0 : Int)))), (43, .v (.c (.int .i64 (0 : Int))))]) (h' := [(100, .bx [.int .i64 v14, .nl, .nl]), (115, .bx [.int .i64 v15, .ho 129, .nl]), (129, .vc 67 (.pr (.num .i64) (.num .i64)) v18)]) (by kernel_rfl) trivial ?_
              refine aw_block ?_
              refine aw_loopF (X := Int × Int × List (Int × Int)) (fun x => ([(0, .v (.c (.ls false (.num .i64) a0))), (2, .v (.c (.p 100 0))), (4, .v (.c (.p 115 0))), (5, .v (.c (.int .i64 x.1))), (6, .v (.c (.int .i64 v13))), (41, .v (.c (.ls false (.num .i64) a0))), (42, .v (.c (.int .i64 (List.length a0 : Int)))), (43, .v (.c (.int .i64 x.2.1)))], [(100, .bx [.int .i64 v14, .nl, .nl]), (115, .bx [.int .i64 v15, .ho 129, .nl]), (129, .vc 67 (.pr (.num .i64) (.num .i64)) x.2.2)])) (fun n x => F_i_TogetherPlanL5 fu a0 v13 v15 (F_i_TogetherPlanL2 fu a0 n2) v14 n x.1 x.2.1 x.2.2 = some r) fu (v17, (0 : Int), v18) h ?_
              rintro n5 ⟨v22, v23, v24⟩ h
              cases n5 with
              | zero => first | cases h | (rw [F_i_TogetherPlanL5] at h; cases h)
              | succ n5 =>
                rw [F_i_TogetherPlanL5] at h
                refine aw_seq ?_
                refine aw_region ttOK (C := True) (hs := []) (gs := []) (rn := []) (l' := [(0, .v (.c (.ls false (.num .i64) a0))), (2, .v (.c (.p 100 0))), (4, .v (.c (.p 115 0))), (5, .v (.c (.int .i64 v22))), (6, .v (.c (.int .i64 v13))), (41, .v (.c (.ls false (.num .i64) a0))), (42, .v (.c (.int .i64 (List.length a0 : Int)))), (43, .v (.c (.int .i64 v23))), (44, .v (.c (.bool (decide (v23 < (List.length a0 : Int))))))]) (h' := [(100, .bx [.int .i64 v14, .nl, .nl]), (115, .bx [.int .i64 v15, .ho 129, .nl]), (129, .vc 67 (.pr (.num .i64) (.num .i64)) v24)]) (by kernel_rfl) trivial ?_
                refine aw_seq ?_
                refine aw_if (decide (v23 < (List.length a0 : Int))) (by kernel_rfl) (fun hb => ?_) (fun hb => ?_)
                · rw [ite_t hb] at h
                  refine aw_ghost (gs := []) (rn := []) (l' := [(0, .v (.c (.ls false (.num .i64) a0))), (2, .v (.c (.p 100 0))), (4, .v (.c (.p 115 0))), (5, .v (.c (.int .i64 v22))), (6, .v (.c (.int .i64 v13))), (41, .v (.c (.ls false (.num .i64) a0))), (42, .v (.c (.int .i64 (List.length a0 : Int)))), (43, .v (.c (.int .i64 v23)))]) (h' := [(100, .bx [.int .i64 v14, .nl, .nl]), (115, .bx [.int .i64 v15, .ho 129, .nl]), (129, .vc 67 (.pr (.num .i64) (.num .i64)) v24)]) (by kernel_rfl) ?_
                  refine aw_skip ?_
                  refine aw_join (X := Int × List (Int × Int)) (fun x => ([(0, .v (.c (.ls false (.num .i64) a0))), (2, .v (.c (.p 100 0))), (4, .v (.c (.p 115 0))), (5, .v (.c (.int .i64 x.1))), (6, .v (.c (.int .i64 v13))), (41, .v (.c (.ls false (.num .i64) a0))), (42, .v (.c (.int .i64 (List.length a0 : Int)))), (43, .v (.c (.int .i64 v23)))], [(100, .bx [.int .i64 v14, .nl, .nl]), (115, .bx [.int .i64 v15, .ho 148, .nl]), (148, .vc 67 (.pr (.num .i64) (.num .i64)) x.2)])) (fun x => F_i_TogetherPlanJ6 fu (F_i_TogetherPlanL5 fu a0 v13 v15 (F_i_TogetherPlanL2 fu a0 n2) v14 n5) v23 x.1 x.2 = some r) ?_ ?_
                  · rintro ⟨v25, v26⟩ h
                    unfold F_i_TogetherPlanJ6 at h
                    refine aw_region ttOK (C := True) (hs := []) (gs := []) (rn := [(148, 129)]) (l' := [(0, .v (.c (.ls false (.num .i64) a0))), (2, .v (.c (.p 100 0))), (4, .v (.c (.p 115 0))), (5, .v (.c (.int .i64 v25))), (6, .v (.c (.int .i64 v13))), (41, .v (.c (.ls false (.num .i64) a0))), (42, .v (.c (.int .i64 (List.length a0 : Int)))), (43, .v (.c (.int .i64 (IntKind.i64.wrap (v23 + (1 : Int))))))]) (h' := [(100, .bx [.int .i64 v14, .nl, .nl]), (115, .bx [.int .i64 v15, .ho 129, .nl]), (129, .vc 67 (.pr (.num .i64) (.num .i64)) v26)]) (by kernel_rfl) trivial ?_
                    exact ⟨_, (v25, (IntKind.i64.wrap (v23 + (1 : Int))), v26), Nat.lt_succ_self _, h, rfl, rfl⟩
                  · refine aw_block ?_
                    refine aw_seq ?_
                    obtain ⟨c0, h⟩ := chk_some h
                    refine aw_region ttOK (C := (0 ≤ v23 ∧ v23 < (List.length a0 : Int)) ∧ True) (hs := []) (gs := []) (rn := []) (l' := [(0, .v (.c (.ls false (.num .i64) a0))), (2, .v (.c (.p 100 0))), (4, .v (.c (.p 115 0))), (5, .v (.c (.int .i64 v22))), (6, .v (.c (.int .i64 v13))), (7, .v (.c (.int .i64 v23))), (8, .v (.c (.int .i64 (List.getD a0 (v23).toNat (0 : Int))))), (41, .v (.c (.ls false (.num .i64) a0))), (42, .v (.c (.int .i64 (List.length a0 : Int)))), (43, .v (.c (.int .i64 v23)))]) (h' := [(100, .bx [.int .i64 v14, .nl, .nl]), (115, .bx [.int .i64 v15, .ho 129, .nl]), (129, .vc 67 (.pr (.num .i64) (.num .i64)) v24)]) (by kernel_rfl) ⟨c0, trivial⟩ ?_
                    refine aw_seq ?_
                    obtain ⟨c0, h⟩ := chk_some h
                    refine aw_region ttOK (C := (0 ≤ v13) ∧ True) (hs := []) (gs := []) (rn := []) (l' := [(0, .v (.c (.ls false (.num .i64) a0))), (2, .v (.c (.p 100 0))), (4, .v (.c (.p 115 0))), (5, .v (.c (.int .i64 v22))), (6, .v (.c (.int .i64 v13))), (7, .v (.c (.int .i64 v23))), (41, .v (.c (.ls false (.num .i64) a0))), (42, .v (.c (.int .i64 (List.length a0 : Int)))), (43, .v (.c (.int .i64 v23))), (52, .v (.c (.bool ((bits .and .i64 (shrI .i64 (List.getD a0 (v23).toNat (0 : Int)) v13) (1 : Int)) == (1 : Int)))))]) (h' := [(100, .bx [.int .i64 v14, .nl, .nl]), (115, .bx [.int .i64 v15, .ho 129, .nl]), (129, .vc 67 (.pr (.num .i64) (.num .i64)) v24)]) (by kernel_rfl) ⟨c0, trivial⟩ ?_
                    refine aw_if ((bits .and .i64 (shrI .i64 (List.getD a0 (v23).toNat (0 : Int)) v13) (1 : Int)) == (1 : Int)) (by kernel_rfl) (fun hb => ?_) (fun hb => ?_)
                    · rw [ite_t hb] at h
                      obtain ⟨v25, ev25, h⟩ := bind_some h
                      refine aw_region ttOK (C := (ACall Try.prog 27 [.v (.c (.p 0 0)), .v (.c (.int .i64 v22)), .v (.c (.int .i64 v23))] [.bx [.int .i64 v15, .ho 1, .nl], .vc 67 (.pr (.num .i64) (.num .i64)) v24] [0] (.v (.c (.int .i64 v25.1))) [.bx [.int .i64 v15, .ho 1, .nl], .vc 67 (.pr (.num .i64) (.num .i64)) v25.2]) ∧ True) (hs := [(3, { call := some { f := 27, casts := [.same, .same, .same], sel := [115, 129], kp := [0], r := .v (.c (.int .i64 v25.1)), Hout := [.bx [.int .i64 v15, .ho 1, .nl], .vc 67 (.pr (.num .i64) (.num .i64)) v25.2], ren := [115, 148] } })]) (gs := []) (rn := []) (l' := [(0, .v (.c (.ls false (.num .i64) a0))), (2, .v (.c (.p 100 0))), (4, .v (.c (.p 115 0))), (5, .v (.c (.int .i64 v25.1))), (6, .v (.c (.int .i64 v13))), (41, .v (.c (.ls false (.num .i64) a0))), (42, .v (.c (.int .i64 (List.length a0 : Int)))), (43, .v (.c (.int .i64 v23)))]) (h' := [(100, .bx [.int .i64 v14, .nl, .nl]), (115, .bx [.int .i64 v15, .ho 148, .nl]), (148, .vc 67 (.pr (.num .i64) (.num .i64)) v25.2)]) (by kernel_rfl) ⟨(F_i_maker_times_frg_ok ev25), trivial⟩ ?_
                      exact ⟨(v25.1, v25.2), h, rfl, rfl⟩
                    · rw [ite_f hb] at h
                      refine aw_ghost (gs := []) (rn := [(129, 148)]) (l' := [(0, .v (.c (.ls false (.num .i64) a0))), (2, .v (.c (.p 100 0))), (4, .v (.c (.p 115 0))), (5, .v (.c (.int .i64 v22))), (6, .v (.c (.int .i64 v13))), (41, .v (.c (.ls false (.num .i64) a0))), (42, .v (.c (.int .i64 (List.length a0 : Int)))), (43, .v (.c (.int .i64 v23)))]) (h' := [(100, .bx [.int .i64 v14, .nl, .nl]), (115, .bx [.int .i64 v15, .ho 148, .nl]), (148, .vc 67 (.pr (.num .i64) (.num .i64)) v24)]) (by kernel_rfl) ?_
                      refine aw_skip ?_
                      exact ⟨(v22, v24), h, rfl, rfl⟩
                · rw [ite_f hb] at h
                  refine aw_ghost (gs := []) (rn := []) (l' := [(0, .v (.c (.ls false (.num .i64) a0))), (2, .v (.c (.p 100 0))), (4, .v (.c (.p 115 0))), (5, .v (.c (.int .i64 v22))), (6, .v (.c (.int .i64 v13)))]) (h' := [(100, .bx [.int .i64 v14, .nl, .nl]), (115, .bx [.int .i64 v15, .ho 129, .nl]), (129, .vc 67 (.pr (.num .i64) (.num .i64)) v24)]) (by kernel_rfl) ?_
                  refine aw_exit ?_
                  exact ⟨(v22, v13, v14, v15, v24), h, rfl, rfl⟩
            · refine aw_seq ?_
              refine aw_region ttOK (C := True) (hs := []) (gs := []) (rn := []) (l' := [(0, .v (.c (.ls false (.num .i64) a0))), (2, .v (.c (.p 100 0))), (4, .v (.c (.p 115 0))), (5, .v (.c (.int .i64 v12))), (6, .v (.c (.int .i64 v13))), (36, .v (.c (.bool (decide (v12 ≥ (0 : Int))))))]) (h' := [(100, .bx [.int .i64 v14, .nl, .nl]), (115, .bx [.int .i64 v15, .ho 950, .nl]), (950, .vc 67 (.pr (.num .i64) (.num .i64)) v16)]) (by kernel_rfl) trivial ?_
              refine aw_if (decide (v12 ≥ (0 : Int))) (by kernel_rfl) (fun hb => ?_) (fun hb => ?_)
              · rw [ite_t hb] at h
                obtain ⟨v17, ev17, h⟩ := bind_some h
                refine aw_region ttOK (C := (ACall Try.prog 26 [.v (.c (.p 0 0)), .v (.c (.int .i64 v12)), .v (.c (.int .i64 v12))] [.bx [.int .i64 v15, .ho 1, .nl], .vc 67 (.pr (.num .i64) (.num .i64)) v16] [0] (.v (.c (.int .i64 v17.1))) [.bx [.int .i64 v15, .ho 1, .nl], .vc 67 (.pr (.num .i64) (.num .i64)) v17.2]) ∧ True) (hs := [(3, { call := some { f := 26, casts := [.same, .same, .same], sel := [115, 950], kp := [0], r := .v (.c (.int .i64 v17.1)), Hout := [.bx [.int .i64 v15, .ho 1, .nl], .vc 67 (.pr (.num .i64) (.num .i64)) v17.2], ren := [115, 129] } })]) (gs := []) (rn := []) (l' := [(0, .v (.c (.ls false (.num .i64) a0))), (2, .v (.c (.p 100 0))), (4, .v (.c (.p 115 0))), (5, .v (.c (.int .i64 v17.1))), (6, .v (.c (.int .i64 v13)))]) (h' := [(100, .bx [.int .i64 v14, .nl, .nl]), (115, .bx [.int .i64 v15, .ho 129, .nl]), (129, .vc 67 (.pr (.num .i64) (.num .i64)) v17.2)]) (by kernel_rfl) ⟨(F_i_maker_multiply_frg_ok ev17), trivial⟩ ?_
                exact ⟨(v17.1, v17.2), h, rfl, rfl⟩
              · rw [ite_f hb] at h
                refine aw_ghost (gs := []) (rn := [(950, 129)]) (l' := [(0, .v (.c (.ls false (.num .i64) a0))), (2, .v (.c (.p 100 0))), (4, .v (.c (.p 115 0))), (5, .v (.c (.int .i64 v12))), (6, .v (.c (.int .i64 v13)))]) (h' := [(100, .bx [.int .i64 v14, .nl, .nl]), (115, .bx [.int .i64 v15, .ho 129, .nl]), (129, .vc 67 (.pr (.num .i64) (.num .i64)) v16)]) (by kernel_rfl) ?_
                refine aw_skip ?_
                exact ⟨(v12, v16), h, rfl, rfl⟩
        · rw [ite_f hb] at h
          refine aw_ghost (gs := []) (rn := []) (l' := [(2, .v (.c (.p 100 0))), (4, .v (.c (.p 115 0))), (5, .v (.c (.int .i64 v12)))]) (h' := [(100, .bx [.int .i64 v14, .nl, .nl]), (115, .bx [.int .i64 v15, .ho 950, .nl]), (950, .vc 67 (.pr (.num .i64) (.num .i64)) v16)]) (by kernel_rfl) ?_
          refine aw_exit ?_
          exact ⟨(v12, v14, v15, v16), h, rfl, rfl⟩

theorem F_i_VectorCosts_ok {fu : Nat} {a0 : List Int} {r : Int × Int × Bool} (h : F_i_VectorCosts fu a0 = some r) :
    ACall Try.prog 10 [.v (.c (.ls false (.num .i64) a0))] [] [] (.tu [.c (.int .i64 r.1), .c (.int .i64 r.2.1), .c (.bool r.2.2)]) [] := by
  unfold F_i_VectorCosts at h
  refine acall_of_aw ttOK Try.func10 (by kernel_rfl) (c := _) rfl (N := 31) (by kernel_rfl) (Nat.le_of_ble_eq_true rfl) ?_
  refine aw_seq ?_
  refine aw_region ttOK (C := True) (hs := []) (gs := []) (rn := []) (l' := [(0, .v (.c (.ls false (.num .i64) a0)))]) (h' := []) (by kernel_rfl) trivial ?_
  refine aw_seq ?_
  obtain ⟨v1, ev1, h⟩ := bind_some h
  refine aw_region ttOK (C := (ACall Try.prog 11 [.v (.c (.ls false (.num .i64) a0))] [] [] (.tu [.ag [.int .i64 v1.2.1, .ls false (.pr (.num .i64) (.num .i64)) v1.2.2.1, .ls false (.num .i64) v1.2.2.2], .c (.bool v1.1)]) []) ∧ True) (hs := [(1, { call := some { f := 11, casts := [.same], r := .tu [.ag [.int .i64 v1.2.1, .ls false (.pr (.num .i64) (.num .i64)) v1.2.2.1, .ls false (.num .i64) v1.2.2.2], .c (.bool v1.1)] } }), (5, { id := 107 })]) (gs := []) (rn := []) (l' := [(0, .v (.c (.ls false (.num .i64) a0))), (5, .v (.c (.p 107 0))), (6, .v (.c (.bool v1.1)))]) (h' := [(107, .bx [.int .i64 v1.2.1, .ls false (.pr (.num .i64) (.num .i64)) v1.2.2.1, .ls false (.num .i64) v1.2.2.2])]) (by kernel_rfl) ⟨(F_i_TogetherPlan_ok ev1), trivial⟩ ?_
  refine aw_seq ?_
  obtain ⟨v2, ev2, h⟩ := bind_some h
  refine aw_region ttOK (C := (ACall Try.prog 6 [.v (.c (.ls false (.num .i64) a0))] [] [] (.tu [.ag [.int .i64 v2.2.1, .ls false (.pr (.num .i64) (.num .i64)) v2.2.2.1, .ls false (.num .i64) v2.2.2.2], .c (.bool v2.1)]) []) ∧ True) (hs := [(1, { call := some { f := 6, casts := [.same], r := .tu [.ag [.int .i64 v2.2.1, .ls false (.pr (.num .i64) (.num .i64)) v2.2.2.1, .ls false (.num .i64) v2.2.2.2], .c (.bool v2.1)] } }), (5, { id := 114 })]) (gs := []) (rn := []) (l' := [(5, .v (.c (.p 107 0))), (6, .v (.c (.bool v1.1))), (7, .v (.c (.p 114 0))), (8, .v (.c (.bool v2.1)))]) (h' := [(107, .bx [.int .i64 v1.2.1, .ls false (.pr (.num .i64) (.num .i64)) v1.2.2.1, .ls false (.num .i64) v1.2.2.2]), (114, .bx [.int .i64 v2.2.1, .ls false (.pr (.num .i64) (.num .i64)) v2.2.2.1, .ls false (.num .i64) v2.2.2.2])]) (by kernel_rfl) ⟨(F_i_VectorPlan_ok ev2), trivial⟩ ?_
  refine aw_seq ?_
  refine aw_seq ?_
  refine aw_region ttOK (C := (((!v1.1) == false) = true → ((!v1.1) == false) = true) ∧ ((!v1.1) = false → ((!v1.1) == false) = true) ∧ True) (hs := []) (gs := []) (rn := []) (l' := [(5, .v (.c (.p 107 0))), (7, .v (.c (.p 114 0))), (24, .v (.c (.bool (cond (!v1.1) true (!v2.1)))))]) (h' := [(107, .bx [.int .i64 v1.2.1, .ls false (.pr (.num .i64) (.num .i64)) v1.2.2.1, .ls false (.num .i64) v1.2.2.2]), (114, .bx [.int .i64 v2.2.1, .ls false (.pr (.num .i64) (.num .i64)) v2.2.2.1, .ls false (.num .i64) v2.2.2.2])]) (by kernel_rfl) ⟨(fun h => h), (fun h => beq_iff_eq.2 h), trivial⟩ ?_
  refine aw_if (cond (!v1.1) true (!v2.1)) (by kernel_rfl) (fun hb => ?_) (fun hb => ?_)
  · rw [ite_t hb] at h
    refine aw_seq ?_
    refine aw_region ttOK (C := True) (hs := []) (gs := []) (rn := []) (l' := [(2, .v (.c (.int .i64 (0 : Int)))), (3, .v (.c (.int .i64 (0 : Int)))), (4, .v (.c (.bool false)))]) (h' := []) (by kernel_rfl) trivial ?_
    refine aw_ghost (gs := []) (rn := []) (l' := [(2, .v (.c (.int .i64 (0 : Int)))), (3, .v (.c (.int .i64 (0 : Int)))), (4, .v (.c (.bool false)))]) (h' := []) (by kernel_rfl) ?_
    refine aw_ret (ret_ok [] ?_)
    cases h
    kernel_rfl
  · rw [ite_f hb] at h
    refine aw_ghost (gs := []) (rn := []) (l' := [(5, .v (.c (.p 107 0))), (7, .v (.c (.p 114 0)))]) (h' := [(107, .bx [.int .i64 v1.2.1, .ls false (.pr (.num .i64) (.num .i64)) v1.2.2.1, .ls false (.num .i64) v1.2.2.2]), (114, .bx [.int .i64 v2.2.1, .ls false (.pr (.num .i64) (.num .i64)) v2.2.2.1, .ls false (.num .i64) v2.2.2.2])]) (by kernel_rfl) ?_
    refine aw_skip ?_
    refine aw_seq ?_
    refine aw_draw ttOK ttMix (C := True) (hs := []) (anc := []) (tch := []) (gs := []) (rn := []) (l' := [(2, .v (.c (.int .i64 (List.length v1.2.2.1 : Int)))), (3, .v (.c (.int .i64 (List.length v2.2.2.1 : Int)))), (4, .v (.c (.bool true)))]) (h' := []) (by kernel_rfl) trivial ?_
    refine aw_ghost (gs := []) (rn := []) (l' := [(2, .v (.c (.int .i64 (List.length v1.2.2.1 : Int)))), (3, .v (.c (.int .i64 (List.length v2.2.2.1 : Int)))), (4, .v (.c (.bool true)))]) (h' := []) (by kernel_rfl) ?_
    refine aw_ret (ret_ok [] ?_)
    cases h
    kernel_rfl

theorem F_slices_Clone_Lint_int_ok {fu : Nat} {a0 : List Int} {r : List Int} (h : F_slices_Clone_Lint_int fu a0 = some r) :
    ACall Try.prog 56 [.v (.c (.ls false (.num .i64) a0))] [] [] (.v (.c (.ho 0))) [.vc 3 (.num .i64) r] := by
  unfold F_slices_Clone_Lint_int at h
  refine acall_of_aw ttOK Try.func56 (by kernel_rfl) (c := _) rfl (N := 8) (by kernel_rfl) (Nat.le_of_ble_eq_true rfl) ?_
  refine aw_seq ?_
  refine aw_region ttOK (C := True) (hs := []) (gs := []) (rn := []) (l' := [(0, .v (.c (.ls false (.num .i64) a0)))]) (h' := []) (by kernel_rfl) trivial ?_
  refine aw_seq ?_
  refine aw_seq ?_
  obtain ⟨c0, h⟩ := chk_some h
  refine aw_region ttOK (C := (List.length a0 ≠ 0) ∧ True) (hs := []) (gs := []) (rn := []) (l' := [(0, .v (.c (.ls false (.num .i64) a0))), (4, .v (.c (.bool false)))]) (h' := []) (by kernel_rfl) ⟨c0, trivial⟩ ?_
  refine aw_if false (by kernel_rfl) (fun hb => by cases hb) (fun hb => ?_)
  refine aw_ghost (gs := []) (rn := []) (l' := [(0, .v (.c (.ls false (.num .i64) a0)))]) (h' := []) (by kernel_rfl) ?_
  refine aw_skip ?_
  refine aw_seq ?_
  obtain ⟨c0, h⟩ := chk_some h
  refine aw_region ttOK (C := ((List.length ([] : List Int) + List.length a0) * 8 ≤ 140737488355328) ∧ True) (hs := [(0, { id := 103 }), (2, { id := 105 })]) (gs := []) (rn := []) (l' := [(2, .v (.c (.ho 105)))]) (h' := [(105, .vc 3 (.num .i64) (([] : List Int) ++ a0))]) (by kernel_rfl) ⟨c0, trivial⟩ ?_
  refine aw_ghost (gs := []) (rn := []) (l' := [(2, .v (.c (.ho 105)))]) (h' := [(105, .vc 3 (.num .i64) (([] : List Int) ++ a0))]) (by kernel_rfl) ?_
  refine aw_ret (ret_ok [105] ?_)
  cases h
  kernel_rfl

theorem F_i_Plan_outputExponents_wze_ok {fu : Nat} {a0 : Int} {a1 : List (Int × Int)} {a2 : List Int} {r : List (List Int)} (h : F_i_Plan_outputExponents_wze fu a0 a1 a2 = some r) :
    ACall Try.prog 32 [.v (.c (.p 0 0))] [.bx [.int .i64 a0, .ls false (.pr (.num .i64) (.num .i64)) a1, .ls false (.num .i64) a2]] [0] (.v (.c (.ho 1))) [.bx [.int .i64 a0, .ls false (.pr (.num .i64) (.num .i64)) a1, .ls false (.num .i64) a2], .vc 24 (.sl (.num .i64)) r] := by
  unfold F_i_Plan_outputExponents_wze at h
  refine acall_of_aw ttOK Try.func32 (by kernel_rfl) (c := _) rfl (N := 29) (by kernel_rfl) (Nat.le_of_ble_eq_true rfl) ?_
  refine aw_seq ?_
  refine aw_region ttOK (C := True) (hs := []) (gs := []) (rn := []) (l' := [(0, .v (.c (.p 0 0)))]) (h' := [(0, .bx [.int .i64 a0, .ls false (.pr (.num .i64) (.num .i64)) a1, .ls false (.num .i64) a2])]) (by kernel_rfl) trivial ?_
  refine aw_seq ?_
  obtain ⟨v1, ev1, h⟩ := bind_some h
  refine aw_region ttOK (C := (ACall Try.prog 54 [.v (.c (.p 0 0))] [.bx [.int .i64 a0, .ls false (.pr (.num .i64) (.num .i64)) a1, .ls false (.num .i64) a2]] [0] (.v (.c (.ho 1))) [.bx [.int .i64 a0, .ls false (.pr (.num .i64) (.num .i64)) a1, .ls false (.num .i64) a2], .vc 24 (.sl (.num .i64)) v1]) ∧ True) (hs := [(1, { call := some { f := 54, casts := [.same], sel := [0], kp := [0], r := .v (.c (.ho 1)), Hout := [.bx [.int .i64 a0, .ls false (.pr (.num .i64) (.num .i64)) a1, .ls false (.num .i64) a2], .vc 24 (.sl (.num .i64)) v1], ren := [0, 102] } }), (2, { id := 103 })]) (gs := []) (rn := []) (l' := [(0, .v (.c (.p 0 0))), (3, .v (.c (.ho 102))), (4, .v (.c (.ho 103)))]) (h' := [(0, .bx [.int .i64 a0, .ls false (.pr (.num .i64) (.num .i64)) a1, .ls false (.num .i64) a2]), (102, .vc 24 (.sl (.num .i64)) v1), (103, .vc 24 (.sl (.num .i64)) ([] : List (List Int)))]) (by kernel_rfl) ⟨(F_i_Plan_exponents_wze_ok ev1), trivial⟩ ?_
  refine aw_join (X := List (List Int)) (fun x => ([(4, .v (.c (.ho 103)))], [(0, .bx [.int .i64 a0, .ls false (.pr (.num .i64) (.num .i64)) a1, .ls false (.num .i64) a2]), (103, .vc 24 (.sl (.num .i64)) x)])) (fun x => F_i_Plan_outputExponents_wzeJ1 fu x = some r) ?_ ?_
  · rintro v2 h
    unfold F_i_Plan_outputExponents_wzeJ1 at h
    refine aw_seq ?_
    refine aw_region ttOK (C := True) (hs := []) (gs := []) (rn := []) (l' := [(2, .v (.c (.ho 103)))]) (h' := [(0, .bx [.int .i64 a0, .ls false (.pr (.num .i64) (.num .i64)) a1, .ls false (.num .i64) a2]), (103, .vc 24 (.sl (.num .i64)) v2)]) (by kernel_rfl) trivial ?_
    refine aw_ghost (gs := []) (rn := []) (l' := [(2, .v (.c (.ho 103)))]) (h' := [(0, .bx [.int .i64 a0, .ls false (.pr (.num .i64) (.num .i64)) a1, .ls false (.num .i64) a2]), (103, .vc 24 (.sl (.num .i64)) v2)]) (by kernel_rfl) ?_
    refine aw_ret (ret_ok [0, 103] ?_)
    cases h
    kernel_rfl
  · refine aw_seq ?_
    refine aw_region ttOK (C := True) (hs := []) (gs := []) (rn := []) (l' := [(3, .v (.c (.ho 102))), (4, .v (.c (.ho 103))), (13, .v (.c (.ls false (.num .i64) a2))), (14, .v (.c (.int .i64 (List.length a2 : Int)))), (15, .v (.c (.int .i64 (0 : Int))))]) (h' := [(0, .bx [.int .i64 a0, .ls false (.pr (.num .i64) (.num .i64)) a1, .ls false (.num .i64) a2]), (102, .vc 24 (.sl (.num .i64)) v1), (103, .vc 24 (.sl (.num .i64)) ([] : List (List Int)))]) (by kernel_rfl) trivial ?_
    refine aw_block ?_
    refine aw_loopF (X := Int × List (List Int)) (fun x => ([(3, .v (.c (.ho 102))), (4, .v (.c (.ho 103))), (13, .v (.c (.ls false (.num .i64) a2))), (14, .v (.c (.int .i64 (List.length a2 : Int)))), (15, .v (.c (.int .i64 x.1)))], [(0, .bx [.int .i64 a0, .ls false (.pr (.num .i64) (.num .i64)) a1, .ls false (.num .i64) a2]), (102, .vc 24 (.sl (.num .i64)) v1), (103, .vc 24 (.sl (.num .i64)) x.2)])) (fun n x => F_i_Plan_outputExponents_wzeL2 fu a2 v1 n x.1 x.2 = some r) fu ((0 : Int), ([] : List (List Int))) h ?_
    rintro n2 ⟨v4, v5⟩ h
    cases n2 with
    | zero => first | cases h | (rw [F_i_Plan_outputExponents_wzeL2] at h; cases h)
    | succ n2 =>
      rw [F_i_Plan_outputExponents_wzeL2] at h
      refine aw_seq ?_
      refine aw_region ttOK (C := True) (hs := []) (gs := []) (rn := []) (l' := [(3, .v (.c (.ho 102))), (4, .v (.c (.ho 103))), (13, .v (.c (.ls false (.num .i64) a2))), (14, .v (.c (.int .i64 (List.length a2 : Int)))), (15, .v (.c (.int .i64 v4))), (16, .v (.c (.bool (decide (v4 < (List.length a2 : Int))))))]) (h' := [(0, .bx [.int .i64 a0, .ls false (.pr (.num .i64) (.num .i64)) a1, .ls false (.num .i64) a2]), (102, .vc 24 (.sl (.num .i64)) v1), (103, .vc 24 (.sl (.num .i64)) v5)]) (by kernel_rfl) trivial ?_
      refine aw_seq ?_
      refine aw_if (decide (v4 < (List.length a2 : Int))) (by kernel_rfl) (fun hb => ?_) (fun hb => ?_)
      · rw [ite_t hb] at h
        refine aw_ghost (gs := []) (rn := []) (l' := [(3, .v (.c (.ho 102))), (4, .v (.c (.ho 103))), (13, .v (.c (.ls false (.num .i64) a2))), (14, .v (.c (.int .i64 (List.length a2 : Int)))), (15, .v (.c (.int .i64 v4)))]) (h' := [(0, .bx [.int .i64 a0, .ls false (.pr (.num .i64) (.num .i64)) a1, .ls false (.num .i64) a2]), (102, .vc 24 (.sl (.num .i64)) v1), (103, .vc 24 (.sl (.num .i64)) v5)]) (by kernel_rfl) ?_
        refine aw_skip ?_
        refine aw_seq ?_
        refine aw_block ?_
        refine aw_seq ?_
        obtain ⟨c0, h⟩ := chk_some h
        refine aw_region ttOK (C := (0 ≤ v4 ∧ v4 < (List.length a2 : Int)) ∧ True) (hs := []) (gs := []) (rn := []) (l' := [(3, .v (.c (.ho 102))), (4, .v (.c (.ho 103))), (6, .v (.c (.int .i64 (List.getD a2 (v4).toNat (0 : Int))))), (13, .v (.c (.ls false (.num .i64) a2))), (14, .v (.c (.int .i64 (List.length a2 : Int)))), (15, .v (.c (.int .i64 v4)))]) (h' := [(0, .bx [.int .i64 a0, .ls false (.pr (.num .i64) (.num .i64)) a1, .ls false (.num .i64) a2]), (102, .vc 24 (.sl (.num .i64)) v1), (103, .vc 24 (.sl (.num .i64)) v5)]) (by kernel_rfl) ⟨c0, trivial⟩ ?_
        obtain ⟨c0, h⟩ := chk_some h
        obtain ⟨v6, ev6, h⟩ := bind_some h
        obtain ⟨c1, h⟩ := chk_some h
        refine aw_region ttOK (C := (0 ≤ (List.getD a2 (v4).toNat (0 : Int)) ∧ (List.getD a2 (v4).toNat (0 : Int)) < (List.length v1 : Int)) ∧ (ACall Try.prog 56 [.v (.c (.ls false (.num .i64) (List.getD v1 ((List.getD a2 (v4).toNat (0 : Int))).toNat ([] : List Int))))] [] [] (.v (.c (.ho 0))) [.vc 3 (.num .i64) v6]) ∧ ((List.length v5 + List.length ([v6] : List (List Int))) * 24 ≤ 140737488355328) ∧ True) (hs := [(5, { call := some { f := 56, casts := [.same], r := .v (.c (.ho 0)), Hout := [.vc 3 (.num .i64) v6], ren := [121] } }), (6, { id := 122, frz := [121] }), (7, { id := 123 })]) (gs := []) (rn := []) (l' := [(3, .v (.c (.ho 102))), (4, .v (.c (.ho 123))), (13, .v (.c (.ls false (.num .i64) a2))), (14, .v (.c (.int .i64 (List.length a2 : Int)))), (15, .v (.c (.int .i64 v4)))]) (h' := [(0, .bx [.int .i64 a0, .ls false (.pr (.num .i64) (.num .i64)) a1, .ls false (.num .i64) a2]), (102, .vc 24 (.sl (.num .i64)) v1), (123, .vc 24 (.sl (.num .i64)) (v5 ++ ([v6] : List (List Int))))]) (by kernel_rfl) ⟨c0, (F_slices_Clone_Lint_int_ok ev6), c1, trivial⟩ ?_
        refine aw_region ttOK (C := True) (hs := []) (gs := []) (rn := [(123, 103)]) (l' := [(3, .v (.c (.ho 102))), (4, .v (.c (.ho 103))), (13, .v (.c (.ls false (.num .i64) a2))), (14, .v (.c (.int .i64 (List.length a2 : Int)))), (15, .v (.c (.int .i64 (IntKind.i64.wrap (v4 + (1 : Int))))))]) (h' := [(0, .bx [.int .i64 a0, .ls false (.pr (.num .i64) (.num .i64)) a1, .ls false (.num .i64) a2]), (102, .vc 24 (.sl (.num .i64)) v1), (103, .vc 24 (.sl (.num .i64)) (v5 ++ ([v6] : List (List Int))))]) (by kernel_rfl) trivial ?_
        exact ⟨_, ((IntKind.i64.wrap (v4 + (1 : Int))), (v5 ++ ([v6] : List (List Int)))), Nat.lt_succ_self _, h, rfl, rfl⟩
      · rw [ite_f hb] at h
        refine aw_ghost (gs := []) (rn := []) (l' := [(4, .v (.c (.ho 103)))]) (h' := [(0, .bx [.int .i64 a0, .ls false (.pr (.num .i64) (.num .i64)) a1, .ls false (.num .i64) a2]), (103, .vc 24 (.sl (.num .i64)) v5)]) (by kernel_rfl) ?_
        refine aw_exit ?_
        exact ⟨v5, h, rfl, rfl⟩

theorem F_i_OutputExponents_ok {fu : Nat} {a0 : Int} {a1 : List (Int × Int)} {a2 : List Int} {r : Bool × List (List Int)} (h : F_i_OutputExponents fu a0 a1 a2 = some r) :
    ACall Try.prog 12 [.v (.ag [.int .i64 a0, .ls false (.pr (.num .i64) (.num .i64)) a1, .ls false (.num .i64) a2])] [] [] (.tu [.c (.ho 0), .c (.bool r.1)]) [.vc 24 (.sl (.num .i64)) r.2] := by
  unfold F_i_OutputExponents at h
  refine acall_of_aw ttOK Try.func12 (by kernel_rfl) (c := _) rfl (N := 8) (by kernel_rfl) (Nat.le_of_ble_eq_true rfl) ?_
  refine aw_seq ?_
  refine aw_region ttOK (C := True) (hs := [(0, { id := 100 })]) (gs := []) (rn := []) (l' := [(1, .v (.c (.p 100 0)))]) (h' := [(100, .bx [.int .i64 a0, .ls false (.pr (.num .i64) (.num .i64)) a1, .ls false (.num .i64) a2])]) (by kernel_rfl) trivial ?_
  refine aw_seq ?_
  refine aw_seq ?_
  obtain ⟨v1, ev1, h⟩ := bind_some h
  refine aw_region ttOK (C := (ACall Try.prog 31 [.v (.ag [.int .i64 a0, .ls false (.pr (.num .i64) (.num .i64)) a1, .ls false (.num .i64) a2])] [] [] (.v (.c (.bool v1))) []) ∧ True) (hs := [(1, { call := some { f := 31, casts := [.same], r := .v (.c (.bool v1)) } })]) (gs := []) (rn := []) (l' := [(1, .v (.c (.p 100 0))), (6, .v (.c (.bool (!v1))))]) (h' := [(100, .bx [.int .i64 a0, .ls false (.pr (.num .i64) (.num .i64)) a1, .ls false (.num .i64) a2])]) (by kernel_rfl) ⟨(F_i_IsPlan_ok ev1), trivial⟩ ?_
  refine aw_if (!v1) (by kernel_rfl) (fun hb => ?_) (fun hb => ?_)
  · rw [ite_t hb] at h
    refine aw_seq ?_
    refine aw_region ttOK (C := True) (hs := []) (gs := []) (rn := []) (l' := [(2, .v (.c (.nl))), (3, .v (.c (.bool false)))]) (h' := []) (by kernel_rfl) trivial ?_
    refine aw_ghost (gs := [.own 2 950 24 (.sl (.num .i64))]) (rn := []) (l' := [(2, .v (.c (.ho 950))), (3, .v (.c (.bool false)))]) (h' := [(950, .vc 24 (.sl (.num .i64)) ([] : List (List Int)))]) (by kernel_rfl) ?_
    refine aw_ret (ret_ok [950] ?_)
    cases h
    kernel_rfl
  · rw [ite_f hb] at h
    refine aw_ghost (gs := []) (rn := []) (l' := [(1, .v (.c (.p 100 0)))]) (h' := [(100, .bx [.int .i64 a0, .ls false (.pr (.num .i64) (.num .i64)) a1, .ls false (.num .i64) a2])]) (by kernel_rfl) ?_
    refine aw_skip ?_
    refine aw_seq ?_
    obtain ⟨v2, ev2, h⟩ := bind_some h
    refine aw_region ttOK (C := (ACall Try.prog 32 [.v (.c (.p 0 0))] [.bx [.int .i64 a0, .ls false (.pr (.num .i64) (.num .i64)) a1, .ls false (.num .i64) a2]] [0] (.v (.c (.ho 1))) [.bx [.int .i64 a0, .ls false (.pr (.num .i64) (.num .i64)) a1, .ls false (.num .i64) a2], .vc 24 (.sl (.num .i64)) v2]) ∧ True) (hs := [(0, { call := some { f := 32, casts := [.same], sel := [100], kp := [0], r := .v (.c (.ho 1)), Hout := [.bx [.int .i64 a0, .ls false (.pr (.num .i64) (.num .i64)) a1, .ls false (.num .i64) a2], .vc 24 (.sl (.num .i64)) v2], ren := [100, 107] } })]) (gs := []) (rn := []) (l' := [(2, .v (.c (.ho 107))), (3, .v (.c (.bool true)))]) (h' := [(107, .vc 24 (.sl (.num .i64)) v2)]) (by kernel_rfl) ⟨(F_i_Plan_outputExponents_wze_ok ev2), trivial⟩ ?_
    refine aw_ghost (gs := []) (rn := [(107, 950)]) (l' := [(2, .v (.c (.ho 950))), (3, .v (.c (.bool true)))]) (h' := [(950, .vc 24 (.sl (.num .i64)) v2)]) (by kernel_rfl) ?_
    refine aw_ret (ret_ok [950] ?_)
    cases h
    kernel_rfl

theorem F_l_FnVectors_ok {fu : Nat} {a0 : List Int} {a1 : List Int} {r : Bool} (h : F_l_FnVectors fu a0 a1 = some r) :
    ACall Try.prog 3 [.v (.c (.ls false (.num .u8) a0)), .v (.c (.ls false (.num .u8) a1))] [] [] (.v (.c (.bool r))) [] := by
  unfold F_l_FnVectors at h
  refine acall_of_aw ttOK Try.func3 (by kernel_rfl) (c := _) rfl (N := 120) (by kernel_rfl) (Nat.le_of_ble_eq_true rfl) ?_
  refine aw_seq ?_
  refine aw_region ttOK (C := True) (hs := []) (gs := []) (rn := []) (l' := [(0, .v (.c (.ls false (.num .u8) a0))), (1, .v (.c (.ls false (.num .u8) a1)))]) (h' := []) (by kernel_rfl) trivial ?_
  refine aw_seq ?_
  refine aw_seq ?_
  obtain ⟨v1, ev1, h⟩ := bind_some h
  refine aw_region ttOK (C := (ACall Try.prog 4 [.v (.c (.ls false (.num .u8) a0)), .v (.c (.ls false (.num .u8) a1))] [] [] (.v (.c (.bool v1))) []) ∧ True) (hs := [(2, { call := some { f := 4, casts := [.same, .same], r := .v (.c (.bool v1)) } })]) (gs := []) (rn := []) (l' := [(0, .v (.c (.ls false (.num .u8) a0))), (21, .v (.c (.bool v1)))]) (h' := []) (by kernel_rfl) ⟨(F_l_big_ok ev1), trivial⟩ ?_
  refine aw_if v1 (by kernel_rfl) (fun hb => ?_) (fun hb => ?_)
  · rw [ite_t hb] at h
    refine aw_seq ?_
    refine aw_region ttOK (C := True) (hs := []) (gs := []) (rn := []) (l' := [(4, .v (.c (.bool true)))]) (h' := []) (by kernel_rfl) trivial ?_
    refine aw_ghost (gs := []) (rn := []) (l' := [(4, .v (.c (.bool true)))]) (h' := []) (by kernel_rfl) ?_
    refine aw_ret (ret_ok [] ?_)
    cases h
    kernel_rfl
  · rw [ite_f hb] at h
    refine aw_ghost (gs := []) (rn := []) (l' := [(0, .v (.c (.ls false (.num .u8) a0)))]) (h' := []) (by kernel_rfl) ?_
    refine aw_skip ?_
    refine aw_seq ?_
    obtain ⟨v2, ev2, h⟩ := bind_some h
    refine aw_region ttOK (C := (ACall Try.prog 5 [.v (.c (.ls false (.num .u8) a0))] [] [] (.v (.c (.ho 0))) [.vc 3 (.num .i64) v2]) ∧ True) (hs := [(1, { call := some { f := 5, casts := [.same], r := .v (.c (.ho 0)), Hout := [.vc 3 (.num .i64) v2], ren := [105] } })]) (gs := []) (rn := []) (l' := [(5, .v (.c (.ho 105)))]) (h' := [(105, .vc 3 (.num .i64) v2)]) (by kernel_rfl) ⟨(F_s_DrawVectorPlan_ok ev2), trivial⟩ ?_
    refine aw_seq ?_
    obtain ⟨v4, ev4, h⟩ := bind_some h
    refine aw_region ttOK (C := (ACall Try.prog 6 [.v (.c (.ls false (.num .i64) v2))] [] [] (.tu [.ag [.int .i64 v4.2.1, .ls false (.pr (.num .i64) (.num .i64)) v4.2.2.1, .ls false (.num .i64) v4.2.2.2], .c (.bool v4.1)]) []) ∧ True) (hs := [(1, { call := some { f := 6, casts := [.view], r := .tu [.ag [.int .i64 v4.2.1, .ls false (.pr (.num .i64) (.num .i64)) v4.2.2.1, .ls false (.num .i64) v4.2.2.2], .c (.bool v4.1)] }, frz := [105] }), (5, { id := 111 })]) (gs := []) (rn := []) (l' := [(5, .v (.c (.ho 105))), (6, .v (.c (.p 111 0))), (7, .v (.c (.bool v4.1)))]) (h' := [(105, .vz (.num .i64) v2), (111, .bx [.int .i64 v4.2.1, .ls false (.pr (.num .i64) (.num .i64)) v4.2.2.1, .ls false (.num .i64) v4.2.2.2])]) (by kernel_rfl) ⟨(F_i_VectorPlan_ok ev4), trivial⟩ ?_
    refine aw_seq ?_
    obtain ⟨v5, ev5, h⟩ := bind_some h
    refine aw_region ttOK (C := (ACall Try.prog 7 [.v (.c (.ls false (.num .i64) v2))] [] [] (.tu [.ag [.int .i64 v5.2.1, .ls false (.pr (.num .i64) (.num .i64)) v5.2.2.1, .ls false (.num .i64) v5.2.2.2], .c (.bool v5.1)]) []) ∧ True) (hs := [(1, { call := some { f := 7, casts := [.view], r := .tu [.ag [.int .i64 v5.2.1, .ls false (.pr (.num .i64) (.num .i64)) v5.2.2.1, .ls false (.num .i64) v5.2.2.2], .c (.bool v5.1)] } }), (5, { id := 118 })]) (gs := []) (rn := []) (l' := [(5, .v (.c (.ho 105))), (6, .v (.c (.p 111 0))), (7, .v (.c (.bool v4.1))), (8, .v (.c (.p 118 0))), (9, .v (.c (.bool v5.1)))]) (h' := [(105, .vz (.num .i64) v2), (111, .bx [.int .i64 v4.2.1, .ls false (.pr (.num .i64) (.num .i64)) v4.2.2.1, .ls false (.num .i64) v4.2.2.2]), (118, .bx [.int .i64 v5.2.1, .ls false (.pr (.num .i64) (.num .i64)) v5.2.2.1, .ls false (.num .i64) v5.2.2.2])]) (by kernel_rfl) ⟨(F_s_VectorPlan_ok ev5), trivial⟩ ?_
    refine aw_seq ?_
    refine aw_seq ?_
    obtain ⟨v6, ev6, h⟩ := bind_some h
    refine aw_region ttOK (C := (((!(v4.1 == v5.1)) == false) = true → ((!(v4.1 == v5.1)) == false) = true) ∧ (((!(v4.1 == v5.1)) == false) = true → ((!(v4.1 == v5.1)) == false) = true) ∧ (((!(v4.1 == v5.1)) == false) = true → ACall Try.prog 8 [.v (.ag [.int .i64 v4.2.1, .ls false (.pr (.num .i64) (.num .i64)) v4.2.2.1, .ls false (.num .i64) v4.2.2.2]), .v (.ag [.int .i64 v5.2.1, .ls false (.pr (.num .i64) (.num .i64)) v5.2.2.1, .ls false (.num .i64) v5.2.2.2])] [] [] (.v (.c (.bool v6))) []) ∧ (((!(v4.1 == v5.1)) == false) = true → ((!(v4.1 == v5.1)) == false) = true) ∧ ((!(v4.1 == v5.1)) = false → ((!(v4.1 == v5.1)) == false) = true) ∧ True) (hs := [(6, { call := some { f := 8, casts := [.same, .same], r := .v (.c (.bool v6)) } })]) (gs := []) (rn := []) (l' := [(5, .v (.c (.ho 105))), (6, .v (.c (.p 111 0))), (7, .v (.c (.bool v4.1))), (9, .v (.c (.bool v5.1))), (42, .v (.c (.bool (cond (!(v4.1 == v5.1)) true (!v6)))))]) (h' := [(105, .vz (.num .i64) v2), (111, .bx [.int .i64 v4.2.1, .ls false (.pr (.num .i64) (.num .i64)) v4.2.2.1, .ls false (.num .i64) v4.2.2.2])]) (by kernel_rfl) ⟨(fun h => h), (fun h => h), (fun hg => (F_l_pSamePlan_ok (gcl_some ev6 hg))), (fun h => h), (fun h => beq_iff_eq.2 h), trivial⟩ ?_
    refine aw_if (cond (!(v4.1 == v5.1)) true (!v6)) (by kernel_rfl) (fun hb => ?_) (fun hb => ?_)
    · rw [ite_t hb] at h
      refine aw_seq ?_
      refine aw_region ttOK (C := True) (hs := []) (gs := []) (rn := []) (l' := [(4, .v (.c (.bool false)))]) (h' := []) (by kernel_rfl) trivial ?_
      refine aw_ghost (gs := []) (rn := []) (l' := [(4, .v (.c (.bool false)))]) (h' := []) (by kernel_rfl) ?_
      refine aw_ret (ret_ok [] ?_)
      cases h
      kernel_rfl
    · rw [ite_f hb] at h
      refine aw_ghost (gs := []) (rn := []) (l' := [(5, .v (.c (.ho 105))), (6, .v (.c (.p 111 0))), (7, .v (.c (.bool v4.1))), (9, .v (.c (.bool v5.1)))]) (h' := [(105, .vz (.num .i64) v2), (111, .bx [.int .i64 v4.2.1, .ls false (.pr (.num .i64) (.num .i64)) v4.2.2.1, .ls false (.num .i64) v4.2.2.2])]) (by kernel_rfl) ?_
      refine aw_skip ?_
      refine aw_seq ?_
      obtain ⟨v7, ev7, h⟩ := bind_some h
      refine aw_region ttOK (C := (ACall Try.prog 9 [.v (.c (.ls false (.num .i64) v2))] [] [] (.tu [.ag [.int .i64 v7.2.1, .ls false (.pr (.num .i64) (.num .i64)) v7.2.2.1, .ls false (.num .i64) v7.2.2.2], .c (.bool v7.1)]) []) ∧ True) (hs := [(1, { call := some { f := 9, casts := [.view], r := .tu [.ag [.int .i64 v7.2.1, .ls false (.pr (.num .i64) (.num .i64)) v7.2.2.1, .ls false (.num .i64) v7.2.2.2], .c (.bool v7.1)] } }), (5, { id := 133 })]) (gs := []) (rn := []) (l' := [(5, .v (.c (.ho 105))), (6, .v (.c (.p 111 0))), (7, .v (.c (.bool v4.1))), (9, .v (.c (.bool v5.1))), (10, .v (.c (.p 133 0))), (11, .v (.c (.bool v7.1)))]) (h' := [(105, .vz (.num .i64) v2), (111, .bx [.int .i64 v4.2.1, .ls false (.pr (.num .i64) (.num .i64)) v4.2.2.1, .ls false (.num .i64) v4.2.2.2]), (133, .bx [.int .i64 v7.2.1, .ls false (.pr (.num .i64) (.num .i64)) v7.2.2.1, .ls false (.num .i64) v7.2.2.2])]) (by kernel_rfl) ⟨(F_i_SquaresPlan_ok ev7), trivial⟩ ?_
      refine aw_seq ?_
      obtain ⟨v8, ev8, h⟩ := bind_some h
      refine aw_region ttOK (C := (ACall Try.prog 10 [.v (.c (.ls false (.num .i64) v2))] [] [] (.tu [.c (.int .i64 v8.1), .c (.int .i64 v8.2.1), .c (.bool v8.2.2)]) []) ∧ True) (hs := [(1, { call := some { f := 10, casts := [.view], r := .tu [.c (.int .i64 v8.1), .c (.int .i64 v8.2.1), .c (.bool v8.2.2)] } })]) (gs := []) (rn := []) (l' := [(5, .v (.c (.ho 105))), (6, .v (.c (.p 111 0))), (7, .v (.c (.bool v4.1))), (9, .v (.c (.bool v5.1))), (10, .v (.c (.p 133 0))), (11, .v (.c (.bool v7.1))), (12, .v (.c (.int .i64 v8.1))), (13, .v (.c (.int .i64 v8.2.1))), (14, .v (.c (.bool v8.2.2)))]) (h' := [(105, .vz (.num .i64) v2), (111, .bx [.int .i64 v4.2.1, .ls false (.pr (.num .i64) (.num .i64)) v4.2.2.1, .ls false (.num .i64) v4.2.2.2]), (133, .bx [.int .i64 v7.2.1, .ls false (.pr (.num .i64) (.num .i64)) v7.2.2.1, .ls false (.num .i64) v7.2.2.2])]) (by kernel_rfl) ⟨(F_i_VectorCosts_ok ev8), trivial⟩ ?_
      refine aw_seq ?_
      obtain ⟨v9, ev9, h⟩ := bind_some h
      refine aw_region ttOK (C := (ACall Try.prog 11 [.v (.c (.ls false (.num .i64) v2))] [] [] (.tu [.ag [.int .i64 v9.2.1, .ls false (.pr (.num .i64) (.num .i64)) v9.2.2.1, .ls false (.num .i64) v9.2.2.2], .c (.bool v9.1)]) []) ∧ True) (hs := [(1, { call := some { f := 11, casts := [.view], r := .tu [.ag [.int .i64 v9.2.1, .ls false (.pr (.num .i64) (.num .i64)) v9.2.2.1, .ls false (.num .i64) v9.2.2.2], .c (.bool v9.1)] } }), (5, { id := 148 })]) (gs := []) (rn := []) (l' := [(5, .v (.c (.ho 105))), (6, .v (.c (.p 111 0))), (7, .v (.c (.bool v4.1))), (9, .v (.c (.bool v5.1))), (10, .v (.c (.p 133 0))), (11, .v (.c (.bool v7.1))), (12, .v (.c (.int .i64 v8.1))), (13, .v (.c (.int .i64 v8.2.1))), (14, .v (.c (.bool v8.2.2))), (15, .v (.c (.p 148 0))), (16, .v (.c (.bool v9.1)))]) (h' := [(105, .vz (.num .i64) v2), (111, .bx [.int .i64 v4.2.1, .ls false (.pr (.num .i64) (.num .i64)) v4.2.2.1, .ls false (.num .i64) v4.2.2.2]), (133, .bx [.int .i64 v7.2.1, .ls false (.pr (.num .i64) (.num .i64)) v7.2.2.1, .ls false (.num .i64) v7.2.2.2]), (148, .bx [.int .i64 v9.2.1, .ls false (.pr (.num .i64) (.num .i64)) v9.2.2.1, .ls false (.num .i64) v9.2.2.2])]) (by kernel_rfl) ⟨(F_i_TogetherPlan_ok ev9), trivial⟩ ?_
      refine aw_seq ?_
      refine aw_seq ?_
      refine aw_region ttOK (C := (v4.1 = true → (v4.1 == true) = true) ∧ True) (hs := []) (gs := []) (rn := []) (l' := [(5, .v (.c (.ho 105))), (6, .v (.c (.p 111 0))), (9, .v (.c (.bool v5.1))), (10, .v (.c (.p 133 0))), (11, .v (.c (.bool v7.1))), (12, .v (.c (.int .i64 v8.1))), (13, .v (.c (.int .i64 v8.2.1))), (14, .v (.c (.bool v8.2.2))), (15, .v (.c (.p 148 0))), (64, .v (.c (.bool (!(v8.2.2 == (cond v4.1 v9.1 false))))))]) (h' := [(105, .vz (.num .i64) v2), (111, .bx [.int .i64 v4.2.1, .ls false (.pr (.num .i64) (.num .i64)) v4.2.2.1, .ls false (.num .i64) v4.2.2.2]), (133, .bx [.int .i64 v7.2.1, .ls false (.pr (.num .i64) (.num .i64)) v7.2.2.1, .ls false (.num .i64) v7.2.2.2]), (148, .bx [.int .i64 v9.2.1, .ls false (.pr (.num .i64) (.num .i64)) v9.2.2.1, .ls false (.num .i64) v9.2.2.2])]) (by kernel_rfl) ⟨(fun h => beq_iff_eq.2 h), trivial⟩ ?_
      refine aw_if (!(v8.2.2 == (cond v4.1 v9.1 false))) (by kernel_rfl) (fun hb => ?_) (fun hb => ?_)
      · rw [ite_t hb] at h
        refine aw_seq ?_
        refine aw_region ttOK (C := True) (hs := []) (gs := []) (rn := []) (l' := [(4, .v (.c (.bool false)))]) (h' := []) (by kernel_rfl) trivial ?_
        refine aw_ghost (gs := []) (rn := []) (l' := [(4, .v (.c (.bool false)))]) (h' := []) (by kernel_rfl) ?_
        refine aw_ret (ret_ok [] ?_)
        cases h
        kernel_rfl
      · rw [ite_f hb] at h
        refine aw_ghost (gs := []) (rn := []) (l' := [(5, .v (.c (.ho 105))), (6, .v (.c (.p 111 0))), (9, .v (.c (.bool v5.1))), (10, .v (.c (.p 133 0))), (11, .v (.c (.bool v7.1))), (12, .v (.c (.int .i64 v8.1))), (13, .v (.c (.int .i64 v8.2.1))), (14, .v (.c (.bool v8.2.2))), (15, .v (.c (.p 148 0)))]) (h' := [(105, .vz (.num .i64) v2), (111, .bx [.int .i64 v4.2.1, .ls false (.pr (.num .i64) (.num .i64)) v4.2.2.1, .ls false (.num .i64) v4.2.2.2]), (133, .bx [.int .i64 v7.2.1, .ls false (.pr (.num .i64) (.num .i64)) v7.2.2.1, .ls false (.num .i64) v7.2.2.2]), (148, .bx [.int .i64 v9.2.1, .ls false (.pr (.num .i64) (.num .i64)) v9.2.2.1, .ls false (.num .i64) v9.2.2.2])]) (by kernel_rfl) ?_
        refine aw_skip ?_
        refine aw_seq ?_
        refine aw_seq ?_
        refine aw_region ttOK (C := True) (hs := []) (gs := []) (rn := []) (l' := [(5, .v (.c (.ho 105))), (6, .v (.c (.p 111 0))), (10, .v (.c (.p 133 0))), (11, .v (.c (.bool v7.1))), (12, .v (.c (.int .i64 v8.1))), (13, .v (.c (.int .i64 v8.2.1))), (14, .v (.c (.bool v8.2.2))), (15, .v (.c (.p 148 0))), (66, .v (.c (.bool (!v5.1))))]) (h' := [(105, .vz (.num .i64) v2), (111, .bx [.int .i64 v4.2.1, .ls false (.pr (.num .i64) (.num .i64)) v4.2.2.1, .ls false (.num .i64) v4.2.2.2]), (133, .bx [.int .i64 v7.2.1, .ls false (.pr (.num .i64) (.num .i64)) v7.2.2.1, .ls false (.num .i64) v7.2.2.2]), (148, .bx [.int .i64 v9.2.1, .ls false (.pr (.num .i64) (.num .i64)) v9.2.2.1, .ls false (.num .i64) v9.2.2.2])]) (by kernel_rfl) trivial ?_
        refine aw_if (!v5.1) (by kernel_rfl) (fun hb => ?_) (fun hb => ?_)
        · rw [ite_t hb] at h
          refine aw_seq ?_
          refine aw_region ttOK (C := True) (hs := []) (gs := []) (rn := []) (l' := [(4, .v (.c (.bool true)))]) (h' := []) (by kernel_rfl) trivial ?_
          refine aw_ghost (gs := []) (rn := []) (l' := [(4, .v (.c (.bool true)))]) (h' := []) (by kernel_rfl) ?_
          refine aw_ret (ret_ok [] ?_)
          cases h
          kernel_rfl
        · rw [ite_f hb] at h
          refine aw_ghost (gs := []) (rn := []) (l' := [(5, .v (.c (.ho 105))), (6, .v (.c (.p 111 0))), (10, .v (.c (.p 133 0))), (11, .v (.c (.bool v7.1))), (12, .v (.c (.int .i64 v8.1))), (13, .v (.c (.int .i64 v8.2.1))), (14, .v (.c (.bool v8.2.2))), (15, .v (.c (.p 148 0)))]) (h' := [(105, .vz (.num .i64) v2), (111, .bx [.int .i64 v4.2.1, .ls false (.pr (.num .i64) (.num .i64)) v4.2.2.1, .ls false (.num .i64) v4.2.2.2]), (133, .bx [.int .i64 v7.2.1, .ls false (.pr (.num .i64) (.num .i64)) v7.2.2.1, .ls false (.num .i64) v7.2.2.2]), (148, .bx [.int .i64 v9.2.1, .ls false (.pr (.num .i64) (.num .i64)) v9.2.2.1, .ls false (.num .i64) v9.2.2.2])]) (by kernel_rfl) ?_
          refine aw_skip ?_
          refine aw_seq ?_
          obtain ⟨v10, ev10, h⟩ := bind_some h
          refine aw_region ttOK (C := (ACall Try.prog 12 [.v (.ag [.int .i64 v4.2.1, .ls false (.pr (.num .i64) (.num .i64)) v4.2.2.1, .ls false (.num .i64) v4.2.2.2])] [] [] (.tu [.c (.ho 0), .c (.bool v10.1)]) [.vc 24 (.sl (.num .i64)) v10.2]) ∧ True) (hs := [(1, { call := some { f := 12, casts := [.same], r := .tu [.c (.ho 0), .c (.bool v10.1)], Hout := [.vc 24 (.sl (.num .i64)) v10.2], ren := [161] } })]) (gs := []) (rn := []) (l' := [(5, .v (.c (.ho 105))), (6, .v (.c (.p 111 0))), (10, .v (.c (.p 133 0))), (11, .v (.c (.bool v7.1))), (12, .v (.c (.int .i64 v8.1))), (13, .v (.c (.int .i64 v8.2.1))), (14, .v (.c (.bool v8.2.2))), (15, .v (.c (.p 148 0))), (17, .v (.c (.ho 161))), (18, .v (.c (.bool v10.1)))]) (h' := [(105, .vz (.num .i64) v2), (111, .bx [.int .i64 v4.2.1, .ls false (.pr (.num .i64) (.num .i64)) v4.2.2.1, .ls false (.num .i64) v4.2.2.2]), (133, .bx [.int .i64 v7.2.1, .ls false (.pr (.num .i64) (.num .i64)) v7.2.2.1, .ls false (.num .i64) v7.2.2.2]), (148, .bx [.int .i64 v9.2.1, .ls false (.pr (.num .i64) (.num .i64)) v9.2.2.1, .ls false (.num .i64) v9.2.2.2]), (161, .vc 24 (.sl (.num .i64)) v10.2)]) (by kernel_rfl) ⟨(F_i_OutputExponents_ok ev10), trivial⟩ ?_
          refine aw_seq ?_
          refine aw_seq ?_
          obtain ⟨c0, h⟩ := chk_some h
          obtain ⟨v11, ev11, h⟩ := bind_some h
          refine aw_region ttOK (C := (((!v7.1) == false) = true → ((!v7.1) == false) = true) ∧ ((!v7.1) = false → ((!v7.1) == false) = true) ∧ (((cond (!v7.1) true (!v10.1)) == false) = true → ((cond (!v7.1) true (!v10.1)) == false) = true) ∧ (((cond (!v7.1) true (!v10.1)) == false) = true → ((cond (!v7.1) true (!v10.1)) == false) = true) ∧ ((cond (!v7.1) true (!v10.1)) = false → ((cond (!v7.1) true (!v10.1)) == false) = true) ∧ (((cond (cond (!v7.1) true (!v10.1)) true ((List.length v10.2 : Int) != (1 : Int))) == false) = true → ((cond (cond (!v7.1) true (!v10.1)) true ((List.length v10.2 : Int) != (1 : Int))) == false) = true) ∧ (((cond (cond (!v7.1) true (!v10.1)) true ((List.length v10.2 : Int) != (1 : Int))) == false) = true → 0 ≤ (0 : Int) ∧ (0 : Int) < (List.length v10.2 : Int)) ∧ (((cond (cond (!v7.1) true (!v10.1)) true ((List.length v10.2 : Int) != (1 : Int))) == false) = true → ((cond (cond (!v7.1) true (!v10.1)) true ((List.length v10.2 : Int) != (1 : Int))) == false) = true) ∧ (((cond (cond (!v7.1) true (!v10.1)) true ((List.length v10.2 : Int) != (1 : Int))) == false) = true → ((cond (cond (!v7.1) true (!v10.1)) true ((List.length v10.2 : Int) != (1 : Int))) == false) = true) ∧ (((cond (cond (!v7.1) true (!v10.1)) true ((List.length v10.2 : Int) != (1 : Int))) == false) = true → ((cond (cond (!v7.1) true (!v10.1)) true ((List.length v10.2 : Int) != (1 : Int))) == false) = true) ∧ (((cond (cond (!v7.1) true (!v10.1)) true ((List.length v10.2 : Int) != (1 : Int))) == false) = true → ACall Try.prog 13 [.v (.c (.ls false (.num .i64) (List.getD v10.2 ((0 : Int)).toNat ([] : List Int)))), .v (.c (.ls false (.num .i64) v2))] [] [] (.v (.c (.bool v11))) []) ∧ (((cond (cond (!v7.1) true (!v10.1)) true ((List.length v10.2 : Int) != (1 : Int))) == false) = true → ((cond (cond (!v7.1) true (!v10.1)) true ((List.length v10.2 : Int) != (1 : Int))) == false) = true) ∧ ((cond (cond (!v7.1) true (!v10.1)) true ((List.length v10.2 : Int) != (1 : Int))) = false → ((cond (cond (!v7.1) true (!v10.1)) true ((List.length v10.2 : Int) != (1 : Int))) == false) = true) ∧ (((cond (cond (cond (!v7.1) true (!v10.1)) true ((List.length v10.2 : Int) != (1 : Int))) true (!v11)) == false) = true → ((cond (cond (cond (!v7.1) true (!v10.1)) true ((List.length v10.2 : Int) != (1 : Int))) true (!v11)) == false) = true) ∧ (((cond (cond (cond (!v7.1) true (!v10.1)) true ((List.length v10.2 : Int) != (1 : Int))) true (!v11)) == false) = true → ((cond (cond (cond (!v7.1) true (!v10.1)) true ((List.length v10.2 : Int) != (1 : Int))) true (!v11)) == false) = true) ∧ (((cond (cond (cond (!v7.1) true (!v10.1)) true ((List.length v10.2 : Int) != (1 : Int))) true (!v11)) == false) = true → ((cond (cond (cond (!v7.1) true (!v10.1)) true ((List.length v10.2 : Int) != (1 : Int))) true (!v11)) == false) = true) ∧ (((cond (cond (cond (!v7.1) true (!v10.1)) true ((List.length v10.2 : Int) != (1 : Int))) true (!v11)) == false) = true → ((cond (cond (cond (!v7.1) true (!v10.1)) true ((List.length v10.2 : Int) != (1 : Int))) true (!v11)) == false) = true) ∧ (((cond (cond (cond (!v7.1) true (!v10.1)) true ((List.length v10.2 : Int) != (1 : Int))) true (!v11)) == false) = true → ((cond (cond (cond (!v7.1) true (!v10.1)) true ((List.length v10.2 : Int) != (1 : Int))) true (!v11)) == false) = true) ∧ (((cond (cond (cond (!v7.1) true (!v10.1)) true ((List.length v10.2 : Int) != (1 : Int))) true (!v11)) == false) = true → ((cond (cond (cond (!v7.1) true (!v10.1)) true ((List.length v10.2 : Int) != (1 : Int))) true (!v11)) == false) = true) ∧ (((cond (cond (cond (!v7.1) true (!v10.1)) true ((List.length v10.2 : Int) != (1 : Int))) true (!v11)) == false) = true → ((cond (cond (cond (!v7.1) true (!v10.1)) true ((List.length v10.2 : Int) != (1 : Int))) true (!v11)) == false) = true) ∧ (((cond (cond (cond (!v7.1) true (!v10.1)) true ((List.length v10.2 : Int) != (1 : Int))) true (!v11)) == false) = true → ((cond (cond (cond (!v7.1) true (!v10.1)) true ((List.length v10.2 : Int) != (1 : Int))) true (!v11)) == false) = true) ∧ (((cond (cond (cond (!v7.1) true (!v10.1)) true ((List.length v10.2 : Int) != (1 : Int))) true (!v11)) == false) = true → ((cond (cond (cond (!v7.1) true (!v10.1)) true ((List.length v10.2 : Int) != (1 : Int))) true (!v11)) == false) = true) ∧ (((cond (cond (cond (!v7.1) true (!v10.1)) true ((List.length v10.2 : Int) != (1 : Int))) true (!v11)) == false) = true → ((cond (cond (cond (!v7.1) true (!v10.1)) true ((List.length v10.2 : Int) != (1 : Int))) true (!v11)) == false) = true) ∧ ((cond (cond (cond (!v7.1) true (!v10.1)) true ((List.length v10.2 : Int) != (1 : Int))) true (!v11)) = false → ((cond (cond (cond (!v7.1) true (!v10.1)) true ((List.length v10.2 : Int) != (1 : Int))) true (!v11)) == false) = true) ∧ True) (hs := [(16, { call := some { f := 13, casts := [.same, .view], r := .v (.c (.bool v11)) } })]) (gs := []) (rn := []) (l' := [(6, .v (.c (.p 111 0))), (12, .v (.c (.int .i64 v8.1))), (13, .v (.c (.int .i64 v8.2.1))), (14, .v (.c (.bool v8.2.2))), (15, .v (.c (.p 148 0))), (103, .v (.c (.bool (cond (cond (cond (cond (!v7.1) true (!v10.1)) true ((List.length v10.2 : Int) != (1 : Int))) true (!v11)) true ((List.length v4.2.2.1 : Int) != (IntKind.i64.wrap ((IntKind.i64.wrap ((List.length v7.2.2.1 : Int) + (List.length v2 : Int))) - (1 : Int))))))))]) (h' := [(111, .bx [.int .i64 v4.2.1, .ls false (.pr (.num .i64) (.num .i64)) v4.2.2.1, .ls false (.num .i64) v4.2.2.2]), (148, .bx [.int .i64 v9.2.1, .ls false (.pr (.num .i64) (.num .i64)) v9.2.2.1, .ls false (.num .i64) v9.2.2.2])]) (by kernel_rfl) ⟨(fun h => h), (fun h => beq_iff_eq.2 h), (fun h => h), (fun h => h), (fun h => beq_iff_eq.2 h), (fun h => h), c0, (fun h => h), (fun h => h), (fun h => h), (fun hg => (F_l_pSameInts_ok (gcl_some ev11 hg))), (fun h => h), (fun h => beq_iff_eq.2 h), (fun h => h), (fun h => h), (fun h => h), (fun h => h), (fun h => h), (fun h => h), (fun h => h), (fun h => h), (fun h => h), (fun h => h), (fun h => beq_iff_eq.2 h), trivial⟩ ?_
          refine aw_if (cond (cond (cond (cond (!v7.1) true (!v10.1)) true ((List.length v10.2 : Int) != (1 : Int))) true (!v11)) true ((List.length v4.2.2.1 : Int) != (IntKind.i64.wrap ((IntKind.i64.wrap ((List.length v7.2.2.1 : Int) + (List.length v2 : Int))) - (1 : Int))))) (by kernel_rfl) (fun hb => ?_) (fun hb => ?_)
          · rw [ite_t hb] at h
            refine aw_seq ?_
            refine aw_region ttOK (C := True) (hs := []) (gs := []) (rn := []) (l' := [(4, .v (.c (.bool false)))]) (h' := []) (by kernel_rfl) trivial ?_
            refine aw_ghost (gs := []) (rn := []) (l' := [(4, .v (.c (.bool false)))]) (h' := []) (by kernel_rfl) ?_
            refine aw_ret (ret_ok [] ?_)
            cases h
            kernel_rfl
          · rw [ite_f hb] at h
            refine aw_ghost (gs := []) (rn := []) (l' := [(6, .v (.c (.p 111 0))), (12, .v (.c (.int .i64 v8.1))), (13, .v (.c (.int .i64 v8.2.1))), (14, .v (.c (.bool v8.2.2))), (15, .v (.c (.p 148 0)))]) (h' := [(111, .bx [.int .i64 v4.2.1, .ls false (.pr (.num .i64) (.num .i64)) v4.2.2.1, .ls false (.num .i64) v4.2.2.2]), (148, .bx [.int .i64 v9.2.1, .ls false (.pr (.num .i64) (.num .i64)) v9.2.2.1, .ls false (.num .i64) v9.2.2.2])]) (by kernel_rfl) ?_
            refine aw_skip ?_
            refine aw_seq ?_
            obtain ⟨c0, h⟩ := chk_some h
            refine aw_region ttOK (C := (((!v8.2.2) == false) = true → ((!v8.2.2) == false) = true) ∧ (((!v8.2.2) == false) = true → ((!v8.2.2) == false) = true) ∧ (((!v8.2.2) == false) = true → ((!v8.2.2) == false) = true) ∧ (((!v8.2.2) == false) = true → ((!v8.2.2) == false) = true) ∧ (((!v8.2.2) == false) = true → ((!v8.2.2) == false) = true) ∧ ((((!v8.2.2) == false) && ((v8.1 == (List.length v9.2.2.1 : Int)) == true)) = true → (((!v8.2.2) == false) && ((v8.1 == (List.length v9.2.2.1 : Int)) == true)) = true) ∧ ((((!v8.2.2) == false) && ((v8.1 == (List.length v9.2.2.1 : Int)) == true)) = true → (((!v8.2.2) == false) && ((v8.1 == (List.length v9.2.2.1 : Int)) == true)) = true) ∧ ((((!v8.2.2) == false) && ((v8.1 == (List.length v9.2.2.1 : Int)) == true)) = true → (((!v8.2.2) == false) && ((v8.1 == (List.length v9.2.2.1 : Int)) == true)) = true) ∧ ((((!v8.2.2) == false) && ((v8.1 == (List.length v9.2.2.1 : Int)) == true)) = true → (((!v8.2.2) == false) && ((v8.1 == (List.length v9.2.2.1 : Int)) == true)) = true) ∧ (((!v8.2.2) == false) = true → ((!v8.2.2) == false) = true) ∧ (((!v8.2.2) == false) = true → (v8.1 == (List.length v9.2.2.1 : Int)) = true → (((!v8.2.2) == false) && ((v8.1 == (List.length v9.2.2.1 : Int)) == true)) = true) ∧ ((!v8.2.2) = false → ((!v8.2.2) == false) = true) ∧ True) (hs := []) (gs := []) (rn := []) (l' := [(4, .v (.c (.bool (cond (!v8.2.2) true (cond (v8.1 == (List.length v9.2.2.1 : Int)) (v8.2.1 == (List.length v4.2.2.1 : Int)) false)))))]) (h' := []) (by kernel_rfl) ⟨(fun h => h), (fun h => h), (fun h => h), (fun h => h), (fun h => h), (fun h => h), (fun h => h), (fun h => h), (fun h => h), (fun h => h), c0, (fun h => beq_iff_eq.2 h), trivial⟩ ?_
            refine aw_ghost (gs := []) (rn := []) (l' := [(4, .v (.c (.bool (cond (!v8.2.2) true (cond (v8.1 == (List.length v9.2.2.1 : Int)) (v8.2.1 == (List.length v4.2.2.1 : Int)) false)))))]) (h' := []) (by kernel_rfl) ?_
            refine aw_ret (ret_ok [] ?_)
            cases h
            kernel_rfl

end Go.Proofs.Ytiplmapndahmmaa
