/- That the functions compute so: printed by a program of ours (gen.py). -/
import Derived.Test.YticeepbgbefmaaaGD
import Derived.Test.YticeepbgbefmaaaGT
import Derived.Test.YticeepbgbefmaaaGW0
namespace Go.Proofs.Yticeepbgbefmaaa
open Al
set_option linter.unusedVariables false
set_option linter.constructorNameAsVariable false
theorem F_s_plExponents_ok {fu : Nat} {a0 : Int} {a1 : List (Int × Int)} {a2 : List Int} {r : List (List Int)} (h : F_s_plExponents fu a0 a1 a2 = some r) :
    ACall Try.prog 56 [.v (.ag [.int .i64 a0, .ls false (.pr (.num .i64) (.num .i64)) a1, .ls false (.num .i64) a2])] [] [] (.v (.c (.ho 0))) [.vc 24 (.sl (.num .i64)) r] := by
  unfold F_s_plExponents at h
  refine acall_of_aw ttOK Try.func56 (by kernel_rfl) (c := _) rfl (N := 47) (by kernel_rfl) (Nat.le_of_ble_eq_true rfl) ?_
  refine aw_seq ?_
  refine aw_region ttOK (C := True) (hs := [(0, { id := 100 })]) (gs := []) (rn := []) (l' := [(1, .v (.c (.p 100 0)))]) (h' := [(100, .bx [.int .i64 a0, .ls false (.pr (.num .i64) (.num .i64)) a1, .ls false (.num .i64) a2])]) (by kernel_rfl) trivial ?_
  refine aw_seq ?_
  refine aw_region ttOK (C := True) (hs := []) (gs := []) (rn := []) (l' := [(1, .v (.c (.p 100 0))), (3, .v (.c (.nl)))]) (h' := [(100, .bx [.int .i64 a0, .ls false (.pr (.num .i64) (.num .i64)) a1, .ls false (.num .i64) a2])]) (by kernel_rfl) trivial ?_
  refine aw_join (X := List (List Int)) (fun x => ([(1, .v (.c (.p 100 0))), (3, .v (.c (.ho 950)))], [(100, .bx [.int .i64 a0, .ls false (.pr (.num .i64) (.num .i64)) a1, .ls false (.num .i64) a2]), (950, .vc 24 (.sl (.num .i64)) x)])) (fun x => F_s_plExponentsJ1 fu a1 x = some r) ?_ ?_
  · rintro v1 h
    unfold F_s_plExponentsJ1 at h
    refine aw_join (X := List (List Int)) (fun x => ([(3, .v (.c (.ho 950)))], [(950, .vc 24 (.sl (.num .i64)) x)])) (fun x => F_s_plExponentsJ2 fu x = some r) ?_ ?_
    · rintro v2 h
      unfold F_s_plExponentsJ2 at h
      refine aw_seq ?_
      refine aw_region ttOK (C := True) (hs := []) (gs := []) (rn := []) (l' := [(2, .v (.c (.ho 950)))]) (h' := [(950, .vc 24 (.sl (.num .i64)) v2)]) (by kernel_rfl) trivial ?_
      refine aw_ghost (gs := []) (rn := []) (l' := [(2, .v (.c (.ho 950)))]) (h' := [(950, .vc 24 (.sl (.num .i64)) v2)]) (by kernel_rfl) ?_
      refine aw_ret (ret_ok [950] ?_)
      cases h
      kernel_rfl
    · refine aw_seq ?_
      refine aw_region ttOK (C := True) (hs := []) (gs := []) (rn := []) (l' := [(3, .v (.c (.ho 950))), (25, .v (.c (.ls false (.pr (.num .i64) (.num .i64)) a1))), (26, .v (.c (.int .i64 (List.length a1 : Int)))), (27, .v (.c (.int .i64 (0 : Int))))]) (h' := [(950, .vc 24 (.sl (.num .i64)) v1)]) (by kernel_rfl) trivial ?_
      refine aw_block ?_
      refine aw_loopF (X := Int × List (List Int)) (fun x => ([(3, .v (.c (.ho 950))), (25, .v (.c (.ls false (.pr (.num .i64) (.num .i64)) a1))), (26, .v (.c (.int .i64 (List.length a1 : Int)))), (27, .v (.c (.int .i64 x.1)))], [(950, .vc 24 (.sl (.num .i64)) x.2)])) (fun n x => F_s_plExponentsL3 fu a1 n x.1 x.2 = some r) fu ((0 : Int), v1) h ?_
      rintro n3 ⟨v4, v5⟩ h
      cases n3 with
      | zero => first | cases h | (rw [F_s_plExponentsL3] at h; cases h)
      | succ n3 =>
        rw [F_s_plExponentsL3] at h
        refine aw_seq ?_
        refine aw_region ttOK (C := True) (hs := []) (gs := []) (rn := []) (l' := [(3, .v (.c (.ho 950))), (25, .v (.c (.ls false (.pr (.num .i64) (.num .i64)) a1))), (26, .v (.c (.int .i64 (List.length a1 : Int)))), (27, .v (.c (.int .i64 v4))), (28, .v (.c (.bool (decide (v4 < (List.length a1 : Int))))))]) (h' := [(950, .vc 24 (.sl (.num .i64)) v5)]) (by kernel_rfl) trivial ?_
        refine aw_seq ?_
        refine aw_if (decide (v4 < (List.length a1 : Int))) (by kernel_rfl) (fun hb => ?_) (fun hb => ?_)
        · rw [ite_t hb] at h
          refine aw_ghost (gs := []) (rn := []) (l' := [(3, .v (.c (.ho 950))), (25, .v (.c (.ls false (.pr (.num .i64) (.num .i64)) a1))), (26, .v (.c (.int .i64 (List.length a1 : Int)))), (27, .v (.c (.int .i64 v4)))]) (h' := [(950, .vc 24 (.sl (.num .i64)) v5)]) (by kernel_rfl) ?_
          refine aw_skip ?_
          refine aw_seq ?_
          refine aw_block ?_
          refine aw_seq ?_
          obtain ⟨c0, h⟩ := chk_some h
          refine aw_region ttOK (C := (0 ≤ v4 ∧ v4 < (List.length a1 : Int)) ∧ True) (hs := [(2, { id := 131 })]) (gs := []) (rn := []) (l' := [(3, .v (.c (.ho 950))), (7, .v (.c (.p 131 0))), (25, .v (.c (.ls false (.pr (.num .i64) (.num .i64)) a1))), (26, .v (.c (.int .i64 (List.length a1 : Int)))), (27, .v (.c (.int .i64 v4)))]) (h' := [(131, .bx [.int .i64 (List.getD a1 (v4).toNat ((0 : Int), (0 : Int))).1, .int .i64 (List.getD a1 (v4).toNat ((0 : Int), (0 : Int))).2]), (950, .vc 24 (.sl (.num .i64)) v5)]) (by kernel_rfl) ⟨c0, trivial⟩ ?_
          obtain ⟨⟨c0, c1⟩, h⟩ := chk_some h
          obtain ⟨v6, ev6, h⟩ := bind_some h
          obtain ⟨c2, h⟩ := chk_some h
          refine aw_draw ttOK ttMix (C := (0 ≤ (List.getD a1 (v4).toNat ((0 : Int), (0 : Int))).1 ∧ (List.getD a1 (v4).toNat ((0 : Int), (0 : Int))).1 < (List.length v5 : Int)) ∧ (0 ≤ (List.getD a1 (v4).toNat ((0 : Int), (0 : Int))).2 ∧ (List.getD a1 (v4).toNat ((0 : Int), (0 : Int))).2 < (List.length v5 : Int)) ∧ (ACall Try.prog 59 [.v (.c (.ls false (.num .i64) (List.getD v5 ((List.getD a1 (v4).toNat ((0 : Int), (0 : Int))).1).toNat ([] : List Int)))), .v (.c (.ls false (.num .i64) (List.getD v5 ((List.getD a1 (v4).toNat ((0 : Int), (0 : Int))).2).toNat ([] : List Int))))] [] [] (.v (.c (.ho 0))) [.vc 3 (.num .i64) v6]) ∧ ((List.length v5 + List.length ([v6] : List (List Int))) * 24 ≤ 140737488355328) ∧ True) (hs := [(11, { call := some { f := 59, casts := [.same, .same], r := .v (.c (.ho 0)), Hout := [.vc 3 (.num .i64) v6], ren := [144] } }), (12, { id := 145, frz := [144] }), (13, { id := 146 })]) (anc := [(3, [2]), (4, [1, 2, 3]), (5, [1, 2, 3, 4]), (8, [7]), (9, [6, 7, 8]), (10, [6, 7, 8, 9]), (11, [1, 2, 3, 4, 5, 6, 7, 8, 9, 10]), (12, [1, 2, 3, 4, 5, 6, 7, 8, 9, 10, 11]), (13, [0, 1, 2, 3, 4, 5, 6, 7, 8, 9, 10, 11, 12]), (14, [0, 1, 2, 3, 4, 5, 6, 7, 8, 9, 10, 11, 12, 13])]) (tch := [(11, [144]), (12, [144, 145]), (13, [146, 950])]) (gs := []) (rn := []) (l' := [(3, .v (.c (.ho 146))), (25, .v (.c (.ls false (.pr (.num .i64) (.num .i64)) a1))), (26, .v (.c (.int .i64 (List.length a1 : Int)))), (27, .v (.c (.int .i64 v4)))]) (h' := [(146, .vc 24 (.sl (.num .i64)) (v5 ++ ([v6] : List (List Int))))]) (by kernel_rfl) ⟨c0, c1, (F_s_plSum_ok ev6), c2, trivial⟩ ?_
          refine aw_region ttOK (C := True) (hs := []) (gs := []) (rn := [(146, 950)]) (l' := [(3, .v (.c (.ho 950))), (25, .v (.c (.ls false (.pr (.num .i64) (.num .i64)) a1))), (26, .v (.c (.int .i64 (List.length a1 : Int)))), (27, .v (.c (.int .i64 (IntKind.i64.wrap (v4 + (1 : Int))))))]) (h' := [(950, .vc 24 (.sl (.num .i64)) (v5 ++ ([v6] : List (List Int))))]) (by kernel_rfl) trivial ?_
          exact ⟨_, ((IntKind.i64.wrap (v4 + (1 : Int))), (v5 ++ ([v6] : List (List Int)))), Nat.lt_succ_self _, h, rfl, rfl⟩
        · rw [ite_f hb] at h
          refine aw_ghost (gs := []) (rn := []) (l' := [(3, .v (.c (.ho 950)))]) (h' := [(950, .vc 24 (.sl (.num .i64)) v5)]) (by kernel_rfl) ?_
          refine aw_exit ?_
          exact ⟨v5, h, rfl, rfl⟩
  · refine aw_seq ?_
    refine aw_region ttOK (C := True) (hs := []) (gs := []) (rn := []) (l' := [(1, .v (.c (.p 100 0))), (3, .v (.c (.nl))), (4, .v (.c (.int .i64 (0 : Int))))]) (h' := [(100, .bx [.int .i64 a0, .ls false (.pr (.num .i64) (.num .i64)) a1, .ls false (.num .i64) a2])]) (by kernel_rfl) trivial ?_
    refine aw_block ?_
    refine aw_ghost (gs := [.own 3 950 24 (.sl (.num .i64))]) (rn := []) (l' := [(1, .v (.c (.p 100 0))), (3, .v (.c (.ho 950))), (4, .v (.c (.int .i64 (0 : Int))))]) (h' := [(100, .bx [.int .i64 a0, .ls false (.pr (.num .i64) (.num .i64)) a1, .ls false (.num .i64) a2]), (950, .vc 24 (.sl (.num .i64)) ([] : List (List Int)))]) (by kernel_rfl) ?_
    refine aw_loopF (X := Int × List (List Int)) (fun x => ([(1, .v (.c (.p 100 0))), (3, .v (.c (.ho 950))), (4, .v (.c (.int .i64 x.1)))], [(100, .bx [.int .i64 a0, .ls false (.pr (.num .i64) (.num .i64)) a1, .ls false (.num .i64) a2]), (950, .vc 24 (.sl (.num .i64)) x.2)])) (fun n x => F_s_plExponentsL4 fu a0 a1 n x.1 x.2 = some r) fu ((0 : Int), ([] : List (List Int))) h ?_
    rintro n4 ⟨v3, v4⟩ h
    cases n4 with
    | zero => first | cases h | (rw [F_s_plExponentsL4] at h; cases h)
    | succ n4 =>
      rw [F_s_plExponentsL4] at h
      refine aw_seq ?_
      refine aw_seq ?_
      refine aw_region ttOK (C := True) (hs := []) (gs := []) (rn := []) (l' := [(1, .v (.c (.p 100 0))), (3, .v (.c (.ho 950))), (4, .v (.c (.int .i64 v3))), (11, .v (.c (.bool (decide (v3 < a0)))))]) (h' := [(100, .bx [.int .i64 a0, .ls false (.pr (.num .i64) (.num .i64)) a1, .ls false (.num .i64) a2]), (950, .vc 24 (.sl (.num .i64)) v4)]) (by kernel_rfl) trivial ?_
      refine aw_if (decide (v3 < a0)) (by kernel_rfl) (fun hb => ?_) (fun hb => ?_)
      · rw [ite_t hb] at h
        refine aw_ghost (gs := []) (rn := []) (l' := [(1, .v (.c (.p 100 0))), (3, .v (.c (.ho 950))), (4, .v (.c (.int .i64 v3)))]) (h' := [(100, .bx [.int .i64 a0, .ls false (.pr (.num .i64) (.num .i64)) a1, .ls false (.num .i64) a2]), (950, .vc 24 (.sl (.num .i64)) v4)]) (by kernel_rfl) ?_
        refine aw_skip ?_
        refine aw_seq ?_
        refine aw_block ?_
        refine aw_seq ?_
        obtain ⟨c0, h⟩ := chk_some h
        refine aw_region ttOK (C := (0 ≤ a0 ∧ a0 ≤ a0 ∧ a0 * (8 : Nat) ≤ 140737488355328) ∧ True) (hs := [(2, { id := 110 })]) (gs := []) (rn := []) (l' := [(1, .v (.c (.p 100 0))), (3, .v (.c (.ho 950))), (4, .v (.c (.int .i64 v3))), (5, .v (.c (.ho 110)))]) (h' := [(100, .bx [.int .i64 a0, .ls false (.pr (.num .i64) (.num .i64)) a1, .ls false (.num .i64) a2]), (110, .vc 3 (.num .i64) (List.replicate (a0).toNat (0 : Int))), (950, .vc 24 (.sl (.num .i64)) v4)]) (by kernel_rfl) ⟨c0, trivial⟩ ?_
        refine aw_seq ?_
        obtain ⟨c0, h⟩ := chk_some h
        refine aw_region ttOK (C := (0 ≤ v3 ∧ v3 < (List.length (List.replicate (a0).toNat (0 : Int)) : Int)) ∧ True) (hs := []) (gs := []) (rn := []) (l' := [(1, .v (.c (.p 100 0))), (3, .v (.c (.ho 950))), (4, .v (.c (.int .i64 v3))), (5, .v (.c (.ho 110)))]) (h' := [(100, .bx [.int .i64 a0, .ls false (.pr (.num .i64) (.num .i64)) a1, .ls false (.num .i64) a2]), (110, .vc 3 (.num .i64) (List.set (List.replicate (a0).toNat (0 : Int)) (v3).toNat (1 : Int))), (950, .vc 24 (.sl (.num .i64)) v4)]) (by kernel_rfl) ⟨c0, trivial⟩ ?_
        obtain ⟨c0, h⟩ := chk_some h
        refine aw_region ttOK (C := ((List.length v4 + List.length ([(List.set (List.replicate (a0).toNat (0 : Int)) (v3).toNat (1 : Int))] : List (List Int))) * 24 ≤ 140737488355328) ∧ True) (hs := [(2, { id := 118, frz := [110] }), (3, { id := 119 })]) (gs := []) (rn := []) (l' := [(1, .v (.c (.p 100 0))), (3, .v (.c (.ho 119))), (4, .v (.c (.int .i64 v3)))]) (h' := [(100, .bx [.int .i64 a0, .ls false (.pr (.num .i64) (.num .i64)) a1, .ls false (.num .i64) a2]), (119, .vc 24 (.sl (.num .i64)) (v4 ++ ([(List.set (List.replicate (a0).toNat (0 : Int)) (v3).toNat (1 : Int))] : List (List Int))))]) (by kernel_rfl) ⟨c0, trivial⟩ ?_
        refine aw_region ttOK (C := True) (hs := []) (gs := []) (rn := [(119, 950)]) (l' := [(1, .v (.c (.p 100 0))), (3, .v (.c (.ho 950))), (4, .v (.c (.int .i64 (IntKind.i64.wrap (v3 + (1 : Int))))))]) (h' := [(100, .bx [.int .i64 a0, .ls false (.pr (.num .i64) (.num .i64)) a1, .ls false (.num .i64) a2]), (950, .vc 24 (.sl (.num .i64)) (v4 ++ ([(List.set (List.replicate (a0).toNat (0 : Int)) (v3).toNat (1 : Int))] : List (List Int))))]) (by kernel_rfl) trivial ?_
        exact ⟨_, ((IntKind.i64.wrap (v3 + (1 : Int))), (v4 ++ ([(List.set (List.replicate (a0).toNat (0 : Int)) (v3).toNat (1 : Int))] : List (List Int)))), Nat.lt_succ_self _, h, rfl, rfl⟩
      · rw [ite_f hb] at h
        refine aw_ghost (gs := []) (rn := []) (l' := [(1, .v (.c (.p 100 0))), (3, .v (.c (.ho 950)))]) (h' := [(100, .bx [.int .i64 a0, .ls false (.pr (.num .i64) (.num .i64)) a1, .ls false (.num .i64) a2]), (950, .vc 24 (.sl (.num .i64)) v4)]) (by kernel_rfl) ?_
        refine aw_exit ?_
        exact ⟨v4, h, rfl, rfl⟩

theorem F_s_plGood_ok {fu : Nat} {a0 : Int} {a1 : List (Int × Int)} {a2 : List Int} {r : Bool} (h : F_s_plGood fu a0 a1 a2 = some r) :
    ACall Try.prog 45 [.v (.ag [.int .i64 a0, .ls false (.pr (.num .i64) (.num .i64)) a1, .ls false (.num .i64) a2])] [] [] (.v (.c (.bool r))) [] := by
  unfold F_s_plGood at h
  refine acall_of_aw ttOK Try.func45 (by kernel_rfl) (c := _) rfl (N := 68) (by kernel_rfl) (Nat.le_of_ble_eq_true rfl) ?_
  refine aw_seq ?_
  refine aw_region ttOK (C := True) (hs := [(0, { id := 100 })]) (gs := []) (rn := []) (l' := [(1, .v (.c (.p 100 0)))]) (h' := [(100, .bx [.int .i64 a0, .ls false (.pr (.num .i64) (.num .i64)) a1, .ls false (.num .i64) a2])]) (by kernel_rfl) trivial ?_
  refine aw_seq ?_
  refine aw_seq ?_
  obtain ⟨v1, ev1, h⟩ := bind_some h
  refine aw_region ttOK (C := (ACall Try.prog 24 [.v (.c (.int .i64 a0)), .v (.c (.int .i64 (1 : Int))), .v (.c (.int .i64 (6 : Int)))] [] [] (.v (.c (.bool v1))) []) ∧ (((!v1) == false) = true → ((!v1) == false) = true) ∧ (((!v1) == false) = true → ((!v1) == false) = true) ∧ (((!v1) == false) = true → ((!v1) == false) = true) ∧ ((!v1) = false → ((!v1) == false) = true) ∧ (((cond (!v1) true (decide ((List.length a1 : Int) > (40 : Int)))) == false) = true → ((cond (!v1) true (decide ((List.length a1 : Int) > (40 : Int)))) == false) = true) ∧ (((cond (!v1) true (decide ((List.length a1 : Int) > (40 : Int)))) == false) = true → ((cond (!v1) true (decide ((List.length a1 : Int) > (40 : Int)))) == false) = true) ∧ (((cond (!v1) true (decide ((List.length a1 : Int) > (40 : Int)))) == false) = true → ((cond (!v1) true (decide ((List.length a1 : Int) > (40 : Int)))) == false) = true) ∧ ((cond (!v1) true (decide ((List.length a1 : Int) > (40 : Int)))) = false → ((cond (!v1) true (decide ((List.length a1 : Int) > (40 : Int)))) == false) = true) ∧ True) (hs := [(2, { call := some { f := 24, casts := [.same, .same, .same], r := .v (.c (.bool v1)) } })]) (gs := []) (rn := []) (l' := [(1, .v (.c (.p 100 0))), (22, .v (.c (.bool (cond (cond (!v1) true (decide ((List.length a1 : Int) > (40 : Int)))) true (decide ((List.length a2 : Int) > (6 : Int)))))))]) (h' := [(100, .bx [.int .i64 a0, .ls false (.pr (.num .i64) (.num .i64)) a1, .ls false (.num .i64) a2])]) (by kernel_rfl) ⟨(F_s_l1In_ok ev1), (fun h => h), (fun h => h), (fun h => h), (fun h => beq_iff_eq.2 h), (fun h => h), (fun h => h), (fun h => h), (fun h => beq_iff_eq.2 h), trivial⟩ ?_
  refine aw_if (cond (cond (!v1) true (decide ((List.length a1 : Int) > (40 : Int)))) true (decide ((List.length a2 : Int) > (6 : Int)))) (by kernel_rfl) (fun hb => ?_) (fun hb => ?_)
  · rw [ite_t hb] at h
    refine aw_seq ?_
    refine aw_region ttOK (C := True) (hs := []) (gs := []) (rn := []) (l' := [(2, .v (.c (.bool false)))]) (h' := []) (by kernel_rfl) trivial ?_
    refine aw_ghost (gs := []) (rn := []) (l' := [(2, .v (.c (.bool false)))]) (h' := []) (by kernel_rfl) ?_
    refine aw_ret (ret_ok [] ?_)
    cases h
    kernel_rfl
  · rw [ite_f hb] at h
    refine aw_ghost (gs := []) (rn := []) (l' := [(1, .v (.c (.p 100 0)))]) (h' := [(100, .bx [.int .i64 a0, .ls false (.pr (.num .i64) (.num .i64)) a1, .ls false (.num .i64) a2])]) (by kernel_rfl) ?_
    refine aw_skip ?_
    refine aw_join (X := Unit) (fun x => ([(1, .v (.c (.p 100 0)))], [(100, .bx [.int .i64 a0, .ls false (.pr (.num .i64) (.num .i64)) a1, .ls false (.num .i64) a2])])) (fun x => F_s_plGoodJ1 fu a0 a1 a2 = some r) ?_ ?_
    · rintro _ h
      unfold F_s_plGoodJ1 at h
      refine aw_join (X := Unit) (fun x => ([(1, .v (.c (.p 100 0)))], [(100, .bx [.int .i64 a0, .ls false (.pr (.num .i64) (.num .i64)) a1, .ls false (.num .i64) a2])])) (fun x => F_s_plGoodJ2 fu a2 a0 a1 = some r) ?_ ?_
      · rintro _ h
        unfold F_s_plGoodJ2 at h
        refine aw_seq ?_
        obtain ⟨v2, ev2, h⟩ := bind_some h
        refine aw_region ttOK (C := (ACall Try.prog 25 [.v (.c (.ls false (.num .i64) a2)), .v (.c (.int .i64 (0 : Int))), .v (.c (.int .i64 (IntKind.i64.wrap ((IntKind.i64.wrap (a0 + (List.length a1 : Int))) - (1 : Int)))))] [] [] (.v (.c (.bool v2))) []) ∧ True) (hs := [(9, { call := some { f := 25, casts := [.same, .same, .same], r := .v (.c (.bool v2)) } })]) (gs := []) (rn := []) (l' := [(2, .v (.c (.bool v2)))]) (h' := []) (by kernel_rfl) ⟨(F_s_l1All_ok ev2), trivial⟩ ?_
        refine aw_ghost (gs := []) (rn := []) (l' := [(2, .v (.c (.bool v2)))]) (h' := []) (by kernel_rfl) ?_
        refine aw_ret (ret_ok [] ?_)
        cases h
        kernel_rfl
      · refine aw_seq ?_
        obtain ⟨v2, ev2, h⟩ := bind_some h
        refine aw_region ttOK (C := (ACall Try.prog 56 [.v (.ag [.int .i64 a0, .ls false (.pr (.num .i64) (.num .i64)) a1, .ls false (.num .i64) a2])] [] [] (.v (.c (.ho 0))) [.vc 24 (.sl (.num .i64)) v2]) ∧ True) (hs := [(1, { call := some { f := 56, casts := [.same], r := .v (.c (.ho 0)), Hout := [.vc 24 (.sl (.num .i64)) v2], ren := [144] } })]) (gs := []) (rn := []) (l' := [(1, .v (.c (.p 100 0))), (48, .v (.c (.ho 144))), (49, .v (.c (.int .i64 (List.length v2 : Int)))), (50, .v (.c (.int .i64 (0 : Int))))]) (h' := [(100, .bx [.int .i64 a0, .ls false (.pr (.num .i64) (.num .i64)) a1, .ls false (.num .i64) a2]), (144, .vc 24 (.sl (.num .i64)) v2)]) (by kernel_rfl) ⟨(F_s_plExponents_ok ev2), trivial⟩ ?_
        refine aw_block ?_
        refine aw_loopF (X := Int) (fun x => ([(1, .v (.c (.p 100 0))), (48, .v (.c (.ho 144))), (49, .v (.c (.int .i64 (List.length v2 : Int)))), (50, .v (.c (.int .i64 x)))], [(100, .bx [.int .i64 a0, .ls false (.pr (.num .i64) (.num .i64)) a1, .ls false (.num .i64) a2]), (144, .vc 24 (.sl (.num .i64)) v2)])) (fun n x => F_s_plGoodL3 fu v2 a2 a0 a1 n x = some r) fu (0 : Int) h ?_
        rintro n3 v4 h
        cases n3 with
        | zero => first | cases h | (rw [F_s_plGoodL3] at h; cases h)
        | succ n3 =>
          rw [F_s_plGoodL3] at h
          refine aw_seq ?_
          refine aw_region ttOK (C := True) (hs := []) (gs := []) (rn := []) (l' := [(1, .v (.c (.p 100 0))), (48, .v (.c (.ho 144))), (49, .v (.c (.int .i64 (List.length v2 : Int)))), (50, .v (.c (.int .i64 v4))), (51, .v (.c (.bool (decide (v4 < (List.length v2 : Int))))))]) (h' := [(100, .bx [.int .i64 a0, .ls false (.pr (.num .i64) (.num .i64)) a1, .ls false (.num .i64) a2]), (144, .vc 24 (.sl (.num .i64)) v2)]) (by kernel_rfl) trivial ?_
          refine aw_seq ?_
          refine aw_if (decide (v4 < (List.length v2 : Int))) (by kernel_rfl) (fun hb => ?_) (fun hb => ?_)
          · rw [ite_t hb] at h
            refine aw_ghost (gs := []) (rn := []) (l' := [(1, .v (.c (.p 100 0))), (48, .v (.c (.ho 144))), (49, .v (.c (.int .i64 (List.length v2 : Int)))), (50, .v (.c (.int .i64 v4)))]) (h' := [(100, .bx [.int .i64 a0, .ls false (.pr (.num .i64) (.num .i64)) a1, .ls false (.num .i64) a2]), (144, .vc 24 (.sl (.num .i64)) v2)]) (by kernel_rfl) ?_
            refine aw_skip ?_
            refine aw_seq ?_
            refine aw_block ?_
            refine aw_seq ?_
            obtain ⟨c0, h⟩ := chk_some h
            refine aw_region ttOK (C := (0 ≤ v4 ∧ v4 < (List.length v2 : Int)) ∧ True) (hs := []) (gs := []) (rn := []) (l' := [(1, .v (.c (.p 100 0))), (6, .v (.c (.ls false (.num .i64) (List.getD v2 (v4).toNat ([] : List Int))))), (48, .v (.c (.ho 144))), (49, .v (.c (.int .i64 (List.length v2 : Int)))), (50, .v (.c (.int .i64 v4)))]) (h' := [(100, .bx [.int .i64 a0, .ls false (.pr (.num .i64) (.num .i64)) a1, .ls false (.num .i64) a2]), (144, .vc 24 (.sl (.num .i64)) v2)]) (by kernel_rfl) ⟨c0, trivial⟩ ?_
            refine aw_seq ?_
            obtain ⟨v5, ev5, h⟩ := bind_some h
            refine aw_region ttOK (C := (ACall Try.prog 25 [.v (.c (.ls false (.num .i64) (List.getD v2 (v4).toNat ([] : List Int)))), .v (.c (.int .i64 (0 : Int))), .v (.c (.int .i64 (1000000 : Int)))] [] [] (.v (.c (.bool v5))) []) ∧ True) (hs := [(1, { call := some { f := 25, casts := [.same, .same, .same], r := .v (.c (.bool v5)) } })]) (gs := []) (rn := []) (l' := [(1, .v (.c (.p 100 0))), (48, .v (.c (.ho 144))), (49, .v (.c (.int .i64 (List.length v2 : Int)))), (50, .v (.c (.int .i64 v4))), (56, .v (.c (.bool (!v5))))]) (h' := [(100, .bx [.int .i64 a0, .ls false (.pr (.num .i64) (.num .i64)) a1, .ls false (.num .i64) a2]), (144, .vc 24 (.sl (.num .i64)) v2)]) (by kernel_rfl) ⟨(F_s_l1All_ok ev5), trivial⟩ ?_
            refine aw_if (!v5) (by kernel_rfl) (fun hb => ?_) (fun hb => ?_)
            · rw [ite_t hb] at h
              refine aw_seq ?_
              refine aw_region ttOK (C := True) (hs := []) (gs := []) (rn := []) (l' := [(2, .v (.c (.bool false)))]) (h' := []) (by kernel_rfl) trivial ?_
              refine aw_ghost (gs := []) (rn := []) (l' := [(2, .v (.c (.bool false)))]) (h' := []) (by kernel_rfl) ?_
              refine aw_ret (ret_ok [] ?_)
              cases h
              kernel_rfl
            · rw [ite_f hb] at h
              refine aw_ghost (gs := []) (rn := []) (l' := [(1, .v (.c (.p 100 0))), (48, .v (.c (.ho 144))), (49, .v (.c (.int .i64 (List.length v2 : Int)))), (50, .v (.c (.int .i64 v4)))]) (h' := [(100, .bx [.int .i64 a0, .ls false (.pr (.num .i64) (.num .i64)) a1, .ls false (.num .i64) a2]), (144, .vc 24 (.sl (.num .i64)) v2)]) (by kernel_rfl) ?_
              refine aw_skip ?_
              refine aw_region ttOK (C := True) (hs := []) (gs := []) (rn := []) (l' := [(1, .v (.c (.p 100 0))), (48, .v (.c (.ho 144))), (49, .v (.c (.int .i64 (List.length v2 : Int)))), (50, .v (.c (.int .i64 (IntKind.i64.wrap (v4 + (1 : Int))))))]) (h' := [(100, .bx [.int .i64 a0, .ls false (.pr (.num .i64) (.num .i64)) a1, .ls false (.num .i64) a2]), (144, .vc 24 (.sl (.num .i64)) v2)]) (by kernel_rfl) trivial ?_
              exact ⟨_, (IntKind.i64.wrap (v4 + (1 : Int))), Nat.lt_succ_self _, h, rfl, rfl⟩
          · rw [ite_f hb] at h
            refine aw_ghost (gs := []) (rn := []) (l' := [(1, .v (.c (.p 100 0)))]) (h' := [(100, .bx [.int .i64 a0, .ls false (.pr (.num .i64) (.num .i64)) a1, .ls false (.num .i64) a2])]) (by kernel_rfl) ?_
            refine aw_exit ?_
            exact ⟨(), h, rfl, rfl⟩
    · refine aw_seq ?_
      refine aw_region ttOK (C := True) (hs := []) (gs := []) (rn := []) (l' := [(1, .v (.c (.p 100 0))), (24, .v (.c (.ls false (.pr (.num .i64) (.num .i64)) a1))), (25, .v (.c (.int .i64 (List.length a1 : Int)))), (26, .v (.c (.int .i64 (0 : Int))))]) (h' := [(100, .bx [.int .i64 a0, .ls false (.pr (.num .i64) (.num .i64)) a1, .ls false (.num .i64) a2])]) (by kernel_rfl) trivial ?_
      refine aw_block ?_
      refine aw_loopF (X := Int) (fun x => ([(1, .v (.c (.p 100 0))), (24, .v (.c (.ls false (.pr (.num .i64) (.num .i64)) a1))), (25, .v (.c (.int .i64 (List.length a1 : Int)))), (26, .v (.c (.int .i64 x)))], [(100, .bx [.int .i64 a0, .ls false (.pr (.num .i64) (.num .i64)) a1, .ls false (.num .i64) a2])])) (fun n x => F_s_plGoodL4 fu a1 a0 a2 n x = some r) fu (0 : Int) h ?_
      rintro n4 v3 h
      cases n4 with
      | zero => first | cases h | (rw [F_s_plGoodL4] at h; cases h)
      | succ n4 =>
        rw [F_s_plGoodL4] at h
        refine aw_seq ?_
        refine aw_region ttOK (C := True) (hs := []) (gs := []) (rn := []) (l' := [(1, .v (.c (.p 100 0))), (24, .v (.c (.ls false (.pr (.num .i64) (.num .i64)) a1))), (25, .v (.c (.int .i64 (List.length a1 : Int)))), (26, .v (.c (.int .i64 v3))), (27, .v (.c (.bool (decide (v3 < (List.length a1 : Int))))))]) (h' := [(100, .bx [.int .i64 a0, .ls false (.pr (.num .i64) (.num .i64)) a1, .ls false (.num .i64) a2])]) (by kernel_rfl) trivial ?_
        refine aw_seq ?_
        refine aw_if (decide (v3 < (List.length a1 : Int))) (by kernel_rfl) (fun hb => ?_) (fun hb => ?_)
        · rw [ite_t hb] at h
          refine aw_ghost (gs := []) (rn := []) (l' := [(1, .v (.c (.p 100 0))), (24, .v (.c (.ls false (.pr (.num .i64) (.num .i64)) a1))), (25, .v (.c (.int .i64 (List.length a1 : Int)))), (26, .v (.c (.int .i64 v3)))]) (h' := [(100, .bx [.int .i64 a0, .ls false (.pr (.num .i64) (.num .i64)) a1, .ls false (.num .i64) a2])]) (by kernel_rfl) ?_
          refine aw_skip ?_
          refine aw_seq ?_
          refine aw_block ?_
          refine aw_seq ?_
          obtain ⟨c0, h⟩ := chk_some h
          refine aw_region ttOK (C := (0 ≤ v3 ∧ v3 < (List.length a1 : Int)) ∧ True) (hs := [(3, { id := 124 })]) (gs := []) (rn := []) (l' := [(1, .v (.c (.p 100 0))), (3, .v (.c (.int .i64 v3))), (4, .v (.c (.p 124 0))), (24, .v (.c (.ls false (.pr (.num .i64) (.num .i64)) a1))), (25, .v (.c (.int .i64 (List.length a1 : Int)))), (26, .v (.c (.int .i64 v3)))]) (h' := [(100, .bx [.int .i64 a0, .ls false (.pr (.num .i64) (.num .i64)) a1, .ls false (.num .i64) a2]), (124, .bx [.int .i64 (List.getD a1 (v3).toNat ((0 : Int), (0 : Int))).1, .int .i64 (List.getD a1 (v3).toNat ((0 : Int), (0 : Int))).2])]) (by kernel_rfl) ⟨c0, trivial⟩ ?_
          refine aw_seq ?_
          obtain ⟨v4, ev4, h⟩ := bind_some h
          refine aw_region ttOK (C := (ACall Try.prog 24 [.v (.c (.int .i64 (List.getD a1 (v3).toNat ((0 : Int), (0 : Int))).1)), .v (.c (.int .i64 (0 : Int))), .v (.c (.int .i64 (List.getD a1 (v3).toNat ((0 : Int), (0 : Int))).2))] [] [] (.v (.c (.bool v4))) []) ∧ (((!v4) == false) = true → ((!v4) == false) = true) ∧ (((!v4) == false) = true → ((!v4) == false) = true) ∧ (((!v4) == false) = true → ((!v4) == false) = true) ∧ (((!v4) == false) = true → ((!v4) == false) = true) ∧ (((!v4) == false) = true → ((!v4) == false) = true) ∧ (((!v4) == false) = true → ((!v4) == false) = true) ∧ ((!v4) = false → ((!v4) == false) = true) ∧ True) (hs := [(4, { call := some { f := 24, casts := [.same, .same, .same], r := .v (.c (.bool v4)) } })]) (gs := []) (rn := []) (l' := [(1, .v (.c (.p 100 0))), (24, .v (.c (.ls false (.pr (.num .i64) (.num .i64)) a1))), (25, .v (.c (.int .i64 (List.length a1 : Int)))), (26, .v (.c (.int .i64 v3))), (45, .v (.c (.bool (cond (!v4) true (decide ((List.getD a1 (v3).toNat ((0 : Int), (0 : Int))).2 ≥ (IntKind.i64.wrap (a0 + v3))))))))]) (h' := [(100, .bx [.int .i64 a0, .ls false (.pr (.num .i64) (.num .i64)) a1, .ls false (.num .i64) a2])]) (by kernel_rfl) ⟨(F_s_l1In_ok ev4), (fun h => h), (fun h => h), (fun h => h), (fun h => h), (fun h => h), (fun h => h), (fun h => beq_iff_eq.2 h), trivial⟩ ?_
          refine aw_if (cond (!v4) true (decide ((List.getD a1 (v3).toNat ((0 : Int), (0 : Int))).2 ≥ (IntKind.i64.wrap (a0 + v3))))) (by kernel_rfl) (fun hb => ?_) (fun hb => ?_)
          · rw [ite_t hb] at h
            refine aw_seq ?_
            refine aw_region ttOK (C := True) (hs := []) (gs := []) (rn := []) (l' := [(2, .v (.c (.bool false)))]) (h' := []) (by kernel_rfl) trivial ?_
            refine aw_ghost (gs := []) (rn := []) (l' := [(2, .v (.c (.bool false)))]) (h' := []) (by kernel_rfl) ?_
            refine aw_ret (ret_ok [] ?_)
            cases h
            kernel_rfl
          · rw [ite_f hb] at h
            refine aw_ghost (gs := []) (rn := []) (l' := [(1, .v (.c (.p 100 0))), (24, .v (.c (.ls false (.pr (.num .i64) (.num .i64)) a1))), (25, .v (.c (.int .i64 (List.length a1 : Int)))), (26, .v (.c (.int .i64 v3)))]) (h' := [(100, .bx [.int .i64 a0, .ls false (.pr (.num .i64) (.num .i64)) a1, .ls false (.num .i64) a2])]) (by kernel_rfl) ?_
            refine aw_skip ?_
            refine aw_region ttOK (C := True) (hs := []) (gs := []) (rn := []) (l' := [(1, .v (.c (.p 100 0))), (24, .v (.c (.ls false (.pr (.num .i64) (.num .i64)) a1))), (25, .v (.c (.int .i64 (List.length a1 : Int)))), (26, .v (.c (.int .i64 (IntKind.i64.wrap (v3 + (1 : Int))))))]) (h' := [(100, .bx [.int .i64 a0, .ls false (.pr (.num .i64) (.num .i64)) a1, .ls false (.num .i64) a2])]) (by kernel_rfl) trivial ?_
            exact ⟨_, (IntKind.i64.wrap (v3 + (1 : Int))), Nat.lt_succ_self _, h, rfl, rfl⟩
        · rw [ite_f hb] at h
          refine aw_ghost (gs := []) (rn := []) (l' := [(1, .v (.c (.p 100 0)))]) (h' := [(100, .bx [.int .i64 a0, .ls false (.pr (.num .i64) (.num .i64)) a1, .ls false (.num .i64) a2])]) (by kernel_rfl) ?_
          refine aw_exit ?_
          exact ⟨(), h, rfl, rfl⟩

theorem F_s_plIf_ok {fu : Nat} {a0 : Int} {a1 : List (Int × Int)} {a2 : List Int} {r : Bool × Int × List (Int × Int) × List Int} (h : F_s_plIf fu a0 a1 a2 = some r) :
    ACall Try.prog 29 [.v (.ag [.int .i64 a0, .ls false (.pr (.num .i64) (.num .i64)) a1, .ls false (.num .i64) a2])] [] [] (.tu [.ag [.int .i64 r.2.1, .ls false (.pr (.num .i64) (.num .i64)) r.2.2.1, .ls false (.num .i64) r.2.2.2], .c (.bool r.1)]) [] := by
  unfold F_s_plIf at h
  refine acall_of_aw ttOK Try.func29 (by kernel_rfl) (c := _) rfl (N := 9) (by kernel_rfl) (Nat.le_of_ble_eq_true rfl) ?_
  refine aw_seq ?_
  refine aw_region ttOK (C := True) (hs := [(0, { id := 100 }), (1, { id := 101 })]) (gs := []) (rn := []) (l' := [(1, .v (.c (.p 100 0))), (2, .v (.c (.p 101 0)))]) (h' := [(100, .bx [.int .i64 a0, .ls false (.pr (.num .i64) (.num .i64)) a1, .ls false (.num .i64) a2]), (101, .bx [.int .i64 (0 : Int), .nl, .nl])]) (by kernel_rfl) trivial ?_
  refine aw_seq ?_
  refine aw_seq ?_
  obtain ⟨v1, ev1, h⟩ := bind_some h
  refine aw_region ttOK (C := (ACall Try.prog 45 [.v (.ag [.int .i64 a0, .ls false (.pr (.num .i64) (.num .i64)) a1, .ls false (.num .i64) a2])] [] [] (.v (.c (.bool v1))) []) ∧ True) (hs := [(1, { call := some { f := 45, casts := [.same], r := .v (.c (.bool v1)) } })]) (gs := []) (rn := []) (l' := [(1, .v (.c (.p 100 0))), (2, .v (.c (.p 101 0))), (6, .v (.c (.bool (!v1))))]) (h' := [(100, .bx [.int .i64 a0, .ls false (.pr (.num .i64) (.num .i64)) a1, .ls false (.num .i64) a2]), (101, .bx [.int .i64 (0 : Int), .nl, .nl])]) (by kernel_rfl) ⟨(F_s_plGood_ok ev1), trivial⟩ ?_
  refine aw_if (!v1) (by kernel_rfl) (fun hb => ?_) (fun hb => ?_)
  · rw [ite_t hb] at h
    refine aw_seq ?_
    refine aw_region ttOK (C := True) (hs := []) (gs := []) (rn := []) (l' := [(2, .v (.c (.p 101 0))), (3, .v (.c (.bool false)))]) (h' := [(101, .bx [.int .i64 (0 : Int), .nl, .nl])]) (by kernel_rfl) trivial ?_
    refine aw_ghost (gs := [.cnil 101 1 (.pr (.num .i64) (.num .i64)), .cview 101 1, .cnil 101 2 (.num .i64), .cview 101 2]) (rn := []) (l' := [(2, .v (.c (.p 101 0))), (3, .v (.c (.bool false)))]) (h' := [(101, .bx [.int .i64 (0 : Int), .ls false (.pr (.num .i64) (.num .i64)) ([] : List (Int × Int)), .ls false (.num .i64) ([] : List Int)])]) (by kernel_rfl) ?_
    refine aw_ret (ret_ok [] ?_)
    cases h
    kernel_rfl
  · rw [ite_f hb] at h
    refine aw_ghost (gs := []) (rn := []) (l' := [(1, .v (.c (.p 100 0))), (2, .v (.c (.p 101 0)))]) (h' := [(100, .bx [.int .i64 a0, .ls false (.pr (.num .i64) (.num .i64)) a1, .ls false (.num .i64) a2]), (101, .bx [.int .i64 (0 : Int), .nl, .nl])]) (by kernel_rfl) ?_
    refine aw_skip ?_
    refine aw_seq ?_
    refine aw_region ttOK (C := True) (hs := []) (gs := []) (rn := []) (l' := [(2, .v (.c (.p 101 0))), (3, .v (.c (.bool true)))]) (h' := [(101, .bx [.int .i64 a0, .ls false (.pr (.num .i64) (.num .i64)) a1, .ls false (.num .i64) a2])]) (by kernel_rfl) trivial ?_
    refine aw_ghost (gs := []) (rn := []) (l' := [(2, .v (.c (.p 101 0))), (3, .v (.c (.bool true)))]) (h' := [(101, .bx [.int .i64 a0, .ls false (.pr (.num .i64) (.num .i64)) a1, .ls false (.num .i64) a2])]) (by kernel_rfl) ?_
    refine aw_ret (ret_ok [] ?_)
    cases h
    kernel_rfl

theorem F_s_TogetherPlan_ok {fu : Nat} {a0 : List Int} {r : Bool × Int × List (Int × Int) × List Int} (h : F_s_TogetherPlan fu a0 = some r) :
    ACall Try.prog 7 [.v (.c (.ls false (.num .i64) a0))] [] [] (.tu [.ag [.int .i64 r.2.1, .ls false (.pr (.num .i64) (.num .i64)) r.2.2.1, .ls false (.num .i64) r.2.2.2], .c (.bool r.1)]) [] := by
  unfold F_s_TogetherPlan at h
  refine acall_of_aw ttOK Try.func7 (by kernel_rfl) (c := _) rfl (N := 73) (by kernel_rfl) (Nat.le_of_ble_eq_true rfl) ?_
  refine aw_seq ?_
  refine aw_region ttOK (C := True) (hs := [(0, { id := 100 })]) (gs := []) (rn := []) (l' := [(0, .v (.c (.ls false (.num .i64) a0))), (2, .v (.c (.p 100 0)))]) (h' := [(100, .bx [.int .i64 (0 : Int), .nl, .nl])]) (by kernel_rfl) trivial ?_
  refine aw_seq ?_
  refine aw_seq ?_
  obtain ⟨v1, ev1, h⟩ := bind_some h
  obtain ⟨v2, ev2, h⟩ := bind_some h
  obtain ⟨v3, ev3, h⟩ := bind_some h
  refine aw_region ttOK (C := (ACall Try.prog 24 [.v (.c (.int .i64 (List.length a0 : Int))), .v (.c (.int .i64 (1 : Int))), .v (.c (.int .i64 (6 : Int)))] [] [] (.v (.c (.bool v1))) []) ∧ (((!v1) == false) = true → ((!v1) == false) = true) ∧ (((!v1) == false) = true → ACall Try.prog 25 [.v (.c (.ls false (.num .i64) a0)), .v (.c (.int .i64 (0 : Int))), .v (.c (.int .i64 (1000000 : Int)))] [] [] (.v (.c (.bool v2))) []) ∧ (((!v1) == false) = true → ((!v1) == false) = true) ∧ ((!v1) = false → ((!v1) == false) = true) ∧ (((cond (!v1) true (!v2)) == false) = true → ((cond (!v1) true (!v2)) == false) = true) ∧ (((cond (!v1) true (!v2)) == false) = true → ACall Try.prog 26 [.v (.c (.ls false (.num .i64) a0))] [] [] (.v (.c (.int .i64 v3))) []) ∧ (((cond (!v1) true (!v2)) == false) = true → ((cond (!v1) true (!v2)) == false) = true) ∧ ((cond (!v1) true (!v2)) = false → ((cond (!v1) true (!v2)) == false) = true) ∧ True) (hs := [(2, { call := some { f := 24, casts := [.same, .same, .same], r := .v (.c (.bool v1)) } }), (6, { call := some { f := 25, casts := [.same, .same, .same], r := .v (.c (.bool v2)) } }), (11, { call := some { f := 26, casts := [.same], r := .v (.c (.int .i64 v3)) } })]) (gs := []) (rn := []) (l' := [(0, .v (.c (.ls false (.num .i64) a0))), (2, .v (.c (.p 100 0))), (22, .v (.c (.bool (cond (cond (!v1) true (!v2)) true (v3 == (0 : Int))))))]) (h' := [(100, .bx [.int .i64 (0 : Int), .nl, .nl])]) (by kernel_rfl) ⟨(F_s_l1In_ok ev1), (fun h => h), (fun hg => (F_s_l1All_ok (gcl_some ev2 hg))), (fun h => h), (fun h => beq_iff_eq.2 h), (fun h => h), (fun hg => (F_s_meGreatest_ok (gcl_some ev3 hg))), (fun h => h), (fun h => beq_iff_eq.2 h), trivial⟩ ?_
  refine aw_if (cond (cond (!v1) true (!v2)) true (v3 == (0 : Int))) (by kernel_rfl) (fun hb => ?_) (fun hb => ?_)
  · rw [ite_t hb] at h
    refine aw_seq ?_
    refine aw_region ttOK (C := True) (hs := []) (gs := []) (rn := []) (l' := [(2, .v (.c (.p 100 0))), (3, .v (.c (.bool false)))]) (h' := [(100, .bx [.int .i64 (0 : Int), .nl, .nl])]) (by kernel_rfl) trivial ?_
    refine aw_ghost (gs := [.cnil 100 1 (.pr (.num .i64) (.num .i64)), .cview 100 1, .cnil 100 2 (.num .i64), .cview 100 2]) (rn := []) (l' := [(2, .v (.c (.p 100 0))), (3, .v (.c (.bool false)))]) (h' := [(100, .bx [.int .i64 (0 : Int), .ls false (.pr (.num .i64) (.num .i64)) ([] : List (Int × Int)), .ls false (.num .i64) ([] : List Int)])]) (by kernel_rfl) ?_
    refine aw_ret (ret_ok [] ?_)
    cases h
    kernel_rfl
  · rw [ite_f hb] at h
    refine aw_ghost (gs := []) (rn := []) (l' := [(0, .v (.c (.ls false (.num .i64) a0))), (2, .v (.c (.p 100 0)))]) (h' := [(100, .bx [.int .i64 (0 : Int), .nl, .nl])]) (by kernel_rfl) ?_
    refine aw_skip ?_
    refine aw_seq ?_
    refine aw_region ttOK (C := True) (hs := [(3, { id := 117 })]) (gs := []) (rn := []) (l' := [(0, .v (.c (.ls false (.num .i64) a0))), (2, .v (.c (.p 100 0))), (4, .v (.c (.p 117 0)))]) (h' := [(100, .bx [.int .i64 (0 : Int), .nl, .nl]), (117, .bx [.int .i64 (List.length a0 : Int), .nl, .nl])]) (by kernel_rfl) trivial ?_
    refine aw_seq ?_
    refine aw_region ttOK (C := True) (hs := []) (gs := []) (rn := []) (l' := [(0, .v (.c (.ls false (.num .i64) a0))), (2, .v (.c (.p 100 0))), (4, .v (.c (.p 117 0))), (5, .v (.c (.int .i64 (-1 : Int))))]) (h' := [(100, .bx [.int .i64 (0 : Int), .nl, .nl]), (117, .bx [.int .i64 (List.length a0 : Int), .nl, .nl])]) (by kernel_rfl) trivial ?_
    refine aw_join (X := Int × Int × Int × List (Int × Int)) (fun x => ([(2, .v (.c (.p 100 0))), (4, .v (.c (.p 117 0))), (5, .v (.c (.int .i64 x.1)))], [(100, .bx [.int .i64 x.2.1, .nl, .nl]), (117, .bx [.int .i64 x.2.2.1, .ls false (.pr (.num .i64) (.num .i64)) x.2.2.2, .nl])])) (fun x => F_s_TogetherPlanJ1 fu x.1 x.2.1 x.2.2.1 x.2.2.2 = some r) ?_ ?_
    · rintro ⟨v4, v5, v6, v7⟩ h
      unfold F_s_TogetherPlanJ1 at h
      refine aw_seq ?_
      obtain ⟨v8, ev8, h⟩ := bind_some h
      obtain ⟨v9, ev9, h⟩ := bind_some h
      refine aw_region ttOK (C := (ACall Try.prog 30 [.v (.ag [.int .i64 v6, .ls false (.pr (.num .i64) (.num .i64)) v7, .ls false (.num .i64) ([] : List Int)]), .v (.c (.int .i64 v4))] [] [] (.v (.ag [.int .i64 v6, .ls false (.pr (.num .i64) (.num .i64)) v7, .ls false (.num .i64) v8])) []) ∧ (ACall Try.prog 29 [.v (.ag [.int .i64 v6, .ls false (.pr (.num .i64) (.num .i64)) v7, .ls false (.num .i64) v8])] [] [] (.tu [.ag [.int .i64 v9.2.1, .ls false (.pr (.num .i64) (.num .i64)) v9.2.2.1, .ls false (.num .i64) v9.2.2.2], .c (.bool v9.1)]) []) ∧ True) (hs := [(2, { call := some { f := 30, casts := [.ags [.same, .same, .nil (.num .i64)], .same], r := .v (.ag [.int .i64 v6, .ls false (.pr (.num .i64) (.num .i64)) v7, .ls false (.num .i64) v8]) } }), (3, { call := some { f := 29, casts := [.same], r := .tu [.ag [.int .i64 v9.2.1, .ls false (.pr (.num .i64) (.num .i64)) v9.2.2.1, .ls false (.num .i64) v9.2.2.2], .c (.bool v9.1)] } })]) (gs := []) (rn := []) (l' := [(2, .v (.c (.p 100 0))), (3, .v (.c (.bool v9.1)))]) (h' := [(100, .bx [.int .i64 v9.2.1, .ls false (.pr (.num .i64) (.num .i64)) v9.2.2.1, .ls false (.num .i64) v9.2.2.2])]) (by kernel_rfl) ⟨(F_s_meEnd_ok ev8), (F_s_plIf_ok ev9), trivial⟩ ?_
      refine aw_ghost (gs := []) (rn := []) (l' := [(2, .v (.c (.p 100 0))), (3, .v (.c (.bool v9.1)))]) (h' := [(100, .bx [.int .i64 v9.2.1, .ls false (.pr (.num .i64) (.num .i64)) v9.2.2.1, .ls false (.num .i64) v9.2.2.2])]) (by kernel_rfl) ?_
      refine aw_ret (ret_ok [] ?_)
      cases h
      kernel_rfl
    · refine aw_seq ?_
      obtain ⟨v4, ev4, h⟩ := bind_some h
      obtain ⟨v5, ev5, h⟩ := bind_some h
      refine aw_region ttOK (C := (ACall Try.prog 26 [.v (.c (.ls false (.num .i64) a0))] [] [] (.v (.c (.int .i64 v4))) []) ∧ (ACall Try.prog 27 [.v (.c (.int .i64 v4))] [] [] (.v (.c (.int .i64 v5))) []) ∧ True) (hs := [(1, { call := some { f := 26, casts := [.same], r := .v (.c (.int .i64 v4)) } }), (2, { call := some { f := 27, casts := [.same], r := .v (.c (.int .i64 v5)) } })]) (gs := []) (rn := []) (l' := [(0, .v (.c (.ls false (.num .i64) a0))), (2, .v (.c (.p 100 0))), (4, .v (.c (.p 117 0))), (5, .v (.c (.int .i64 (-1 : Int)))), (6, .v (.c (.int .i64 (IntKind.i64.wrap (v5 - (1 : Int))))))]) (h' := [(100, .bx [.int .i64 (0 : Int), .nl, .nl]), (117, .bx [.int .i64 (List.length a0 : Int), .nl, .nl])]) (by kernel_rfl) ⟨(F_s_meGreatest_ok ev4), (F_s_chLength_ok ev5), trivial⟩ ?_
      refine aw_block ?_
      refine aw_ghost (gs := [.cnil 117 1 (.pr (.num .i64) (.num .i64)), .cview 117 1]) (rn := []) (l' := [(0, .v (.c (.ls false (.num .i64) a0))), (2, .v (.c (.p 100 0))), (4, .v (.c (.p 117 0))), (5, .v (.c (.int .i64 (-1 : Int)))), (6, .v (.c (.int .i64 (IntKind.i64.wrap (v5 - (1 : Int))))))]) (h' := [(100, .bx [.int .i64 (0 : Int), .nl, .nl]), (117, .bx [.int .i64 (List.length a0 : Int), .ls false (.pr (.num .i64) (.num .i64)) ([] : List (Int × Int)), .nl])]) (by kernel_rfl) ?_
      refine aw_loopF (X := Int × Int × Int × Int × List (Int × Int)) (fun x => ([(0, .v (.c (.ls false (.num .i64) a0))), (2, .v (.c (.p 100 0))), (4, .v (.c (.p 117 0))), (5, .v (.c (.int .i64 x.1))), (6, .v (.c (.int .i64 x.2.1)))], [(100, .bx [.int .i64 x.2.2.1, .nl, .nl]), (117, .bx [.int .i64 x.2.2.2.1, .ls false (.pr (.num .i64) (.num .i64)) x.2.2.2.2, .nl])])) (fun n x => F_s_TogetherPlanL2 fu a0 n x.1 x.2.1 x.2.2.1 x.2.2.2.1 x.2.2.2.2 = some r) fu ((-1 : Int), (IntKind.i64.wrap (v5 - (1 : Int))), (0 : Int), (List.length a0 : Int), ([] : List (Int × Int))) h ?_
      rintro n2 ⟨v11, v12, v13, v14, v15⟩ h
      cases n2 with
      | zero => first | cases h | (rw [F_s_TogetherPlanL2] at h; cases h)
      | succ n2 =>
        rw [F_s_TogetherPlanL2] at h
        refine aw_seq ?_
        refine aw_seq ?_
        refine aw_region ttOK (C := True) (hs := []) (gs := []) (rn := []) (l' := [(0, .v (.c (.ls false (.num .i64) a0))), (2, .v (.c (.p 100 0))), (4, .v (.c (.p 117 0))), (5, .v (.c (.int .i64 v11))), (6, .v (.c (.int .i64 v12))), (32, .v (.c (.bool (decide (v12 ≥ (0 : Int))))))]) (h' := [(100, .bx [.int .i64 v13, .nl, .nl]), (117, .bx [.int .i64 v14, .ls false (.pr (.num .i64) (.num .i64)) v15, .nl])]) (by kernel_rfl) trivial ?_
        refine aw_if (decide (v12 ≥ (0 : Int))) (by kernel_rfl) (fun hb => ?_) (fun hb => ?_)
        · rw [ite_t hb] at h
          refine aw_ghost (gs := []) (rn := []) (l' := [(0, .v (.c (.ls false (.num .i64) a0))), (2, .v (.c (.p 100 0))), (4, .v (.c (.p 117 0))), (5, .v (.c (.int .i64 v11))), (6, .v (.c (.int .i64 v12)))]) (h' := [(100, .bx [.int .i64 v13, .nl, .nl]), (117, .bx [.int .i64 v14, .ls false (.pr (.num .i64) (.num .i64)) v15, .nl])]) (by kernel_rfl) ?_
          refine aw_skip ?_
          refine aw_join (X := Int × Int × Int × Int × List (Int × Int)) (fun x => ([(0, .v (.c (.ls false (.num .i64) a0))), (2, .v (.c (.p 100 0))), (4, .v (.c (.p 117 0))), (5, .v (.c (.int .i64 x.1))), (6, .v (.c (.int .i64 x.2.1)))], [(100, .bx [.int .i64 x.2.2.1, .nl, .nl]), (117, .bx [.int .i64 x.2.2.2.1, .ls false (.pr (.num .i64) (.num .i64)) x.2.2.2.2, .nl])])) (fun x => F_s_TogetherPlanJ3 fu (F_s_TogetherPlanL2 fu a0 n2) x.1 x.2.1 x.2.2.1 x.2.2.2.1 x.2.2.2.2 = some r) ?_ ?_
          · rintro ⟨v16, v17, v18, v19, v20⟩ h
            unfold F_s_TogetherPlanJ3 at h
            refine aw_region ttOK (C := True) (hs := []) (gs := []) (rn := []) (l' := [(0, .v (.c (.ls false (.num .i64) a0))), (2, .v (.c (.p 100 0))), (4, .v (.c (.p 117 0))), (5, .v (.c (.int .i64 v16))), (6, .v (.c (.int .i64 (IntKind.i64.wrap (v17 - (1 : Int))))))]) (h' := [(100, .bx [.int .i64 v18, .nl, .nl]), (117, .bx [.int .i64 v19, .ls false (.pr (.num .i64) (.num .i64)) v20, .nl])]) (by kernel_rfl) trivial ?_
            exact ⟨_, (v16, (IntKind.i64.wrap (v17 - (1 : Int))), v18, v19, v20), Nat.lt_succ_self _, h, rfl, rfl⟩
          · refine aw_block ?_
            refine aw_join (X := Int × List (Int × Int)) (fun x => ([(0, .v (.c (.ls false (.num .i64) a0))), (2, .v (.c (.p 100 0))), (4, .v (.c (.p 117 0))), (5, .v (.c (.int .i64 x.1))), (6, .v (.c (.int .i64 v12)))], [(100, .bx [.int .i64 v13, .nl, .nl]), (117, .bx [.int .i64 v14, .ls false (.pr (.num .i64) (.num .i64)) x.2, .nl])])) (fun x => F_s_TogetherPlanJ4 fu a0 v12 v14 (F_s_TogetherPlanL2 fu a0 n2) v13 x.1 x.2 = some r) ?_ ?_
            · rintro ⟨v16, v17⟩ h
              unfold F_s_TogetherPlanJ4 at h
              refine aw_seq ?_
              refine aw_region ttOK (C := True) (hs := []) (gs := []) (rn := []) (l' := [(0, .v (.c (.ls false (.num .i64) a0))), (2, .v (.c (.p 100 0))), (4, .v (.c (.p 117 0))), (5, .v (.c (.int .i64 v16))), (6, .v (.c (.int .i64 v12))), (44, .v (.c (.ls false (.num .i64) a0))), (45, .v (.c (.int .i64 (List.length a0 : Int)))), (46, .v (.c (.int .i64 (0 : Int))))]) (h' := [(100, .bx [.int .i64 v13, .nl, .nl]), (117, .bx [.int .i64 v14, .ls false (.pr (.num .i64) (.num .i64)) v17, .nl])]) (by kernel_rfl) trivial ?_
              refine aw_block ?_
              refine aw_loopF (X := Int × Int × List (Int × Int)) (fun x => ([(0, .v (.c (.ls false (.num .i64) a0))), (2, .v (.c (.p 100 0))), (4, .v (.c (.p 117 0))), (5, .v (.c (.int .i64 x.1))), (6, .v (.c (.int .i64 v12))), (44, .v (.c (.ls false (.num .i64) a0))), (45, .v (.c (.int .i64 (List.length a0 : Int)))), (46, .v (.c (.int .i64 x.2.1)))], [(100, .bx [.int .i64 v13, .nl, .nl]), (117, .bx [.int .i64 v14, .ls false (.pr (.num .i64) (.num .i64)) x.2.2, .nl])])) (fun n x => F_s_TogetherPlanL5 fu a0 v12 v14 (F_s_TogetherPlanL2 fu a0 n2) v13 n x.1 x.2.1 x.2.2 = some r) fu (v16, (0 : Int), v17) h ?_
              rintro n5 ⟨v21, v22, v23⟩ h
              cases n5 with
              | zero => first | cases h | (rw [F_s_TogetherPlanL5] at h; cases h)
              | succ n5 =>
                rw [F_s_TogetherPlanL5] at h
                refine aw_seq ?_
                refine aw_region ttOK (C := True) (hs := []) (gs := []) (rn := []) (l' := [(0, .v (.c (.ls false (.num .i64) a0))), (2, .v (.c (.p 100 0))), (4, .v (.c (.p 117 0))), (5, .v (.c (.int .i64 v21))), (6, .v (.c (.int .i64 v12))), (44, .v (.c (.ls false (.num .i64) a0))), (45, .v (.c (.int .i64 (List.length a0 : Int)))), (46, .v (.c (.int .i64 v22))), (47, .v (.c (.bool (decide (v22 < (List.length a0 : Int))))))]) (h' := [(100, .bx [.int .i64 v13, .nl, .nl]), (117, .bx [.int .i64 v14, .ls false (.pr (.num .i64) (.num .i64)) v23, .nl])]) (by kernel_rfl) trivial ?_
                refine aw_seq ?_
                refine aw_if (decide (v22 < (List.length a0 : Int))) (by kernel_rfl) (fun hb => ?_) (fun hb => ?_)
                · rw [ite_t hb] at h
                  refine aw_ghost (gs := []) (rn := []) (l' := [(0, .v (.c (.ls false (.num .i64) a0))), (2, .v (.c (.p 100 0))), (4, .v (.c (.p 117 0))), (5, .v (.c (.int .i64 v21))), (6, .v (.c (.int .i64 v12))), (44, .v (.c (.ls false (.num .i64) a0))), (45, .v (.c (.int .i64 (List.length a0 : Int)))), (46, .v (.c (.int .i64 v22)))]) (h' := [(100, .bx [.int .i64 v13, .nl, .nl]), (117, .bx [.int .i64 v14, .ls false (.pr (.num .i64) (.num .i64)) v23, .nl])]) (by kernel_rfl) ?_
                  refine aw_skip ?_
                  refine aw_join (X := Int × List (Int × Int)) (fun x => ([(0, .v (.c (.ls false (.num .i64) a0))), (2, .v (.c (.p 100 0))), (4, .v (.c (.p 117 0))), (5, .v (.c (.int .i64 x.1))), (6, .v (.c (.int .i64 v12))), (44, .v (.c (.ls false (.num .i64) a0))), (45, .v (.c (.int .i64 (List.length a0 : Int)))), (46, .v (.c (.int .i64 v22)))], [(100, .bx [.int .i64 v13, .nl, .nl]), (117, .bx [.int .i64 v14, .ls false (.pr (.num .i64) (.num .i64)) x.2, .nl])])) (fun x => F_s_TogetherPlanJ6 fu (F_s_TogetherPlanL5 fu a0 v12 v14 (F_s_TogetherPlanL2 fu a0 n2) v13 n5) v22 x.1 x.2 = some r) ?_ ?_
                  · rintro ⟨v24, v25⟩ h
                    unfold F_s_TogetherPlanJ6 at h
                    refine aw_region ttOK (C := True) (hs := []) (gs := []) (rn := []) (l' := [(0, .v (.c (.ls false (.num .i64) a0))), (2, .v (.c (.p 100 0))), (4, .v (.c (.p 117 0))), (5, .v (.c (.int .i64 v24))), (6, .v (.c (.int .i64 v12))), (44, .v (.c (.ls false (.num .i64) a0))), (45, .v (.c (.int .i64 (List.length a0 : Int)))), (46, .v (.c (.int .i64 (IntKind.i64.wrap (v22 + (1 : Int))))))]) (h' := [(100, .bx [.int .i64 v13, .nl, .nl]), (117, .bx [.int .i64 v14, .ls false (.pr (.num .i64) (.num .i64)) v25, .nl])]) (by kernel_rfl) trivial ?_
                    exact ⟨_, (v24, (IntKind.i64.wrap (v22 + (1 : Int))), v25), Nat.lt_succ_self _, h, rfl, rfl⟩
                  · refine aw_block ?_
                    refine aw_seq ?_
                    obtain ⟨c0, h⟩ := chk_some h
                    refine aw_region ttOK (C := (0 ≤ v22 ∧ v22 < (List.length a0 : Int)) ∧ True) (hs := []) (gs := []) (rn := []) (l' := [(0, .v (.c (.ls false (.num .i64) a0))), (2, .v (.c (.p 100 0))), (4, .v (.c (.p 117 0))), (5, .v (.c (.int .i64 v21))), (6, .v (.c (.int .i64 v12))), (7, .v (.c (.int .i64 v22))), (8, .v (.c (.int .i64 (List.getD a0 (v22).toNat (0 : Int))))), (44, .v (.c (.ls false (.num .i64) a0))), (45, .v (.c (.int .i64 (List.length a0 : Int)))), (46, .v (.c (.int .i64 v22)))]) (h' := [(100, .bx [.int .i64 v13, .nl, .nl]), (117, .bx [.int .i64 v14, .ls false (.pr (.num .i64) (.num .i64)) v23, .nl])]) (by kernel_rfl) ⟨c0, trivial⟩ ?_
                    refine aw_seq ?_
                    refine aw_seq ?_
                    obtain ⟨c0, h⟩ := chk_some h
                    refine aw_region ttOK (C := (0 ≤ v12) ∧ ((2 : Int) ≠ 0) ∧ True) (hs := []) (gs := []) (rn := []) (l' := [(0, .v (.c (.ls false (.num .i64) a0))), (2, .v (.c (.p 100 0))), (4, .v (.c (.p 117 0))), (5, .v (.c (.int .i64 v21))), (6, .v (.c (.int .i64 v12))), (7, .v (.c (.int .i64 v22))), (44, .v (.c (.ls false (.num .i64) a0))), (45, .v (.c (.int .i64 (List.length a0 : Int)))), (46, .v (.c (.int .i64 v22))), (55, .v (.c (.bool ((Int.tmod (shrI .i64 (List.getD a0 (v22).toNat (0 : Int)) v12) (2 : Int)) == (0 : Int)))))]) (h' := [(100, .bx [.int .i64 v13, .nl, .nl]), (117, .bx [.int .i64 v14, .ls false (.pr (.num .i64) (.num .i64)) v23, .nl])]) (by kernel_rfl) ⟨c0, (by decide), trivial⟩ ?_
                    refine aw_if ((Int.tmod (shrI .i64 (List.getD a0 (v22).toNat (0 : Int)) v12) (2 : Int)) == (0 : Int)) (by kernel_rfl) (fun hb => ?_) (fun hb => ?_)
                    · rw [ite_t hb] at h
                      refine aw_ghost (gs := []) (rn := []) (l' := [(0, .v (.c (.ls false (.num .i64) a0))), (2, .v (.c (.p 100 0))), (4, .v (.c (.p 117 0))), (5, .v (.c (.int .i64 v21))), (6, .v (.c (.int .i64 v12))), (44, .v (.c (.ls false (.num .i64) a0))), (45, .v (.c (.int .i64 (List.length a0 : Int)))), (46, .v (.c (.int .i64 v22)))]) (h' := [(100, .bx [.int .i64 v13, .nl, .nl]), (117, .bx [.int .i64 v14, .ls false (.pr (.num .i64) (.num .i64)) v23, .nl])]) (by kernel_rfl) ?_
                      refine aw_exit ?_
                      exact ⟨(v21, v23), h, rfl, rfl⟩
                    · rw [ite_f hb] at h
                      refine aw_ghost (gs := []) (rn := []) (l' := [(0, .v (.c (.ls false (.num .i64) a0))), (2, .v (.c (.p 100 0))), (4, .v (.c (.p 117 0))), (5, .v (.c (.int .i64 v21))), (6, .v (.c (.int .i64 v12))), (7, .v (.c (.int .i64 v22))), (44, .v (.c (.ls false (.num .i64) a0))), (45, .v (.c (.int .i64 (List.length a0 : Int)))), (46, .v (.c (.int .i64 v22)))]) (h' := [(100, .bx [.int .i64 v13, .nl, .nl]), (117, .bx [.int .i64 v14, .ls false (.pr (.num .i64) (.num .i64)) v23, .nl])]) (by kernel_rfl) ?_
                      refine aw_skip ?_
                      refine aw_seq ?_
                      refine aw_region ttOK (C := True) (hs := []) (gs := []) (rn := []) (l' := [(0, .v (.c (.ls false (.num .i64) a0))), (2, .v (.c (.p 100 0))), (4, .v (.c (.p 117 0))), (5, .v (.c (.int .i64 v21))), (6, .v (.c (.int .i64 v12))), (7, .v (.c (.int .i64 v22))), (44, .v (.c (.ls false (.num .i64) a0))), (45, .v (.c (.int .i64 (List.length a0 : Int)))), (46, .v (.c (.int .i64 v22))), (57, .v (.c (.bool (decide (v21 < (0 : Int))))))]) (h' := [(100, .bx [.int .i64 v13, .nl, .nl]), (117, .bx [.int .i64 v14, .ls false (.pr (.num .i64) (.num .i64)) v23, .nl])]) (by kernel_rfl) trivial ?_
                      refine aw_if (decide (v21 < (0 : Int))) (by kernel_rfl) (fun hb => ?_) (fun hb => ?_)
                      · rw [ite_t hb] at h
                        refine aw_region ttOK (C := True) (hs := []) (gs := []) (rn := []) (l' := [(0, .v (.c (.ls false (.num .i64) a0))), (2, .v (.c (.p 100 0))), (4, .v (.c (.p 117 0))), (5, .v (.c (.int .i64 v22))), (6, .v (.c (.int .i64 v12))), (44, .v (.c (.ls false (.num .i64) a0))), (45, .v (.c (.int .i64 (List.length a0 : Int)))), (46, .v (.c (.int .i64 v22)))]) (h' := [(100, .bx [.int .i64 v13, .nl, .nl]), (117, .bx [.int .i64 v14, .ls false (.pr (.num .i64) (.num .i64)) v23, .nl])]) (by kernel_rfl) trivial ?_
                        exact ⟨(v22, v23), h, rfl, rfl⟩
                      · rw [ite_f hb] at h
                        obtain ⟨v24, ev24, h⟩ := bind_some h
                        refine aw_region ttOK (C := (ACall Try.prog 28 [.v (.ag [.int .i64 v14, .ls false (.pr (.num .i64) (.num .i64)) v23, .ls false (.num .i64) ([] : List Int)]), .v (.c (.int .i64 v21)), .v (.c (.int .i64 v22))] [] [] (.tu [.ag [.int .i64 v14, .ls false (.pr (.num .i64) (.num .i64)) v24.2, .nl], .c (.int .i64 v24.1)]) []) ∧ True) (hs := [(3, { call := some { f := 28, casts := [.ags [.same, .same, .nil (.num .i64)], .same, .same], r := .tu [.ag [.int .i64 v14, .ls false (.pr (.num .i64) (.num .i64)) v24.2, .nl], .c (.int .i64 v24.1)] } })]) (gs := []) (rn := []) (l' := [(0, .v (.c (.ls false (.num .i64) a0))), (2, .v (.c (.p 100 0))), (4, .v (.c (.p 117 0))), (5, .v (.c (.int .i64 v24.1))), (6, .v (.c (.int .i64 v12))), (44, .v (.c (.ls false (.num .i64) a0))), (45, .v (.c (.int .i64 (List.length a0 : Int)))), (46, .v (.c (.int .i64 v22)))]) (h' := [(100, .bx [.int .i64 v13, .nl, .nl]), (117, .bx [.int .i64 v14, .ls false (.pr (.num .i64) (.num .i64)) v24.2, .nl])]) (by kernel_rfl) ⟨(F_s_meTimes_ok ev24), trivial⟩ ?_
                        exact ⟨(v24.1, v24.2), h, rfl, rfl⟩
                · rw [ite_f hb] at h
                  refine aw_ghost (gs := []) (rn := []) (l' := [(0, .v (.c (.ls false (.num .i64) a0))), (2, .v (.c (.p 100 0))), (4, .v (.c (.p 117 0))), (5, .v (.c (.int .i64 v21))), (6, .v (.c (.int .i64 v12)))]) (h' := [(100, .bx [.int .i64 v13, .nl, .nl]), (117, .bx [.int .i64 v14, .ls false (.pr (.num .i64) (.num .i64)) v23, .nl])]) (by kernel_rfl) ?_
                  refine aw_exit ?_
                  exact ⟨(v21, v12, v13, v14, v23), h, rfl, rfl⟩
            · refine aw_seq ?_
              refine aw_region ttOK (C := True) (hs := []) (gs := []) (rn := []) (l' := [(0, .v (.c (.ls false (.num .i64) a0))), (2, .v (.c (.p 100 0))), (4, .v (.c (.p 117 0))), (5, .v (.c (.int .i64 v11))), (6, .v (.c (.int .i64 v12))), (36, .v (.c (.bool (decide (v11 ≥ (0 : Int))))))]) (h' := [(100, .bx [.int .i64 v13, .nl, .nl]), (117, .bx [.int .i64 v14, .ls false (.pr (.num .i64) (.num .i64)) v15, .nl])]) (by kernel_rfl) trivial ?_
              refine aw_if (decide (v11 ≥ (0 : Int))) (by kernel_rfl) (fun hb => ?_) (fun hb => ?_)
              · rw [ite_t hb] at h
                obtain ⟨v16, ev16, h⟩ := bind_some h
                refine aw_region ttOK (C := (ACall Try.prog 28 [.v (.ag [.int .i64 v14, .ls false (.pr (.num .i64) (.num .i64)) v15, .ls false (.num .i64) ([] : List Int)]), .v (.c (.int .i64 v11)), .v (.c (.int .i64 v11))] [] [] (.tu [.ag [.int .i64 v14, .ls false (.pr (.num .i64) (.num .i64)) v16.2, .nl], .c (.int .i64 v16.1)]) []) ∧ True) (hs := [(3, { call := some { f := 28, casts := [.ags [.same, .same, .nil (.num .i64)], .same, .same], r := .tu [.ag [.int .i64 v14, .ls false (.pr (.num .i64) (.num .i64)) v16.2, .nl], .c (.int .i64 v16.1)] } })]) (gs := []) (rn := []) (l' := [(0, .v (.c (.ls false (.num .i64) a0))), (2, .v (.c (.p 100 0))), (4, .v (.c (.p 117 0))), (5, .v (.c (.int .i64 v16.1))), (6, .v (.c (.int .i64 v12)))]) (h' := [(100, .bx [.int .i64 v13, .nl, .nl]), (117, .bx [.int .i64 v14, .ls false (.pr (.num .i64) (.num .i64)) v16.2, .nl])]) (by kernel_rfl) ⟨(F_s_meTimes_ok ev16), trivial⟩ ?_
                exact ⟨(v16.1, v16.2), h, rfl, rfl⟩
              · rw [ite_f hb] at h
                refine aw_ghost (gs := []) (rn := []) (l' := [(0, .v (.c (.ls false (.num .i64) a0))), (2, .v (.c (.p 100 0))), (4, .v (.c (.p 117 0))), (5, .v (.c (.int .i64 v11))), (6, .v (.c (.int .i64 v12)))]) (h' := [(100, .bx [.int .i64 v13, .nl, .nl]), (117, .bx [.int .i64 v14, .ls false (.pr (.num .i64) (.num .i64)) v15, .nl])]) (by kernel_rfl) ?_
                refine aw_skip ?_
                exact ⟨(v11, v15), h, rfl, rfl⟩
        · rw [ite_f hb] at h
          refine aw_ghost (gs := []) (rn := []) (l' := [(2, .v (.c (.p 100 0))), (4, .v (.c (.p 117 0))), (5, .v (.c (.int .i64 v11)))]) (h' := [(100, .bx [.int .i64 v13, .nl, .nl]), (117, .bx [.int .i64 v14, .ls false (.pr (.num .i64) (.num .i64)) v15, .nl])]) (by kernel_rfl) ?_
          refine aw_exit ?_
          exact ⟨(v11, v13, v14, v15), h, rfl, rfl⟩

theorem F_l_pSameSteps_ok {fu : Nat} {a0 : List (Int × Int)} {a1 : List (Int × Int)} {r : Bool} (h : F_l_pSameSteps fu a0 a1 = some r) :
    ACall Try.prog 31 [.v (.c (.ls false (.pr (.num .i64) (.num .i64)) a0)), .v (.c (.ls false (.pr (.num .i64) (.num .i64)) a1))] [] [] (.v (.c (.bool r))) [] := by
  unfold F_l_pSameSteps at h
  refine acall_of_aw ttOK Try.func31 (by kernel_rfl) (c := _) rfl (N := 26) (by kernel_rfl) (Nat.le_of_ble_eq_true rfl) ?_
  refine aw_seq ?_
  refine aw_region ttOK (C := True) (hs := []) (gs := []) (rn := []) (l' := [(0, .v (.c (.ls false (.pr (.num .i64) (.num .i64)) a0))), (1, .v (.c (.ls false (.pr (.num .i64) (.num .i64)) a1)))]) (h' := []) (by kernel_rfl) trivial ?_
  refine aw_seq ?_
  refine aw_seq ?_
  refine aw_region ttOK (C := True) (hs := []) (gs := []) (rn := []) (l' := [(0, .v (.c (.ls false (.pr (.num .i64) (.num .i64)) a0))), (1, .v (.c (.ls false (.pr (.num .i64) (.num .i64)) a1))), (10, .v (.c (.bool ((List.length a0 : Int) != (List.length a1 : Int)))))]) (h' := []) (by kernel_rfl) trivial ?_
  refine aw_if ((List.length a0 : Int) != (List.length a1 : Int)) (by kernel_rfl) (fun hb => ?_) (fun hb => ?_)
  · rw [ite_t hb] at h
    refine aw_seq ?_
    refine aw_region ttOK (C := True) (hs := []) (gs := []) (rn := []) (l' := [(4, .v (.c (.bool false)))]) (h' := []) (by kernel_rfl) trivial ?_
    refine aw_ghost (gs := []) (rn := []) (l' := [(4, .v (.c (.bool false)))]) (h' := []) (by kernel_rfl) ?_
    refine aw_ret (ret_ok [] ?_)
    cases h
    kernel_rfl
  · rw [ite_f hb] at h
    refine aw_ghost (gs := []) (rn := []) (l' := [(0, .v (.c (.ls false (.pr (.num .i64) (.num .i64)) a0))), (1, .v (.c (.ls false (.pr (.num .i64) (.num .i64)) a1)))]) (h' := []) (by kernel_rfl) ?_
    refine aw_skip ?_
    refine aw_join (X := Unit) (fun x => ([], [])) (fun x => F_l_pSameStepsJ1 fu = some r) ?_ ?_
    · rintro _ h
      unfold F_l_pSameStepsJ1 at h
      refine aw_seq ?_
      refine aw_region ttOK (C := True) (hs := []) (gs := []) (rn := []) (l' := [(4, .v (.c (.bool true)))]) (h' := []) (by kernel_rfl) trivial ?_
      refine aw_ghost (gs := []) (rn := []) (l' := [(4, .v (.c (.bool true)))]) (h' := []) (by kernel_rfl) ?_
      refine aw_ret (ret_ok [] ?_)
      cases h
      kernel_rfl
    · refine aw_seq ?_
      refine aw_region ttOK (C := True) (hs := []) (gs := []) (rn := []) (l' := [(0, .v (.c (.ls false (.pr (.num .i64) (.num .i64)) a0))), (1, .v (.c (.ls false (.pr (.num .i64) (.num .i64)) a1))), (12, .v (.c (.int .i64 (List.length a0 : Int)))), (13, .v (.c (.int .i64 (0 : Int))))]) (h' := []) (by kernel_rfl) trivial ?_
      refine aw_block ?_
      refine aw_loopF (X := Int) (fun x => ([(0, .v (.c (.ls false (.pr (.num .i64) (.num .i64)) a0))), (1, .v (.c (.ls false (.pr (.num .i64) (.num .i64)) a1))), (12, .v (.c (.int .i64 (List.length a0 : Int)))), (13, .v (.c (.int .i64 x)))], [])) (fun n x => F_l_pSameStepsL2 fu a0 a1 n x = some r) fu (0 : Int) h ?_
      rintro n2 v2 h
      cases n2 with
      | zero => first | cases h | (rw [F_l_pSameStepsL2] at h; cases h)
      | succ n2 =>
        rw [F_l_pSameStepsL2] at h
        refine aw_seq ?_
        refine aw_region ttOK (C := True) (hs := []) (gs := []) (rn := []) (l' := [(0, .v (.c (.ls false (.pr (.num .i64) (.num .i64)) a0))), (1, .v (.c (.ls false (.pr (.num .i64) (.num .i64)) a1))), (12, .v (.c (.int .i64 (List.length a0 : Int)))), (13, .v (.c (.int .i64 v2))), (14, .v (.c (.bool (decide (v2 < (List.length a0 : Int))))))]) (h' := []) (by kernel_rfl) trivial ?_
        refine aw_seq ?_
        refine aw_if (decide (v2 < (List.length a0 : Int))) (by kernel_rfl) (fun hb => ?_) (fun hb => ?_)
        · rw [ite_t hb] at h
          refine aw_ghost (gs := []) (rn := []) (l' := [(0, .v (.c (.ls false (.pr (.num .i64) (.num .i64)) a0))), (1, .v (.c (.ls false (.pr (.num .i64) (.num .i64)) a1))), (12, .v (.c (.int .i64 (List.length a0 : Int)))), (13, .v (.c (.int .i64 v2)))]) (h' := []) (by kernel_rfl) ?_
          refine aw_skip ?_
          refine aw_seq ?_
          refine aw_block ?_
          refine aw_seq ?_
          refine aw_region ttOK (C := True) (hs := []) (gs := []) (rn := []) (l' := [(0, .v (.c (.ls false (.pr (.num .i64) (.num .i64)) a0))), (1, .v (.c (.ls false (.pr (.num .i64) (.num .i64)) a1))), (5, .v (.c (.int .i64 v2))), (12, .v (.c (.int .i64 (List.length a0 : Int)))), (13, .v (.c (.int .i64 v2)))]) (h' := []) (by kernel_rfl) trivial ?_
          refine aw_seq ?_
          obtain ⟨⟨c0, c1⟩, h⟩ := chk_some h
          refine aw_draw ttOK ttMix (C := (0 ≤ v2 ∧ v2 < (List.length a0 : Int)) ∧ (0 ≤ v2 ∧ v2 < (List.length a1 : Int)) ∧ True) (hs := []) (anc := []) (tch := []) (gs := []) (rn := []) (l' := [(0, .v (.c (.ls false (.pr (.num .i64) (.num .i64)) a0))), (1, .v (.c (.ls false (.pr (.num .i64) (.num .i64)) a1))), (12, .v (.c (.int .i64 (List.length a0 : Int)))), (13, .v (.c (.int .i64 v2))), (24, .v (.c (.bool (!(([(List.getD a0 (v2).toNat ((0 : Int), (0 : Int))).1, (List.getD a0 (v2).toNat ((0 : Int), (0 : Int))).2] : List Int) == [(List.getD a1 (v2).toNat ((0 : Int), (0 : Int))).1, (List.getD a1 (v2).toNat ((0 : Int), (0 : Int))).2])))))]) (h' := []) (by kernel_rfl) ⟨c0, c1, trivial⟩ ?_
          refine aw_if (!(([(List.getD a0 (v2).toNat ((0 : Int), (0 : Int))).1, (List.getD a0 (v2).toNat ((0 : Int), (0 : Int))).2] : List Int) == [(List.getD a1 (v2).toNat ((0 : Int), (0 : Int))).1, (List.getD a1 (v2).toNat ((0 : Int), (0 : Int))).2])) (by kernel_rfl) (fun hb => ?_) (fun hb => ?_)
          · rw [ite_t hb] at h
            refine aw_seq ?_
            refine aw_region ttOK (C := True) (hs := []) (gs := []) (rn := []) (l' := [(4, .v (.c (.bool false)))]) (h' := []) (by kernel_rfl) trivial ?_
            refine aw_ghost (gs := []) (rn := []) (l' := [(4, .v (.c (.bool false)))]) (h' := []) (by kernel_rfl) ?_
            refine aw_ret (ret_ok [] ?_)
            cases h
            kernel_rfl
          · rw [ite_f hb] at h
            refine aw_ghost (gs := []) (rn := []) (l' := [(0, .v (.c (.ls false (.pr (.num .i64) (.num .i64)) a0))), (1, .v (.c (.ls false (.pr (.num .i64) (.num .i64)) a1))), (12, .v (.c (.int .i64 (List.length a0 : Int)))), (13, .v (.c (.int .i64 v2)))]) (h' := []) (by kernel_rfl) ?_
            refine aw_skip ?_
            refine aw_region ttOK (C := True) (hs := []) (gs := []) (rn := []) (l' := [(0, .v (.c (.ls false (.pr (.num .i64) (.num .i64)) a0))), (1, .v (.c (.ls false (.pr (.num .i64) (.num .i64)) a1))), (12, .v (.c (.int .i64 (List.length a0 : Int)))), (13, .v (.c (.int .i64 (IntKind.i64.wrap (v2 + (1 : Int))))))]) (h' := []) (by kernel_rfl) trivial ?_
            exact ⟨_, (IntKind.i64.wrap (v2 + (1 : Int))), Nat.lt_succ_self _, h, rfl, rfl⟩
        · rw [ite_f hb] at h
          refine aw_ghost (gs := []) (rn := []) (l' := []) (h' := []) (by kernel_rfl) ?_
          refine aw_exit ?_
          exact ⟨(), h, rfl, rfl⟩

theorem F_l_pSameInts_ok {fu : Nat} {a0 : List Int} {a1 : List Int} {r : Bool} (h : F_l_pSameInts fu a0 a1 = some r) :
    ACall Try.prog 10 [.v (.c (.ls false (.num .i64) a0)), .v (.c (.ls false (.num .i64) a1))] [] [] (.v (.c (.bool r))) [] := by
  unfold F_l_pSameInts at h
  refine acall_of_aw ttOK Try.func10 (by kernel_rfl) (c := _) rfl (N := 26) (by kernel_rfl) (Nat.le_of_ble_eq_true rfl) ?_
  refine aw_seq ?_
  refine aw_region ttOK (C := True) (hs := []) (gs := []) (rn := []) (l' := [(0, .v (.c (.ls false (.num .i64) a0))), (1, .v (.c (.ls false (.num .i64) a1)))]) (h' := []) (by kernel_rfl) trivial ?_
  refine aw_seq ?_
  refine aw_seq ?_
  refine aw_region ttOK (C := True) (hs := []) (gs := []) (rn := []) (l' := [(0, .v (.c (.ls false (.num .i64) a0))), (1, .v (.c (.ls false (.num .i64) a1))), (10, .v (.c (.bool ((List.length a0 : Int) != (List.length a1 : Int)))))]) (h' := []) (by kernel_rfl) trivial ?_
  refine aw_if ((List.length a0 : Int) != (List.length a1 : Int)) (by kernel_rfl) (fun hb => ?_) (fun hb => ?_)
  · rw [ite_t hb] at h
    refine aw_seq ?_
    refine aw_region ttOK (C := True) (hs := []) (gs := []) (rn := []) (l' := [(4, .v (.c (.bool false)))]) (h' := []) (by kernel_rfl) trivial ?_
    refine aw_ghost (gs := []) (rn := []) (l' := [(4, .v (.c (.bool false)))]) (h' := []) (by kernel_rfl) ?_
    refine aw_ret (ret_ok [] ?_)
    cases h
    kernel_rfl
  · rw [ite_f hb] at h
    refine aw_ghost (gs := []) (rn := []) (l' := [(0, .v (.c (.ls false (.num .i64) a0))), (1, .v (.c (.ls false (.num .i64) a1)))]) (h' := []) (by kernel_rfl) ?_
    refine aw_skip ?_
    refine aw_join (X := Unit) (fun x => ([], [])) (fun x => F_l_pSameIntsJ1 fu = some r) ?_ ?_
    · rintro _ h
      unfold F_l_pSameIntsJ1 at h
      refine aw_seq ?_
      refine aw_region ttOK (C := True) (hs := []) (gs := []) (rn := []) (l' := [(4, .v (.c (.bool true)))]) (h' := []) (by kernel_rfl) trivial ?_
      refine aw_ghost (gs := []) (rn := []) (l' := [(4, .v (.c (.bool true)))]) (h' := []) (by kernel_rfl) ?_
      refine aw_ret (ret_ok [] ?_)
      cases h
      kernel_rfl
    · refine aw_seq ?_
      refine aw_region ttOK (C := True) (hs := []) (gs := []) (rn := []) (l' := [(0, .v (.c (.ls false (.num .i64) a0))), (1, .v (.c (.ls false (.num .i64) a1))), (12, .v (.c (.int .i64 (List.length a0 : Int)))), (13, .v (.c (.int .i64 (0 : Int))))]) (h' := []) (by kernel_rfl) trivial ?_
      refine aw_block ?_
      refine aw_loopF (X := Int) (fun x => ([(0, .v (.c (.ls false (.num .i64) a0))), (1, .v (.c (.ls false (.num .i64) a1))), (12, .v (.c (.int .i64 (List.length a0 : Int)))), (13, .v (.c (.int .i64 x)))], [])) (fun n x => F_l_pSameIntsL2 fu a0 a1 n x = some r) fu (0 : Int) h ?_
      rintro n2 v2 h
      cases n2 with
      | zero => first | cases h | (rw [F_l_pSameIntsL2] at h; cases h)
      | succ n2 =>
        rw [F_l_pSameIntsL2] at h
        refine aw_seq ?_
        refine aw_region ttOK (C := True) (hs := []) (gs := []) (rn := []) (l' := [(0, .v (.c (.ls false (.num .i64) a0))), (1, .v (.c (.ls false (.num .i64) a1))), (12, .v (.c (.int .i64 (List.length a0 : Int)))), (13, .v (.c (.int .i64 v2))), (14, .v (.c (.bool (decide (v2 < (List.length a0 : Int))))))]) (h' := []) (by kernel_rfl) trivial ?_
        refine aw_seq ?_
        refine aw_if (decide (v2 < (List.length a0 : Int))) (by kernel_rfl) (fun hb => ?_) (fun hb => ?_)
        · rw [ite_t hb] at h
          refine aw_ghost (gs := []) (rn := []) (l' := [(0, .v (.c (.ls false (.num .i64) a0))), (1, .v (.c (.ls false (.num .i64) a1))), (12, .v (.c (.int .i64 (List.length a0 : Int)))), (13, .v (.c (.int .i64 v2)))]) (h' := []) (by kernel_rfl) ?_
          refine aw_skip ?_
          refine aw_seq ?_
          refine aw_block ?_
          refine aw_seq ?_
          refine aw_region ttOK (C := True) (hs := []) (gs := []) (rn := []) (l' := [(0, .v (.c (.ls false (.num .i64) a0))), (1, .v (.c (.ls false (.num .i64) a1))), (5, .v (.c (.int .i64 v2))), (12, .v (.c (.int .i64 (List.length a0 : Int)))), (13, .v (.c (.int .i64 v2)))]) (h' := []) (by kernel_rfl) trivial ?_
          refine aw_seq ?_
          obtain ⟨⟨c0, c1⟩, h⟩ := chk_some h
          refine aw_draw ttOK ttMix (C := (0 ≤ v2 ∧ v2 < (List.length a0 : Int)) ∧ (0 ≤ v2 ∧ v2 < (List.length a1 : Int)) ∧ True) (hs := []) (anc := []) (tch := []) (gs := []) (rn := []) (l' := [(0, .v (.c (.ls false (.num .i64) a0))), (1, .v (.c (.ls false (.num .i64) a1))), (12, .v (.c (.int .i64 (List.length a0 : Int)))), (13, .v (.c (.int .i64 v2))), (24, .v (.c (.bool ((List.getD a0 (v2).toNat (0 : Int)) != (List.getD a1 (v2).toNat (0 : Int))))))]) (h' := []) (by kernel_rfl) ⟨c0, c1, trivial⟩ ?_
          refine aw_if ((List.getD a0 (v2).toNat (0 : Int)) != (List.getD a1 (v2).toNat (0 : Int))) (by kernel_rfl) (fun hb => ?_) (fun hb => ?_)
          · rw [ite_t hb] at h
            refine aw_seq ?_
            refine aw_region ttOK (C := True) (hs := []) (gs := []) (rn := []) (l' := [(4, .v (.c (.bool false)))]) (h' := []) (by kernel_rfl) trivial ?_
            refine aw_ghost (gs := []) (rn := []) (l' := [(4, .v (.c (.bool false)))]) (h' := []) (by kernel_rfl) ?_
            refine aw_ret (ret_ok [] ?_)
            cases h
            kernel_rfl
          · rw [ite_f hb] at h
            refine aw_ghost (gs := []) (rn := []) (l' := [(0, .v (.c (.ls false (.num .i64) a0))), (1, .v (.c (.ls false (.num .i64) a1))), (12, .v (.c (.int .i64 (List.length a0 : Int)))), (13, .v (.c (.int .i64 v2)))]) (h' := []) (by kernel_rfl) ?_
            refine aw_skip ?_
            refine aw_region ttOK (C := True) (hs := []) (gs := []) (rn := []) (l' := [(0, .v (.c (.ls false (.num .i64) a0))), (1, .v (.c (.ls false (.num .i64) a1))), (12, .v (.c (.int .i64 (List.length a0 : Int)))), (13, .v (.c (.int .i64 (IntKind.i64.wrap (v2 + (1 : Int))))))]) (h' := []) (by kernel_rfl) trivial ?_
            exact ⟨_, (IntKind.i64.wrap (v2 + (1 : Int))), Nat.lt_succ_self _, h, rfl, rfl⟩
        · rw [ite_f hb] at h
          refine aw_ghost (gs := []) (rn := []) (l' := []) (h' := []) (by kernel_rfl) ?_
          refine aw_exit ?_
          exact ⟨(), h, rfl, rfl⟩

theorem F_l_pSamePlan_ok {fu : Nat} {a0 : Int} {a1 : List (Int × Int)} {a2 : List Int} {a3 : Int} {a4 : List (Int × Int)} {a5 : List Int} {r : Bool} (h : F_l_pSamePlan fu a0 a1 a2 a3 a4 a5 = some r) :
    ACall Try.prog 8 [.v (.ag [.int .i64 a0, .ls false (.pr (.num .i64) (.num .i64)) a1, .ls false (.num .i64) a2]), .v (.ag [.int .i64 a3, .ls false (.pr (.num .i64) (.num .i64)) a4, .ls false (.num .i64) a5])] [] [] (.v (.c (.bool r))) [] := by
  unfold F_l_pSamePlan at h
  refine acall_of_aw ttOK Try.func8 (by kernel_rfl) (c := _) rfl (N := 24) (by kernel_rfl) (Nat.le_of_ble_eq_true rfl) ?_
  refine aw_seq ?_
  refine aw_region ttOK (C := True) (hs := [(0, { id := 100 }), (1, { id := 101 })]) (gs := []) (rn := []) (l' := [(2, .v (.c (.p 100 0))), (3, .v (.c (.p 101 0)))]) (h' := [(100, .bx [.int .i64 a0, .ls false (.pr (.num .i64) (.num .i64)) a1, .ls false (.num .i64) a2]), (101, .bx [.int .i64 a3, .ls false (.pr (.num .i64) (.num .i64)) a4, .ls false (.num .i64) a5])]) (by kernel_rfl) trivial ?_
  refine aw_seq ?_
  obtain ⟨v1, ev1, h⟩ := bind_some h
  obtain ⟨v2, ev2, h⟩ := bind_some h
  refine aw_region ttOK (C := (((a0 == a3) == true) = true → ((a0 == a3) == true) = true) ∧ (((a0 == a3) == true) = true → ((a0 == a3) == true) = true) ∧ (((a0 == a3) == true) = true → ((a0 == a3) == true) = true) ∧ (((a0 == a3) == true) = true → ((a0 == a3) == true) = true) ∧ (((a0 == a3) == true) = true → ACall Try.prog 31 [.v (.c (.ls false (.pr (.num .i64) (.num .i64)) a1)), .v (.c (.ls false (.pr (.num .i64) (.num .i64)) a4))] [] [] (.v (.c (.bool v1))) []) ∧ ((a0 == a3) = true → ((a0 == a3) == true) = true) ∧ (((cond (a0 == a3) v1 false) == true) = true → ((cond (a0 == a3) v1 false) == true) = true) ∧ (((cond (a0 == a3) v1 false) == true) = true → ((cond (a0 == a3) v1 false) == true) = true) ∧ (((cond (a0 == a3) v1 false) == true) = true → ((cond (a0 == a3) v1 false) == true) = true) ∧ (((cond (a0 == a3) v1 false) == true) = true → ((cond (a0 == a3) v1 false) == true) = true) ∧ (((cond (a0 == a3) v1 false) == true) = true → ACall Try.prog 10 [.v (.c (.ls false (.num .i64) a2)), .v (.c (.ls false (.num .i64) a5))] [] [] (.v (.c (.bool v2))) []) ∧ ((cond (a0 == a3) v1 false) = true → ((cond (a0 == a3) v1 false) == true) = true) ∧ True) (hs := [(10, { call := some { f := 31, casts := [.same, .same], r := .v (.c (.bool v1)) } }), (17, { call := some { f := 10, casts := [.same, .same], r := .v (.c (.bool v2)) } })]) (gs := []) (rn := []) (l' := [(4, .v (.c (.bool (cond (cond (a0 == a3) v1 false) v2 false))))]) (h' := []) (by kernel_rfl) ⟨(fun h => h), (fun h => h), (fun h => h), (fun h => h), (fun hg => (F_l_pSameSteps_ok (gcl_some ev1 hg))), (fun h => beq_iff_eq.2 h), (fun h => h), (fun h => h), (fun h => h), (fun h => h), (fun hg => (F_l_pSameInts_ok (gcl_some ev2 hg))), (fun h => beq_iff_eq.2 h), trivial⟩ ?_
  refine aw_ghost (gs := []) (rn := []) (l' := [(4, .v (.c (.bool (cond (cond (a0 == a3) v1 false) v2 false))))]) (h' := []) (by kernel_rfl) ?_
  refine aw_ret (ret_ok [] ?_)
  cases h
  kernel_rfl

theorem F_slices_Clone_Lint_int_ok {fu : Nat} {a0 : List Int} {r : List Int} (h : F_slices_Clone_Lint_int fu a0 = some r) :
    ACall Try.prog 50 [.v (.c (.ls false (.num .i64) a0))] [] [] (.v (.c (.ho 0))) [.vc 3 (.num .i64) r] := by
  unfold F_slices_Clone_Lint_int at h
  refine acall_of_aw ttOK Try.func50 (by kernel_rfl) (c := _) rfl (N := 8) (by kernel_rfl) (Nat.le_of_ble_eq_true rfl) ?_
  refine aw_seq ?_
  refine aw_region ttOK (C := True) (hs := []) (gs := []) (rn := []) (l' := [(0, .v (.c (.ls false (.num .i64) a0)))]) (h' := []) (by kernel_rfl) trivial ?_
  refine aw_seq ?_
  refine aw_seq ?_
  obtain ⟨c0, h⟩ := chk_some h
  refine aw_region ttOK (C := (List.length a0 ≠ 0) ∧ True) (hs := []) (gs := []) (rn := []) (l' := [(0, .v (.c (.ls false (.num .i64) a0))), (4, .v (.c (.bool false)))]) (h' := []) (by kernel_rfl) ⟨c0, trivial⟩ ?_
  refine aw_if false (by kernel_rfl) (fun hb => by cases hb) (fun hb => ?_)
  refine aw_ghost (gs := []) (rn := []) (l' := [(0, .v (.c (.ls false (.num .i64) a0)))]) (h' := []) (by kernel_rfl) ?_
  refine aw_skip ?_
  refine aw_seq ?_
  obtain ⟨c0, h⟩ := chk_some h
  refine aw_region ttOK (C := ((List.length ([] : List Int) + List.length a0) * 8 ≤ 140737488355328) ∧ True) (hs := [(0, { id := 103 }), (2, { id := 105 })]) (gs := []) (rn := []) (l' := [(2, .v (.c (.ho 105)))]) (h' := [(105, .vc 3 (.num .i64) (([] : List Int) ++ a0))]) (by kernel_rfl) ⟨c0, trivial⟩ ?_
  refine aw_ghost (gs := []) (rn := []) (l' := [(2, .v (.c (.ho 105)))]) (h' := [(105, .vc 3 (.num .i64) (([] : List Int) ++ a0))]) (by kernel_rfl) ?_
  refine aw_ret (ret_ok [105] ?_)
  cases h
  kernel_rfl

theorem F_i_Plan_outputExponents_wze_ok {fu : Nat} {a0 : Int} {a1 : List (Int × Int)} {a2 : List Int} {r : List (List Int)} (h : F_i_Plan_outputExponents_wze fu a0 a1 a2 = some r) :
    ACall Try.prog 33 [.v (.c (.p 0 0))] [.bx [.int .i64 a0, .ls false (.pr (.num .i64) (.num .i64)) a1, .ls false (.num .i64) a2]] [0] (.v (.c (.ho 1))) [.bx [.int .i64 a0, .ls false (.pr (.num .i64) (.num .i64)) a1, .ls false (.num .i64) a2], .vc 24 (.sl (.num .i64)) r] := by
  unfold F_i_Plan_outputExponents_wze at h
  refine acall_of_aw ttOK Try.func33 (by kernel_rfl) (c := _) rfl (N := 29) (by kernel_rfl) (Nat.le_of_ble_eq_true rfl) ?_
  refine aw_seq ?_
  refine aw_region ttOK (C := True) (hs := []) (gs := []) (rn := []) (l' := [(0, .v (.c (.p 0 0)))]) (h' := [(0, .bx [.int .i64 a0, .ls false (.pr (.num .i64) (.num .i64)) a1, .ls false (.num .i64) a2])]) (by kernel_rfl) trivial ?_
  refine aw_seq ?_
  obtain ⟨v1, ev1, h⟩ := bind_some h
  refine aw_region ttOK (C := (ACall Try.prog 48 [.v (.c (.p 0 0))] [.bx [.int .i64 a0, .ls false (.pr (.num .i64) (.num .i64)) a1, .ls false (.num .i64) a2]] [0] (.v (.c (.ho 1))) [.bx [.int .i64 a0, .ls false (.pr (.num .i64) (.num .i64)) a1, .ls false (.num .i64) a2], .vc 24 (.sl (.num .i64)) v1]) ∧ True) (hs := [(1, { call := some { f := 48, casts := [.same], sel := [0], kp := [0], r := .v (.c (.ho 1)), Hout := [.bx [.int .i64 a0, .ls false (.pr (.num .i64) (.num .i64)) a1, .ls false (.num .i64) a2], .vc 24 (.sl (.num .i64)) v1], ren := [0, 102] } }), (2, { id := 103 })]) (gs := []) (rn := []) (l' := [(0, .v (.c (.p 0 0))), (3, .v (.c (.ho 102))), (4, .v (.c (.ho 103)))]) (h' := [(0, .bx [.int .i64 a0, .ls false (.pr (.num .i64) (.num .i64)) a1, .ls false (.num .i64) a2]), (102, .vc 24 (.sl (.num .i64)) v1), (103, .vc 24 (.sl (.num .i64)) ([] : List (List Int)))]) (by kernel_rfl) ⟨(F_i_Plan_exponents_wze_ok ev1), trivial⟩ ?_
  refine aw_join (X := List (List Int)) (fun x => ([(4, .v (.c (.ho 103)))], [(0, .bx [.int .i64 a0, .ls false (.pr (.num .i64) (.num .i64)) a1, .ls false (.num .i64) a2]), (103, .vc 24 (.sl (.num .i64)) x)])) (fun x => F_i_Plan_outputExponents_wzeJ1 fu x = some r) ?_ ?_
  · rintro v2 h
    unfold F_i_Plan_outputExponents_wzeJ1 at h
    refine aw_seq ?_
    refine aw_region ttOK (C := True) (hs := []) (gs := []) (rn := []) (l' := [(2, .v (.c (.ho 103)))]) (h' := [(0, .bx [.int .i64 a0, .ls false (.pr (.num .i64) (.num .i64)) a1, .ls false (.num .i64) a2]), (103, .vc 24 (.sl (.num .i64)) v2)]) (by kernel_rfl) trivial ?_
    refine aw_ghost (gs := []) (rn := []) (l' := [(2, .v (.c (.ho 103)))]) (h' := [(0, .bx [.int .i64 a0, .ls false (.pr (.num .i64) (.num .i64)) a1, .ls false (.num .i64) a2]), (103, .vc 24 (.sl (.num .i64)) v2)]) (by kernel_rfl) ?_
    refine aw_ret (ret_ok [0, 103] ?_)
    cases h
    kernel_rfl
  · refine aw_seq ?_
    refine aw_region ttOK (C := True) (hs := []) (gs := []) (rn := []) (l' := [(3, .v (.c (.ho 102))), (4, .v (.c (.ho 103))), (13, .v (.c (.ls false (.num .i64) a2))), (14, .v (.c (.int .i64 (List.length a2 : Int)))), (15, .v (.c (.int .i64 (0 : Int))))]) (h' := [(0, .bx [.int .i64 a0, .ls false (.pr (.num .i64) (.num .i64)) a1, .ls false (.num .i64) a2]), (102, .vc 24 (.sl (.num .i64)) v1), (103, .vc 24 (.sl (.num .i64)) ([] : List (List Int)))]) (by kernel_rfl) trivial ?_
    refine aw_block ?_
    refine aw_loopF (X := Int × List (List Int)) (fun x => ([(3, .v (.c (.ho 102))), (4, .v (.c (.ho 103))), (13, .v (.c (.ls false (.num .i64) a2))), (14, .v (.c (.int .i64 (List.length a2 : Int)))), (15, .v (.c (.int .i64 x.1)))], [(0, .bx [.int .i64 a0, .ls false (.pr (.num .i64) (.num .i64)) a1, .ls false (.num .i64) a2]), (102, .vc 24 (.sl (.num .i64)) v1), (103, .vc 24 (.sl (.num .i64)) x.2)])) (fun n x => F_i_Plan_outputExponents_wzeL2 fu a2 v1 n x.1 x.2 = some r) fu ((0 : Int), ([] : List (List Int))) h ?_
    rintro n2 ⟨v4, v5⟩ h
    cases n2 with
    | zero => first | cases h | (rw [F_i_Plan_outputExponents_wzeL2] at h; cases h)
    | succ n2 =>
      rw [F_i_Plan_outputExponents_wzeL2] at h
      refine aw_seq ?_
      refine aw_region ttOK (C := True) (hs := []) (gs := []) (rn := []) (l' := [(3, .v (.c (.ho 102))), (4, .v (.c (.ho 103))), (13, .v (.c (.ls false (.num .i64) a2))), (14, .v (.c (.int .i64 (List.length a2 : Int)))), (15, .v (.c (.int .i64 v4))), (16, .v (.c (.bool (decide (v4 < (List.length a2 : Int))))))]) (h' := [(0, .bx [.int .i64 a0, .ls false (.pr (.num .i64) (.num .i64)) a1, .ls false (.num .i64) a2]), (102, .vc 24 (.sl (.num .i64)) v1), (103, .vc 24 (.sl (.num .i64)) v5)]) (by kernel_rfl) trivial ?_
      refine aw_seq ?_
      refine aw_if (decide (v4 < (List.length a2 : Int))) (by kernel_rfl) (fun hb => ?_) (fun hb => ?_)
      · rw [ite_t hb] at h
        refine aw_ghost (gs := []) (rn := []) (l' := [(3, .v (.c (.ho 102))), (4, .v (.c (.ho 103))), (13, .v (.c (.ls false (.num .i64) a2))), (14, .v (.c (.int .i64 (List.length a2 : Int)))), (15, .v (.c (.int .i64 v4)))]) (h' := [(0, .bx [.int .i64 a0, .ls false (.pr (.num .i64) (.num .i64)) a1, .ls false (.num .i64) a2]), (102, .vc 24 (.sl (.num .i64)) v1), (103, .vc 24 (.sl (.num .i64)) v5)]) (by kernel_rfl) ?_
        refine aw_skip ?_
        refine aw_seq ?_
        refine aw_block ?_
        refine aw_seq ?_
        obtain ⟨c0, h⟩ := chk_some h
        refine aw_region ttOK (C := (0 ≤ v4 ∧ v4 < (List.length a2 : Int)) ∧ True) (hs := []) (gs := []) (rn := []) (l' := [(3, .v (.c (.ho 102))), (4, .v (.c (.ho 103))), (6, .v (.c (.int .i64 (List.getD a2 (v4).toNat (0 : Int))))), (13, .v (.c (.ls false (.num .i64) a2))), (14, .v (.c (.int .i64 (List.length a2 : Int)))), (15, .v (.c (.int .i64 v4)))]) (h' := [(0, .bx [.int .i64 a0, .ls false (.pr (.num .i64) (.num .i64)) a1, .ls false (.num .i64) a2]), (102, .vc 24 (.sl (.num .i64)) v1), (103, .vc 24 (.sl (.num .i64)) v5)]) (by kernel_rfl) ⟨c0, trivial⟩ ?_
        obtain ⟨c0, h⟩ := chk_some h
        obtain ⟨v6, ev6, h⟩ := bind_some h
        obtain ⟨c1, h⟩ := chk_some h
        refine aw_region ttOK (C := (0 ≤ (List.getD a2 (v4).toNat (0 : Int)) ∧ (List.getD a2 (v4).toNat (0 : Int)) < (List.length v1 : Int)) ∧ (ACall Try.prog 50 [.v (.c (.ls false (.num .i64) (List.getD v1 ((List.getD a2 (v4).toNat (0 : Int))).toNat ([] : List Int))))] [] [] (.v (.c (.ho 0))) [.vc 3 (.num .i64) v6]) ∧ ((List.length v5 + List.length ([v6] : List (List Int))) * 24 ≤ 140737488355328) ∧ True) (hs := [(5, { call := some { f := 50, casts := [.same], r := .v (.c (.ho 0)), Hout := [.vc 3 (.num .i64) v6], ren := [121] } }), (6, { id := 122, frz := [121] }), (7, { id := 123 })]) (gs := []) (rn := []) (l' := [(3, .v (.c (.ho 102))), (4, .v (.c (.ho 123))), (13, .v (.c (.ls false (.num .i64) a2))), (14, .v (.c (.int .i64 (List.length a2 : Int)))), (15, .v (.c (.int .i64 v4)))]) (h' := [(0, .bx [.int .i64 a0, .ls false (.pr (.num .i64) (.num .i64)) a1, .ls false (.num .i64) a2]), (102, .vc 24 (.sl (.num .i64)) v1), (123, .vc 24 (.sl (.num .i64)) (v5 ++ ([v6] : List (List Int))))]) (by kernel_rfl) ⟨c0, (F_slices_Clone_Lint_int_ok ev6), c1, trivial⟩ ?_
        refine aw_region ttOK (C := True) (hs := []) (gs := []) (rn := [(123, 103)]) (l' := [(3, .v (.c (.ho 102))), (4, .v (.c (.ho 103))), (13, .v (.c (.ls false (.num .i64) a2))), (14, .v (.c (.int .i64 (List.length a2 : Int)))), (15, .v (.c (.int .i64 (IntKind.i64.wrap (v4 + (1 : Int))))))]) (h' := [(0, .bx [.int .i64 a0, .ls false (.pr (.num .i64) (.num .i64)) a1, .ls false (.num .i64) a2]), (102, .vc 24 (.sl (.num .i64)) v1), (103, .vc 24 (.sl (.num .i64)) (v5 ++ ([v6] : List (List Int))))]) (by kernel_rfl) trivial ?_
        exact ⟨_, ((IntKind.i64.wrap (v4 + (1 : Int))), (v5 ++ ([v6] : List (List Int)))), Nat.lt_succ_self _, h, rfl, rfl⟩
      · rw [ite_f hb] at h
        refine aw_ghost (gs := []) (rn := []) (l' := [(4, .v (.c (.ho 103)))]) (h' := [(0, .bx [.int .i64 a0, .ls false (.pr (.num .i64) (.num .i64)) a1, .ls false (.num .i64) a2]), (103, .vc 24 (.sl (.num .i64)) v5)]) (by kernel_rfl) ?_
        refine aw_exit ?_
        exact ⟨v5, h, rfl, rfl⟩

theorem F_i_OutputExponents_ok {fu : Nat} {a0 : Int} {a1 : List (Int × Int)} {a2 : List Int} {r : Bool × List (List Int)} (h : F_i_OutputExponents fu a0 a1 a2 = some r) :
    ACall Try.prog 9 [.v (.ag [.int .i64 a0, .ls false (.pr (.num .i64) (.num .i64)) a1, .ls false (.num .i64) a2])] [] [] (.tu [.c (.ho 0), .c (.bool r.1)]) [.vc 24 (.sl (.num .i64)) r.2] := by
  unfold F_i_OutputExponents at h
  refine acall_of_aw ttOK Try.func9 (by kernel_rfl) (c := _) rfl (N := 8) (by kernel_rfl) (Nat.le_of_ble_eq_true rfl) ?_
  refine aw_seq ?_
  refine aw_region ttOK (C := True) (hs := [(0, { id := 100 })]) (gs := []) (rn := []) (l' := [(1, .v (.c (.p 100 0)))]) (h' := [(100, .bx [.int .i64 a0, .ls false (.pr (.num .i64) (.num .i64)) a1, .ls false (.num .i64) a2])]) (by kernel_rfl) trivial ?_
  refine aw_seq ?_
  refine aw_seq ?_
  obtain ⟨v1, ev1, h⟩ := bind_some h
  refine aw_region ttOK (C := (ACall Try.prog 32 [.v (.ag [.int .i64 a0, .ls false (.pr (.num .i64) (.num .i64)) a1, .ls false (.num .i64) a2])] [] [] (.v (.c (.bool v1))) []) ∧ True) (hs := [(1, { call := some { f := 32, casts := [.same], r := .v (.c (.bool v1)) } })]) (gs := []) (rn := []) (l' := [(1, .v (.c (.p 100 0))), (6, .v (.c (.bool (!v1))))]) (h' := [(100, .bx [.int .i64 a0, .ls false (.pr (.num .i64) (.num .i64)) a1, .ls false (.num .i64) a2])]) (by kernel_rfl) ⟨(F_i_IsPlan_ok ev1), trivial⟩ ?_
  refine aw_if (!v1) (by kernel_rfl) (fun hb => ?_) (fun hb => ?_)
  · rw [ite_t hb] at h
    refine aw_seq ?_
    refine aw_region ttOK (C := True) (hs := []) (gs := []) (rn := []) (l' := [(2, .v (.c (.nl))), (3, .v (.c (.bool false)))]) (h' := []) (by kernel_rfl) trivial ?_
    refine aw_ghost (gs := [.own 2 950 24 (.sl (.num .i64))]) (rn := []) (l' := [(2, .v (.c (.ho 950))), (3, .v (.c (.bool false)))]) (h' := [(950, .vc 24 (.sl (.num .i64)) ([] : List (List Int)))]) (by kernel_rfl) ?_
    refine aw_ret (ret_ok [950] ?_)
    cases h
    kernel_rfl
  · rw [ite_f hb] at h
    refine aw_ghost (gs := []) (rn := []) (l' := [(1, .v (.c (.p 100 0)))]) (h' := [(100, .bx [.int .i64 a0, .ls false (.pr (.num .i64) (.num .i64)) a1, .ls false (.num .i64) a2])]) (by kernel_rfl) ?_
    refine aw_skip ?_
    refine aw_seq ?_
    obtain ⟨v2, ev2, h⟩ := bind_some h
    refine aw_region ttOK (C := (ACall Try.prog 33 [.v (.c (.p 0 0))] [.bx [.int .i64 a0, .ls false (.pr (.num .i64) (.num .i64)) a1, .ls false (.num .i64) a2]] [0] (.v (.c (.ho 1))) [.bx [.int .i64 a0, .ls false (.pr (.num .i64) (.num .i64)) a1, .ls false (.num .i64) a2], .vc 24 (.sl (.num .i64)) v2]) ∧ True) (hs := [(0, { call := some { f := 33, casts := [.same], sel := [100], kp := [0], r := .v (.c (.ho 1)), Hout := [.bx [.int .i64 a0, .ls false (.pr (.num .i64) (.num .i64)) a1, .ls false (.num .i64) a2], .vc 24 (.sl (.num .i64)) v2], ren := [100, 107] } })]) (gs := []) (rn := []) (l' := [(2, .v (.c (.ho 107))), (3, .v (.c (.bool true)))]) (h' := [(107, .vc 24 (.sl (.num .i64)) v2)]) (by kernel_rfl) ⟨(F_i_Plan_outputExponents_wze_ok ev2), trivial⟩ ?_
    refine aw_ghost (gs := []) (rn := [(107, 950)]) (l' := [(2, .v (.c (.ho 950))), (3, .v (.c (.bool true)))]) (h' := [(950, .vc 24 (.sl (.num .i64)) v2)]) (by kernel_rfl) ?_
    refine aw_ret (ret_ok [950] ?_)
    cases h
    kernel_rfl

theorem F_i_isNumber_ok {fu : Nat} {a0 : Int} {r : Bool} (h : F_i_isNumber fu a0 = some r) :
    ACall Try.prog 34 [.v (.c (.int .i64 a0))] [] [] (.v (.c (.bool r))) [] := by
  unfold F_i_isNumber at h
  refine acall_of_aw ttOK Try.func34 (by kernel_rfl) (c := _) rfl (N := 5) (by kernel_rfl) (Nat.le_of_ble_eq_true rfl) ?_
  refine aw_seq ?_
  refine aw_region ttOK (C := True) (hs := []) (gs := []) (rn := []) (l' := [(0, .v (.c (.int .i64 a0)))]) (h' := []) (by kernel_rfl) trivial ?_
  refine aw_seq ?_
  obtain ⟨v1, ev1, h⟩ := bind_some h
  refine aw_region ttOK (C := (ACall Try.prog 14 [.v (.c (.int .i64 a0)), .v (.c (.int .i64 (1 : Int))), .v (.c (.int .i64 (1000000 : Int)))] [] [] (.v (.c (.bool v1))) []) ∧ True) (hs := [(1, { call := some { f := 14, casts := [.same, .same, .same], r := .v (.c (.bool v1)) } })]) (gs := []) (rn := []) (l' := [(2, .v (.c (.bool v1)))]) (h' := []) (by kernel_rfl) ⟨(F_i_in_ok ev1), trivial⟩ ?_
  refine aw_ghost (gs := []) (rn := []) (l' := [(2, .v (.c (.bool v1)))]) (h' := []) (by kernel_rfl) ?_
  refine aw_ret (ret_ok [] ?_)
  cases h
  kernel_rfl

theorem F_i_BitLength_ok {fu : Nat} {a0 : Int} {r : Int × Bool} (h : F_i_BitLength fu a0 = some r) :
    ACall Try.prog 11 [.v (.c (.int .i64 a0))] [] [] (.tu [.c (.int .i64 r.1), .c (.bool r.2)]) [] := by
  unfold F_i_BitLength at h
  refine acall_of_aw ttOK Try.func11 (by kernel_rfl) (c := _) rfl (N := 10) (by kernel_rfl) (Nat.le_of_ble_eq_true rfl) ?_
  refine aw_seq ?_
  refine aw_region ttOK (C := True) (hs := []) (gs := []) (rn := []) (l' := [(0, .v (.c (.int .i64 a0)))]) (h' := []) (by kernel_rfl) trivial ?_
  refine aw_seq ?_
  refine aw_seq ?_
  obtain ⟨v1, ev1, h⟩ := bind_some h
  refine aw_region ttOK (C := (ACall Try.prog 34 [.v (.c (.int .i64 a0))] [] [] (.v (.c (.bool v1))) []) ∧ True) (hs := [(1, { call := some { f := 34, casts := [.same], r := .v (.c (.bool v1)) } })]) (gs := []) (rn := []) (l' := [(0, .v (.c (.int .i64 a0))), (6, .v (.c (.bool (!v1))))]) (h' := []) (by kernel_rfl) ⟨(F_i_isNumber_ok ev1), trivial⟩ ?_
  refine aw_if (!v1) (by kernel_rfl) (fun hb => ?_) (fun hb => ?_)
  · rw [ite_t hb] at h
    refine aw_seq ?_
    refine aw_region ttOK (C := True) (hs := []) (gs := []) (rn := []) (l' := [(2, .v (.c (.int .i64 (0 : Int)))), (3, .v (.c (.bool false)))]) (h' := []) (by kernel_rfl) trivial ?_
    refine aw_ghost (gs := []) (rn := []) (l' := [(2, .v (.c (.int .i64 (0 : Int)))), (3, .v (.c (.bool false)))]) (h' := []) (by kernel_rfl) ?_
    refine aw_ret (ret_ok [] ?_)
    cases h
    kernel_rfl
  · rw [ite_f hb] at h
    refine aw_ghost (gs := []) (rn := []) (l' := [(0, .v (.c (.int .i64 a0)))]) (h' := []) (by kernel_rfl) ?_
    refine aw_skip ?_
    refine aw_seq ?_
    obtain ⟨v2, ev2, h⟩ := bind_some h
    refine aw_region ttOK (C := (ACall Try.prog 19 [.v (.c (.int .u64 (IntKind.u64.wrap a0)))] [] [] (.v (.c (.int .i64 v2))) []) ∧ True) (hs := [(2, { call := some { f := 19, casts := [.same], r := .v (.c (.int .i64 v2)) } })]) (gs := []) (rn := []) (l' := [(2, .v (.c (.int .i64 v2))), (3, .v (.c (.bool true)))]) (h' := []) (by kernel_rfl) ⟨(F_bits_Len_ok ev2), trivial⟩ ?_
    refine aw_ghost (gs := []) (rn := []) (l' := [(2, .v (.c (.int .i64 v2))), (3, .v (.c (.bool true)))]) (h' := []) (by kernel_rfl) ?_
    refine aw_ret (ret_ok [] ?_)
    cases h
    kernel_rfl

theorem F_bits_OnesCount64_ok {fu : Nat} {a0 : Int} {r : Int} (h : F_bits_OnesCount64 fu a0 = some r) :
    ACall Try.prog 52 [.v (.c (.int .u64 a0))] [] [] (.v (.c (.int .i64 r))) [] := by
  unfold F_bits_OnesCount64 at h
  refine acall_of_aw ttOK Try.func52 (by kernel_rfl) (c := _) rfl (N := 35) (by kernel_rfl) (Nat.le_of_ble_eq_true rfl) ?_
  refine aw_seq ?_
  refine aw_region ttOK (C := True) (hs := []) (gs := []) (rn := []) (l' := [(0, .v (.c (.int .u64 a0)))]) (h' := []) (by kernel_rfl) trivial ?_
  refine aw_seq ?_
  refine aw_region ttOK (C := (0 ≤ (1 : Int)) ∧ True) (hs := []) (gs := []) (rn := []) (l' := [(0, .v (.c (.int .u64 (IntKind.u64.wrap ((bits .and .u64 (shrI .u64 a0 (1 : Int)) (6148914691236517205 : Int)) + (bits .and .u64 a0 (6148914691236517205 : Int)))))))]) (h' := []) (by kernel_rfl) ⟨(by decide), trivial⟩ ?_
  refine aw_seq ?_
  refine aw_region ttOK (C := (0 ≤ (2 : Int)) ∧ True) (hs := []) (gs := []) (rn := []) (l' := [(0, .v (.c (.int .u64 (IntKind.u64.wrap ((bits .and .u64 (shrI .u64 (IntKind.u64.wrap ((bits .and .u64 (shrI .u64 a0 (1 : Int)) (6148914691236517205 : Int)) + (bits .and .u64 a0 (6148914691236517205 : Int)))) (2 : Int)) (3689348814741910323 : Int)) + (bits .and .u64 (IntKind.u64.wrap ((bits .and .u64 (shrI .u64 a0 (1 : Int)) (6148914691236517205 : Int)) + (bits .and .u64 a0 (6148914691236517205 : Int)))) (3689348814741910323 : Int)))))))]) (h' := []) (by kernel_rfl) ⟨(by decide), trivial⟩ ?_
  refine aw_seq ?_
  refine aw_region ttOK (C := (0 ≤ (4 : Int)) ∧ True) (hs := []) (gs := []) (rn := []) (l' := [(0, .v (.c (.int .u64 (bits .and .u64 (IntKind.u64.wrap ((shrI .u64 (IntKind.u64.wrap ((bits .and .u64 (shrI .u64 (IntKind.u64.wrap ((bits .and .u64 (shrI .u64 a0 (1 : Int)) (6148914691236517205 : Int)) + (bits .and .u64 a0 (6148914691236517205 : Int)))) (2 : Int)) (3689348814741910323 : Int)) + (bits .and .u64 (IntKind.u64.wrap ((bits .and .u64 (shrI .u64 a0 (1 : Int)) (6148914691236517205 : Int)) + (bits .and .u64 a0 (6148914691236517205 : Int)))) (3689348814741910323 : Int)))) (4 : Int)) + (IntKind.u64.wrap ((bits .and .u64 (shrI .u64 (IntKind.u64.wrap ((bits .and .u64 (shrI .u64 a0 (1 : Int)) (6148914691236517205 : Int)) + (bits .and .u64 a0 (6148914691236517205 : Int)))) (2 : Int)) (3689348814741910323 : Int)) + (bits .and .u64 (IntKind.u64.wrap ((bits .and .u64 (shrI .u64 a0 (1 : Int)) (6148914691236517205 : Int)) + (bits .and .u64 a0 (6148914691236517205 : Int)))) (3689348814741910323 : Int)))))) (1085102592571150095 : Int)))))]) (h' := []) (by kernel_rfl) ⟨(by decide), trivial⟩ ?_
  refine aw_seq ?_
  refine aw_region ttOK (C := (0 ≤ (8 : Int)) ∧ True) (hs := []) (gs := []) (rn := []) (l' := [(0, .v (.c (.int .u64 (IntKind.u64.wrap ((bits .and .u64 (IntKind.u64.wrap ((shrI .u64 (IntKind.u64.wrap ((bits .and .u64 (shrI .u64 (IntKind.u64.wrap ((bits .and .u64 (shrI .u64 a0 (1 : Int)) (6148914691236517205 : Int)) + (bits .and .u64 a0 (6148914691236517205 : Int)))) (2 : Int)) (3689348814741910323 : Int)) + (bits .and .u64 (IntKind.u64.wrap ((bits .and .u64 (shrI .u64 a0 (1 : Int)) (6148914691236517205 : Int)) + (bits .and .u64 a0 (6148914691236517205 : Int)))) (3689348814741910323 : Int)))) (4 : Int)) + (IntKind.u64.wrap ((bits .and .u64 (shrI .u64 (IntKind.u64.wrap ((bits .and .u64 (shrI .u64 a0 (1 : Int)) (6148914691236517205 : Int)) + (bits .and .u64 a0 (6148914691236517205 : Int)))) (2 : Int)) (3689348814741910323 : Int)) + (bits .and .u64 (IntKind.u64.wrap ((bits .and .u64 (shrI .u64 a0 (1 : Int)) (6148914691236517205 : Int)) + (bits .and .u64 a0 (6148914691236517205 : Int)))) (3689348814741910323 : Int)))))) (1085102592571150095 : Int)) + (shrI .u64 (bits .and .u64 (IntKind.u64.wrap ((shrI .u64 (IntKind.u64.wrap ((bits .and .u64 (shrI .u64 (IntKind.u64.wrap ((bits .and .u64 (shrI .u64 a0 (1 : Int)) (6148914691236517205 : Int)) + (bits .and .u64 a0 (6148914691236517205 : Int)))) (2 : Int)) (3689348814741910323 : Int)) + (bits .and .u64 (IntKind.u64.wrap ((bits .and .u64 (shrI .u64 a0 (1 : Int)) (6148914691236517205 : Int)) + (bits .and .u64 a0 (6148914691236517205 : Int)))) (3689348814741910323 : Int)))) (4 : Int)) + (IntKind.u64.wrap ((bits .and .u64 (shrI .u64 (IntKind.u64.wrap ((bits .and .u64 (shrI .u64 a0 (1 : Int)) (6148914691236517205 : Int)) + (bits .and .u64 a0 (6148914691236517205 : Int)))) (2 : Int)) (3689348814741910323 : Int)) + (bits .and .u64 (IntKind.u64.wrap ((bits .and .u64 (shrI .u64 a0 (1 : Int)) (6148914691236517205 : Int)) + (bits .and .u64 a0 (6148914691236517205 : Int)))) (3689348814741910323 : Int)))))) (1085102592571150095 : Int)) (8 : Int)))))))]) (h' := []) (by kernel_rfl) ⟨(by decide), trivial⟩ ?_
  refine aw_seq ?_
  refine aw_region ttOK (C := (0 ≤ (16 : Int)) ∧ True) (hs := []) (gs := []) (rn := []) (l' := [(0, .v (.c (.int .u64 (IntKind.u64.wrap ((IntKind.u64.wrap ((bits .and .u64 (IntKind.u64.wrap ((shrI .u64 (IntKind.u64.wrap ((bits .and .u64 (shrI .u64 (IntKind.u64.wrap ((bits .and .u64 (shrI .u64 a0 (1 : Int)) (6148914691236517205 : Int)) + (bits .and .u64 a0 (6148914691236517205 : Int)))) (2 : Int)) (3689348814741910323 : Int)) + (bits .and .u64 (IntKind.u64.wrap ((bits .and .u64 (shrI .u64 a0 (1 : Int)) (6148914691236517205 : Int)) + (bits .and .u64 a0 (6148914691236517205 : Int)))) (3689348814741910323 : Int)))) (4 : Int)) + (IntKind.u64.wrap ((bits .and .u64 (shrI .u64 (IntKind.u64.wrap ((bits .and .u64 (shrI .u64 a0 (1 : Int)) (6148914691236517205 : Int)) + (bits .and .u64 a0 (6148914691236517205 : Int)))) (2 : Int)) (3689348814741910323 : Int)) + (bits .and .u64 (IntKind.u64.wrap ((bits .and .u64 (shrI .u64 a0 (1 : Int)) (6148914691236517205 : Int)) + (bits .and .u64 a0 (6148914691236517205 : Int)))) (3689348814741910323 : Int)))))) (1085102592571150095 : Int)) + (shrI .u64 (bits .and .u64 (IntKind.u64.wrap ((shrI .u64 (IntKind.u64.wrap ((bits .and .u64 (shrI .u64 (IntKind.u64.wrap ((bits .and .u64 (shrI .u64 a0 (1 : Int)) (6148914691236517205 : Int)) + (bits .and .u64 a0 (6148914691236517205 : Int)))) (2 : Int)) (3689348814741910323 : Int)) + (bits .and .u64 (IntKind.u64.wrap ((bits .and .u64 (shrI .u64 a0 (1 : Int)) (6148914691236517205 : Int)) + (bits .and .u64 a0 (6148914691236517205 : Int)))) (3689348814741910323 : Int)))) (4 : Int)) + (IntKind.u64.wrap ((bits .and .u64 (shrI .u64 (IntKind.u64.wrap ((bits .and .u64 (shrI .u64 a0 (1 : Int)) (6148914691236517205 : Int)) + (bits .and .u64 a0 (6148914691236517205 : Int)))) (2 : Int)) (3689348814741910323 : Int)) + (bits .and .u64 (IntKind.u64.wrap ((bits .and .u64 (shrI .u64 a0 (1 : Int)) (6148914691236517205 : Int)) + (bits .and .u64 a0 (6148914691236517205 : Int)))) (3689348814741910323 : Int)))))) (1085102592571150095 : Int)) (8 : Int)))) + (shrI .u64 (IntKind.u64.wrap ((bits .and .u64 (IntKind.u64.wrap ((shrI .u64 (IntKind.u64.wrap ((bits .and .u64 (shrI .u64 (IntKind.u64.wrap ((bits .and .u64 (shrI .u64 a0 (1 : Int)) (6148914691236517205 : Int)) + (bits .and .u64 a0 (6148914691236517205 : Int)))) (2 : Int)) (3689348814741910323 : Int)) + (bits .and .u64 (IntKind.u64.wrap ((bits .and .u64 (shrI .u64 a0 (1 : Int)) (6148914691236517205 : Int)) + (bits .and .u64 a0 (6148914691236517205 : Int)))) (3689348814741910323 : Int)))) (4 : Int)) + (IntKind.u64.wrap ((bits .and .u64 (shrI .u64 (IntKind.u64.wrap ((bits .and .u64 (shrI .u64 a0 (1 : Int)) (6148914691236517205 : Int)) + (bits .and .u64 a0 (6148914691236517205 : Int)))) (2 : Int)) (3689348814741910323 : Int)) + (bits .and .u64 (IntKind.u64.wrap ((bits .and .u64 (shrI .u64 a0 (1 : Int)) (6148914691236517205 : Int)) + (bits .and .u64 a0 (6148914691236517205 : Int)))) (3689348814741910323 : Int)))))) (1085102592571150095 : Int)) + (shrI .u64 (bits .and .u64 (IntKind.u64.wrap ((shrI .u64 (IntKind.u64.wrap ((bits .and .u64 (shrI .u64 (IntKind.u64.wrap ((bits .and .u64 (shrI .u64 a0 (1 : Int)) (6148914691236517205 : Int)) + (bits .and .u64 a0 (6148914691236517205 : Int)))) (2 : Int)) (3689348814741910323 : Int)) + (bits .and .u64 (IntKind.u64.wrap ((bits .and .u64 (shrI .u64 a0 (1 : Int)) (6148914691236517205 : Int)) + (bits .and .u64 a0 (6148914691236517205 : Int)))) (3689348814741910323 : Int)))) (4 : Int)) + (IntKind.u64.wrap ((bits .and .u64 (shrI .u64 (IntKind.u64.wrap ((bits .and .u64 (shrI .u64 a0 (1 : Int)) (6148914691236517205 : Int)) + (bits .and .u64 a0 (6148914691236517205 : Int)))) (2 : Int)) (3689348814741910323 : Int)) + (bits .and .u64 (IntKind.u64.wrap ((bits .and .u64 (shrI .u64 a0 (1 : Int)) (6148914691236517205 : Int)) + (bits .and .u64 a0 (6148914691236517205 : Int)))) (3689348814741910323 : Int)))))) (1085102592571150095 : Int)) (8 : Int)))) (16 : Int)))))))]) (h' := []) (by kernel_rfl) ⟨(by decide), trivial⟩ ?_
  refine aw_seq ?_
  refine aw_region ttOK (C := (0 ≤ (32 : Int)) ∧ True) (hs := []) (gs := []) (rn := []) (l' := [(0, .v (.c (.int .u64 (IntKind.u64.wrap ((IntKind.u64.wrap ((IntKind.u64.wrap ((bits .and .u64 (IntKind.u64.wrap ((shrI .u64 (IntKind.u64.wrap ((bits .and .u64 (shrI .u64 (IntKind.u64.wrap ((bits .and .u64 (shrI .u64 a0 (1 : Int)) (6148914691236517205 : Int)) + (bits .and .u64 a0 (6148914691236517205 : Int)))) (2 : Int)) (3689348814741910323 : Int)) + (bits .and .u64 (IntKind.u64.wrap ((bits .and .u64 (shrI .u64 a0 (1 : Int)) (6148914691236517205 : Int)) + (bits .and .u64 a0 (6148914691236517205 : Int)))) (3689348814741910323 : Int)))) (4 : Int)) + (IntKind.u64.wrap ((bits .and .u64 (shrI .u64 (IntKind.u64.wrap ((bits .and .u64 (shrI .u64 a0 (1 : Int)) (6148914691236517205 : Int)) + (bits .and .u64 a0 (6148914691236517205 : Int)))) (2 : Int)) (3689348814741910323 : Int)) + (bits .and .u64 (IntKind.u64.wrap ((bits .and .u64 (shrI .u64 a0 (1 : Int)) (6148914691236517205 : Int)) + (bits .and .u64 a0 (6148914691236517205 : Int)))) (3689348814741910323 : Int)))))) (1085102592571150095 : Int)) + (shrI .u64 (bits .and .u64 (IntKind.u64.wrap ((shrI .u64 (IntKind.u64.wrap ((bits .and .u64 (shrI .u64 (IntKind.u64.wrap ((bits .and .u64 (shrI .u64 a0 (1 : Int)) (6148914691236517205 : Int)) + (bits .and .u64 a0 (6148914691236517205 : Int)))) (2 : Int)) (3689348814741910323 : Int)) + (bits .and .u64 (IntKind.u64.wrap ((bits .and .u64 (shrI .u64 a0 (1 : Int)) (6148914691236517205 : Int)) + (bits .and .u64 a0 (6148914691236517205 : Int)))) (3689348814741910323 : Int)))) (4 : Int)) + (IntKind.u64.wrap ((bits .and .u64 (shrI .u64 (IntKind.u64.wrap ((bits .and .u64 (shrI .u64 a0 (1 : Int)) (6148914691236517205 : Int)) + (bits .and .u64 a0 (6148914691236517205 : Int)))) (2 : Int)) (3689348814741910323 : Int)) + (bits .and .u64 (IntKind.u64.wrap ((bits .and .u64 (shrI .u64 a0 (1 : Int)) (6148914691236517205 : Int)) + (bits .and .u64 a0 (6148914691236517205 : Int)))) (3689348814741910323 : Int)))))) (1085102592571150095 : Int)) (8 : Int)))) + (shrI .u64 (IntKind.u64.wrap ((bits .and .u64 (IntKind.u64.wrap ((shrI .u64 (IntKind.u64.wrap ((bits .and .u64 (shrI .u64 (IntKind.u64.wrap ((bits .and .u64 (shrI .u64 a0 (1 : Int)) (6148914691236517205 : Int)) + (bits .and .u64 a0 (6148914691236517205 : Int)))) (2 : Int)) (3689348814741910323 : Int)) + (bits .and .u64 (IntKind.u64.wrap ((bits .and .u64 (shrI .u64 a0 (1 : Int)) (6148914691236517205 : Int)) + (bits .and .u64 a0 (6148914691236517205 : Int)))) (3689348814741910323 : Int)))) (4 : Int)) + (IntKind.u64.wrap ((bits .and .u64 (shrI .u64 (IntKind.u64.wrap ((bits .and .u64 (shrI .u64 a0 (1 : Int)) (6148914691236517205 : Int)) + (bits .and .u64 a0 (6148914691236517205 : Int)))) (2 : Int)) (3689348814741910323 : Int)) + (bits .and .u64 (IntKind.u64.wrap ((bits .and .u64 (shrI .u64 a0 (1 : Int)) (6148914691236517205 : Int)) + (bits .and .u64 a0 (6148914691236517205 : Int)))) (3689348814741910323 : Int)))))) (1085102592571150095 : Int)) + (shrI .u64 (bits .and .u64 (IntKind.u64.wrap ((shrI .u64 (IntKind.u64.wrap ((bits .and .u64 (shrI .u64 (IntKind.u64.wrap ((bits .and .u64 (shrI .u64 a0 (1 : Int)) (6148914691236517205 : Int)) + (bits .and .u64 a0 (6148914691236517205 : Int)))) (2 : Int)) (3689348814741910323 : Int)) + (bits .and .u64 (IntKind.u64.wrap ((bits .and .u64 (shrI .u64 a0 (1 : Int)) (6148914691236517205 : Int)) + (bits .and .u64 a0 (6148914691236517205 : Int)))) (3689348814741910323 : Int)))) (4 : Int)) + (IntKind.u64.wrap ((bits .and .u64 (shrI .u64 (IntKind.u64.wrap ((bits .and .u64 (shrI .u64 a0 (1 : Int)) (6148914691236517205 : Int)) + (bits .and .u64 a0 (6148914691236517205 : Int)))) (2 : Int)) (3689348814741910323 : Int)) + (bits .and .u64 (IntKind.u64.wrap ((bits .and .u64 (shrI .u64 a0 (1 : Int)) (6148914691236517205 : Int)) + (bits .and .u64 a0 (6148914691236517205 : Int)))) (3689348814741910323 : Int)))))) (1085102592571150095 : Int)) (8 : Int)))) (16 : Int)))) + (shrI .u64 (IntKind.u64.wrap ((IntKind.u64.wrap ((bits .and .u64 (IntKind.u64.wrap ((shrI .u64 (IntKind.u64.wrap ((bits .and .u64 (shrI .u64 (IntKind.u64.wrap ((bits .and .u64 (shrI .u64 a0 (1 : Int)) (6148914691236517205 : Int)) + (bits .and .u64 a0 (6148914691236517205 : Int)))) (2 : Int)) (3689348814741910323 : Int)) + (bits .and .u64 (IntKind.u64.wrap ((bits .and .u64 (shrI .u64 a0 (1 : Int)) (6148914691236517205 : Int)) + (bits .and .u64 a0 (6148914691236517205 : Int)))) (3689348814741910323 : Int)))) (4 : Int)) + (IntKind.u64.wrap ((bits .and .u64 (shrI .u64 (IntKind.u64.wrap ((bits .and .u64 (shrI .u64 a0 (1 : Int)) (6148914691236517205 : Int)) + (bits .and .u64 a0 (6148914691236517205 : Int)))) (2 : Int)) (3689348814741910323 : Int)) + (bits .and .u64 (IntKind.u64.wrap ((bits .and .u64 (shrI .u64 a0 (1 : Int)) (6148914691236517205 : Int)) + (bits .and .u64 a0 (6148914691236517205 : Int)))) (3689348814741910323 : Int)))))) (1085102592571150095 : Int)) + (shrI .u64 (bits .and .u64 (IntKind.u64.wrap ((shrI .u64 (IntKind.u64.wrap ((bits .and .u64 (shrI .u64 (IntKind.u64.wrap ((bits .and .u64 (shrI .u64 a0 (1 : Int)) (6148914691236517205 : Int)) + (bits .and .u64 a0 (6148914691236517205 : Int)))) (2 : Int)) (3689348814741910323 : Int)) + (bits .and .u64 (IntKind.u64.wrap ((bits .and .u64 (shrI .u64 a0 (1 : Int)) (6148914691236517205 : Int)) + (bits .and .u64 a0 (6148914691236517205 : Int)))) (3689348814741910323 : Int)))) (4 : Int)) + (IntKind.u64.wrap ((bits .and .u64 (shrI .u64 (IntKind.u64.wrap ((bits .and .u64 (shrI .u64 a0 (1 : Int)) (6148914691236517205 : Int)) + (bits .and .u64 a0 (6148914691236517205 : Int)))) (2 : Int)) (3689348814741910323 : Int)) + (bits .and .u64 (IntKind.u64.wrap ((bits .and .u64 (shrI .u64 a0 (1 : Int)) (6148914691236517205 : Int)) + (bits .and .u64 a0 (6148914691236517205 : Int)))) (3689348814741910323 : Int)))))) (1085102592571150095 : Int)) (8 : Int)))) + (shrI .u64 (IntKind.u64.wrap ((bits .and .u64 (IntKind.u64.wrap ((shrI .u64 (IntKind.u64.wrap ((bits .and .u64 (shrI .u64 (IntKind.u64.wrap ((bits .and .u64 (shrI .u64 a0 (1 : Int)) (6148914691236517205 : Int)) + (bits .and .u64 a0 (6148914691236517205 : Int)))) (2 : Int)) (3689348814741910323 : Int)) + (bits .and .u64 (IntKind.u64.wrap ((bits .and .u64 (shrI .u64 a0 (1 : Int)) (6148914691236517205 : Int)) + (bits .and .u64 a0 (6148914691236517205 : Int)))) (3689348814741910323 : Int)))) (4 : Int)) + (IntKind.u64.wrap ((bits .and .u64 (shrI .u64 (IntKind.u64.wrap ((bits .and .u64 (shrI .u64 a0 (1 : Int)) (6148914691236517205 : Int)) + (bits .and .u64 a0 (6148914691236517205 : Int)))) (2 : Int)) (3689348814741910323 : Int)) + (bits .and .u64 (IntKind.u64.wrap ((bits .and .u64 (shrI .u64 a0 (1 : Int)) (6148914691236517205 : Int)) + (bits .and .u64 a0 (6148914691236517205 : Int)))) (3689348814741910323 : Int)))))) (1085102592571150095 : Int)) + (shrI .u64 (bits .and .u64 (IntKind.u64.wrap ((shrI .u64 (IntKind.u64.wrap ((bits .and .u64 (shrI .u64 (IntKind.u64.wrap ((bits .and .u64 (shrI .u64 a0 (1 : Int)) (6148914691236517205 : Int)) + (bits .and .u64 a0 (6148914691236517205 : Int)))) (2 : Int)) (3689348814741910323 : Int)) + (bits .and .u64 (IntKind.u64.wrap ((bits .and .u64 (shrI .u64 a0 (1 : Int)) (6148914691236517205 : Int)) + (bits .and .u64 a0 (6148914691236517205 : Int)))) (3689348814741910323 : Int)))) (4 : Int)) + (IntKind.u64.wrap ((bits .and .u64 (shrI .u64 (IntKind.u64.wrap ((bits .and .u64 (shrI .u64 a0 (1 : Int)) (6148914691236517205 : Int)) + (bits .and .u64 a0 (6148914691236517205 : Int)))) (2 : Int)) (3689348814741910323 : Int)) + (bits .and .u64 (IntKind.u64.wrap ((bits .and .u64 (shrI .u64 a0 (1 : Int)) (6148914691236517205 : Int)) + (bits .and .u64 a0 (6148914691236517205 : Int)))) (3689348814741910323 : Int)))))) (1085102592571150095 : Int)) (8 : Int)))) (16 : Int)))) (32 : Int)))))))]) (h' := []) (by kernel_rfl) ⟨(by decide), trivial⟩ ?_
  refine aw_seq ?_
  refine aw_region ttOK (C := True) (hs := []) (gs := []) (rn := []) (l' := [(2, .v (.c (.int .i64 (bits .and .i64 (IntKind.i64.wrap (IntKind.u64.wrap ((IntKind.u64.wrap ((IntKind.u64.wrap ((bits .and .u64 (IntKind.u64.wrap ((shrI .u64 (IntKind.u64.wrap ((bits .and .u64 (shrI .u64 (IntKind.u64.wrap ((bits .and .u64 (shrI .u64 a0 (1 : Int)) (6148914691236517205 : Int)) + (bits .and .u64 a0 (6148914691236517205 : Int)))) (2 : Int)) (3689348814741910323 : Int)) + (bits .and .u64 (IntKind.u64.wrap ((bits .and .u64 (shrI .u64 a0 (1 : Int)) (6148914691236517205 : Int)) + (bits .and .u64 a0 (6148914691236517205 : Int)))) (3689348814741910323 : Int)))) (4 : Int)) + (IntKind.u64.wrap ((bits .and .u64 (shrI .u64 (IntKind.u64.wrap ((bits .and .u64 (shrI .u64 a0 (1 : Int)) (6148914691236517205 : Int)) + (bits .and .u64 a0 (6148914691236517205 : Int)))) (2 : Int)) (3689348814741910323 : Int)) + (bits .and .u64 (IntKind.u64.wrap ((bits .and .u64 (shrI .u64 a0 (1 : Int)) (6148914691236517205 : Int)) + (bits .and .u64 a0 (6148914691236517205 : Int)))) (3689348814741910323 : Int)))))) (1085102592571150095 : Int)) + (shrI .u64 (bits .and .u64 (IntKind.u64.wrap ((shrI .u64 (IntKind.u64.wrap ((bits .and .u64 (shrI .u64 (IntKind.u64.wrap ((bits .and .u64 (shrI .u64 a0 (1 : Int)) (6148914691236517205 : Int)) + (bits .and .u64 a0 (6148914691236517205 : Int)))) (2 : Int)) (3689348814741910323 : Int)) + (bits .and .u64 (IntKind.u64.wrap ((bits .and .u64 (shrI .u64 a0 (1 : Int)) (6148914691236517205 : Int)) + (bits .and .u64 a0 (6148914691236517205 : Int)))) (3689348814741910323 : Int)))) (4 : Int)) + (IntKind.u64.wrap ((bits .and .u64 (shrI .u64 (IntKind.u64.wrap ((bits .and .u64 (shrI .u64 a0 (1 : Int)) (6148914691236517205 : Int)) + (bits .and .u64 a0 (6148914691236517205 : Int)))) (2 : Int)) (3689348814741910323 : Int)) + (bits .and .u64 (IntKind.u64.wrap ((bits .and .u64 (shrI .u64 a0 (1 : Int)) (6148914691236517205 : Int)) + (bits .and .u64 a0 (6148914691236517205 : Int)))) (3689348814741910323 : Int)))))) (1085102592571150095 : Int)) (8 : Int)))) + (shrI .u64 (IntKind.u64.wrap ((bits .and .u64 (IntKind.u64.wrap ((shrI .u64 (IntKind.u64.wrap ((bits .and .u64 (shrI .u64 (IntKind.u64.wrap ((bits .and .u64 (shrI .u64 a0 (1 : Int)) (6148914691236517205 : Int)) + (bits .and .u64 a0 (6148914691236517205 : Int)))) (2 : Int)) (3689348814741910323 : Int)) + (bits .and .u64 (IntKind.u64.wrap ((bits .and .u64 (shrI .u64 a0 (1 : Int)) (6148914691236517205 : Int)) + (bits .and .u64 a0 (6148914691236517205 : Int)))) (3689348814741910323 : Int)))) (4 : Int)) + (IntKind.u64.wrap ((bits .and .u64 (shrI .u64 (IntKind.u64.wrap ((bits .and .u64 (shrI .u64 a0 (1 : Int)) (6148914691236517205 : Int)) + (bits .and .u64 a0 (6148914691236517205 : Int)))) (2 : Int)) (3689348814741910323 : Int)) + (bits .and .u64 (IntKind.u64.wrap ((bits .and .u64 (shrI .u64 a0 (1 : Int)) (6148914691236517205 : Int)) + (bits .and .u64 a0 (6148914691236517205 : Int)))) (3689348814741910323 : Int)))))) (1085102592571150095 : Int)) + (shrI .u64 (bits .and .u64 (IntKind.u64.wrap ((shrI .u64 (IntKind.u64.wrap ((bits .and .u64 (shrI .u64 (IntKind.u64.wrap ((bits .and .u64 (shrI .u64 a0 (1 : Int)) (6148914691236517205 : Int)) + (bits .and .u64 a0 (6148914691236517205 : Int)))) (2 : Int)) (3689348814741910323 : Int)) + (bits .and .u64 (IntKind.u64.wrap ((bits .and .u64 (shrI .u64 a0 (1 : Int)) (6148914691236517205 : Int)) + (bits .and .u64 a0 (6148914691236517205 : Int)))) (3689348814741910323 : Int)))) (4 : Int)) + (IntKind.u64.wrap ((bits .and .u64 (shrI .u64 (IntKind.u64.wrap ((bits .and .u64 (shrI .u64 a0 (1 : Int)) (6148914691236517205 : Int)) + (bits .and .u64 a0 (6148914691236517205 : Int)))) (2 : Int)) (3689348814741910323 : Int)) + (bits .and .u64 (IntKind.u64.wrap ((bits .and .u64 (shrI .u64 a0 (1 : Int)) (6148914691236517205 : Int)) + (bits .and .u64 a0 (6148914691236517205 : Int)))) (3689348814741910323 : Int)))))) (1085102592571150095 : Int)) (8 : Int)))) (16 : Int)))) + (shrI .u64 (IntKind.u64.wrap ((IntKind.u64.wrap ((bits .and .u64 (IntKind.u64.wrap ((shrI .u64 (IntKind.u64.wrap ((bits .and .u64 (shrI .u64 (IntKind.u64.wrap ((bits .and .u64 (shrI .u64 a0 (1 : Int)) (6148914691236517205 : Int)) + (bits .and .u64 a0 (6148914691236517205 : Int)))) (2 : Int)) (3689348814741910323 : Int)) + (bits .and .u64 (IntKind.u64.wrap ((bits .and .u64 (shrI .u64 a0 (1 : Int)) (6148914691236517205 : Int)) + (bits .and .u64 a0 (6148914691236517205 : Int)))) (3689348814741910323 : Int)))) (4 : Int)) + (IntKind.u64.wrap ((bits .and .u64 (shrI .u64 (IntKind.u64.wrap ((bits .and .u64 (shrI .u64 a0 (1 : Int)) (6148914691236517205 : Int)) + (bits .and .u64 a0 (6148914691236517205 : Int)))) (2 : Int)) (3689348814741910323 : Int)) + (bits .and .u64 (IntKind.u64.wrap ((bits .and .u64 (shrI .u64 a0 (1 : Int)) (6148914691236517205 : Int)) + (bits .and .u64 a0 (6148914691236517205 : Int)))) (3689348814741910323 : Int)))))) (1085102592571150095 : Int)) + (shrI .u64 (bits .and .u64 (IntKind.u64.wrap ((shrI .u64 (IntKind.u64.wrap ((bits .and .u64 (shrI .u64 (IntKind.u64.wrap ((bits .and .u64 (shrI .u64 a0 (1 : Int)) (6148914691236517205 : Int)) + (bits .and .u64 a0 (6148914691236517205 : Int)))) (2 : Int)) (3689348814741910323 : Int)) + (bits .and .u64 (IntKind.u64.wrap ((bits .and .u64 (shrI .u64 a0 (1 : Int)) (6148914691236517205 : Int)) + (bits .and .u64 a0 (6148914691236517205 : Int)))) (3689348814741910323 : Int)))) (4 : Int)) + (IntKind.u64.wrap ((bits .and .u64 (shrI .u64 (IntKind.u64.wrap ((bits .and .u64 (shrI .u64 a0 (1 : Int)) (6148914691236517205 : Int)) + (bits .and .u64 a0 (6148914691236517205 : Int)))) (2 : Int)) (3689348814741910323 : Int)) + (bits .and .u64 (IntKind.u64.wrap ((bits .and .u64 (shrI .u64 a0 (1 : Int)) (6148914691236517205 : Int)) + (bits .and .u64 a0 (6148914691236517205 : Int)))) (3689348814741910323 : Int)))))) (1085102592571150095 : Int)) (8 : Int)))) + (shrI .u64 (IntKind.u64.wrap ((bits .and .u64 (IntKind.u64.wrap ((shrI .u64 (IntKind.u64.wrap ((bits .and .u64 (shrI .u64 (IntKind.u64.wrap ((bits .and .u64 (shrI .u64 a0 (1 : Int)) (6148914691236517205 : Int)) + (bits .and .u64 a0 (6148914691236517205 : Int)))) (2 : Int)) (3689348814741910323 : Int)) + (bits .and .u64 (IntKind.u64.wrap ((bits .and .u64 (shrI .u64 a0 (1 : Int)) (6148914691236517205 : Int)) + (bits .and .u64 a0 (6148914691236517205 : Int)))) (3689348814741910323 : Int)))) (4 : Int)) + (IntKind.u64.wrap ((bits .and .u64 (shrI .u64 (IntKind.u64.wrap ((bits .and .u64 (shrI .u64 a0 (1 : Int)) (6148914691236517205 : Int)) + (bits .and .u64 a0 (6148914691236517205 : Int)))) (2 : Int)) (3689348814741910323 : Int)) + (bits .and .u64 (IntKind.u64.wrap ((bits .and .u64 (shrI .u64 a0 (1 : Int)) (6148914691236517205 : Int)) + (bits .and .u64 a0 (6148914691236517205 : Int)))) (3689348814741910323 : Int)))))) (1085102592571150095 : Int)) + (shrI .u64 (bits .and .u64 (IntKind.u64.wrap ((shrI .u64 (IntKind.u64.wrap ((bits .and .u64 (shrI .u64 (IntKind.u64.wrap ((bits .and .u64 (shrI .u64 a0 (1 : Int)) (6148914691236517205 : Int)) + (bits .and .u64 a0 (6148914691236517205 : Int)))) (2 : Int)) (3689348814741910323 : Int)) + (bits .and .u64 (IntKind.u64.wrap ((bits .and .u64 (shrI .u64 a0 (1 : Int)) (6148914691236517205 : Int)) + (bits .and .u64 a0 (6148914691236517205 : Int)))) (3689348814741910323 : Int)))) (4 : Int)) + (IntKind.u64.wrap ((bits .and .u64 (shrI .u64 (IntKind.u64.wrap ((bits .and .u64 (shrI .u64 a0 (1 : Int)) (6148914691236517205 : Int)) + (bits .and .u64 a0 (6148914691236517205 : Int)))) (2 : Int)) (3689348814741910323 : Int)) + (bits .and .u64 (IntKind.u64.wrap ((bits .and .u64 (shrI .u64 a0 (1 : Int)) (6148914691236517205 : Int)) + (bits .and .u64 a0 (6148914691236517205 : Int)))) (3689348814741910323 : Int)))))) (1085102592571150095 : Int)) (8 : Int)))) (16 : Int)))) (32 : Int))))) (127 : Int)))))]) (h' := []) (by kernel_rfl) trivial ?_
  refine aw_ghost (gs := []) (rn := []) (l' := [(2, .v (.c (.int .i64 (bits .and .i64 (IntKind.i64.wrap (IntKind.u64.wrap ((IntKind.u64.wrap ((IntKind.u64.wrap ((bits .and .u64 (IntKind.u64.wrap ((shrI .u64 (IntKind.u64.wrap ((bits .and .u64 (shrI .u64 (IntKind.u64.wrap ((bits .and .u64 (shrI .u64 a0 (1 : Int)) (6148914691236517205 : Int)) + (bits .and .u64 a0 (6148914691236517205 : Int)))) (2 : Int)) (3689348814741910323 : Int)) + (bits .and .u64 (IntKind.u64.wrap ((bits .and .u64 (shrI .u64 a0 (1 : Int)) (6148914691236517205 : Int)) + (bits .and .u64 a0 (6148914691236517205 : Int)))) (3689348814741910323 : Int)))) (4 : Int)) + (IntKind.u64.wrap ((bits .and .u64 (shrI .u64 (IntKind.u64.wrap ((bits .and .u64 (shrI .u64 a0 (1 : Int)) (6148914691236517205 : Int)) + (bits .and .u64 a0 (6148914691236517205 : Int)))) (2 : Int)) (3689348814741910323 : Int)) + (bits .and .u64 (IntKind.u64.wrap ((bits .and .u64 (shrI .u64 a0 (1 : Int)) (6148914691236517205 : Int)) + (bits .and .u64 a0 (6148914691236517205 : Int)))) (3689348814741910323 : Int)))))) (1085102592571150095 : Int)) + (shrI .u64 (bits .and .u64 (IntKind.u64.wrap ((shrI .u64 (IntKind.u64.wrap ((bits .and .u64 (shrI .u64 (IntKind.u64.wrap ((bits .and .u64 (shrI .u64 a0 (1 : Int)) (6148914691236517205 : Int)) + (bits .and .u64 a0 (6148914691236517205 : Int)))) (2 : Int)) (3689348814741910323 : Int)) + (bits .and .u64 (IntKind.u64.wrap ((bits .and .u64 (shrI .u64 a0 (1 : Int)) (6148914691236517205 : Int)) + (bits .and .u64 a0 (6148914691236517205 : Int)))) (3689348814741910323 : Int)))) (4 : Int)) + (IntKind.u64.wrap ((bits .and .u64 (shrI .u64 (IntKind.u64.wrap ((bits .and .u64 (shrI .u64 a0 (1 : Int)) (6148914691236517205 : Int)) + (bits .and .u64 a0 (6148914691236517205 : Int)))) (2 : Int)) (3689348814741910323 : Int)) + (bits .and .u64 (IntKind.u64.wrap ((bits .and .u64 (shrI .u64 a0 (1 : Int)) (6148914691236517205 : Int)) + (bits .and .u64 a0 (6148914691236517205 : Int)))) (3689348814741910323 : Int)))))) (1085102592571150095 : Int)) (8 : Int)))) + (shrI .u64 (IntKind.u64.wrap ((bits .and .u64 (IntKind.u64.wrap ((shrI .u64 (IntKind.u64.wrap ((bits .and .u64 (shrI .u64 (IntKind.u64.wrap ((bits .and .u64 (shrI .u64 a0 (1 : Int)) (6148914691236517205 : Int)) + (bits .and .u64 a0 (6148914691236517205 : Int)))) (2 : Int)) (3689348814741910323 : Int)) + (bits .and .u64 (IntKind.u64.wrap ((bits .and .u64 (shrI .u64 a0 (1 : Int)) (6148914691236517205 : Int)) + (bits .and .u64 a0 (6148914691236517205 : Int)))) (3689348814741910323 : Int)))) (4 : Int)) + (IntKind.u64.wrap ((bits .and .u64 (shrI .u64 (IntKind.u64.wrap ((bits .and .u64 (shrI .u64 a0 (1 : Int)) (6148914691236517205 : Int)) + (bits .and .u64 a0 (6148914691236517205 : Int)))) (2 : Int)) (3689348814741910323 : Int)) + (bits .and .u64 (IntKind.u64.wrap ((bits .and .u64 (shrI .u64 a0 (1 : Int)) (6148914691236517205 : Int)) + (bits .and .u64 a0 (6148914691236517205 : Int)))) (3689348814741910323 : Int)))))) (1085102592571150095 : Int)) + (shrI .u64 (bits .and .u64 (IntKind.u64.wrap ((shrI .u64 (IntKind.u64.wrap ((bits .and .u64 (shrI .u64 (IntKind.u64.wrap ((bits .and .u64 (shrI .u64 a0 (1 : Int)) (6148914691236517205 : Int)) + (bits .and .u64 a0 (6148914691236517205 : Int)))) (2 : Int)) (3689348814741910323 : Int)) + (bits .and .u64 (IntKind.u64.wrap ((bits .and .u64 (shrI .u64 a0 (1 : Int)) (6148914691236517205 : Int)) + (bits .and .u64 a0 (6148914691236517205 : Int)))) (3689348814741910323 : Int)))) (4 : Int)) + (IntKind.u64.wrap ((bits .and .u64 (shrI .u64 (IntKind.u64.wrap ((bits .and .u64 (shrI .u64 a0 (1 : Int)) (6148914691236517205 : Int)) + (bits .and .u64 a0 (6148914691236517205 : Int)))) (2 : Int)) (3689348814741910323 : Int)) + (bits .and .u64 (IntKind.u64.wrap ((bits .and .u64 (shrI .u64 a0 (1 : Int)) (6148914691236517205 : Int)) + (bits .and .u64 a0 (6148914691236517205 : Int)))) (3689348814741910323 : Int)))))) (1085102592571150095 : Int)) (8 : Int)))) (16 : Int)))) + (shrI .u64 (IntKind.u64.wrap ((IntKind.u64.wrap ((bits .and .u64 (IntKind.u64.wrap ((shrI .u64 (IntKind.u64.wrap ((bits .and .u64 (shrI .u64 (IntKind.u64.wrap ((bits .and .u64 (shrI .u64 a0 (1 : Int)) (6148914691236517205 : Int)) + (bits .and .u64 a0 (6148914691236517205 : Int)))) (2 : Int)) (3689348814741910323 : Int)) + (bits .and .u64 (IntKind.u64.wrap ((bits .and .u64 (shrI .u64 a0 (1 : Int)) (6148914691236517205 : Int)) + (bits .and .u64 a0 (6148914691236517205 : Int)))) (3689348814741910323 : Int)))) (4 : Int)) + (IntKind.u64.wrap ((bits .and .u64 (shrI .u64 (IntKind.u64.wrap ((bits .and .u64 (shrI .u64 a0 (1 : Int)) (6148914691236517205 : Int)) + (bits .and .u64 a0 (6148914691236517205 : Int)))) (2 : Int)) (3689348814741910323 : Int)) + (bits .and .u64 (IntKind.u64.wrap ((bits .and .u64 (shrI .u64 a0 (1 : Int)) (6148914691236517205 : Int)) + (bits .and .u64 a0 (6148914691236517205 : Int)))) (3689348814741910323 : Int)))))) (1085102592571150095 : Int)) + (shrI .u64 (bits .and .u64 (IntKind.u64.wrap ((shrI .u64 (IntKind.u64.wrap ((bits .and .u64 (shrI .u64 (IntKind.u64.wrap ((bits .and .u64 (shrI .u64 a0 (1 : Int)) (6148914691236517205 : Int)) + (bits .and .u64 a0 (6148914691236517205 : Int)))) (2 : Int)) (3689348814741910323 : Int)) + (bits .and .u64 (IntKind.u64.wrap ((bits .and .u64 (shrI .u64 a0 (1 : Int)) (6148914691236517205 : Int)) + (bits .and .u64 a0 (6148914691236517205 : Int)))) (3689348814741910323 : Int)))) (4 : Int)) + (IntKind.u64.wrap ((bits .and .u64 (shrI .u64 (IntKind.u64.wrap ((bits .and .u64 (shrI .u64 a0 (1 : Int)) (6148914691236517205 : Int)) + (bits .and .u64 a0 (6148914691236517205 : Int)))) (2 : Int)) (3689348814741910323 : Int)) + (bits .and .u64 (IntKind.u64.wrap ((bits .and .u64 (shrI .u64 a0 (1 : Int)) (6148914691236517205 : Int)) + (bits .and .u64 a0 (6148914691236517205 : Int)))) (3689348814741910323 : Int)))))) (1085102592571150095 : Int)) (8 : Int)))) + (shrI .u64 (IntKind.u64.wrap ((bits .and .u64 (IntKind.u64.wrap ((shrI .u64 (IntKind.u64.wrap ((bits .and .u64 (shrI .u64 (IntKind.u64.wrap ((bits .and .u64 (shrI .u64 a0 (1 : Int)) (6148914691236517205 : Int)) + (bits .and .u64 a0 (6148914691236517205 : Int)))) (2 : Int)) (3689348814741910323 : Int)) + (bits .and .u64 (IntKind.u64.wrap ((bits .and .u64 (shrI .u64 a0 (1 : Int)) (6148914691236517205 : Int)) + (bits .and .u64 a0 (6148914691236517205 : Int)))) (3689348814741910323 : Int)))) (4 : Int)) + (IntKind.u64.wrap ((bits .and .u64 (shrI .u64 (IntKind.u64.wrap ((bits .and .u64 (shrI .u64 a0 (1 : Int)) (6148914691236517205 : Int)) + (bits .and .u64 a0 (6148914691236517205 : Int)))) (2 : Int)) (3689348814741910323 : Int)) + (bits .and .u64 (IntKind.u64.wrap ((bits .and .u64 (shrI .u64 a0 (1 : Int)) (6148914691236517205 : Int)) + (bits .and .u64 a0 (6148914691236517205 : Int)))) (3689348814741910323 : Int)))))) (1085102592571150095 : Int)) + (shrI .u64 (bits .and .u64 (IntKind.u64.wrap ((shrI .u64 (IntKind.u64.wrap ((bits .and .u64 (shrI .u64 (IntKind.u64.wrap ((bits .and .u64 (shrI .u64 a0 (1 : Int)) (6148914691236517205 : Int)) + (bits .and .u64 a0 (6148914691236517205 : Int)))) (2 : Int)) (3689348814741910323 : Int)) + (bits .and .u64 (IntKind.u64.wrap ((bits .and .u64 (shrI .u64 a0 (1 : Int)) (6148914691236517205 : Int)) + (bits .and .u64 a0 (6148914691236517205 : Int)))) (3689348814741910323 : Int)))) (4 : Int)) + (IntKind.u64.wrap ((bits .and .u64 (shrI .u64 (IntKind.u64.wrap ((bits .and .u64 (shrI .u64 a0 (1 : Int)) (6148914691236517205 : Int)) + (bits .and .u64 a0 (6148914691236517205 : Int)))) (2 : Int)) (3689348814741910323 : Int)) + (bits .and .u64 (IntKind.u64.wrap ((bits .and .u64 (shrI .u64 a0 (1 : Int)) (6148914691236517205 : Int)) + (bits .and .u64 a0 (6148914691236517205 : Int)))) (3689348814741910323 : Int)))))) (1085102592571150095 : Int)) (8 : Int)))) (16 : Int)))) (32 : Int))))) (127 : Int)))))]) (h' := []) (by kernel_rfl) ?_
  refine aw_ret (ret_ok [] ?_)
  cases h
  kernel_rfl

theorem F_bits_OnesCount_ok {fu : Nat} {a0 : Int} {r : Int} (h : F_bits_OnesCount fu a0 = some r) :
    ACall Try.prog 35 [.v (.c (.int .u64 a0))] [] [] (.v (.c (.int .i64 r))) [] := by
  unfold F_bits_OnesCount at h
  refine acall_of_aw ttOK Try.func35 (by kernel_rfl) (c := _) rfl (N := 8) (by kernel_rfl) (Nat.le_of_ble_eq_true rfl) ?_
  refine aw_seq ?_
  refine aw_region ttOK (C := True) (hs := []) (gs := []) (rn := []) (l' := [(0, .v (.c (.int .u64 a0)))]) (h' := []) (by kernel_rfl) trivial ?_
  refine aw_seq ?_
  refine aw_if false (by kernel_rfl) (fun hb => by cases hb) (fun hb => ?_)
  refine aw_skip ?_
  refine aw_seq ?_
  obtain ⟨v1, ev1, h⟩ := bind_some h
  refine aw_region ttOK (C := (ACall Try.prog 52 [.v (.c (.int .u64 a0))] [] [] (.v (.c (.int .i64 v1))) []) ∧ True) (hs := [(1, { call := some { f := 52, casts := [.same], r := .v (.c (.int .i64 v1)) } })]) (gs := []) (rn := []) (l' := [(2, .v (.c (.int .i64 v1)))]) (h' := []) (by kernel_rfl) ⟨(F_bits_OnesCount64_ok ev1), trivial⟩ ?_
  refine aw_ghost (gs := []) (rn := []) (l' := [(2, .v (.c (.int .i64 v1)))]) (h' := []) (by kernel_rfl) ?_
  refine aw_ret (ret_ok [] ?_)
  cases h
  kernel_rfl

theorem F_i_DigitSum_ok {fu : Nat} {a0 : Int} {r : Int × Bool} (h : F_i_DigitSum fu a0 = some r) :
    ACall Try.prog 12 [.v (.c (.int .i64 a0))] [] [] (.tu [.c (.int .i64 r.1), .c (.bool r.2)]) [] := by
  unfold F_i_DigitSum at h
  refine acall_of_aw ttOK Try.func12 (by kernel_rfl) (c := _) rfl (N := 10) (by kernel_rfl) (Nat.le_of_ble_eq_true rfl) ?_
  refine aw_seq ?_
  refine aw_region ttOK (C := True) (hs := []) (gs := []) (rn := []) (l' := [(0, .v (.c (.int .i64 a0)))]) (h' := []) (by kernel_rfl) trivial ?_
  refine aw_seq ?_
  refine aw_seq ?_
  obtain ⟨v1, ev1, h⟩ := bind_some h
  refine aw_region ttOK (C := (ACall Try.prog 34 [.v (.c (.int .i64 a0))] [] [] (.v (.c (.bool v1))) []) ∧ True) (hs := [(1, { call := some { f := 34, casts := [.same], r := .v (.c (.bool v1)) } })]) (gs := []) (rn := []) (l' := [(0, .v (.c (.int .i64 a0))), (6, .v (.c (.bool (!v1))))]) (h' := []) (by kernel_rfl) ⟨(F_i_isNumber_ok ev1), trivial⟩ ?_
  refine aw_if (!v1) (by kernel_rfl) (fun hb => ?_) (fun hb => ?_)
  · rw [ite_t hb] at h
    refine aw_seq ?_
    refine aw_region ttOK (C := True) (hs := []) (gs := []) (rn := []) (l' := [(2, .v (.c (.int .i64 (0 : Int)))), (3, .v (.c (.bool false)))]) (h' := []) (by kernel_rfl) trivial ?_
    refine aw_ghost (gs := []) (rn := []) (l' := [(2, .v (.c (.int .i64 (0 : Int)))), (3, .v (.c (.bool false)))]) (h' := []) (by kernel_rfl) ?_
    refine aw_ret (ret_ok [] ?_)
    cases h
    kernel_rfl
  · rw [ite_f hb] at h
    refine aw_ghost (gs := []) (rn := []) (l' := [(0, .v (.c (.int .i64 a0)))]) (h' := []) (by kernel_rfl) ?_
    refine aw_skip ?_
    refine aw_seq ?_
    obtain ⟨v2, ev2, h⟩ := bind_some h
    refine aw_region ttOK (C := (ACall Try.prog 35 [.v (.c (.int .u64 (IntKind.u64.wrap a0)))] [] [] (.v (.c (.int .i64 v2))) []) ∧ True) (hs := [(2, { call := some { f := 35, casts := [.same], r := .v (.c (.int .i64 v2)) } })]) (gs := []) (rn := []) (l' := [(2, .v (.c (.int .i64 v2))), (3, .v (.c (.bool true)))]) (h' := []) (by kernel_rfl) ⟨(F_bits_OnesCount_ok ev2), trivial⟩ ?_
    refine aw_ghost (gs := []) (rn := []) (l' := [(2, .v (.c (.int .i64 v2))), (3, .v (.c (.bool true)))]) (h' := []) (by kernel_rfl) ?_
    refine aw_ret (ret_ok [] ?_)
    cases h
    kernel_rfl

theorem F_l_FnPowersTogether_ok {fu : Nat} {a0 : List Int} {a1 : List Int} {r : Bool} (h : F_l_FnPowersTogether fu a0 a1 = some r) :
    ACall Try.prog 3 [.v (.c (.ls false (.num .u8) a0)), .v (.c (.ls false (.num .u8) a1))] [] [] (.v (.c (.bool r))) [] := by
  unfold F_l_FnPowersTogether at h
  refine acall_of_aw ttOK Try.func3 (by kernel_rfl) (c := _) rfl (N := 107) (by kernel_rfl) (Nat.le_of_ble_eq_true rfl) ?_
  refine aw_seq ?_
  refine aw_region ttOK (C := True) (hs := []) (gs := []) (rn := []) (l' := [(0, .v (.c (.ls false (.num .u8) a0))), (1, .v (.c (.ls false (.num .u8) a1)))]) (h' := []) (by kernel_rfl) trivial ?_
  refine aw_seq ?_
  refine aw_seq ?_
  obtain ⟨v1, ev1, h⟩ := bind_some h
  refine aw_region ttOK (C := (ACall Try.prog 4 [.v (.c (.ls false (.num .u8) a0)), .v (.c (.ls false (.num .u8) a1))] [] [] (.v (.c (.bool v1))) []) ∧ True) (hs := [(2, { call := some { f := 4, casts := [.same, .same], r := .v (.c (.bool v1)) } })]) (gs := []) (rn := []) (l' := [(0, .v (.c (.ls false (.num .u8) a0))), (22, .v (.c (.bool v1)))]) (h' := []) (by kernel_rfl) ⟨(F_l_big_ok ev1), trivial⟩ ?_
  refine aw_if v1 (by kernel_rfl) (fun hb => ?_) (fun hb => ?_)
  · rw [ite_t hb] at h
    refine aw_seq ?_
    refine aw_region ttOK (C := True) (hs := []) (gs := []) (rn := []) (l' := [(4, .v (.c (.bool true)))]) (h' := []) (by kernel_rfl) trivial ?_
    refine aw_ghost (gs := []) (rn := []) (l' := [(4, .v (.c (.bool true)))]) (h' := []) (by kernel_rfl) ?_
    refine aw_ret (ret_ok [] ?_)
    cases h
    kernel_rfl
  · rw [ite_f hb] at h
    refine aw_ghost (gs := []) (rn := []) (l' := [(0, .v (.c (.ls false (.num .u8) a0)))]) (h' := []) (by kernel_rfl) ?_
    refine aw_skip ?_
    refine aw_seq ?_
    obtain ⟨v2, ev2, h⟩ := bind_some h
    refine aw_region ttOK (C := (ACall Try.prog 5 [.v (.c (.ls false (.num .u8) a0))] [] [] (.v (.c (.ho 0))) [.vc 3 (.num .i64) v2]) ∧ True) (hs := [(1, { call := some { f := 5, casts := [.same], r := .v (.c (.ho 0)), Hout := [.vc 3 (.num .i64) v2], ren := [105] } })]) (gs := []) (rn := []) (l' := [(5, .v (.c (.ho 105)))]) (h' := [(105, .vc 3 (.num .i64) v2)]) (by kernel_rfl) ⟨(F_s_DrawTogetherPlan_ok ev2), trivial⟩ ?_
    refine aw_seq ?_
    obtain ⟨v4, ev4, h⟩ := bind_some h
    refine aw_region ttOK (C := (ACall Try.prog 6 [.v (.c (.ls false (.num .i64) v2))] [] [] (.tu [.ag [.int .i64 v4.2.1, .ls false (.pr (.num .i64) (.num .i64)) v4.2.2.1, .ls false (.num .i64) v4.2.2.2], .c (.bool v4.1)]) []) ∧ True) (hs := [(1, { call := some { f := 6, casts := [.view], r := .tu [.ag [.int .i64 v4.2.1, .ls false (.pr (.num .i64) (.num .i64)) v4.2.2.1, .ls false (.num .i64) v4.2.2.2], .c (.bool v4.1)] }, frz := [105] }), (5, { id := 111 })]) (gs := []) (rn := []) (l' := [(5, .v (.c (.ho 105))), (6, .v (.c (.p 111 0))), (7, .v (.c (.bool v4.1)))]) (h' := [(105, .vz (.num .i64) v2), (111, .bx [.int .i64 v4.2.1, .ls false (.pr (.num .i64) (.num .i64)) v4.2.2.1, .ls false (.num .i64) v4.2.2.2])]) (by kernel_rfl) ⟨(F_i_TogetherPlan_ok ev4), trivial⟩ ?_
    refine aw_seq ?_
    obtain ⟨v5, ev5, h⟩ := bind_some h
    refine aw_region ttOK (C := (ACall Try.prog 7 [.v (.c (.ls false (.num .i64) v2))] [] [] (.tu [.ag [.int .i64 v5.2.1, .ls false (.pr (.num .i64) (.num .i64)) v5.2.2.1, .ls false (.num .i64) v5.2.2.2], .c (.bool v5.1)]) []) ∧ True) (hs := [(1, { call := some { f := 7, casts := [.view], r := .tu [.ag [.int .i64 v5.2.1, .ls false (.pr (.num .i64) (.num .i64)) v5.2.2.1, .ls false (.num .i64) v5.2.2.2], .c (.bool v5.1)] } }), (5, { id := 118 })]) (gs := []) (rn := []) (l' := [(5, .v (.c (.ho 105))), (6, .v (.c (.p 111 0))), (7, .v (.c (.bool v4.1))), (8, .v (.c (.p 118 0))), (9, .v (.c (.bool v5.1)))]) (h' := [(105, .vz (.num .i64) v2), (111, .bx [.int .i64 v4.2.1, .ls false (.pr (.num .i64) (.num .i64)) v4.2.2.1, .ls false (.num .i64) v4.2.2.2]), (118, .bx [.int .i64 v5.2.1, .ls false (.pr (.num .i64) (.num .i64)) v5.2.2.1, .ls false (.num .i64) v5.2.2.2])]) (by kernel_rfl) ⟨(F_s_TogetherPlan_ok ev5), trivial⟩ ?_
    refine aw_seq ?_
    refine aw_seq ?_
    obtain ⟨v6, ev6, h⟩ := bind_some h
    refine aw_region ttOK (C := (((!(v4.1 == v5.1)) == false) = true → ((!(v4.1 == v5.1)) == false) = true) ∧ (((!(v4.1 == v5.1)) == false) = true → ((!(v4.1 == v5.1)) == false) = true) ∧ (((!(v4.1 == v5.1)) == false) = true → ACall Try.prog 8 [.v (.ag [.int .i64 v4.2.1, .ls false (.pr (.num .i64) (.num .i64)) v4.2.2.1, .ls false (.num .i64) v4.2.2.2]), .v (.ag [.int .i64 v5.2.1, .ls false (.pr (.num .i64) (.num .i64)) v5.2.2.1, .ls false (.num .i64) v5.2.2.2])] [] [] (.v (.c (.bool v6))) []) ∧ (((!(v4.1 == v5.1)) == false) = true → ((!(v4.1 == v5.1)) == false) = true) ∧ ((!(v4.1 == v5.1)) = false → ((!(v4.1 == v5.1)) == false) = true) ∧ True) (hs := [(6, { call := some { f := 8, casts := [.same, .same], r := .v (.c (.bool v6)) } })]) (gs := []) (rn := []) (l' := [(5, .v (.c (.ho 105))), (6, .v (.c (.p 111 0))), (9, .v (.c (.bool v5.1))), (43, .v (.c (.bool (cond (!(v4.1 == v5.1)) true (!v6)))))]) (h' := [(105, .vz (.num .i64) v2), (111, .bx [.int .i64 v4.2.1, .ls false (.pr (.num .i64) (.num .i64)) v4.2.2.1, .ls false (.num .i64) v4.2.2.2])]) (by kernel_rfl) ⟨(fun h => h), (fun h => h), (fun hg => (F_l_pSamePlan_ok (gcl_some ev6 hg))), (fun h => h), (fun h => beq_iff_eq.2 h), trivial⟩ ?_
    refine aw_if (cond (!(v4.1 == v5.1)) true (!v6)) (by kernel_rfl) (fun hb => ?_) (fun hb => ?_)
    · rw [ite_t hb] at h
      refine aw_seq ?_
      refine aw_region ttOK (C := True) (hs := []) (gs := []) (rn := []) (l' := [(4, .v (.c (.bool false)))]) (h' := []) (by kernel_rfl) trivial ?_
      refine aw_ghost (gs := []) (rn := []) (l' := [(4, .v (.c (.bool false)))]) (h' := []) (by kernel_rfl) ?_
      refine aw_ret (ret_ok [] ?_)
      cases h
      kernel_rfl
    · rw [ite_f hb] at h
      refine aw_ghost (gs := []) (rn := []) (l' := [(5, .v (.c (.ho 105))), (6, .v (.c (.p 111 0))), (9, .v (.c (.bool v5.1)))]) (h' := [(105, .vz (.num .i64) v2), (111, .bx [.int .i64 v4.2.1, .ls false (.pr (.num .i64) (.num .i64)) v4.2.2.1, .ls false (.num .i64) v4.2.2.2])]) (by kernel_rfl) ?_
      refine aw_skip ?_
      refine aw_seq ?_
      refine aw_seq ?_
      refine aw_region ttOK (C := True) (hs := []) (gs := []) (rn := []) (l' := [(5, .v (.c (.ho 105))), (6, .v (.c (.p 111 0))), (45, .v (.c (.bool (!v5.1))))]) (h' := [(105, .vz (.num .i64) v2), (111, .bx [.int .i64 v4.2.1, .ls false (.pr (.num .i64) (.num .i64)) v4.2.2.1, .ls false (.num .i64) v4.2.2.2])]) (by kernel_rfl) trivial ?_
      refine aw_if (!v5.1) (by kernel_rfl) (fun hb => ?_) (fun hb => ?_)
      · rw [ite_t hb] at h
        refine aw_seq ?_
        refine aw_region ttOK (C := True) (hs := []) (gs := []) (rn := []) (l' := [(4, .v (.c (.bool true)))]) (h' := []) (by kernel_rfl) trivial ?_
        refine aw_ghost (gs := []) (rn := []) (l' := [(4, .v (.c (.bool true)))]) (h' := []) (by kernel_rfl) ?_
        refine aw_ret (ret_ok [] ?_)
        cases h
        kernel_rfl
      · rw [ite_f hb] at h
        refine aw_ghost (gs := []) (rn := []) (l' := [(5, .v (.c (.ho 105))), (6, .v (.c (.p 111 0)))]) (h' := [(105, .vz (.num .i64) v2), (111, .bx [.int .i64 v4.2.1, .ls false (.pr (.num .i64) (.num .i64)) v4.2.2.1, .ls false (.num .i64) v4.2.2.2])]) (by kernel_rfl) ?_
        refine aw_skip ?_
        refine aw_seq ?_
        obtain ⟨v7, ev7, h⟩ := bind_some h
        refine aw_region ttOK (C := (ACall Try.prog 9 [.v (.ag [.int .i64 v4.2.1, .ls false (.pr (.num .i64) (.num .i64)) v4.2.2.1, .ls false (.num .i64) v4.2.2.2])] [] [] (.tu [.c (.ho 0), .c (.bool v7.1)]) [.vc 24 (.sl (.num .i64)) v7.2]) ∧ True) (hs := [(1, { call := some { f := 9, casts := [.same], r := .tu [.c (.ho 0), .c (.bool v7.1)], Hout := [.vc 24 (.sl (.num .i64)) v7.2], ren := [133] } })]) (gs := []) (rn := []) (l' := [(5, .v (.c (.ho 105))), (6, .v (.c (.p 111 0))), (10, .v (.c (.ho 133))), (11, .v (.c (.bool v7.1)))]) (h' := [(105, .vz (.num .i64) v2), (111, .bx [.int .i64 v4.2.1, .ls false (.pr (.num .i64) (.num .i64)) v4.2.2.1, .ls false (.num .i64) v4.2.2.2]), (133, .vc 24 (.sl (.num .i64)) v7.2)]) (by kernel_rfl) ⟨(F_i_OutputExponents_ok ev7), trivial⟩ ?_
        refine aw_seq ?_
        refine aw_seq ?_
        obtain ⟨c0, h⟩ := chk_some h
        obtain ⟨v8, ev8, h⟩ := bind_some h
        refine aw_region ttOK (C := (((!v7.1) == false) = true → ((!v7.1) == false) = true) ∧ (((!v7.1) == false) = true → ((!v7.1) == false) = true) ∧ ((!v7.1) = false → ((!v7.1) == false) = true) ∧ (((cond (!v7.1) true ((List.length v7.2 : Int) != (1 : Int))) == false) = true → ((cond (!v7.1) true ((List.length v7.2 : Int) != (1 : Int))) == false) = true) ∧ (((cond (!v7.1) true ((List.length v7.2 : Int) != (1 : Int))) == false) = true → 0 ≤ (0 : Int) ∧ (0 : Int) < (List.length v7.2 : Int)) ∧ (((cond (!v7.1) true ((List.length v7.2 : Int) != (1 : Int))) == false) = true → ((cond (!v7.1) true ((List.length v7.2 : Int) != (1 : Int))) == false) = true) ∧ (((cond (!v7.1) true ((List.length v7.2 : Int) != (1 : Int))) == false) = true → ((cond (!v7.1) true ((List.length v7.2 : Int) != (1 : Int))) == false) = true) ∧ (((cond (!v7.1) true ((List.length v7.2 : Int) != (1 : Int))) == false) = true → ((cond (!v7.1) true ((List.length v7.2 : Int) != (1 : Int))) == false) = true) ∧ (((cond (!v7.1) true ((List.length v7.2 : Int) != (1 : Int))) == false) = true → ACall Try.prog 10 [.v (.c (.ls false (.num .i64) (List.getD v7.2 ((0 : Int)).toNat ([] : List Int)))), .v (.c (.ls false (.num .i64) v2))] [] [] (.v (.c (.bool v8))) []) ∧ (((cond (!v7.1) true ((List.length v7.2 : Int) != (1 : Int))) == false) = true → ((cond (!v7.1) true ((List.length v7.2 : Int) != (1 : Int))) == false) = true) ∧ ((cond (!v7.1) true ((List.length v7.2 : Int) != (1 : Int))) = false → ((cond (!v7.1) true ((List.length v7.2 : Int) != (1 : Int))) == false) = true) ∧ True) (hs := [(12, { call := some { f := 10, casts := [.same, .view], r := .v (.c (.bool v8)) } })]) (gs := []) (rn := []) (l' := [(5, .v (.c (.ho 105))), (6, .v (.c (.p 111 0))), (65, .v (.c (.bool (cond (cond (!v7.1) true ((List.length v7.2 : Int) != (1 : Int))) true (!v8)))))]) (h' := [(105, .vz (.num .i64) v2), (111, .bx [.int .i64 v4.2.1, .ls false (.pr (.num .i64) (.num .i64)) v4.2.2.1, .ls false (.num .i64) v4.2.2.2])]) (by kernel_rfl) ⟨(fun h => h), (fun h => h), (fun h => beq_iff_eq.2 h), (fun h => h), c0, (fun h => h), (fun h => h), (fun h => h), (fun hg => (F_l_pSameInts_ok (gcl_some ev8 hg))), (fun h => h), (fun h => beq_iff_eq.2 h), trivial⟩ ?_
        refine aw_if (cond (cond (!v7.1) true ((List.length v7.2 : Int) != (1 : Int))) true (!v8)) (by kernel_rfl) (fun hb => ?_) (fun hb => ?_)
        · rw [ite_t hb] at h
          refine aw_seq ?_
          refine aw_region ttOK (C := True) (hs := []) (gs := []) (rn := []) (l' := [(4, .v (.c (.bool false)))]) (h' := []) (by kernel_rfl) trivial ?_
          refine aw_ghost (gs := []) (rn := []) (l' := [(4, .v (.c (.bool false)))]) (h' := []) (by kernel_rfl) ?_
          refine aw_ret (ret_ok [] ?_)
          cases h
          kernel_rfl
        · rw [ite_f hb] at h
          refine aw_ghost (gs := []) (rn := []) (l' := [(5, .v (.c (.ho 105))), (6, .v (.c (.p 111 0)))]) (h' := [(105, .vz (.num .i64) v2), (111, .bx [.int .i64 v4.2.1, .ls false (.pr (.num .i64) (.num .i64)) v4.2.2.1, .ls false (.num .i64) v4.2.2.2])]) (by kernel_rfl) ?_
          refine aw_skip ?_
          refine aw_seq ?_
          refine aw_region ttOK (C := True) (hs := []) (gs := []) (rn := []) (l' := [(5, .v (.c (.ho 105))), (6, .v (.c (.p 111 0))), (12, .v (.c (.int .i64 (0 : Int)))), (13, .v (.c (.int .i64 (0 : Int))))]) (h' := [(105, .vz (.num .i64) v2), (111, .bx [.int .i64 v4.2.1, .ls false (.pr (.num .i64) (.num .i64)) v4.2.2.1, .ls false (.num .i64) v4.2.2.2])]) (by kernel_rfl) trivial ?_
          refine aw_join (X := Int × Int × Int × List (Int × Int) × List Int) (fun x => ([(6, .v (.c (.p 111 0))), (12, .v (.c (.int .i64 x.1))), (13, .v (.c (.int .i64 x.2.1)))], [(111, .bx [.int .i64 x.2.2.1, .ls false (.pr (.num .i64) (.num .i64)) x.2.2.2.1, .ls false (.num .i64) x.2.2.2.2])])) (fun x => F_l_FnPowersTogetherJ1 fu x.1 x.2.1 x.2.2.1 x.2.2.2.1 x.2.2.2.2 = some r) ?_ ?_
          · rintro ⟨v9, v10, v11, v12, v13⟩ h
            unfold F_l_FnPowersTogetherJ1 at h
            refine aw_seq ?_
            refine aw_region ttOK (C := True) (hs := []) (gs := []) (rn := []) (l' := [(4, .v (.c (.bool ((List.length v12 : Int) == (IntKind.i64.wrap ((IntKind.i64.wrap ((IntKind.i64.wrap (v9 - (1 : Int))) + v10)) - (1 : Int)))))))]) (h' := []) (by kernel_rfl) trivial ?_
            refine aw_ghost (gs := []) (rn := []) (l' := [(4, .v (.c (.bool ((List.length v12 : Int) == (IntKind.i64.wrap ((IntKind.i64.wrap ((IntKind.i64.wrap (v9 - (1 : Int))) + v10)) - (1 : Int)))))))]) (h' := []) (by kernel_rfl) ?_
            refine aw_ret (ret_ok [] ?_)
            cases h
            kernel_rfl
          · refine aw_seq ?_
            refine aw_region ttOK (C := True) (hs := []) (gs := []) (rn := []) (l' := [(6, .v (.c (.p 111 0))), (12, .v (.c (.int .i64 (0 : Int)))), (13, .v (.c (.int .i64 (0 : Int)))), (66, .v (.c (.ho 105))), (67, .v (.c (.int .i64 (List.length v2 : Int)))), (68, .v (.c (.int .i64 (0 : Int))))]) (h' := [(105, .vz (.num .i64) v2), (111, .bx [.int .i64 v4.2.1, .ls false (.pr (.num .i64) (.num .i64)) v4.2.2.1, .ls false (.num .i64) v4.2.2.2])]) (by kernel_rfl) trivial ?_
            refine aw_block ?_
            refine aw_ghost (gs := [.view 66]) (rn := []) (l' := [(6, .v (.c (.p 111 0))), (12, .v (.c (.int .i64 (0 : Int)))), (13, .v (.c (.int .i64 (0 : Int)))), (66, .v (.c (.ls false (.num .i64) v2))), (67, .v (.c (.int .i64 (List.length v2 : Int)))), (68, .v (.c (.int .i64 (0 : Int))))]) (h' := [(111, .bx [.int .i64 v4.2.1, .ls false (.pr (.num .i64) (.num .i64)) v4.2.2.1, .ls false (.num .i64) v4.2.2.2])]) (by kernel_rfl) ?_
            refine aw_loopF (X := Int × Int × Int) (fun x => ([(6, .v (.c (.p 111 0))), (12, .v (.c (.int .i64 x.1))), (13, .v (.c (.int .i64 x.2.1))), (66, .v (.c (.ls false (.num .i64) v2))), (67, .v (.c (.int .i64 (List.length v2 : Int)))), (68, .v (.c (.int .i64 x.2.2)))], [(111, .bx [.int .i64 v4.2.1, .ls false (.pr (.num .i64) (.num .i64)) v4.2.2.1, .ls false (.num .i64) v4.2.2.2])])) (fun n x => F_l_FnPowersTogetherL2 fu v2 v4 n x.1 x.2.1 x.2.2 = some r) fu ((0 : Int), (0 : Int), (0 : Int)) h ?_
            rintro n2 ⟨v12, v13, v14⟩ h
            cases n2 with
            | zero => first | cases h | (rw [F_l_FnPowersTogetherL2] at h; cases h)
            | succ n2 =>
              rw [F_l_FnPowersTogetherL2] at h
              refine aw_seq ?_
              refine aw_region ttOK (C := True) (hs := []) (gs := []) (rn := []) (l' := [(6, .v (.c (.p 111 0))), (12, .v (.c (.int .i64 v12))), (13, .v (.c (.int .i64 v13))), (66, .v (.c (.ls false (.num .i64) v2))), (67, .v (.c (.int .i64 (List.length v2 : Int)))), (68, .v (.c (.int .i64 v14))), (69, .v (.c (.bool (decide (v14 < (List.length v2 : Int))))))]) (h' := [(111, .bx [.int .i64 v4.2.1, .ls false (.pr (.num .i64) (.num .i64)) v4.2.2.1, .ls false (.num .i64) v4.2.2.2])]) (by kernel_rfl) trivial ?_
              refine aw_seq ?_
              refine aw_if (decide (v14 < (List.length v2 : Int))) (by kernel_rfl) (fun hb => ?_) (fun hb => ?_)
              · rw [ite_t hb] at h
                refine aw_ghost (gs := []) (rn := []) (l' := [(6, .v (.c (.p 111 0))), (12, .v (.c (.int .i64 v12))), (13, .v (.c (.int .i64 v13))), (66, .v (.c (.ls false (.num .i64) v2))), (67, .v (.c (.int .i64 (List.length v2 : Int)))), (68, .v (.c (.int .i64 v14)))]) (h' := [(111, .bx [.int .i64 v4.2.1, .ls false (.pr (.num .i64) (.num .i64)) v4.2.2.1, .ls false (.num .i64) v4.2.2.2])]) (by kernel_rfl) ?_
                refine aw_skip ?_
                refine aw_join (X := Int × Int) (fun x => ([(6, .v (.c (.p 111 0))), (12, .v (.c (.int .i64 x.1))), (13, .v (.c (.int .i64 x.2))), (66, .v (.c (.ls false (.num .i64) v2))), (67, .v (.c (.int .i64 (List.length v2 : Int)))), (68, .v (.c (.int .i64 v14)))], [(111, .bx [.int .i64 v4.2.1, .ls false (.pr (.num .i64) (.num .i64)) v4.2.2.1, .ls false (.num .i64) v4.2.2.2])])) (fun x => F_l_FnPowersTogetherJ3 fu (F_l_FnPowersTogetherL2 fu v2 v4 n2) v14 x.1 x.2 = some r) ?_ ?_
                · rintro ⟨v15, v16⟩ h
                  unfold F_l_FnPowersTogetherJ3 at h
                  refine aw_region ttOK (C := True) (hs := []) (gs := []) (rn := []) (l' := [(6, .v (.c (.p 111 0))), (12, .v (.c (.int .i64 v15))), (13, .v (.c (.int .i64 v16))), (66, .v (.c (.ls false (.num .i64) v2))), (67, .v (.c (.int .i64 (List.length v2 : Int)))), (68, .v (.c (.int .i64 (IntKind.i64.wrap (v14 + (1 : Int))))))]) (h' := [(111, .bx [.int .i64 v4.2.1, .ls false (.pr (.num .i64) (.num .i64)) v4.2.2.1, .ls false (.num .i64) v4.2.2.2])]) (by kernel_rfl) trivial ?_
                  exact ⟨_, (v15, v16, (IntKind.i64.wrap (v14 + (1 : Int)))), Nat.lt_succ_self _, h, rfl, rfl⟩
                · refine aw_block ?_
                  refine aw_seq ?_
                  obtain ⟨c0, h⟩ := chk_some h
                  refine aw_region ttOK (C := (0 ≤ v14 ∧ v14 < (List.length v2 : Int)) ∧ True) (hs := []) (gs := []) (rn := []) (l' := [(6, .v (.c (.p 111 0))), (12, .v (.c (.int .i64 v12))), (13, .v (.c (.int .i64 v13))), (15, .v (.c (.int .i64 (List.getD v2 (v14).toNat (0 : Int))))), (66, .v (.c (.ls false (.num .i64) v2))), (67, .v (.c (.int .i64 (List.length v2 : Int)))), (68, .v (.c (.int .i64 v14)))]) (h' := [(111, .bx [.int .i64 v4.2.1, .ls false (.pr (.num .i64) (.num .i64)) v4.2.2.1, .ls false (.num .i64) v4.2.2.2])]) (by kernel_rfl) ⟨c0, trivial⟩ ?_
                  refine aw_seq ?_
                  refine aw_seq ?_
                  refine aw_region ttOK (C := True) (hs := []) (gs := []) (rn := []) (l' := [(6, .v (.c (.p 111 0))), (12, .v (.c (.int .i64 v12))), (13, .v (.c (.int .i64 v13))), (15, .v (.c (.int .i64 (List.getD v2 (v14).toNat (0 : Int))))), (66, .v (.c (.ls false (.num .i64) v2))), (67, .v (.c (.int .i64 (List.length v2 : Int)))), (68, .v (.c (.int .i64 v14))), (73, .v (.c (.bool ((List.getD v2 (v14).toNat (0 : Int)) == (0 : Int)))))]) (h' := [(111, .bx [.int .i64 v4.2.1, .ls false (.pr (.num .i64) (.num .i64)) v4.2.2.1, .ls false (.num .i64) v4.2.2.2])]) (by kernel_rfl) trivial ?_
                  refine aw_if ((List.getD v2 (v14).toNat (0 : Int)) == (0 : Int)) (by kernel_rfl) (fun hb => ?_) (fun hb => ?_)
                  · rw [ite_t hb] at h
                    refine aw_ghost (gs := []) (rn := []) (l' := [(6, .v (.c (.p 111 0))), (12, .v (.c (.int .i64 v12))), (13, .v (.c (.int .i64 v13))), (66, .v (.c (.ls false (.num .i64) v2))), (67, .v (.c (.int .i64 (List.length v2 : Int)))), (68, .v (.c (.int .i64 v14)))]) (h' := [(111, .bx [.int .i64 v4.2.1, .ls false (.pr (.num .i64) (.num .i64)) v4.2.2.1, .ls false (.num .i64) v4.2.2.2])]) (by kernel_rfl) ?_
                    refine aw_exit ?_
                    exact ⟨(v12, v13), h, rfl, rfl⟩
                  · rw [ite_f hb] at h
                    refine aw_ghost (gs := []) (rn := []) (l' := [(6, .v (.c (.p 111 0))), (12, .v (.c (.int .i64 v12))), (13, .v (.c (.int .i64 v13))), (15, .v (.c (.int .i64 (List.getD v2 (v14).toNat (0 : Int))))), (66, .v (.c (.ls false (.num .i64) v2))), (67, .v (.c (.int .i64 (List.length v2 : Int)))), (68, .v (.c (.int .i64 v14)))]) (h' := [(111, .bx [.int .i64 v4.2.1, .ls false (.pr (.num .i64) (.num .i64)) v4.2.2.1, .ls false (.num .i64) v4.2.2.2])]) (by kernel_rfl) ?_
                    refine aw_skip ?_
                    refine aw_seq ?_
                    obtain ⟨v15, ev15, h⟩ := bind_some h
                    refine aw_region ttOK (C := (ACall Try.prog 11 [.v (.c (.int .i64 (List.getD v2 (v14).toNat (0 : Int))))] [] [] (.tu [.c (.int .i64 v15.1), .c (.bool v15.2)]) []) ∧ True) (hs := [(1, { call := some { f := 11, casts := [.same], r := .tu [.c (.int .i64 v15.1), .c (.bool v15.2)] } })]) (gs := []) (rn := []) (l' := [(6, .v (.c (.p 111 0))), (12, .v (.c (.int .i64 v12))), (13, .v (.c (.int .i64 v13))), (15, .v (.c (.int .i64 (List.getD v2 (v14).toNat (0 : Int))))), (16, .v (.c (.int .i64 v15.1))), (17, .v (.c (.bool v15.2))), (66, .v (.c (.ls false (.num .i64) v2))), (67, .v (.c (.int .i64 (List.length v2 : Int)))), (68, .v (.c (.int .i64 v14)))]) (h' := [(111, .bx [.int .i64 v4.2.1, .ls false (.pr (.num .i64) (.num .i64)) v4.2.2.1, .ls false (.num .i64) v4.2.2.2])]) (by kernel_rfl) ⟨(F_i_BitLength_ok ev15), trivial⟩ ?_
                    refine aw_seq ?_
                    obtain ⟨v16, ev16, h⟩ := bind_some h
                    refine aw_region ttOK (C := (ACall Try.prog 12 [.v (.c (.int .i64 (List.getD v2 (v14).toNat (0 : Int))))] [] [] (.tu [.c (.int .i64 v16.1), .c (.bool v16.2)]) []) ∧ True) (hs := [(1, { call := some { f := 12, casts := [.same], r := .tu [.c (.int .i64 v16.1), .c (.bool v16.2)] } })]) (gs := []) (rn := []) (l' := [(6, .v (.c (.p 111 0))), (12, .v (.c (.int .i64 v12))), (13, .v (.c (.int .i64 v13))), (16, .v (.c (.int .i64 v15.1))), (17, .v (.c (.bool v15.2))), (18, .v (.c (.int .i64 v16.1))), (19, .v (.c (.bool v16.2))), (66, .v (.c (.ls false (.num .i64) v2))), (67, .v (.c (.int .i64 (List.length v2 : Int)))), (68, .v (.c (.int .i64 v14)))]) (h' := [(111, .bx [.int .i64 v4.2.1, .ls false (.pr (.num .i64) (.num .i64)) v4.2.2.1, .ls false (.num .i64) v4.2.2.2])]) (by kernel_rfl) ⟨(F_i_DigitSum_ok ev16), trivial⟩ ?_
                    refine aw_seq ?_
                    refine aw_seq ?_
                    refine aw_region ttOK (C := (((!v15.2) == false) = true → ((!v15.2) == false) = true) ∧ ((!v15.2) = false → ((!v15.2) == false) = true) ∧ True) (hs := []) (gs := []) (rn := []) (l' := [(6, .v (.c (.p 111 0))), (12, .v (.c (.int .i64 v12))), (13, .v (.c (.int .i64 v13))), (16, .v (.c (.int .i64 v15.1))), (18, .v (.c (.int .i64 v16.1))), (66, .v (.c (.ls false (.num .i64) v2))), (67, .v (.c (.int .i64 (List.length v2 : Int)))), (68, .v (.c (.int .i64 v14))), (89, .v (.c (.bool (cond (!v15.2) true (!v16.2)))))]) (h' := [(111, .bx [.int .i64 v4.2.1, .ls false (.pr (.num .i64) (.num .i64)) v4.2.2.1, .ls false (.num .i64) v4.2.2.2])]) (by kernel_rfl) ⟨(fun h => h), (fun h => beq_iff_eq.2 h), trivial⟩ ?_
                    refine aw_if (cond (!v15.2) true (!v16.2)) (by kernel_rfl) (fun hb => ?_) (fun hb => ?_)
                    · rw [ite_t hb] at h
                      refine aw_seq ?_
                      refine aw_region ttOK (C := True) (hs := []) (gs := []) (rn := []) (l' := [(4, .v (.c (.bool false)))]) (h' := []) (by kernel_rfl) trivial ?_
                      refine aw_ghost (gs := []) (rn := []) (l' := [(4, .v (.c (.bool false)))]) (h' := []) (by kernel_rfl) ?_
                      refine aw_ret (ret_ok [] ?_)
                      cases h
                      kernel_rfl
                    · rw [ite_f hb] at h
                      refine aw_ghost (gs := []) (rn := []) (l' := [(6, .v (.c (.p 111 0))), (12, .v (.c (.int .i64 v12))), (13, .v (.c (.int .i64 v13))), (16, .v (.c (.int .i64 v15.1))), (18, .v (.c (.int .i64 v16.1))), (66, .v (.c (.ls false (.num .i64) v2))), (67, .v (.c (.int .i64 (List.length v2 : Int)))), (68, .v (.c (.int .i64 v14)))]) (h' := [(111, .bx [.int .i64 v4.2.1, .ls false (.pr (.num .i64) (.num .i64)) v4.2.2.1, .ls false (.num .i64) v4.2.2.2])]) (by kernel_rfl) ?_
                      refine aw_skip ?_
                      refine aw_seq ?_
                      refine aw_region ttOK (C := True) (hs := []) (gs := []) (rn := []) (l' := [(6, .v (.c (.p 111 0))), (12, .v (.c (.int .i64 v12))), (13, .v (.c (.int .i64 (IntKind.i64.wrap (v13 + v16.1))))), (16, .v (.c (.int .i64 v15.1))), (66, .v (.c (.ls false (.num .i64) v2))), (67, .v (.c (.int .i64 (List.length v2 : Int)))), (68, .v (.c (.int .i64 v14)))]) (h' := [(111, .bx [.int .i64 v4.2.1, .ls false (.pr (.num .i64) (.num .i64)) v4.2.2.1, .ls false (.num .i64) v4.2.2.2])]) (by kernel_rfl) trivial ?_
                      refine aw_seq ?_
                      refine aw_region ttOK (C := True) (hs := []) (gs := []) (rn := []) (l' := [(6, .v (.c (.p 111 0))), (12, .v (.c (.int .i64 v12))), (13, .v (.c (.int .i64 (IntKind.i64.wrap (v13 + v16.1))))), (16, .v (.c (.int .i64 v15.1))), (66, .v (.c (.ls false (.num .i64) v2))), (67, .v (.c (.int .i64 (List.length v2 : Int)))), (68, .v (.c (.int .i64 v14))), (95, .v (.c (.bool (decide (v15.1 > v12)))))]) (h' := [(111, .bx [.int .i64 v4.2.1, .ls false (.pr (.num .i64) (.num .i64)) v4.2.2.1, .ls false (.num .i64) v4.2.2.2])]) (by kernel_rfl) trivial ?_
                      refine aw_if (decide (v15.1 > v12)) (by kernel_rfl) (fun hb => ?_) (fun hb => ?_)
                      · rw [ite_t hb] at h
                        refine aw_region ttOK (C := True) (hs := []) (gs := []) (rn := []) (l' := [(6, .v (.c (.p 111 0))), (12, .v (.c (.int .i64 v15.1))), (13, .v (.c (.int .i64 (IntKind.i64.wrap (v13 + v16.1))))), (66, .v (.c (.ls false (.num .i64) v2))), (67, .v (.c (.int .i64 (List.length v2 : Int)))), (68, .v (.c (.int .i64 v14)))]) (h' := [(111, .bx [.int .i64 v4.2.1, .ls false (.pr (.num .i64) (.num .i64)) v4.2.2.1, .ls false (.num .i64) v4.2.2.2])]) (by kernel_rfl) trivial ?_
                        exact ⟨(v15.1, (IntKind.i64.wrap (v13 + v16.1))), h, rfl, rfl⟩
                      · rw [ite_f hb] at h
                        refine aw_ghost (gs := []) (rn := []) (l' := [(6, .v (.c (.p 111 0))), (12, .v (.c (.int .i64 v12))), (13, .v (.c (.int .i64 (IntKind.i64.wrap (v13 + v16.1))))), (66, .v (.c (.ls false (.num .i64) v2))), (67, .v (.c (.int .i64 (List.length v2 : Int)))), (68, .v (.c (.int .i64 v14)))]) (h' := [(111, .bx [.int .i64 v4.2.1, .ls false (.pr (.num .i64) (.num .i64)) v4.2.2.1, .ls false (.num .i64) v4.2.2.2])]) (by kernel_rfl) ?_
                        refine aw_skip ?_
                        exact ⟨(v12, (IntKind.i64.wrap (v13 + v16.1))), h, rfl, rfl⟩
              · rw [ite_f hb] at h
                refine aw_ghost (gs := []) (rn := []) (l' := [(6, .v (.c (.p 111 0))), (12, .v (.c (.int .i64 v12))), (13, .v (.c (.int .i64 v13)))]) (h' := [(111, .bx [.int .i64 v4.2.1, .ls false (.pr (.num .i64) (.num .i64)) v4.2.2.1, .ls false (.num .i64) v4.2.2.2])]) (by kernel_rfl) ?_
                refine aw_exit ?_
                exact ⟨(v12, v13, v4.2.1, v4.2.2.1, v4.2.2.2), h, rfl, rfl⟩

end Go.Proofs.Yticeepbgbefmaaa
