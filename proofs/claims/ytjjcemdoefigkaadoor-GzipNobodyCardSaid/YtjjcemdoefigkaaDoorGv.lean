/- GzipNobody: a walker that is not there. -/
import Derived.Test.YtjjcemdoefigkaaDoorGu
namespace Go.Proofs.YtjjcemdoefigkaaDoor.Hf
set_option linter.unusedVariables false
set_option linter.unusedSimpArgs false
open Go.RowKit Go.Proofs.YtjjcemdoefigkaaDoor.W

set_option maxHeartbeats 1000000 in
theorem nl_end (w : World) : Calls Tryd.prog 4 #[.pointer none] w fun e w' => e = .returned (.tuple #[]) ∧ w = w' := by
  go_enter Tryd.func4, Tryd.ntmps4
  go_wp2
  refine bodyPost_ret (results_none rfl _ _ _) rfl ?_
  exact ⟨rfl, rfl⟩
set_option maxHeartbeats 1000000 in
theorem nl_reset (w : World) : Calls Tryd.prog 5 #[.pointer none] w fun e w' => e = .returned (.tuple #[]) ∧ w = w' := by
  go_enter Tryd.func5, Tryd.ntmps5
  go_wp2
  refine bodyPost_ret (results_none rfl _ _ _) rfl ?_
  exact ⟨rfl, rfl⟩
set_option maxHeartbeats 1000000 in
theorem nl_next (w : World) : Calls Tryd.prog 6 #[.pointer none] w fun e w' => e = .returned (.tuple #[.agg #[.int .i64 0, .int .u8 0, .int .i64 0, .int .i64 0, .string ⟨#[]⟩], .bool false]) ∧ Kp [] w w' := by
  go_enter Tryd.func6, Tryd.ntmps6
  go_wp2
  refine bodyPost_ret (v := .tuple #[.agg #[.int .i64 0, .int .u8 0, .int .i64 0, .int .i64 0, .string ⟨#[]⟩], .bool false]) (by simp [results, Tryd.results6, go_sem]) rfl ?_
  exact ⟨rfl, by repeat (first | exact Kp.refl _ _ | refine Kp.drewN ?_ _ | refine Kp.setCell ?_ (.inr (Nat.le_refl _)) _ | refine Kp.alloc ?_ _)⟩
set_option maxHeartbeats 1000000 in
theorem nl_put (b : Int) (w : World) : Calls Tryd.prog 7 #[.pointer none, .int .u8 b] w fun e w' => e = .returned (.bool false) ∧ w = w' := by
  go_enter Tryd.func7, Tryd.ntmps7
  go_wp2
  go_ret
  exact ⟨rfl, rfl⟩
set_option maxHeartbeats 1000000 in
theorem nl_reason (w : World) : Calls Tryd.prog 8 #[.pointer none] w fun e w' => e = .returned (.int .i64 0) ∧ w = w' := by
  go_enter Tryd.func8, Tryd.ntmps8
  go_wp2
  go_ret
  exact ⟨rfl, rfl⟩
set_option maxHeartbeats 1000000 in
set_option maxRecDepth 100000 in
theorem c_gznobody (b : Int) (w : World) (hG : Gt w [] ∧ Gq w) : Calls Tryd.prog 3 #[.int .u8 b] w fun e w' => e = .returned (.bool true) ∧ Below w.heap.size w w' := by
  have HG := Lib.hid hG
  clear hG
  go_enter Tryd.func3, Tryd.ntmps3
  go_wp2_with (first
    | (go_at_call 4; go_must (refine (nl_end _).mono ?_); rintro e w1 ⟨rfl, rfl⟩)
    | (go_at_call 5; go_must (refine (nl_reset _).mono ?_); rintro e w1 ⟨rfl, rfl⟩)
    | (go_at_call 6; go_must (refine (nl_next _).mono ?_); rintro e w2 ⟨rfl, hk2⟩; have HK2 := Lib.hid hk2; clear hk2)
    | (go_at_call 7; go_must (refine (nl_put _ _).mono ?_); rintro e w1 ⟨rfl, rfl⟩)
    | (go_at_call 8; go_must (refine (nl_reason _).mono ?_); rintro e w1 ⟨rfl, rfl⟩)
    | (go_at_call 9; go_must (refine (c_awake _ (HG.out.1.kept (HK2.out.alloc _) (fun k hk => hk)) (HG.out.2.kept HG.out.1 (HK2.out.alloc _))).mono ?_); rintro e w5 ⟨rfl, hk5⟩; have HK9 := Lib.hid ((HK2.out.alloc _).trans hk5); clear hk5))
  go_ret
  exact ⟨rfl, HK9.out.below (Nat.le_refl _) (fun k hk => (by cases hk))⟩
end Go.Proofs.YtjjcemdoefigkaaDoor.Hf
