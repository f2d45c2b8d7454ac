/- PrintOwnUpto: the row. -/
import Derived.Test.YtkeibmkcgnppeaaGreatDoorZQc
import Derived.Test.YtkeibmkcgnppeaaGreatDoorZPrintOwnUptoClosed
set_option maxHeartbeats 32000000
namespace Go.Proofs.YtkeibmkcgnppeaaGreatDoor
open Go Go.Proofs.YtkeibmkcgnppeaaGreatDoor.Rx Go.ChangeShapes Go.WideShapes Go.ChangeAt Go.RowKit
theorem printOwnUpto_holds : Rows.PrintOwnUptoSaid :=
  OpenClaim.holds_of_cond 3 Tryz.f3 rfl rfl rfl rfl rfl rfl rfl ⟨rfl, rfl, rfl, rfl, rfl⟩ rfl rfl rfl rfl rfl (by kernel_rfl) Tryz.func3 printOwnUpto_closed
    (of_decide_eq_true (by kernel_rfl)) (by unfold Func.isWrapper; first | (rw [if_pos (by decide +kernel)]; kernel_rfl) | (rw [if_neg (by decide +kernel)]; exact ⟨rfl, rfl⟩))
    (fun os started H enc _ F => Po.lifted os started H enc F)
end Go.Proofs.YtkeibmkcgnppeaaGreatDoor
