/- SaveFormats: the row. -/
import Derived.Test.YtkeibmkcgnppeaaGreatDoorZHf
import Derived.Test.YtkeibmkcgnppeaaGreatDoorZSaveFormatsClosed
namespace Go.Proofs.YtkeibmkcgnppeaaGreatDoor
open Go Go.Proofs.YtkeibmkcgnppeaaGreatDoor.Rx Go.ChangeShapes Go.WideShapes Go.ChangeAt Go.RowKit
theorem saveFormats_holds : Rows.SaveFormatsSaid :=
  OpenClaim.holds_of_wide 4 Tryz.f4 rfl rfl rfl rfl rfl rfl rfl ⟨rfl, rfl, rfl, rfl, rfl⟩ rfl rfl rfl rfl rfl (by kernel_rfl) Tryz.func4 saveFormats_closed
    (of_decide_eq_true (by kernel_rfl)) (by unfold Func.isWrapper; first | (rw [if_pos (by decide +kernel)]; kernel_rfl) | (rw [if_neg (by decide +kernel)]; exact ⟨rfl, rfl⟩))
    (fun os started H enc _ => Sf.lifted os started H enc)
end Go.Proofs.YtkeibmkcgnppeaaGreatDoor
