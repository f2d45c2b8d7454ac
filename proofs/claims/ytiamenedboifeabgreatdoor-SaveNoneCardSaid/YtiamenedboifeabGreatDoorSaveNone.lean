/- SaveNone: the row. -/
import Derived.Test.YtiamenedboifeabGreatDoorLifted
import Derived.Test.YtiamenedboifeabGreatDoorClosed
namespace Go.Proofs.YtiamenedboifeabGreatDoor
open Go Go.Proofs.YtiamenedboifeabGreatDoor.Rx Go.ChangeShapes Go.WideShapes Go.ChangeAt Go.RowKit

theorem saveNone_holds : Rows.SaveNoneSaid :=
  OpenClaim.holds_of_wide 3 Tryz.f3 rfl rfl rfl rfl rfl rfl rfl ⟨rfl, rfl, rfl, rfl, rfl⟩ rfl rfl rfl rfl rfl (by kernel_rfl) Tryz.func3 saveNone_closed
    (of_decide_eq_true (by kernel_rfl)) (by unfold Func.isWrapper; first | (rw [if_pos (by decide +kernel)]; kernel_rfl) | (rw [if_neg (by decide +kernel)]; exact ⟨rfl, rfl⟩))
    (fun os started H enc _ => lifted os started H enc)
end Go.Proofs.YtiamenedboifeabGreatDoor
