/- BookNone: the row. -/
import Derived.Test.YtiamenedboifeaaGreatDoorLifted
import Derived.Test.YtiamenedboifeaaGreatDoorClosed
namespace Go.Proofs.YtiamenedboifeaaGreatDoor
open Go Go.Proofs.YtiamenedboifeaaGreatDoor.Rx Go.ChangeShapes Go.WideShapes Go.ChangeAt Go.RowKit

theorem bookNone_holds : Rows.BookNoneSaid :=
  OpenClaim.holds_of_wide 3 Tryz.f3 rfl rfl rfl rfl rfl rfl rfl ⟨rfl, rfl, rfl, rfl, rfl⟩ rfl rfl rfl rfl rfl (by kernel_rfl) Tryz.func3 bookNone_closed
    (of_decide_eq_true (by kernel_rfl)) (by unfold Func.isWrapper; first | (rw [if_pos (by decide +kernel)]; kernel_rfl) | (rw [if_neg (by decide +kernel)]; exact ⟨rfl, rfl⟩))
    (fun os started H enc _ => lifted os started H enc)
end Go.Proofs.YtiamenedboifeaaGreatDoor
