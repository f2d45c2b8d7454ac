/- The closed call 'begun' answers true: the evaluator in the kernel. -/
import Derived.Test.YtgfhmhpidijdoaaGreatDoorEnv
namespace Go.Proofs.YtgfhmhpidijdoaaGreatDoor
open Go Go.Proofs.YtgfhmhpidijdoaaGreatDoor.Rx
set_option maxRecDepth 1000000
theorem begun_true : saysTrue (eval env 3000 (.call 6 [] ⟨0, .leaf⟩)) = true := by kernel_rfl
end Go.Proofs.YtgfhmhpidijdoaaGreatDoor
