/- The law BookNone, gone through whole by the evaluator in the kernel, whatever the arguments are: it answers true. -/
import Derived.Test.YtiamenedboifeaaGreatDoorEnv
namespace Go.Proofs.YtiamenedboifeaaGreatDoor
open Go Go.Proofs.YtiamenedboifeaaGreatDoor.Rx
set_option maxRecDepth 1000000
theorem law_true : isTrue (ans (eval env 3000 (.call (.fn 3) [.agg (List.replicate 24 .one), .agg (List.replicate 3 .one)] ⟨0, .leaf⟩))) = true := by kernel_rfl
end Go.Proofs.YtiamenedboifeaaGreatDoor
