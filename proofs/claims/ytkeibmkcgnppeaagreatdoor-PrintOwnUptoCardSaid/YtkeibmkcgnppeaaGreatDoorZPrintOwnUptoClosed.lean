/- PrintOwnUpto: the closed facts of the row, one by one. -/
import Derived.Test.YtkeibmkcgnppeaaGreatDoorRows
import Derived.JoinedOf
import Derived.ProofKit
set_option maxHeartbeats 32000000
namespace Go.Proofs.YtkeibmkcgnppeaaGreatDoor
open Go
set_option maxRecDepth 100000 in
theorem printOwnUpto_closed : joinedFacts Tryz.prog 3 Tryz.f3 (Rows.OpenSpec.upto Rows.printOwnSpec).bare Rows.printOwnUptoRow = true := by
  unfold joinedFacts
  simp only [Bool.and_eq_true]
  repeat' apply And.intro
  all_goals as_aux_lemma => kernel_rfl
end Go.Proofs.YtkeibmkcgnppeaaGreatDoor
