/- SaveFormats: the closed facts of the row, one by one. -/
import Derived.Test.YtkeibmkcgnppeaaGreatDoorRows
import Derived.JoinedOf
import Derived.ProofKit
namespace Go.Proofs.YtkeibmkcgnppeaaGreatDoor
open Go
set_option maxHeartbeats 12800000 in
set_option maxRecDepth 100000 in
theorem saveFormats_closed : joinedFacts Tryz.prog 4 Tryz.f4 Rows.saveFormatsSpec Rows.saveFormatsRow = true := by
  unfold joinedFacts
  simp only [Bool.and_eq_true]
  repeat' apply And.intro
  all_goals as_aux_lemma => kernel_rfl
end Go.Proofs.YtkeibmkcgnppeaaGreatDoor
