/- SaveNone: the closed facts of the row, one by one. -/
import Derived.Test.YtiamenedboifeabGreatDoorRows
import Derived.JoinedOf
import Derived.ProofKit
namespace Go.Proofs.YtiamenedboifeabGreatDoor
open Go

set_option maxHeartbeats 12800000 in
set_option maxRecDepth 100000 in
theorem saveNone_closed : joinedFacts Tryz.prog 3 Tryz.f3 Rows.saveNoneSpec Rows.saveNoneRow = true := by
  unfold joinedFacts
  simp only [Bool.and_eq_true]
  repeat' apply And.intro
  all_goals as_aux_lemma => kernel_rfl
end Go.Proofs.YtiamenedboifeabGreatDoor
