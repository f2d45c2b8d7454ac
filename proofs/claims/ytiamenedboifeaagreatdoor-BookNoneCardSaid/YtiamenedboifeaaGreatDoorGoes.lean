/- No function of the seat's program starts a goroutine. -/
import Derived.Test.YtiamenedboifeaaGreatDoorRxW
import Derived.Test.YtiamenedboifeaaGreatDoorRows
namespace Go.Proofs.YtiamenedboifeaaGreatDoor
open Go Go.Proofs.YtiamenedboifeaaGreatDoor.Rx
set_option maxRecDepth 100000
theorem goes0 : goesNot Tryz.prog 0 73 = true := by as_aux_lemma => kernel_rfl
theorem goes1 : goesNot Tryz.prog 73 74 = true := by as_aux_lemma => kernel_rfl
theorem goes2 : goesNot Tryz.prog 147 74 = true := by as_aux_lemma => kernel_rfl
theorem goes3 : goesNot Tryz.prog 221 73 = true := by as_aux_lemma => kernel_rfl
theorem goes4 : goesNot Tryz.prog 294 74 = true := by as_aux_lemma => kernel_rfl
theorem goes5 : goesNot Tryz.prog 368 74 = true := by as_aux_lemma => kernel_rfl
theorem size_prog : Tryz.prog.funcs.size = 442 := by as_aux_lemma => kernel_rfl
theorem goes_no (g : Nat) (fn : Func) (h : Tryz.prog.funcs[g]? = some fn) : fn.goes = false := by
  have hlt : g < 442 := by
    rcases Nat.lt_or_ge g 442 with k | k
    · exact k
    · rw [Array.getElem?_eq_none (by rw [size_prog]; exact k)] at h; cases h
  rcases Nat.lt_or_ge g 73 with k0 | k0
  · exact goesNot_ok 73 0 goes0 g fn (by omega) (by omega) h
  rcases Nat.lt_or_ge g 147 with k1 | k1
  · exact goesNot_ok 74 73 goes1 g fn (by omega) (by omega) h
  rcases Nat.lt_or_ge g 221 with k2 | k2
  · exact goesNot_ok 74 147 goes2 g fn (by omega) (by omega) h
  rcases Nat.lt_or_ge g 294 with k3 | k3
  · exact goesNot_ok 73 221 goes3 g fn (by omega) (by omega) h
  rcases Nat.lt_or_ge g 368 with k4 | k4
  · exact goesNot_ok 74 294 goes4 g fn (by omega) (by omega) h
  rcases Nat.lt_or_ge g 442 with k5 | k5
  · exact goesNot_ok 74 368 goes5 g fn (by omega) (by omega) h
  omega
end Go.Proofs.YtiamenedboifeaaGreatDoor
