/- No function of the seat's program starts a goroutine. -/
import Derived.Test.YtiamenedboifeabGreatDoorRxW
import Derived.Test.YtiamenedboifeabGreatDoorRows
namespace Go.Proofs.YtiamenedboifeabGreatDoor
open Go Go.Proofs.YtiamenedboifeabGreatDoor.Rx
set_option maxRecDepth 100000
theorem goes0 : goesNot Tryz.prog 0 79 = true := by as_aux_lemma => kernel_rfl
theorem goes1 : goesNot Tryz.prog 79 79 = true := by as_aux_lemma => kernel_rfl
theorem goes2 : goesNot Tryz.prog 158 79 = true := by as_aux_lemma => kernel_rfl
theorem goes3 : goesNot Tryz.prog 237 79 = true := by as_aux_lemma => kernel_rfl
theorem goes4 : goesNot Tryz.prog 316 79 = true := by as_aux_lemma => kernel_rfl
theorem goes5 : goesNot Tryz.prog 395 80 = true := by as_aux_lemma => kernel_rfl
theorem size_prog : Tryz.prog.funcs.size = 475 := by as_aux_lemma => kernel_rfl
theorem goes_no (g : Nat) (fn : Func) (h : Tryz.prog.funcs[g]? = some fn) : fn.goes = false := by
  have hlt : g < 475 := by
    rcases Nat.lt_or_ge g 475 with k | k
    · exact k
    · rw [Array.getElem?_eq_none (by rw [size_prog]; exact k)] at h; cases h
  rcases Nat.lt_or_ge g 79 with k0 | k0
  · exact goesNot_ok 79 0 goes0 g fn (by omega) (by omega) h
  rcases Nat.lt_or_ge g 158 with k1 | k1
  · exact goesNot_ok 79 79 goes1 g fn (by omega) (by omega) h
  rcases Nat.lt_or_ge g 237 with k2 | k2
  · exact goesNot_ok 79 158 goes2 g fn (by omega) (by omega) h
  rcases Nat.lt_or_ge g 316 with k3 | k3
  · exact goesNot_ok 79 237 goes3 g fn (by omega) (by omega) h
  rcases Nat.lt_or_ge g 395 with k4 | k4
  · exact goesNot_ok 79 316 goes4 g fn (by omega) (by omega) h
  rcases Nat.lt_or_ge g 475 with k5 | k5
  · exact goesNot_ok 80 395 goes5 g fn (by omega) (by omega) h
  omega
end Go.Proofs.YtiamenedboifeabGreatDoor
