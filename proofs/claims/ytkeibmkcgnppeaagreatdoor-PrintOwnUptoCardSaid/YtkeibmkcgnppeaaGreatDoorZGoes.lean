/- No function of the seat's program starts a goroutine. -/
import Derived.Test.YtkeibmkcgnppeaaGreatDoorZRd
import Derived.Test.YtkeibmkcgnppeaaGreatDoorRows
set_option maxHeartbeats 32000000
namespace Go.Proofs.YtkeibmkcgnppeaaGreatDoor
open Go Go.Proofs.YtkeibmkcgnppeaaGreatDoor.Rx
set_option maxRecDepth 100000
theorem goes0 : goesNot Tryz.prog 0 73 = true := by as_aux_lemma => kernel_rfl
theorem goes1 : goesNot Tryz.prog 73 73 = true := by as_aux_lemma => kernel_rfl
theorem goes2 : goesNot Tryz.prog 146 73 = true := by as_aux_lemma => kernel_rfl
theorem goes3 : goesNot Tryz.prog 219 74 = true := by as_aux_lemma => kernel_rfl
theorem size_prog : Tryz.prog.funcs.size = 293 := by as_aux_lemma => kernel_rfl
theorem goes_no (g : Nat) (fn : Func) (h : Tryz.prog.funcs[g]? = some fn) : fn.goes = false := by
  have hlt : g < 293 := by
    rcases Nat.lt_or_ge g 293 with k | k
    · exact k
    · rw [Array.getElem?_eq_none (by rw [size_prog]; exact k)] at h; cases h
  rcases Nat.lt_or_ge g 73 with k0 | k0
  · exact goesNot_ok 73 0 goes0 g fn (by omega) (by omega) h
  rcases Nat.lt_or_ge g 146 with k1 | k1
  · exact goesNot_ok 73 73 goes1 g fn (by omega) (by omega) h
  rcases Nat.lt_or_ge g 219 with k2 | k2
  · exact goesNot_ok 73 146 goes2 g fn (by omega) (by omega) h
  rcases Nat.lt_or_ge g 293 with k3 | k3
  · exact goesNot_ok 74 219 goes3 g fn (by omega) (by omega) h
  omega
end Go.Proofs.YtkeibmkcgnppeaaGreatDoor
