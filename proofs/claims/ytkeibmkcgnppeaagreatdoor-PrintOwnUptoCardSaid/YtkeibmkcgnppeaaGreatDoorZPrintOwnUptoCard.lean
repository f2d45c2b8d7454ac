/- PrintOwnUpto: whatever term is handed in, of bulk at most 1048576, its text is the same twice, and the term is left as it was, and the arguments read as they did: THE TIED CARD. The variables that the row lists are tied to the program's text. -/
import Derived.Test.YtkeibmkcgnppeaaGreatDoorZPrintOwnUpto
import Derived.Test.YtkeibmkcgnppeaaGreatDoorZGoes
set_option maxHeartbeats 32000000
namespace Go.Proofs.YtkeibmkcgnppeaaGreatDoor
open Go Go.Proofs.YtkeibmkcgnppeaaGreatDoor.Rx
theorem printOwnUpto_card_holds : Rows.PrintOwnUptoCardSaid :=
  Claim7.holds_tied_plain_at .later [] [.data, .data, .data, .data, .data, .sentinel, .sentinel, .pinned, .pinned, .pinned] true (true, "869d90126fb3a4a8b43d2571955f4387cf4589156200819370237491a31df987") true
    printOwnUpto_holds (fun _ h => by cases h) (by as_aux_lemma => kernel_rfl) (fun _ h => by cases h) printOwnUpto_row_tie rfl ⟨rfl, rfl⟩ (by as_aux_lemma => kernel_rfl) rfl
    (fun f fn hf hfn => by
      obtain rfl : f = 3 := Option.some.inj ((show Tryz.prog.funcNamed "gridiron/gridironlaw14.PrintOwn" = some 3 by as_aux_lemma => kernel_rfl).symm.trans hf) |>.symm
      obtain rfl : fn = Tryz.f3 := (Option.some.inj (Tryz.func3.symm.trans hfn)).symm
      exact ⟨by as_aux_lemma => kernel_rfl, fun j t ht => by
        rw [Tryz.params3] at ht
        have hm : t ∈ [29] := by simpa using Array.mem_of_getElem? ht
        have hall : ([29].all fun u => !Tryz.prog.wantsStandIn u) = true := by kernel_rfl
        exact (show Tryz.prog.wantsStandIn t = false by simpa using List.all_eq_true.1 hall t hm)⟩)
    ((goesAt_none goes_no _).symm)
#print axioms printOwnUpto_card_holds
end Go.Proofs.YtkeibmkcgnppeaaGreatDoor
