/- PrintSigns: for every operation number the answer is true, and the argument reads as it did: THE TIED CARD. The variables that the row lists are tied to the program's text. -/
import Derived.Test.YtgfhmhpidijdoaaGreatDoorPrintSigns
namespace Go.Proofs.YtgfhmhpidijdoaaGreatDoor
open Go
set_option maxHeartbeats 12800000 in
theorem printSigns_card_holds : Rows.PrintSignsCardSaid :=
  Claim7.holds_tied_plain_at .later [] [.data, .data, .data, .data, .data, .sentinel, .sentinel, .pinned, .pinned, .pinned] true (true, "0959a6b65dbf5001207ef53632789b18ad0b782883d13bf57d3871639762053f") true
    printSigns_holds (fun _ h => by cases h) (by as_aux_lemma => kernel_rfl) (fun _ h => by cases h) printSigns_row_tie rfl ⟨rfl, rfl⟩ (by as_aux_lemma => kernel_rfl) rfl
    (fun f fn hf hfn => by
      obtain rfl : f = 3 := Option.some.inj ((show Tryz.prog.funcNamed "gridiron/gridironlaw14.PrintSigns" = some 3 by as_aux_lemma => kernel_rfl).symm.trans hf) |>.symm
      obtain rfl : fn = Tryz.f3 := (Option.some.inj (Tryz.func3.symm.trans hfn)).symm
      exact ⟨by as_aux_lemma => kernel_rfl, fun j t ht => by
        rw [Tryz.params3] at ht
        have hm : t ∈ [3] := by simpa using Array.mem_of_getElem? ht
        have hall : ([3].all fun u => !Tryz.prog.wantsStandIn u) = true := by kernel_rfl
        exact (show Tryz.prog.wantsStandIn t = false by simpa using List.all_eq_true.1 hall t hm)⟩)
    (by as_aux_lemma => kernel_rfl)
#print axioms printSigns_card_holds
end Go.Proofs.YtgfhmhpidijdoaaGreatDoor
