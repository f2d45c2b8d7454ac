/- SaveNone: the answer is true for every input, and the arguments read as they did: THE TIED CARD. The variables that the row lists are tied to the program's text. -/
import Derived.Test.YtiamenedboifeabGreatDoorSaveNone
import Derived.Test.YtiamenedboifeabGreatDoorGoes
namespace Go.Proofs.YtiamenedboifeabGreatDoor
open Go Go.Proofs.YtiamenedboifeabGreatDoor.Rx
set_option maxHeartbeats 12800000 in
theorem saveNone_card_holds : Rows.SaveNoneCardSaid :=
  Claim7.holds_tied_plain_at .later [] [.data, .data, .data, .data, .data, .sentinel, .sentinel, .pinned, .pinned, .pinned] true (true, "b463205664fed566a7be532ffe4a268f4e6a7c91d0d15f73e0e79400d1ebd3bd") true
    saveNone_holds (fun _ h => by cases h) (by as_aux_lemma => kernel_rfl) (fun _ h => by cases h) saveNone_row_tie rfl ⟨rfl, rfl⟩ (by as_aux_lemma => kernel_rfl) rfl
    (fun f fn hf hfn => by
      obtain rfl : f = 3 := Option.some.inj ((show Tryz.prog.funcNamed "gridiron/gridironlaw27.SaveNone" = some 3 by as_aux_lemma => kernel_rfl).symm.trans hf) |>.symm
      obtain rfl : fn = Tryz.f3 := (Option.some.inj (Tryz.func3.symm.trans hfn)).symm
      exact ⟨by as_aux_lemma => kernel_rfl, fun j t ht => by
        rw [Tryz.params3] at ht
        have hm : t ∈ [25] := by simpa using Array.mem_of_getElem? ht
        have hall : ([25].all fun u => !Tryz.prog.wantsStandIn u) = true := by kernel_rfl
        exact (show Tryz.prog.wantsStandIn t = false by simpa using List.all_eq_true.1 hall t hm)⟩)
    ((goesAt_none goes_no _).symm)
#print axioms saveNone_card_holds
end Go.Proofs.YtiamenedboifeabGreatDoor
