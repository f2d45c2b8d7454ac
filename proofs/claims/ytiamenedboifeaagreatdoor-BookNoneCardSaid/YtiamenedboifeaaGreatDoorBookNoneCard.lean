/- BookNone: whatever edit and address are handed in, a book that no call made answers as the document says, and the arguments read as they did: THE TIED CARD. The variables that the row lists are tied to the program's text. -/
import Derived.Test.YtiamenedboifeaaGreatDoorBookNone
import Derived.Test.YtiamenedboifeaaGreatDoorGoes
namespace Go.Proofs.YtiamenedboifeaaGreatDoor
open Go Go.Proofs.YtiamenedboifeaaGreatDoor.Rx
set_option maxHeartbeats 12800000 in
theorem bookNone_card_holds : Rows.BookNoneCardSaid :=
  Claim7.holds_tied_plain_at .later [] [.data, .data, .widerDeep, .widerDeep, .data, .data, .data, .data, .data, .data, .sentinel, .sentinel, .pinned, .pinned, .pinned, .pinned] true (true, "26796fd7832b08f1102638046cb15bf1a19f2baabe0d3afdc978f759cfa19343") true
    bookNone_holds (fun _ h => by cases h) (by as_aux_lemma => kernel_rfl) (fun _ h => by cases h) bookNone_row_tie rfl ⟨rfl, rfl⟩ (by as_aux_lemma => kernel_rfl) rfl
    (fun f fn hf hfn => by
      obtain rfl : f = 3 := Option.some.inj ((show Tryz.prog.funcNamed "gridiron/gridironlaw23.BookNone" = some 3 by as_aux_lemma => kernel_rfl).symm.trans hf) |>.symm
      obtain rfl : fn = Tryz.f3 := (Option.some.inj (Tryz.func3.symm.trans hfn)).symm
      exact ⟨by as_aux_lemma => kernel_rfl, fun j t ht => by
        rw [Tryz.params3] at ht
        have hm : t ∈ [35, 37] := by simpa using Array.mem_of_getElem? ht
        have hall : ([35, 37].all fun u => !Tryz.prog.wantsStandIn u) = true := by kernel_rfl
        exact (show Tryz.prog.wantsStandIn t = false by simpa using List.all_eq_true.1 hall t hm)⟩)
    ((goesAt_none goes_no _).symm)
#print axioms bookNone_card_holds
end Go.Proofs.YtiamenedboifeaaGreatDoor
