/- SaveFormats: whatever format, number and rule are handed in, the element of the format and the condition of the rule are the document's, and the arguments read as they did: THE TIED CARD. The variables that the row lists are tied to the program's text. -/
import Derived.Test.YtkeibmkcgnppeaaGreatDoorZSaveFormats
import Derived.Test.YtkeibmkcgnppeaaGreatDoorZGoes
namespace Go.Proofs.YtkeibmkcgnppeaaGreatDoor
open Go Go.Proofs.YtkeibmkcgnppeaaGreatDoor.Rx
set_option maxHeartbeats 12800000 in
theorem saveFormats_card_holds : Rows.SaveFormatsCardSaid :=
  Claim7.holds_tied_plain_at .later [] [.data, .data, .data, .data, .data, .sentinel, .sentinel, .pinned, .pinned, .pinned] true (true, "869d90126fb3a4a8b43d2571955f4387cf4589156200819370237491a31df987") true
    saveFormats_holds (fun _ h => by cases h) (by as_aux_lemma => kernel_rfl) (fun _ h => by cases h) saveFormats_row_tie rfl ⟨rfl, rfl⟩ (by as_aux_lemma => kernel_rfl) rfl
    (fun f fn hf hfn => by
      obtain rfl : f = 4 := Option.some.inj ((show Tryz.prog.funcNamed "gridiron/gridironlaw27.SaveFormats" = some 4 by as_aux_lemma => kernel_rfl).symm.trans hf) |>.symm
      obtain rfl : fn = Tryz.f4 := (Option.some.inj (Tryz.func4.symm.trans hfn)).symm
      exact ⟨by as_aux_lemma => kernel_rfl, fun j t ht => by
        rw [Tryz.params4] at ht
        have hm : t ∈ [40, 3, 43] := by simpa using Array.mem_of_getElem? ht
        have hall : ([40, 3, 43].all fun u => !Tryz.prog.wantsStandIn u) = true := by kernel_rfl
        exact (show Tryz.prog.wantsStandIn t = false by simpa using List.all_eq_true.1 hall t hm)⟩)
    ((goesAt_none goes_no _).symm)
#print axioms saveFormats_card_holds
end Go.Proofs.YtkeibmkcgnppeaaGreatDoor
