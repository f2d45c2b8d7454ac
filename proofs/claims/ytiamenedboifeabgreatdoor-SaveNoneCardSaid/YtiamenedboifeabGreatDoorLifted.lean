/- SaveNone: the row, lifted to the worlds that it speaks of. -/
import Derived.Test.YtiamenedboifeabGreatDoorTie
import Derived.Test.YtiamenedboifeabGreatDoorCards
import Derived.Test.YtiamenedboifeabGreatDoorLawCall
import Derived.Test.YtiamenedboifeabGreatDoorData
import Derived.Lib.LaidU8
import Derived.Test.YtiamenedboifeabGreatDoorRxT
import Derived.ProofKit
import Derived.OpenShut
import Derived.LaidMore
import Derived.Lay
import Derived.SevenTiedAt
import Derived.Stop.Joined
namespace Go.Proofs.YtiamenedboifeabGreatDoor
open Go Go.Proofs.YtiamenedboifeabGreatDoor.Rx Go.ChangeShapes Go.WideShapes Go.ChangeAt Go.RowKit

theorem own : ownKnob Tryz.prog.godebug = none := by kernel_rfl
theorem laid_plain : (Rows.saveNoneRow.laid.all fun x => x.2.handleName?.isNone) = true := by kernel_rfl
theorem laid_out : laidOutB Tryz.prog = true := by as_aux_lemma => kernel_rfl
theorem readable : ∀ t ∈ Tryz.f3.params.toList, Tryz.prog.readableRec t = true ∧ t < Tryz.prog.types.size := by
  rw [Tryz.params3]
  intro t ht
  have hm : t ∈ [25] := ht
  have hall : ([25].all fun u => Tryz.prog.readableRec u && decide (u < Tryz.prog.types.size)) = true := by as_aux_lemma => kernel_rfl
  have := List.all_eq_true.1 hall t hm
  simpa using this

theorem first_in : ("unicode/utf8.first", (Lib.firstData : DataW Unit)) ∈ Rows.saveNoneRow.laid := List.mem_of_getElem? (i := 9) (by kernel_rfl)
theorem accept_in : ("unicode/utf8.acceptRanges", (Lib.acceptData : DataW Unit)) ∈ Rows.saveNoneRow.laid := List.mem_of_getElem? (i := 4) (by kernel_rfl)
set_option maxRecDepth 1000000 in
theorem lifted (os : Os) (started : os.Started) (H : Type) (enc : TypeId × Value → H) :
    ReturnsInHanded {} Tryz.checked os 3 .any (fun w args => (Rows.saveNoneSpec.pre enc Tryz.prog Tryz.f3 Rows.saveNoneRow.domain false w args ∧ laidMetH Tryz.prog Rows.saveNoneRow.laid w) ∧ sizedMet enc Tryz.prog Tryz.f3 (OpenSpec.ofChange Rows.saveNoneSpec) false w args)
      (Rows.saveNoneSpec.post enc Tryz.prog Tryz.f3 false true false false) := by
  refine returnsInHanded_of_change_and (C := Tryz.checked) (X := fun w _ => laidMetH Tryz.prog Rows.saveNoneRow.laid w) (fun _ _ _ hh h => h.of_heap hh) own started (by kernel_rfl) Tryz.func3
    (ChangeSpec.witness_shaped (enc := enc) (C := Tryz.checked) (os := os) (X := fun w _ => laidMetH Tryz.prog Rows.saveNoneRow.laid w) false (World.laidAll Tryz.prog os Rows.saveNoneRow.laid) #[.agg #[.int .i64 0, .slice none 0 0, .slice none 0 0, .bool false]] 40 (World.laidAll_os _ _ _)
      (World.shaped_of_ZipB (by kernel_rfl) (by kernel_rfl)) (by kernel_rfl) (by kernel_rfl) (by kernel_rfl)
      (by rw [MakeChecks.laidMetH_plain _ _ _ laid_plain]; exact laidMet_laidAll _ (by kernel_rfl) (by kernel_rfl))) ?_
  intro W base args ds gs before hval0 hW _ _ hL _
  have hval : ∀ (j : Nat) t v, Tryz.f3.params[j]? = some t → args[j]? = some v → Value.okWide Tryz.prog W .any base t v := hval0
  have hW0 := hW
  obtain ⟨p, q, hA0, hV, hpq, _, _⟩ := hW0
  have hA : DataW.TrodAll enc Tryz.prog W 0 (fun _ => true) true Tryz.f3.params.toList args.toList ds p := hA0
  rw [Tryz.params3] at hA hval
  obtain ⟨v0, d0, rfl, rfl, h0⟩ := trodAll_one hA
  obtain ⟨rfl, rfl⟩ := trodVars_none hV
  obtain ⟨c0, rfl, s0, o0⟩ := open_cells Tryz.underlying25 (hval 0 25 v0 rfl rfl)
  rw [MakeChecks.laidMetH_plain _ _ _ laid_plain] at hL
  have hT : Tabs W := tabs_of (Lib.laidMet.reads hL first_in) (Lib.laidMet.reads hL accept_in)
  obtain ⟨fuel, hf⟩ := h0
  obtain ⟨D, hD, sp, sq, hok⟩ := fd_of (cells_ok hL) hT (show DataW.trod enc Tryz.prog W 0 (fun _ => true) true fuel 25 c0.toList = _ from hf)
  have hc0 : Value.agg c0 = D.arg := by
    unfold FD.arg
    congr 1
    exact Array.ext' hD
  have fin := law_true (cells_ok hL) sp sq hok
  rw [← hc0] at fin
  refine fin.mono fun e W1 ⟨he, hb⟩ => ?_
  subst he
  exact ⟨_, rfl, post_below laid_out readable hW rfl rfl rfl (fun _ _ _ => trodAll_mk1 (shut_bool Tryz.underlying4 _)) hb (ok_one (by kernel_rfl) rfl (okWide_bool_mk Tryz.underlying4 _))⟩

end Go.Proofs.YtiamenedboifeabGreatDoor
