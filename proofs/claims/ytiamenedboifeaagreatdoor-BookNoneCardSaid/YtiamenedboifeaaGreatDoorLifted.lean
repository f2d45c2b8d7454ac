/- BookNone: the row, lifted to the worlds that it speaks of. -/
import Derived.Test.YtiamenedboifeaaGreatDoorTie
import Derived.Test.YtiamenedboifeaaGreatDoorCards
import Derived.Test.YtiamenedboifeaaGreatDoorBegun
import Derived.Test.YtiamenedboifeaaGreatDoorRxT
import Derived.ProofKit
import Derived.OpenShut
import Derived.LaidMore
import Derived.Lay
import Derived.SevenTiedAt
import Derived.Stop.Joined
namespace Go.Proofs.YtiamenedboifeaaGreatDoor
open Go Go.Proofs.YtiamenedboifeaaGreatDoor.Rx Go.ChangeShapes Go.WideShapes Go.ChangeAt Go.RowKit

theorem own : ownKnob Tryz.prog.godebug = none := by kernel_rfl
theorem laid_plain : (Rows.bookNoneRow.laid.all fun x => x.2.handleName?.isNone) = true := by kernel_rfl
theorem laid_out : laidOutB Tryz.prog = true := by as_aux_lemma => kernel_rfl
theorem readable : ∀ t ∈ Tryz.f3.params.toList, Tryz.prog.readableRec t = true ∧ t < Tryz.prog.types.size := by
  rw [Tryz.params3]
  intro t ht
  have hm : t ∈ [35, 37] := ht
  have hall : ([35, 37].all fun u => Tryz.prog.readableRec u && decide (u < Tryz.prog.types.size)) = true := by as_aux_lemma => kernel_rfl
  have := List.all_eq_true.1 hall t hm
  simpa using this

set_option maxRecDepth 1000000 in
theorem lifted (os : Os) (started : os.Started) (H : Type) (enc : TypeId × Value → H) :
    ReturnsInHanded {} Tryz.checked os 3 .any (fun w args => (Rows.bookNoneSpec.pre enc Tryz.prog Tryz.f3 Rows.bookNoneRow.domain false w args ∧ laidMetH Tryz.prog Rows.bookNoneRow.laid w) ∧ sizedMet enc Tryz.prog Tryz.f3 (OpenSpec.ofChange Rows.bookNoneSpec) false w args)
      (Rows.bookNoneSpec.post enc Tryz.prog Tryz.f3 false true false false) := by
  refine returnsInHanded_of_change_and (C := Tryz.checked) (X := fun w _ => laidMetH Tryz.prog Rows.bookNoneRow.laid w) (fun _ _ _ hh h => h.of_heap hh) own started (by kernel_rfl) Tryz.func3
    (ChangeSpec.witness_shaped (enc := enc) (C := Tryz.checked) (os := os) (X := fun w _ => laidMetH Tryz.prog Rows.bookNoneRow.laid w) false (World.laidAll Tryz.prog os Rows.bookNoneRow.laid) #[.agg #[.int .i64 0, .string ⟨#[]⟩, .int .i64 0, .int .i64 0, .int .i64 0, .float .f64 0, .string ⟨#[]⟩, .bool false, .int .i64 0, .string ⟨#[]⟩, .string ⟨#[]⟩, .int .i64 0, .string ⟨#[]⟩, .int .i64 0, .int .i64 0, .string ⟨#[]⟩, .int .i64 0, .slice none 0 0, .slice none 0 0, .bool false, .int .i64 0, .float .f64 0, .float .f64 0, .slice none 0 0], .agg #[.int .i64 0, .int .i64 0, .int .i64 0]] 40 (World.laidAll_os _ _ _)
      (World.shaped_of_ZipB (by kernel_rfl) (by kernel_rfl)) (by kernel_rfl) (by kernel_rfl) (by kernel_rfl)
      (by rw [MakeChecks.laidMetH_plain _ _ _ laid_plain]; exact laidMet_laidAll _ (by kernel_rfl) (by kernel_rfl))) ?_
  intro W base args ds gs before hval0 hW _ _ hL _
  have hval : ∀ (j : Nat) t v, Tryz.f3.params[j]? = some t → args[j]? = some v → Value.okWide Tryz.prog W .any base t v := hval0
  have hW0 := hW
  obtain ⟨p, q, hA0, hV, hpq, _, _⟩ := hW0
  have hA : DataW.TrodAll enc Tryz.prog W 0 (fun _ => true) true Tryz.f3.params.toList args.toList ds p := hA0
  rw [Tryz.params3] at hA hval
  obtain ⟨v0, v1, d0, d1, p0, p1, rfl, rfl, _, h0, h1⟩ := trodAll_two hA
  obtain ⟨rfl, rfl⟩ := trodVars_none hV
  obtain ⟨c0, rfl, s0, o0⟩ := open_cells Tryz.underlying35 (hval 0 35 v0 rfl rfl)
  obtain ⟨c1, rfl, s1, o1⟩ := open_cells Tryz.underlying37 (hval 1 37 v1 rfl rfl)
  rw [MakeChecks.laidMetH_plain _ _ _ laid_plain] at hL
  have fin := open_call env_ok (isTrue_ans law_true) W (cells_ok hL) (vals := [.agg c0, .agg c1]) (by simp only [VRs]; exact ⟨_, _, rfl, VR.row (by rw [s0]; as_aux_lemma => kernel_rfl) o0, ⟨_, _, rfl, VR.row (by rw [s1]; as_aux_lemma => kernel_rfl) o1, rfl⟩⟩)
  refine fin.mono fun e W1 ⟨he, hb⟩ => ?_
  subst he
  exact ⟨_, rfl, post_below laid_out readable hW rfl rfl rfl (fun _ _ _ => trodAll_mk1 (shut_bool Tryz.underlying4 _)) hb (ok_one (by kernel_rfl) rfl (okWide_bool_mk Tryz.underlying4 _))⟩

end Go.Proofs.YtiamenedboifeaaGreatDoor
