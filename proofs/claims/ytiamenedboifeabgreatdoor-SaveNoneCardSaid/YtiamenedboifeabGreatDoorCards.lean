/-
  DERIVED. GIVEN WITH THE SEED: THE CARDS: each row of YtiamenedboifeabGreatDoorRows.lean that lists a variable, with what it lists TIED to the program's text (the seventh form; the later family's looks); each row that meets fmt, with fmt's text TOLD by the authors' own Lean function (tested against real Go, not proved from fmt's source: count such statements apart). THE CARD IS WHAT COUNTS. Prove the row's statement (the work); the ties are given (YtiamenedboifeabGreatDoorTie.lean); close each card by the builder's one call (the guide's Derived/Test/ToyasCard.lean, 'card_holds'). Laid BY PROGRAM, IN A SANDBOX (cutbox-door.mjs). By AI agents, Wed Nov 11 2026. No macro, syntax, notation, axiom, sorry.
-/
import Derived.Test.YtiamenedboifeabGreatDoorRows
import GoSem.ClaimSeven
namespace Go.Proofs.YtiamenedboifeabGreatDoor
namespace Rows

/-- THE TIED CARD OF 'gridironlaw27.SaveNone'. -/
def saveNoneCard : Claim7 := { stood := { row := saveNoneRow, standIns := [], harness := (true, "b463205664fed566a7be532ffe4a268f4e6a7c91d0d15f73e0e79400d1ebd3bd"), looks := true }, kinds := [], alts := [], laidByText := true, laidKinds := [.data, .data, .data, .data, .data, .sentinel, .sentinel, .pinned, .pinned, .pinned], laidTests := true, laidLooks := .later }
def SaveNoneCardSaid : Prop := Claim7.holds Tryz.pinned (.plain (OpenSpec.ofChange saveNoneSpec)) saveNoneCard

/-- THE SECOND FORM's CARD OF 'gridironlaw27.SaveNone'. -/
def saveNoneUptoCard : Claim7 := { stood := { row := saveNoneUptoRow, standIns := [], harness := (true, "b463205664fed566a7be532ffe4a268f4e6a7c91d0d15f73e0e79400d1ebd3bd"), looks := true }, kinds := [], alts := [], laidByText := true, laidKinds := [.data, .data, .data, .data, .data, .sentinel, .sentinel, .pinned, .pinned, .pinned], laidTests := true, laidLooks := .later }
def SaveNoneUptoCardSaid : Prop := Claim7.holds Tryz.pinned (.plain (OpenSpec.upto saveNoneSpec)) saveNoneUptoCard
end Rows
end Go.Proofs.YtiamenedboifeabGreatDoor
