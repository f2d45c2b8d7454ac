/-
  DERIVED. GIVEN WITH THE SEED: THE CARDS: each row of YtiamenedboifeaaGreatDoorRows.lean that lists a variable, with what it lists TIED to the program's text (the seventh form; the later family's looks); each row that meets fmt, with fmt's text TOLD by the authors' own Lean function (tested against real Go, not proved from fmt's source: count such statements apart). THE CARD IS WHAT COUNTS. Prove the row's statement (the work); the ties are given (YtiamenedboifeaaGreatDoorTie.lean); close each card by the builder's one call (the guide's Derived/Test/ToyasCard.lean, 'card_holds'). Laid BY PROGRAM, IN A SANDBOX (cutbox-door.mjs). By AI agents, Wed Nov 11 2026. No macro, syntax, notation, axiom, sorry.
-/
import Derived.Test.YtiamenedboifeaaGreatDoorRows
import GoSem.ClaimSeven
namespace Go.Proofs.YtiamenedboifeaaGreatDoor
namespace Rows

/-- THE TIED CARD OF 'gridironlaw23.BookNone'. -/
def bookNoneCard : Claim7 := { stood := { row := bookNoneRow, standIns := [], harness := (true, "26796fd7832b08f1102638046cb15bf1a19f2baabe0d3afdc978f759cfa19343"), looks := true }, kinds := [], alts := [], laidByText := true, laidKinds := [.data, .data, .widerDeep, .widerDeep, .data, .data, .data, .data, .data, .data, .sentinel, .sentinel, .pinned, .pinned, .pinned, .pinned], laidTests := true, laidLooks := .later }
def BookNoneCardSaid : Prop := Claim7.holds Tryz.pinned (.plain (OpenSpec.ofChange bookNoneSpec)) bookNoneCard

/-- THE SECOND FORM's CARD OF 'gridironlaw23.BookNone'. -/
def bookNoneUptoCard : Claim7 := { stood := { row := bookNoneUptoRow, standIns := [], harness := (true, "26796fd7832b08f1102638046cb15bf1a19f2baabe0d3afdc978f759cfa19343"), looks := true }, kinds := [], alts := [], laidByText := true, laidKinds := [.data, .data, .widerDeep, .widerDeep, .data, .data, .data, .data, .data, .data, .sentinel, .sentinel, .pinned, .pinned, .pinned, .pinned], laidTests := true, laidLooks := .later }
def BookNoneUptoCardSaid : Prop := Claim7.holds Tryz.pinned (.plain (OpenSpec.upto bookNoneSpec)) bookNoneUptoCard
end Rows
end Go.Proofs.YtiamenedboifeaaGreatDoor
