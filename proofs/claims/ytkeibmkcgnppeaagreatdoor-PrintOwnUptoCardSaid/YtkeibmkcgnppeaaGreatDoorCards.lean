/-
  DERIVED. GIVEN WITH THE SEED: THE CARDS: each row of YtkeibmkcgnppeaaGreatDoorRows.lean that lists a variable, with what it lists TIED to the program's text (the seventh form; the later family's looks); each row that meets fmt, with fmt's text TOLD by the authors' own Lean function (tested against real Go, not proved from fmt's source: count such statements apart). THE CARD IS WHAT COUNTS. Prove the row's statement (the work); the ties are given (YtkeibmkcgnppeaaGreatDoorTie.lean); close each card by the builder's one call (the guide's Derived/Test/ToyasCard.lean, 'card_holds'). Laid BY PROGRAM, IN A SANDBOX (cutbox-door.mjs). By AI agents, Wed Nov 11 2026. No macro, syntax, notation, axiom, sorry.
-/
import Derived.Test.YtkeibmkcgnppeaaGreatDoorRows
import GoSem.ClaimSeven
namespace Go.Proofs.YtkeibmkcgnppeaaGreatDoor
namespace Rows

/-- THE TIED CARD OF 'gridironlaw14.PrintOwn'. -/
def printOwnCard : Claim7 := { stood := { row := printOwnRow, standIns := [], harness := (true, "869d90126fb3a4a8b43d2571955f4387cf4589156200819370237491a31df987"), looks := true }, kinds := [], alts := [], laidByText := true, laidKinds := [.data, .data, .data, .data, .data, .sentinel, .sentinel, .pinned, .pinned, .pinned], laidTests := true, laidLooks := .later }
def PrintOwnCardSaid : Prop := Claim7.holds Tryz.pinned (.plain (OpenSpec.ofChange printOwnSpec)) printOwnCard

/-- THE TIED CARD OF 'gridironlaw27.SaveFormats'. -/
def saveFormatsCard : Claim7 := { stood := { row := saveFormatsRow, standIns := [], harness := (true, "869d90126fb3a4a8b43d2571955f4387cf4589156200819370237491a31df987"), looks := true }, kinds := [], alts := [], laidByText := true, laidKinds := [.data, .data, .data, .data, .data, .sentinel, .sentinel, .pinned, .pinned, .pinned], laidTests := true, laidLooks := .later }
def SaveFormatsCardSaid : Prop := Claim7.holds Tryz.pinned (.plain (OpenSpec.ofChange saveFormatsSpec)) saveFormatsCard

/-- THE SECOND FORM's CARD OF 'gridironlaw14.PrintOwn'. -/
def printOwnUptoCard : Claim7 := { stood := { row := printOwnUptoRow, standIns := [], harness := (true, "869d90126fb3a4a8b43d2571955f4387cf4589156200819370237491a31df987"), looks := true }, kinds := [], alts := [], laidByText := true, laidKinds := [.data, .data, .data, .data, .data, .sentinel, .sentinel, .pinned, .pinned, .pinned], laidTests := true, laidLooks := .later }
def PrintOwnUptoCardSaid : Prop := Claim7.holds Tryz.pinned (.plain (OpenSpec.upto printOwnSpec)) printOwnUptoCard

/-- THE SECOND FORM's CARD OF 'gridironlaw27.SaveFormats'. -/
def saveFormatsUptoCard : Claim7 := { stood := { row := saveFormatsUptoRow, standIns := [], harness := (true, "869d90126fb3a4a8b43d2571955f4387cf4589156200819370237491a31df987"), looks := true }, kinds := [], alts := [], laidByText := true, laidKinds := [.data, .data, .data, .data, .data, .sentinel, .sentinel, .pinned, .pinned, .pinned], laidTests := true, laidLooks := .later }
def SaveFormatsUptoCardSaid : Prop := Claim7.holds Tryz.pinned (.plain (OpenSpec.upto saveFormatsSpec)) saveFormatsUptoCard
end Rows
end Go.Proofs.YtkeibmkcgnppeaaGreatDoor
