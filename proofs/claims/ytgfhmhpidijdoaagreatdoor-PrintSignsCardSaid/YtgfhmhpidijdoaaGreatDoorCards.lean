/-
  DERIVED. GIVEN WITH THE SEED: THE CARDS: each row of YtgfhmhpidijdoaaGreatDoorRows.lean that lists a variable, with what it lists TIED to the program's text (the seventh form; the later family's looks); each row that meets fmt, with fmt's text TOLD by the authors' own Lean function (tested against real Go, not proved from fmt's source: count such statements apart). THE CARD IS WHAT COUNTS. Prove the row's statement (the work); the ties are given (YtgfhmhpidijdoaaGreatDoorTie.lean); close each card by the builder's one call (the guide's Derived/Test/ToyasCard.lean, 'card_holds'). Laid BY PROGRAM, IN A SANDBOX (cutbox-door.mjs). By AI agents, Wed Nov 11 2026. No macro, syntax, notation, axiom, sorry.
-/
import Derived.Test.YtgfhmhpidijdoaaGreatDoorRows
import GoSem.ClaimSeven
namespace Go.Proofs.YtgfhmhpidijdoaaGreatDoor
namespace Rows

/-- THE TIED CARD OF 'gridironlaw14.PrintSigns'. -/
def printSignsCard : Claim7 := { stood := { row := printSignsRow, standIns := [], harness := (true, "0959a6b65dbf5001207ef53632789b18ad0b782883d13bf57d3871639762053f"), looks := true }, kinds := [], alts := [], laidByText := true, laidKinds := [.data, .data, .data, .data, .data, .sentinel, .sentinel, .pinned, .pinned, .pinned], laidTests := true, laidLooks := .later }
def PrintSignsCardSaid : Prop := Claim7.holds Tryz.pinned (.plain (OpenSpec.ofChange printSignsSpec)) printSignsCard

/-- THE TIED CARD OF 'gridironlaw12.LexisLoses'. -/
def lexisLosesCard : Claim7 := { stood := { row := lexisLosesRow, standIns := [], harness := (true, "0959a6b65dbf5001207ef53632789b18ad0b782883d13bf57d3871639762053f"), looks := true }, kinds := [], alts := [], laidByText := true, laidKinds := [.data, .data, .widerDeep, .widerDeep, .data, .data, .data, .data, .data, .data, .sentinel, .sentinel, .pinned, .pinned, .pinned, .pinned], laidTests := true, laidLooks := .later }
def LexisLosesCardSaid : Prop := Claim7.holds Tryz.pinned (.plain (OpenSpec.ofChange lexisLosesSpec)) lexisLosesCard

/-- THE TIED CARD OF 'gridironlaw27.SaveFormats'. -/
def saveFormatsCard : Claim7 := { stood := { row := saveFormatsRow, standIns := [], harness := (true, "0959a6b65dbf5001207ef53632789b18ad0b782883d13bf57d3871639762053f"), looks := true }, kinds := [], alts := [], laidByText := true, laidKinds := [.data, .data, .data, .data, .data, .sentinel, .sentinel, .pinned, .pinned, .pinned], laidTests := true, laidLooks := .later }
def SaveFormatsCardSaid : Prop := Claim7.holds Tryz.pinned (.plain (OpenSpec.ofChange saveFormatsSpec)) saveFormatsCard

/-- THE SECOND FORM's CARD OF 'gridironlaw14.PrintSigns'. -/
def printSignsUptoCard : Claim7 := { stood := { row := printSignsUptoRow, standIns := [], harness := (true, "0959a6b65dbf5001207ef53632789b18ad0b782883d13bf57d3871639762053f"), looks := true }, kinds := [], alts := [], laidByText := true, laidKinds := [.data, .data, .data, .data, .data, .sentinel, .sentinel, .pinned, .pinned, .pinned], laidTests := true, laidLooks := .later }
def PrintSignsUptoCardSaid : Prop := Claim7.holds Tryz.pinned (.plain (OpenSpec.upto printSignsSpec)) printSignsUptoCard

/-- THE SECOND FORM's CARD OF 'gridironlaw12.LexisLoses'. -/
def lexisLosesUptoCard : Claim7 := { stood := { row := lexisLosesUptoRow, standIns := [], harness := (true, "0959a6b65dbf5001207ef53632789b18ad0b782883d13bf57d3871639762053f"), looks := true }, kinds := [], alts := [], laidByText := true, laidKinds := [.data, .data, .widerDeep, .widerDeep, .data, .data, .data, .data, .data, .data, .sentinel, .sentinel, .pinned, .pinned, .pinned, .pinned], laidTests := true, laidLooks := .later }
def LexisLosesUptoCardSaid : Prop := Claim7.holds Tryz.pinned (.plain (OpenSpec.upto lexisLosesSpec)) lexisLosesUptoCard

/-- THE SECOND FORM's CARD OF 'gridironlaw27.SaveFormats'. -/
def saveFormatsUptoCard : Claim7 := { stood := { row := saveFormatsUptoRow, standIns := [], harness := (true, "0959a6b65dbf5001207ef53632789b18ad0b782883d13bf57d3871639762053f"), looks := true }, kinds := [], alts := [], laidByText := true, laidKinds := [.data, .data, .data, .data, .data, .sentinel, .sentinel, .pinned, .pinned, .pinned], laidTests := true, laidLooks := .later }
def SaveFormatsUptoCardSaid : Prop := Claim7.holds Tryz.pinned (.plain (OpenSpec.upto saveFormatsSpec)) saveFormatsUptoCard
end Rows
end Go.Proofs.YtgfhmhpidijdoaaGreatDoor
