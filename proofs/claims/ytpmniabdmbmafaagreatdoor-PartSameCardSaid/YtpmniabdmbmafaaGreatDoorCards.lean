/-
  DERIVED. GIVEN WITH THE SEED: THE CARDS: each row of YtpmniabdmbmafaaGreatDoorRows.lean that lists a variable, with what it lists TIED to the program's text (the seventh form; the later family's looks); each row that meets fmt, with fmt's text TOLD by the authors' own Lean function (tested against real Go, not proved from fmt's source: count such statements apart). THE CARD IS WHAT COUNTS. Prove the row's statement (the work); the ties are given (YtpmniabdmbmafaaGreatDoorTie.lean); close each card by the builder's one call (the guide's Derived/Test/ToyasCard.lean, 'card_holds'). Laid BY PROGRAM, IN A SANDBOX (cutbox-door.mjs). By AI agents, Wed Nov 11 2026. No macro, syntax, notation, axiom, sorry.
-/
import Derived.Test.YtpmniabdmbmafaaGreatDoorRows
import GoSem.ClaimSeven
namespace Go.Proofs.YtpmniabdmbmafaaGreatDoor
namespace Rows

/-- THE TIED CARD OF 'syntagmalaw25.SubsetSame'. -/
def subsetSameCard : Claim7 := { stood := { row := subsetSameRow, standIns := [], harness := (true, "de4a8935c18d3972328e4d4b3aab1a3f0f1457597fa4b24829adf2d535dc83c0"), looks := false }, kinds := [], alts := [], laidByText := true, laidKinds := [.data, .data, .data], laidTests := true, laidLooks := .later }
def SubsetSameCardSaid : Prop := Claim7.holds Tryz.pinned (.plain (OpenSpec.ofChange subsetSameSpec)) subsetSameCard

/-- THE TIED CARD OF 'syntagmalaw26.PartSame'. -/
def partSameCard : Claim7 := { stood := { row := partSameRow, standIns := [], harness := (true, "de4a8935c18d3972328e4d4b3aab1a3f0f1457597fa4b24829adf2d535dc83c0"), looks := false }, kinds := [], alts := [], laidByText := true, laidKinds := [.data, .data, .data], laidTests := true, laidLooks := .later }
def PartSameCardSaid : Prop := Claim7.holds Tryz.pinned (.plain (OpenSpec.ofChange partSameSpec)) partSameCard

/-- THE SECOND FORM's CARD OF 'syntagmalaw25.SubsetSame'. -/
def subsetSameUptoCard : Claim7 := { stood := { row := subsetSameUptoRow, standIns := [], harness := (true, "de4a8935c18d3972328e4d4b3aab1a3f0f1457597fa4b24829adf2d535dc83c0"), looks := false }, kinds := [], alts := [], laidByText := true, laidKinds := [.data, .data, .data], laidTests := true, laidLooks := .later }
def SubsetSameUptoCardSaid : Prop := Claim7.holds Tryz.pinned (.plain (OpenSpec.upto subsetSameSpec)) subsetSameUptoCard

/-- THE SECOND FORM's CARD OF 'syntagmalaw26.PartSame'. -/
def partSameUptoCard : Claim7 := { stood := { row := partSameUptoRow, standIns := [], harness := (true, "de4a8935c18d3972328e4d4b3aab1a3f0f1457597fa4b24829adf2d535dc83c0"), looks := false }, kinds := [], alts := [], laidByText := true, laidKinds := [.data, .data, .data], laidTests := true, laidLooks := .later }
def PartSameUptoCardSaid : Prop := Claim7.holds Tryz.pinned (.plain (OpenSpec.upto partSameSpec)) partSameUptoCard
end Rows
end Go.Proofs.YtpmniabdmbmafaaGreatDoor
