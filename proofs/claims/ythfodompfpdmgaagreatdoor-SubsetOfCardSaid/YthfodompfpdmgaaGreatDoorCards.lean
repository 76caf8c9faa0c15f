/-
  DERIVED. GIVEN WITH THE SEED: THE CARDS: each row of YthfodompfpdmgaaGreatDoorRows.lean that lists a variable, with what it lists TIED to the program's text (the seventh form; the later family's looks); each row that meets fmt, with fmt's text TOLD by the authors' own Lean function (tested against real Go, not proved from fmt's source: count such statements apart). THE CARD IS WHAT COUNTS. Prove the row's statement (the work); the ties are given (YthfodompfpdmgaaGreatDoorTie.lean); close each card by the builder's one call (the guide's Derived/Test/ToyasCard.lean, 'card_holds'). Laid BY PROGRAM, IN A SANDBOX (cutbox-door.mjs). By AI agents, Wed Nov 11 2026. No macro, syntax, notation, axiom, sorry.
-/
import Derived.Test.YthfodompfpdmgaaGreatDoorRows
import GoSem.ClaimSeven
namespace Go.Proofs.YthfodompfpdmgaaGreatDoor
namespace Rows

/-- THE TIED CARD OF 'syntagmalaw25.SubsetOf'. -/
def subsetOfCard : Claim7 := { stood := { row := subsetOfRow, standIns := [], harness := (true, "4d361e6c60dedf1f0fe11f2dd6e1809c6dd77005e69c51100a47dc2ae00d04af"), looks := false }, kinds := [], alts := [], laidByText := true, laidKinds := [.data, .data, .data], laidTests := true, laidLooks := .later }
def SubsetOfCardSaid : Prop := Claim7.holds Tryz.pinned (.plain (OpenSpec.ofChange subsetOfSpec)) subsetOfCard

/-- THE TIED CARD OF 'syntagmalaw26.PartClasses'. -/
def partClassesCard : Claim7 := { stood := { row := partClassesRow, standIns := [], harness := (true, "4d361e6c60dedf1f0fe11f2dd6e1809c6dd77005e69c51100a47dc2ae00d04af"), looks := false }, kinds := [], alts := [], laidByText := true, laidKinds := [.data, .data, .data], laidTests := true, laidLooks := .later }
def PartClassesCardSaid : Prop := Claim7.holds Tryz.pinned (.plain (OpenSpec.ofChange partClassesSpec)) partClassesCard

/-- THE TIED CARD OF 'syntagmalaw26.PartLeast'. -/
def partLeastCard : Claim7 := { stood := { row := partLeastRow, standIns := [], harness := (true, "4d361e6c60dedf1f0fe11f2dd6e1809c6dd77005e69c51100a47dc2ae00d04af"), looks := false }, kinds := [], alts := [], laidByText := true, laidKinds := [.data, .data, .data], laidTests := true, laidLooks := .later }
def PartLeastCardSaid : Prop := Claim7.holds Tryz.pinned (.plain (OpenSpec.ofChange partLeastSpec)) partLeastCard

/-- THE SECOND FORM's CARD OF 'syntagmalaw25.SubsetOf'. -/
def subsetOfUptoCard : Claim7 := { stood := { row := subsetOfUptoRow, standIns := [], harness := (true, "4d361e6c60dedf1f0fe11f2dd6e1809c6dd77005e69c51100a47dc2ae00d04af"), looks := false }, kinds := [], alts := [], laidByText := true, laidKinds := [.data, .data, .data], laidTests := true, laidLooks := .later }
def SubsetOfUptoCardSaid : Prop := Claim7.holds Tryz.pinned (.plain (OpenSpec.upto subsetOfSpec)) subsetOfUptoCard

/-- THE SECOND FORM's CARD OF 'syntagmalaw26.PartClasses'. -/
def partClassesUptoCard : Claim7 := { stood := { row := partClassesUptoRow, standIns := [], harness := (true, "4d361e6c60dedf1f0fe11f2dd6e1809c6dd77005e69c51100a47dc2ae00d04af"), looks := false }, kinds := [], alts := [], laidByText := true, laidKinds := [.data, .data, .data], laidTests := true, laidLooks := .later }
def PartClassesUptoCardSaid : Prop := Claim7.holds Tryz.pinned (.plain (OpenSpec.upto partClassesSpec)) partClassesUptoCard

/-- THE SECOND FORM's CARD OF 'syntagmalaw26.PartLeast'. -/
def partLeastUptoCard : Claim7 := { stood := { row := partLeastUptoRow, standIns := [], harness := (true, "4d361e6c60dedf1f0fe11f2dd6e1809c6dd77005e69c51100a47dc2ae00d04af"), looks := false }, kinds := [], alts := [], laidByText := true, laidKinds := [.data, .data, .data], laidTests := true, laidLooks := .later }
def PartLeastUptoCardSaid : Prop := Claim7.holds Tryz.pinned (.plain (OpenSpec.upto partLeastSpec)) partLeastUptoCard
end Rows
end Go.Proofs.YthfodompfpdmgaaGreatDoor
