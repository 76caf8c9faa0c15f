/-
  DERIVED. GIVEN WITH THE SEED: THE CARDS: each row of YtejpnabbmgpmaaaGreatDoorRows.lean that lists a variable, with what it lists TIED to the program's text (the seventh form; the later family's looks); each row that meets fmt, with fmt's text TOLD by the authors' own Lean function (tested against real Go, not proved from fmt's source: count such statements apart). THE CARD IS WHAT COUNTS. Prove the row's statement (the work); the ties are given (YtejpnabbmgpmaaaGreatDoorTie.lean); close each card by the builder's one call (the guide's Derived/Test/ToyasCard.lean, 'card_holds'). Laid BY PROGRAM, IN A SANDBOX (cutbox-door.mjs). By AI agents, Wed Nov 11 2026. No macro, syntax, notation, axiom, sorry.
-/
import Derived.Test.YtejpnabbmgpmaaaGreatDoorRows
import GoSem.ClaimSeven
namespace Go.Proofs.YtejpnabbmgpmaaaGreatDoor
namespace Rows

/-- THE TIED CARD OF 'syntagmalaw08.ShowBack'. -/
def showBackCard : Claim7 := { stood := { row := showBackRow, standIns := [], harness := (true, "86e9b69d87c22ae8a93ee535abd4a3a0f1d48777251695e23a39c441c3c7c814"), looks := false }, kinds := [], alts := [], laidByText := true, laidKinds := [.data, .data, .data], laidTests := true, laidLooks := .later }
def ShowBackCardSaid : Prop := Claim7.holds Tryz.pinned (.plain (OpenSpec.ofChange showBackSpec)) showBackCard

/-- THE TIED CARD OF 'syntagmalaw11.ValueOf'. -/
def valueOfCard : Claim7 := { stood := { row := valueOfRow, standIns := [], harness := (true, "86e9b69d87c22ae8a93ee535abd4a3a0f1d48777251695e23a39c441c3c7c814"), looks := false }, kinds := [], alts := [], laidByText := true, laidKinds := [.data, .data, .data], laidTests := true, laidLooks := .later }
def ValueOfCardSaid : Prop := Claim7.holds Tryz.pinned (.plain (OpenSpec.ofChange valueOfSpec)) valueOfCard

/-- THE TIED CARD OF 'syntagmalaw11.ValuePrints'. -/
def valuePrintsCard : Claim7 := { stood := { row := valuePrintsRow, standIns := [], harness := (true, "86e9b69d87c22ae8a93ee535abd4a3a0f1d48777251695e23a39c441c3c7c814"), looks := false }, kinds := [], alts := [], laidByText := true, laidKinds := [.data, .data, .data], laidTests := true, laidLooks := .later }
def ValuePrintsCardSaid : Prop := Claim7.holds Tryz.pinned (.plain (OpenSpec.ofChange valuePrintsSpec)) valuePrintsCard

/-- THE TIED CARD OF 'syntagmalaw11.ValueTexts'. -/
def valueTextsCard : Claim7 := { stood := { row := valueTextsRow, standIns := [], harness := (true, "86e9b69d87c22ae8a93ee535abd4a3a0f1d48777251695e23a39c441c3c7c814"), looks := false }, kinds := [], alts := [], laidByText := true, laidKinds := [.data, .data, .data], laidTests := true, laidLooks := .later }
def ValueTextsCardSaid : Prop := Claim7.holds Tryz.pinned (.plain (OpenSpec.ofChange valueTextsSpec)) valueTextsCard

/-- THE SECOND FORM's CARD OF 'syntagmalaw08.ShowBack'. -/
def showBackUptoCard : Claim7 := { stood := { row := showBackUptoRow, standIns := [], harness := (true, "86e9b69d87c22ae8a93ee535abd4a3a0f1d48777251695e23a39c441c3c7c814"), looks := false }, kinds := [], alts := [], laidByText := true, laidKinds := [.data, .data, .data], laidTests := true, laidLooks := .later }
def ShowBackUptoCardSaid : Prop := Claim7.holds Tryz.pinned (.plain (OpenSpec.upto showBackSpec)) showBackUptoCard

/-- THE SECOND FORM's CARD OF 'syntagmalaw11.ValueOf'. -/
def valueOfUptoCard : Claim7 := { stood := { row := valueOfUptoRow, standIns := [], harness := (true, "86e9b69d87c22ae8a93ee535abd4a3a0f1d48777251695e23a39c441c3c7c814"), looks := false }, kinds := [], alts := [], laidByText := true, laidKinds := [.data, .data, .data], laidTests := true, laidLooks := .later }
def ValueOfUptoCardSaid : Prop := Claim7.holds Tryz.pinned (.plain (OpenSpec.upto valueOfSpec)) valueOfUptoCard

/-- THE SECOND FORM's CARD OF 'syntagmalaw11.ValuePrints'. -/
def valuePrintsUptoCard : Claim7 := { stood := { row := valuePrintsUptoRow, standIns := [], harness := (true, "86e9b69d87c22ae8a93ee535abd4a3a0f1d48777251695e23a39c441c3c7c814"), looks := false }, kinds := [], alts := [], laidByText := true, laidKinds := [.data, .data, .data], laidTests := true, laidLooks := .later }
def ValuePrintsUptoCardSaid : Prop := Claim7.holds Tryz.pinned (.plain (OpenSpec.upto valuePrintsSpec)) valuePrintsUptoCard

/-- THE SECOND FORM's CARD OF 'syntagmalaw11.ValueTexts'. -/
def valueTextsUptoCard : Claim7 := { stood := { row := valueTextsUptoRow, standIns := [], harness := (true, "86e9b69d87c22ae8a93ee535abd4a3a0f1d48777251695e23a39c441c3c7c814"), looks := false }, kinds := [], alts := [], laidByText := true, laidKinds := [.data, .data, .data], laidTests := true, laidLooks := .later }
def ValueTextsUptoCardSaid : Prop := Claim7.holds Tryz.pinned (.plain (OpenSpec.upto valueTextsSpec)) valueTextsUptoCard
end Rows
end Go.Proofs.YtejpnabbmgpmaaaGreatDoor
