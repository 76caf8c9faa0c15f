/-
  DERIVED. GIVEN WITH THE SEED: THE CARDS: each row of YtmplpdjddjiioaaDoorRows.lean that lists a variable, with what it lists TIED to the program's text (the seventh form; the later family's looks); each row that meets fmt, with fmt's text TOLD by the authors' own Lean function (tested against real Go, not proved from fmt's source: count such statements apart). THE CARD IS WHAT COUNTS. Prove the row's statement (the work); the ties are given (YtmplpdjddjiioaaDoorTie.lean); close each card by the builder's one call (the guide's Derived/Test/ToyasCard.lean, 'card_holds'). Laid BY PROGRAM, IN A SANDBOX (cutbox-door.mjs). By AI agents, Wed Nov 11 2026. No macro, syntax, notation, axiom, sorry.
-/
import Derived.Test.YtmplpdjddjiioaaDoorRows
import GoSem.ClaimSeven
namespace Go.Proofs.YtmplpdjddjiioaaDoor
namespace Rows

/-- THE TIED CARD OF 'syntagmalaw01.WrapSums'. -/
def wrapSumsCard : Claim7 := { stood := { row := wrapSumsRow, standIns := [], harness := (true, "1449f010ab96e19f4a0cf3c93ee87c87675e58cf2685452ac8af953e1cc0f759"), looks := false }, kinds := [], alts := [], laidByText := true, laidKinds := [.data, .data, .data], laidTests := true, laidLooks := .later }
def WrapSumsCardSaid : Prop := Claim7.holds Tryd.pinned (.plain (OpenSpec.ofChange wrapSumsSpec)) wrapSumsCard

/-- THE TIED CARD OF 'syntagmalaw03.NameTells'. -/
def nameTellsCard : Claim7 := { stood := { row := nameTellsRow, standIns := [], harness := (true, "1449f010ab96e19f4a0cf3c93ee87c87675e58cf2685452ac8af953e1cc0f759"), looks := false }, kinds := [], alts := [], laidByText := true, laidKinds := [.data, .data, .data], laidTests := true, laidLooks := .later }
def NameTellsCardSaid : Prop := Claim7.holds Tryd.pinned (.plain (OpenSpec.ofChange nameTellsSpec)) nameTellsCard

/-- THE TIED CARD OF 'syntagmalaw03.NameApart'. -/
def nameApartCard : Claim7 := { stood := { row := nameApartRow, standIns := [], harness := (true, "1449f010ab96e19f4a0cf3c93ee87c87675e58cf2685452ac8af953e1cc0f759"), looks := false }, kinds := [], alts := [], laidByText := true, laidKinds := [.data, .data, .data], laidTests := true, laidLooks := .later }
def NameApartCardSaid : Prop := Claim7.holds Tryd.pinned (.plain (OpenSpec.ofChange nameApartSpec)) nameApartCard

/-- THE TIED CARD OF 'syntagmalaw01.WrapPrims'. -/
def wrapPrimsCard : Claim7 := { stood := { row := wrapPrimsRow, standIns := [], harness := (true, "1449f010ab96e19f4a0cf3c93ee87c87675e58cf2685452ac8af953e1cc0f759"), looks := false }, kinds := [], alts := [], laidByText := true, laidKinds := [.data, .data, .data], laidTests := true, laidLooks := .later }
def WrapPrimsCardSaid : Prop := Claim7.holds Tryd.pinned (.plain (OpenSpec.ofChange wrapPrimsSpec)) wrapPrimsCard

/-- THE TIED CARD OF 'syntagmalaw03.NameFresh'. -/
def nameFreshCard : Claim7 := { stood := { row := nameFreshRow, standIns := [], harness := (true, "1449f010ab96e19f4a0cf3c93ee87c87675e58cf2685452ac8af953e1cc0f759"), looks := false }, kinds := [], alts := [], laidByText := true, laidKinds := [.data, .data, .data], laidTests := true, laidLooks := .later }
def NameFreshCardSaid : Prop := Claim7.holds Tryd.pinned (.plain (OpenSpec.ofChange nameFreshSpec)) nameFreshCard

/-- THE TIED CARD OF 'syntagmalaw01.WrapTexts'. -/
def wrapTextsCard : Claim7 := { stood := { row := wrapTextsRow, standIns := [], harness := (true, "1449f010ab96e19f4a0cf3c93ee87c87675e58cf2685452ac8af953e1cc0f759"), looks := false }, kinds := [], alts := [], laidByText := true, laidKinds := [.data, .data, .data], laidTests := true, laidLooks := .later }
def WrapTextsCardSaid : Prop := Claim7.holds Tryd.pinned (.plain (OpenSpec.ofChange wrapTextsSpec)) wrapTextsCard

/-- THE TIED CARD OF 'syntagmalaw01.WrapBack'. -/
def wrapBackCard : Claim7 := { stood := { row := wrapBackRow, standIns := [], harness := (true, "1449f010ab96e19f4a0cf3c93ee87c87675e58cf2685452ac8af953e1cc0f759"), looks := false }, kinds := [], alts := [], laidByText := true, laidKinds := [.data, .data, .data], laidTests := true, laidLooks := .later }
def WrapBackCardSaid : Prop := Claim7.holds Tryd.pinned (.plain (OpenSpec.ofChange wrapBackSpec)) wrapBackCard

/-- THE TIED CARD OF 'syntagmalaw33.MuSame'. -/
def muSameCard : Claim7 := { stood := { row := muSameRow, standIns := [], harness := (true, "1449f010ab96e19f4a0cf3c93ee87c87675e58cf2685452ac8af953e1cc0f759"), looks := false }, kinds := [], alts := [], laidByText := true, laidKinds := [.data, .data, .data], laidTests := true, laidLooks := .later }
def MuSameCardSaid : Prop := Claim7.holds Tryd.pinned (.plain (OpenSpec.ofChange muSameSpec)) muSameCard

/-- THE SECOND FORM's CARD OF 'syntagmalaw01.WrapSums'. -/
def wrapSumsUptoCard : Claim7 := { stood := { row := wrapSumsUptoRow, standIns := [], harness := (true, "1449f010ab96e19f4a0cf3c93ee87c87675e58cf2685452ac8af953e1cc0f759"), looks := false }, kinds := [], alts := [], laidByText := true, laidKinds := [.data, .data, .data], laidTests := true, laidLooks := .later }
def WrapSumsUptoCardSaid : Prop := Claim7.holds Tryd.pinned (.plain (OpenSpec.upto wrapSumsSpec)) wrapSumsUptoCard

/-- THE SECOND FORM's CARD OF 'syntagmalaw03.NameTells'. -/
def nameTellsUptoCard : Claim7 := { stood := { row := nameTellsUptoRow, standIns := [], harness := (true, "1449f010ab96e19f4a0cf3c93ee87c87675e58cf2685452ac8af953e1cc0f759"), looks := false }, kinds := [], alts := [], laidByText := true, laidKinds := [.data, .data, .data], laidTests := true, laidLooks := .later }
def NameTellsUptoCardSaid : Prop := Claim7.holds Tryd.pinned (.plain (OpenSpec.upto nameTellsSpec)) nameTellsUptoCard

/-- THE SECOND FORM's CARD OF 'syntagmalaw03.NameApart'. -/
def nameApartUptoCard : Claim7 := { stood := { row := nameApartUptoRow, standIns := [], harness := (true, "1449f010ab96e19f4a0cf3c93ee87c87675e58cf2685452ac8af953e1cc0f759"), looks := false }, kinds := [], alts := [], laidByText := true, laidKinds := [.data, .data, .data], laidTests := true, laidLooks := .later }
def NameApartUptoCardSaid : Prop := Claim7.holds Tryd.pinned (.plain (OpenSpec.upto nameApartSpec)) nameApartUptoCard

/-- THE SECOND FORM's CARD OF 'syntagmalaw01.WrapPrims'. -/
def wrapPrimsUptoCard : Claim7 := { stood := { row := wrapPrimsUptoRow, standIns := [], harness := (true, "1449f010ab96e19f4a0cf3c93ee87c87675e58cf2685452ac8af953e1cc0f759"), looks := false }, kinds := [], alts := [], laidByText := true, laidKinds := [.data, .data, .data], laidTests := true, laidLooks := .later }
def WrapPrimsUptoCardSaid : Prop := Claim7.holds Tryd.pinned (.plain (OpenSpec.upto wrapPrimsSpec)) wrapPrimsUptoCard

/-- THE SECOND FORM's CARD OF 'syntagmalaw03.NameFresh'. -/
def nameFreshUptoCard : Claim7 := { stood := { row := nameFreshUptoRow, standIns := [], harness := (true, "1449f010ab96e19f4a0cf3c93ee87c87675e58cf2685452ac8af953e1cc0f759"), looks := false }, kinds := [], alts := [], laidByText := true, laidKinds := [.data, .data, .data], laidTests := true, laidLooks := .later }
def NameFreshUptoCardSaid : Prop := Claim7.holds Tryd.pinned (.plain (OpenSpec.upto nameFreshSpec)) nameFreshUptoCard

/-- THE SECOND FORM's CARD OF 'syntagmalaw01.WrapTexts'. -/
def wrapTextsUptoCard : Claim7 := { stood := { row := wrapTextsUptoRow, standIns := [], harness := (true, "1449f010ab96e19f4a0cf3c93ee87c87675e58cf2685452ac8af953e1cc0f759"), looks := false }, kinds := [], alts := [], laidByText := true, laidKinds := [.data, .data, .data], laidTests := true, laidLooks := .later }
def WrapTextsUptoCardSaid : Prop := Claim7.holds Tryd.pinned (.plain (OpenSpec.upto wrapTextsSpec)) wrapTextsUptoCard

/-- THE SECOND FORM's CARD OF 'syntagmalaw01.WrapBack'. -/
def wrapBackUptoCard : Claim7 := { stood := { row := wrapBackUptoRow, standIns := [], harness := (true, "1449f010ab96e19f4a0cf3c93ee87c87675e58cf2685452ac8af953e1cc0f759"), looks := false }, kinds := [], alts := [], laidByText := true, laidKinds := [.data, .data, .data], laidTests := true, laidLooks := .later }
def WrapBackUptoCardSaid : Prop := Claim7.holds Tryd.pinned (.plain (OpenSpec.upto wrapBackSpec)) wrapBackUptoCard

/-- THE SECOND FORM's CARD OF 'syntagmalaw33.MuSame'. -/
def muSameUptoCard : Claim7 := { stood := { row := muSameUptoRow, standIns := [], harness := (true, "1449f010ab96e19f4a0cf3c93ee87c87675e58cf2685452ac8af953e1cc0f759"), looks := false }, kinds := [], alts := [], laidByText := true, laidKinds := [.data, .data, .data], laidTests := true, laidLooks := .later }
def MuSameUptoCardSaid : Prop := Claim7.holds Tryd.pinned (.plain (OpenSpec.upto muSameSpec)) muSameUptoCard
end Rows
end Go.Proofs.YtmplpdjddjiioaaDoor
