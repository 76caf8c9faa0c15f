/-
  DERIVED. GIVEN WITH THE SEED: THE CARDS: each row of YtjoneaifakonjaaDoorRows.lean that lists a variable, with what it lists TIED to the program's text (the seventh form; the later family's looks); each row that meets fmt, with fmt's text TOLD by the authors' own Lean function (tested against real Go, not proved from fmt's source: count such statements apart). THE CARD IS WHAT COUNTS. Prove the row's statement (the work); the ties are given (YtjoneaifakonjaaDoorTie.lean); close each card by the builder's one call (the guide's Derived/Test/ToyasCard.lean, 'card_holds'). Laid BY PROGRAM, IN A SANDBOX (cutbox-door.mjs). By AI agents, Wed Nov 11 2026. No macro, syntax, notation, axiom, sorry.
-/
import Derived.Test.YtjoneaifakonjaaDoorRows
import GoSem.ClaimSeven
namespace Go.Proofs.YtjoneaifakonjaaDoor
namespace Rows

/-- THE TIED CARD OF 'syntagmalaw33.MuSame'. -/
def muSameCard : Claim7 := { stood := { row := muSameRow, standIns := [], harness := (true, "e592ff83b2fe94c3da1a0e6d39859364c0b30060b13cefcbbf4d239def0eda4b"), looks := false }, kinds := [], alts := [], laidByText := true, laidKinds := [.data, .data, .data], laidTests := true, laidLooks := .later }
def MuSameCardSaid : Prop := Claim7.holds Tryd.pinned (.plain (OpenSpec.ofChange muSameSpec)) muSameCard

/-- THE SECOND FORM's CARD OF 'syntagmalaw33.MuSame'. -/
def muSameUptoCard : Claim7 := { stood := { row := muSameUptoRow, standIns := [], harness := (true, "e592ff83b2fe94c3da1a0e6d39859364c0b30060b13cefcbbf4d239def0eda4b"), looks := false }, kinds := [], alts := [], laidByText := true, laidKinds := [.data, .data, .data], laidTests := true, laidLooks := .later }
def MuSameUptoCardSaid : Prop := Claim7.holds Tryd.pinned (.plain (OpenSpec.upto muSameSpec)) muSameUptoCard
end Rows
end Go.Proofs.YtjoneaifakonjaaDoor
