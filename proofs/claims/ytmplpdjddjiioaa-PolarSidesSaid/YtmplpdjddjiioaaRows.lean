/-
  No cell of these rows narrows 'for every input' (looked for: loops, veiled, ifaces, maps, wideKeys, modest, calm, conditions, laid).
  DERIVED. THE GIVEN ROWS OF THIS SEAT. 3 by the template 'for every input the law returns true; each argument reads behind the call as it read before'; 0 by the template 'total and deterministic' (their statements: YtmplpdjddjiioaaTotals.lean).
  GIVEN WITH THE SEED: the statements are not yours to turn. If you find one false, say at which input.
  Laid BY PROGRAM, IN A SANDBOX (cutbox-rows.mjs): the forced cells as the released guide's own fill.sh prints them over the translation 3e090e340d6a2fc6… (all of the seat's roots in one cut). By AI agents, Wed Nov 11 2026. No macro, syntax, notation, axiom, sorry.
-/
import Derived.Test.YtmplpdjddjiioaaChecked
import GoSem.Claim
import GoSem.ClaimJoined
import GoSem.ClaimMapViews
import Derived.JoinedTies
import Derived.KernelRfl
namespace Go.Proofs.Ytmplpdjddjiioaa
/- THE CELL 'sum', in the pinned program and in every row, IS THE sha256 OF THE DUMP (.gsa) THAT YtmplpdjddjiioaaProg.lean LOADS. Nothing in Lean hashes anything: it is a label: what it is worth is what the hold of that sum in a sandbox is worth. -/
noncomputable def Try.pinned : Pinned := { name := "ytmplpdjddjiioaa", sum := "3e090e340d6a2fc688b76a50c93d1a6bf28e34bbda89a3818b0b6f7f0f8e0170", checked := Try.checked }
namespace Rows
def none {H : Type} : Left H := { results := [], args := [] }

/-- 'syntagmalaw14.PolarSplits': WHATEVER THE INPUT: true; the input reads as it did. -/
def polarSplitsSpec : ChangeSpec := { name := "polarSplits", fn := fun _ => fun
  | [d] => { results := [.lit (.bool true)], args := [d] }
  | _ => none }
def polarSplitsRow : OpenClaim := { program := "ytmplpdjddjiioaa", sum := "3e090e340d6a2fc688b76a50c93d1a6bf28e34bbda89a3818b0b6f7f0f8e0170", func := "syntagma/syntagmalaw14.PolarSplits", spec := "polarSplits", unfollowed := true, recurses := true, plainKeys := false, apart := false }
def PolarSplitsSaid : Prop := polarSplitsRow.holds Try.pinned (OpenSpec.ofChange polarSplitsSpec)

/-- ITS FALSE NEIGHBOUR: 'it returns false'. Refute it at one input. -/
def polarSplitsWrong : ChangeSpec := { name := "polarSplits", fn := fun _ => fun
  | [d] => { results := [.lit (.bool false)], args := [d] }
  | _ => none }
def PolarSplitsWrongFalsely : Prop := polarSplitsRow.holds Try.pinned (OpenSpec.ofChange polarSplitsWrong)

/-- 'syntagmalaw14.PolarSides': WHATEVER THE INPUT: true; the input reads as it did. -/
def polarSidesSpec : ChangeSpec := { name := "polarSides", fn := fun _ => fun
  | [d1, d2] => { results := [.lit (.bool true)], args := [d1, d2] }
  | _ => none }
def polarSidesRow : OpenClaim := { program := "ytmplpdjddjiioaa", sum := "3e090e340d6a2fc688b76a50c93d1a6bf28e34bbda89a3818b0b6f7f0f8e0170", func := "syntagma/syntagmalaw14.PolarSides", spec := "polarSides", unfollowed := true, recurses := true, plainKeys := false, apart := false }
def PolarSidesSaid : Prop := polarSidesRow.holds Try.pinned (OpenSpec.ofChange polarSidesSpec)

/-- ITS FALSE NEIGHBOUR: 'it returns false'. Refute it at one input. -/
def polarSidesWrong : ChangeSpec := { name := "polarSides", fn := fun _ => fun
  | [d1, d2] => { results := [.lit (.bool false)], args := [d1, d2] }
  | _ => none }
def PolarSidesWrongFalsely : Prop := polarSidesRow.holds Try.pinned (OpenSpec.ofChange polarSidesWrong)

/-- 'syntagmalaw14.PolarOnce': WHATEVER THE INPUT: true; the input reads as it did. -/
def polarOnceSpec : ChangeSpec := { name := "polarOnce", fn := fun _ => fun
  | [d] => { results := [.lit (.bool true)], args := [d] }
  | _ => none }
def polarOnceRow : OpenClaim := { program := "ytmplpdjddjiioaa", sum := "3e090e340d6a2fc688b76a50c93d1a6bf28e34bbda89a3818b0b6f7f0f8e0170", func := "syntagma/syntagmalaw14.PolarOnce", spec := "polarOnce", unfollowed := true, recurses := true, plainKeys := false, apart := false }
def PolarOnceSaid : Prop := polarOnceRow.holds Try.pinned (OpenSpec.ofChange polarOnceSpec)

/-- ITS FALSE NEIGHBOUR: 'it returns false'. Refute it at one input. -/
def polarOnceWrong : ChangeSpec := { name := "polarOnce", fn := fun _ => fun
  | [d] => { results := [.lit (.bool false)], args := [d] }
  | _ => none }
def PolarOnceWrongFalsely : Prop := polarOnceRow.holds Try.pinned (OpenSpec.ofChange polarOnceWrong)

/- THE SECOND FORM. 'bulk': how many values and letters a reading holds, each counted each time it is reached (what is shared counts as often as it is met; a slice's spare places count too). A statement '..UptoSaid' is the law's where the arguments, and the package variables that the reading takes, are together of bulk at most 1048576: NARROWER than '..Said'. Prove '..Said' where nothing that the law and all that it calls make is longer than what came in: it says more and counts as full. Else prove '..UptoSaid'. A law counts once. -/
mutual
def uptoBulk {H : Type} : DataW H → Nat
  | .lit (.string bytes) => bytes.length + 1
  | .lit _ => 1
  | .nil => 1
  | .ptr d => uptoBulk d + 1
  | .slice elems spare => uptoBulkAll elems + uptoBulkAll spare + 1
  | .agg parts => uptoBulkAll parts + 1
  | .iface _ d => uptoBulk d + 1
  | .map entries => uptoBulkEntries entries + 1
  | .held _ => 1
def uptoBulkAll {H : Type} : List (DataW H) → Nat
  | [] => 0
  | d :: r => uptoBulk d + uptoBulkAll r
def uptoBulkEntries {H : Type} : List (Lit × DataW H) → Nat
  | [] => 0
  | x :: r => uptoBulkEntry x + uptoBulkEntries r
def uptoBulkEntry {H : Type} : Lit × DataW H → Nat
  | (.string bytes, d) => bytes.length + uptoBulk d + 1
  | (_, d) => uptoBulk d + 1
 end
def uptoSmall : (H : Type) → List (DataW H) → Bool := fun _ ds => decide (uptoBulkAll ds ≤ 1048576)
def OpenSpec.upto (s : _root_.Go.ChangeSpec) : _root_.Go.OpenSpec := { _root_.Go.OpenSpec.ofChange s with cond := some uptoSmall }

/-- 'syntagmalaw14.PolarSplits', WHERE WHAT IT READS IS OF BULK AT MOST 1048576: true; the input reads as it did. -/
def polarSplitsUptoRow : OpenClaim := { program := "ytmplpdjddjiioaa", sum := "3e090e340d6a2fc688b76a50c93d1a6bf28e34bbda89a3818b0b6f7f0f8e0170", func := "syntagma/syntagmalaw14.PolarSplits", spec := "polarSplits", unfollowed := true, recurses := true, plainKeys := false, apart := false, narrowed := true }
def PolarSplitsUptoSaid : Prop := polarSplitsUptoRow.holds Try.pinned (OpenSpec.upto polarSplitsSpec)

/-- 'syntagmalaw14.PolarSides', WHERE WHAT IT READS IS OF BULK AT MOST 1048576: true; the input reads as it did. -/
def polarSidesUptoRow : OpenClaim := { program := "ytmplpdjddjiioaa", sum := "3e090e340d6a2fc688b76a50c93d1a6bf28e34bbda89a3818b0b6f7f0f8e0170", func := "syntagma/syntagmalaw14.PolarSides", spec := "polarSides", unfollowed := true, recurses := true, plainKeys := false, apart := false, narrowed := true }
def PolarSidesUptoSaid : Prop := polarSidesUptoRow.holds Try.pinned (OpenSpec.upto polarSidesSpec)

/-- 'syntagmalaw14.PolarOnce', WHERE WHAT IT READS IS OF BULK AT MOST 1048576: true; the input reads as it did. -/
def polarOnceUptoRow : OpenClaim := { program := "ytmplpdjddjiioaa", sum := "3e090e340d6a2fc688b76a50c93d1a6bf28e34bbda89a3818b0b6f7f0f8e0170", func := "syntagma/syntagmalaw14.PolarOnce", spec := "polarOnce", unfollowed := true, recurses := true, plainKeys := false, apart := false, narrowed := true }
def PolarOnceUptoSaid : Prop := polarOnceUptoRow.holds Try.pinned (OpenSpec.upto polarOnceSpec)

end Rows
end Go.Proofs.Ytmplpdjddjiioaa
