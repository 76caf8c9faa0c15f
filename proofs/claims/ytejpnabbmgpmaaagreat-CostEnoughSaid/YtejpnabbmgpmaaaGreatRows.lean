/-
  No cell of these rows narrows 'for every input' (looked for: loops, veiled, ifaces, maps, wideKeys, modest, calm, conditions, laid).
  DERIVED. THE GIVEN ROWS OF THIS SEAT. 10 by the template 'for every input the law returns true; each argument reads behind the call as it read before'; 0 by the template 'total and deterministic' (their statements: YtejpnabbmgpmaaaGreatTotals.lean).
  GIVEN WITH THE SEED: the statements are not yours to turn. If you find one false, say at which input.
  Laid BY PROGRAM, IN A SANDBOX (cutbox-rows.mjs): the forced cells as the released guide's own fill.sh prints them over the translation 35639cd3876c2d02… (all of the seat's roots in one cut). By AI agents, Wed Nov 11 2026. No macro, syntax, notation, axiom, sorry.
-/
import Derived.Test.YtejpnabbmgpmaaaGreatChecked
import GoSem.Claim
import GoSem.ClaimJoined
import GoSem.ClaimMapViews
import Derived.JoinedTies
import Derived.KernelRfl
namespace Go.Proofs.YtejpnabbmgpmaaaGreat
/- THE CELL 'sum', in the pinned program and in every row, IS THE sha256 OF THE DUMP (.gsa) THAT YtejpnabbmgpmaaaGreatProg.lean LOADS. Nothing in Lean hashes anything: it is a label: what it is worth is what the hold of that sum in a sandbox is worth. -/
noncomputable def Tryz.pinned : Pinned := { name := "ytejpnabbmgpmaaagreat", sum := "35639cd3876c2d022a9063397fddf552d0effedc7feec9e386ddbc3892c5653d", checked := Tryz.checked }
namespace Rows
def none {H : Type} : Left H := { results := [], args := [] }

/-- 'syntagmalaw07.ParseMay': WHATEVER THE INPUT: true; the input reads as it did. -/
def parseMaySpec : ChangeSpec := { name := "parseMay", fn := fun _ => fun
  | [d] => { results := [.lit (.bool true)], args := [d] }
  | _ => none }
def parseMayRow : OpenClaim := { program := "ytejpnabbmgpmaaagreat", sum := "35639cd3876c2d022a9063397fddf552d0effedc7feec9e386ddbc3892c5653d", func := "syntagma/syntagmalaw07.ParseMay", spec := "parseMay", inPlace := ["internal/bytealg.IndexByteString", "internal/abi.NoEscape"], unfollowed := true, recurses := true, apart := false }
def ParseMaySaid : Prop := parseMayRow.holds Tryz.pinned (OpenSpec.ofChange parseMaySpec)

/-- ITS FALSE NEIGHBOUR: 'it returns false'. Refute it at one input. -/
def parseMayWrong : ChangeSpec := { name := "parseMay", fn := fun _ => fun
  | [d] => { results := [.lit (.bool false)], args := [d] }
  | _ => none }
def ParseMayWrongFalsely : Prop := parseMayRow.holds Tryz.pinned (OpenSpec.ofChange parseMayWrong)

/-- 'syntagmalaw42.CostTells': WHATEVER THE INPUT: true; the input reads as it did. -/
def costTellsSpec : ChangeSpec := { name := "costTells", fn := fun _ => fun
  | [d1, d2] => { results := [.lit (.bool true)], args := [d1, d2] }
  | _ => none }
def costTellsRow : OpenClaim := { program := "ytejpnabbmgpmaaagreat", sum := "35639cd3876c2d022a9063397fddf552d0effedc7feec9e386ddbc3892c5653d", func := "syntagma/syntagmalaw42.CostTells", spec := "costTells", inPlace := ["internal/bytealg.IndexByteString", "internal/abi.NoEscape"], unfollowed := true, recurses := true, apart := false }
def CostTellsSaid : Prop := costTellsRow.holds Tryz.pinned (OpenSpec.ofChange costTellsSpec)

/-- ITS FALSE NEIGHBOUR: 'it returns false'. Refute it at one input. -/
def costTellsWrong : ChangeSpec := { name := "costTells", fn := fun _ => fun
  | [d1, d2] => { results := [.lit (.bool false)], args := [d1, d2] }
  | _ => none }
def CostTellsWrongFalsely : Prop := costTellsRow.holds Tryz.pinned (OpenSpec.ofChange costTellsWrong)

/-- 'syntagmalaw42.CostReads': WHATEVER THE INPUT: true; the input reads as it did. -/
def costReadsSpec : ChangeSpec := { name := "costReads", fn := fun _ => fun
  | [d1, d2] => { results := [.lit (.bool true)], args := [d1, d2] }
  | _ => none }
def costReadsRow : OpenClaim := { program := "ytejpnabbmgpmaaagreat", sum := "35639cd3876c2d022a9063397fddf552d0effedc7feec9e386ddbc3892c5653d", func := "syntagma/syntagmalaw42.CostReads", spec := "costReads", inPlace := ["internal/bytealg.IndexByteString", "internal/abi.NoEscape"], unfollowed := true, recurses := true, apart := false }
def CostReadsSaid : Prop := costReadsRow.holds Tryz.pinned (OpenSpec.ofChange costReadsSpec)

/-- ITS FALSE NEIGHBOUR: 'it returns false'. Refute it at one input. -/
def costReadsWrong : ChangeSpec := { name := "costReads", fn := fun _ => fun
  | [d1, d2] => { results := [.lit (.bool false)], args := [d1, d2] }
  | _ => none }
def CostReadsWrongFalsely : Prop := costReadsRow.holds Tryz.pinned (OpenSpec.ofChange costReadsWrong)

/-- 'syntagmalaw42.CostEnough': WHATEVER THE INPUT: true; the input reads as it did. -/
def costEnoughSpec : ChangeSpec := { name := "costEnough", fn := fun _ => fun
  | [d1, d2] => { results := [.lit (.bool true)], args := [d1, d2] }
  | _ => none }
def costEnoughRow : OpenClaim := { program := "ytejpnabbmgpmaaagreat", sum := "35639cd3876c2d022a9063397fddf552d0effedc7feec9e386ddbc3892c5653d", func := "syntagma/syntagmalaw42.CostEnough", spec := "costEnough", inPlace := ["internal/bytealg.IndexByteString", "internal/abi.NoEscape"], unfollowed := true, recurses := true, apart := false }
def CostEnoughSaid : Prop := costEnoughRow.holds Tryz.pinned (OpenSpec.ofChange costEnoughSpec)

/-- ITS FALSE NEIGHBOUR: 'it returns false'. Refute it at one input. -/
def costEnoughWrong : ChangeSpec := { name := "costEnough", fn := fun _ => fun
  | [d1, d2] => { results := [.lit (.bool false)], args := [d1, d2] }
  | _ => none }
def CostEnoughWrongFalsely : Prop := costEnoughRow.holds Tryz.pinned (OpenSpec.ofChange costEnoughWrong)

/-- 'syntagmalaw10.StepOne': WHATEVER THE INPUT: true; the input reads as it did. -/
def stepOneSpec : ChangeSpec := { name := "stepOne", fn := fun _ => fun
  | [d] => { results := [.lit (.bool true)], args := [d] }
  | _ => none }
def stepOneRow : OpenClaim := { program := "ytejpnabbmgpmaaagreat", sum := "35639cd3876c2d022a9063397fddf552d0effedc7feec9e386ddbc3892c5653d", func := "syntagma/syntagmalaw10.StepOne", spec := "stepOne", inPlace := ["internal/bytealg.IndexByteString", "internal/abi.NoEscape"], unfollowed := true, recurses := true, apart := false }
def StepOneSaid : Prop := stepOneRow.holds Tryz.pinned (OpenSpec.ofChange stepOneSpec)

/-- ITS FALSE NEIGHBOUR: 'it returns false'. Refute it at one input. -/
def stepOneWrong : ChangeSpec := { name := "stepOne", fn := fun _ => fun
  | [d] => { results := [.lit (.bool false)], args := [d] }
  | _ => none }
def StepOneWrongFalsely : Prop := stepOneRow.holds Tryz.pinned (OpenSpec.ofChange stepOneWrong)

/-- 'syntagmalaw10.StepRuns': WHATEVER THE INPUT: true; the input reads as it did. -/
def stepRunsSpec : ChangeSpec := { name := "stepRuns", fn := fun _ => fun
  | [d1, d2] => { results := [.lit (.bool true)], args := [d1, d2] }
  | _ => none }
def stepRunsRow : OpenClaim := { program := "ytejpnabbmgpmaaagreat", sum := "35639cd3876c2d022a9063397fddf552d0effedc7feec9e386ddbc3892c5653d", func := "syntagma/syntagmalaw10.StepRuns", spec := "stepRuns", inPlace := ["internal/bytealg.IndexByteString", "internal/abi.NoEscape"], unfollowed := true, recurses := true, apart := false }
def StepRunsSaid : Prop := stepRunsRow.holds Tryz.pinned (OpenSpec.ofChange stepRunsSpec)

/-- ITS FALSE NEIGHBOUR: 'it returns false'. Refute it at one input. -/
def stepRunsWrong : ChangeSpec := { name := "stepRuns", fn := fun _ => fun
  | [d1, d2] => { results := [.lit (.bool false)], args := [d1, d2] }
  | _ => none }
def StepRunsWrongFalsely : Prop := stepRunsRow.holds Tryz.pinned (OpenSpec.ofChange stepRunsWrong)

/-- 'syntagmalaw12.MachineMore': WHATEVER THE INPUT: true; the input reads as it did. -/
def machineMoreSpec : ChangeSpec := { name := "machineMore", fn := fun _ => fun
  | [d1, d2, d3] => { results := [.lit (.bool true)], args := [d1, d2, d3] }
  | _ => none }
def machineMoreRow : OpenClaim := { program := "ytejpnabbmgpmaaagreat", sum := "35639cd3876c2d022a9063397fddf552d0effedc7feec9e386ddbc3892c5653d", func := "syntagma/syntagmalaw12.MachineMore", spec := "machineMore", inPlace := ["internal/bytealg.IndexByteString", "internal/abi.NoEscape"], unfollowed := true, recurses := true, apart := false }
def MachineMoreSaid : Prop := machineMoreRow.holds Tryz.pinned (OpenSpec.ofChange machineMoreSpec)

/-- ITS FALSE NEIGHBOUR: 'it returns false'. Refute it at one input. -/
def machineMoreWrong : ChangeSpec := { name := "machineMore", fn := fun _ => fun
  | [d1, d2, d3] => { results := [.lit (.bool false)], args := [d1, d2, d3] }
  | _ => none }
def MachineMoreWrongFalsely : Prop := machineMoreRow.holds Tryz.pinned (OpenSpec.ofChange machineMoreWrong)

/-- 'syntagmalaw10.StepStays': WHATEVER THE INPUT: true; the input reads as it did. -/
def stepStaysSpec : ChangeSpec := { name := "stepStays", fn := fun _ => fun
  | [d1, d2] => { results := [.lit (.bool true)], args := [d1, d2] }
  | _ => none }
def stepStaysRow : OpenClaim := { program := "ytejpnabbmgpmaaagreat", sum := "35639cd3876c2d022a9063397fddf552d0effedc7feec9e386ddbc3892c5653d", func := "syntagma/syntagmalaw10.StepStays", spec := "stepStays", inPlace := ["internal/bytealg.IndexByteString", "internal/abi.NoEscape"], unfollowed := true, recurses := true, apart := false }
def StepStaysSaid : Prop := stepStaysRow.holds Tryz.pinned (OpenSpec.ofChange stepStaysSpec)

/-- ITS FALSE NEIGHBOUR: 'it returns false'. Refute it at one input. -/
def stepStaysWrong : ChangeSpec := { name := "stepStays", fn := fun _ => fun
  | [d1, d2] => { results := [.lit (.bool false)], args := [d1, d2] }
  | _ => none }
def StepStaysWrongFalsely : Prop := stepStaysRow.holds Tryz.pinned (OpenSpec.ofChange stepStaysWrong)

/-- 'syntagmalaw43.ScriptJoins': WHATEVER THE INPUT: true; the input reads as it did. -/
def scriptJoinsSpec : ChangeSpec := { name := "scriptJoins", fn := fun _ => fun
  | [d1, d2] => { results := [.lit (.bool true)], args := [d1, d2] }
  | _ => none }
def scriptJoinsRow : OpenClaim := { program := "ytejpnabbmgpmaaagreat", sum := "35639cd3876c2d022a9063397fddf552d0effedc7feec9e386ddbc3892c5653d", func := "syntagma/syntagmalaw43.ScriptJoins", spec := "scriptJoins", inPlace := ["internal/bytealg.IndexByteString", "internal/abi.NoEscape"], unfollowed := true, recurses := true, apart := false }
def ScriptJoinsSaid : Prop := scriptJoinsRow.holds Tryz.pinned (OpenSpec.ofChange scriptJoinsSpec)

/-- ITS FALSE NEIGHBOUR: 'it returns false'. Refute it at one input. -/
def scriptJoinsWrong : ChangeSpec := { name := "scriptJoins", fn := fun _ => fun
  | [d1, d2] => { results := [.lit (.bool false)], args := [d1, d2] }
  | _ => none }
def ScriptJoinsWrongFalsely : Prop := scriptJoinsRow.holds Tryz.pinned (OpenSpec.ofChange scriptJoinsWrong)

/-- 'syntagmalaw43.ScriptNests': WHATEVER THE INPUT: true; the input reads as it did. -/
def scriptNestsSpec : ChangeSpec := { name := "scriptNests", fn := fun _ => fun
  | [d] => { results := [.lit (.bool true)], args := [d] }
  | _ => none }
def scriptNestsRow : OpenClaim := { program := "ytejpnabbmgpmaaagreat", sum := "35639cd3876c2d022a9063397fddf552d0effedc7feec9e386ddbc3892c5653d", func := "syntagma/syntagmalaw43.ScriptNests", spec := "scriptNests", inPlace := ["internal/bytealg.IndexByteString", "internal/abi.NoEscape"], unfollowed := true, recurses := true, apart := false }
def ScriptNestsSaid : Prop := scriptNestsRow.holds Tryz.pinned (OpenSpec.ofChange scriptNestsSpec)

/-- ITS FALSE NEIGHBOUR: 'it returns false'. Refute it at one input. -/
def scriptNestsWrong : ChangeSpec := { name := "scriptNests", fn := fun _ => fun
  | [d] => { results := [.lit (.bool false)], args := [d] }
  | _ => none }
def ScriptNestsWrongFalsely : Prop := scriptNestsRow.holds Tryz.pinned (OpenSpec.ofChange scriptNestsWrong)

/- THE SECOND FORM. 'bulk': how many values and letters a reading holds, each counted each time it is reached (what is shared counts as often as it is met; a slice's spare places count too). A statement '..UptoSaid' is the law's where the arguments, and the package variables that the reading takes, are together of bulk at most 1048576: NARROWER than '..Said'. Prove '..Said' where nothing that the law and all that it calls make is longer than what came in: it says more and counts as full. Else prove '..UptoSaid'. A law counts once. -/
mutual
def uptoBulk {H : Type} : DataW H → Nat
  | .lit (.string bytes) => bytes.length + 1
  | .lit _ => 1
  | .nil => 1
  | .ptr d => uptoBulk d + 1
  | .slice elems spare => uptoBulkAll elems + uptoBulkAll spare + 1
  | .agg parts => uptoBulkAll parts + 1
  | .iface _ d => uptoBulk d + 1
  | .map entries => uptoBulkEntries entries + 1
  | .held _ => 1
def uptoBulkAll {H : Type} : List (DataW H) → Nat
  | [] => 0
  | d :: r => uptoBulk d + uptoBulkAll r
def uptoBulkEntries {H : Type} : List (Lit × DataW H) → Nat
  | [] => 0
  | x :: r => uptoBulkEntry x + uptoBulkEntries r
def uptoBulkEntry {H : Type} : Lit × DataW H → Nat
  | (.string bytes, d) => bytes.length + uptoBulk d + 1
  | (_, d) => uptoBulk d + 1
 end
def uptoSmall : (H : Type) → List (DataW H) → Bool := fun _ ds => decide (uptoBulkAll ds ≤ 1048576)
def OpenSpec.upto (s : _root_.Go.ChangeSpec) : _root_.Go.OpenSpec := { _root_.Go.OpenSpec.ofChange s with cond := some uptoSmall }

/-- 'syntagmalaw07.ParseMay', WHERE WHAT IT READS IS OF BULK AT MOST 1048576: true; the input reads as it did. -/
def parseMayUptoRow : OpenClaim := { program := "ytejpnabbmgpmaaagreat", sum := "35639cd3876c2d022a9063397fddf552d0effedc7feec9e386ddbc3892c5653d", func := "syntagma/syntagmalaw07.ParseMay", spec := "parseMay", inPlace := ["internal/bytealg.IndexByteString", "internal/abi.NoEscape"], unfollowed := true, recurses := true, apart := false, narrowed := true }
def ParseMayUptoSaid : Prop := parseMayUptoRow.holds Tryz.pinned (OpenSpec.upto parseMaySpec)

/-- 'syntagmalaw42.CostTells', WHERE WHAT IT READS IS OF BULK AT MOST 1048576: true; the input reads as it did. -/
def costTellsUptoRow : OpenClaim := { program := "ytejpnabbmgpmaaagreat", sum := "35639cd3876c2d022a9063397fddf552d0effedc7feec9e386ddbc3892c5653d", func := "syntagma/syntagmalaw42.CostTells", spec := "costTells", inPlace := ["internal/bytealg.IndexByteString", "internal/abi.NoEscape"], unfollowed := true, recurses := true, apart := false, narrowed := true }
def CostTellsUptoSaid : Prop := costTellsUptoRow.holds Tryz.pinned (OpenSpec.upto costTellsSpec)

/-- 'syntagmalaw42.CostReads', WHERE WHAT IT READS IS OF BULK AT MOST 1048576: true; the input reads as it did. -/
def costReadsUptoRow : OpenClaim := { program := "ytejpnabbmgpmaaagreat", sum := "35639cd3876c2d022a9063397fddf552d0effedc7feec9e386ddbc3892c5653d", func := "syntagma/syntagmalaw42.CostReads", spec := "costReads", inPlace := ["internal/bytealg.IndexByteString", "internal/abi.NoEscape"], unfollowed := true, recurses := true, apart := false, narrowed := true }
def CostReadsUptoSaid : Prop := costReadsUptoRow.holds Tryz.pinned (OpenSpec.upto costReadsSpec)

/-- 'syntagmalaw42.CostEnough', WHERE WHAT IT READS IS OF BULK AT MOST 1048576: true; the input reads as it did. -/
def costEnoughUptoRow : OpenClaim := { program := "ytejpnabbmgpmaaagreat", sum := "35639cd3876c2d022a9063397fddf552d0effedc7feec9e386ddbc3892c5653d", func := "syntagma/syntagmalaw42.CostEnough", spec := "costEnough", inPlace := ["internal/bytealg.IndexByteString", "internal/abi.NoEscape"], unfollowed := true, recurses := true, apart := false, narrowed := true }
def CostEnoughUptoSaid : Prop := costEnoughUptoRow.holds Tryz.pinned (OpenSpec.upto costEnoughSpec)

/-- 'syntagmalaw10.StepOne', WHERE WHAT IT READS IS OF BULK AT MOST 1048576: true; the input reads as it did. -/
def stepOneUptoRow : OpenClaim := { program := "ytejpnabbmgpmaaagreat", sum := "35639cd3876c2d022a9063397fddf552d0effedc7feec9e386ddbc3892c5653d", func := "syntagma/syntagmalaw10.StepOne", spec := "stepOne", inPlace := ["internal/bytealg.IndexByteString", "internal/abi.NoEscape"], unfollowed := true, recurses := true, apart := false, narrowed := true }
def StepOneUptoSaid : Prop := stepOneUptoRow.holds Tryz.pinned (OpenSpec.upto stepOneSpec)

/-- 'syntagmalaw10.StepRuns', WHERE WHAT IT READS IS OF BULK AT MOST 1048576: true; the input reads as it did. -/
def stepRunsUptoRow : OpenClaim := { program := "ytejpnabbmgpmaaagreat", sum := "35639cd3876c2d022a9063397fddf552d0effedc7feec9e386ddbc3892c5653d", func := "syntagma/syntagmalaw10.StepRuns", spec := "stepRuns", inPlace := ["internal/bytealg.IndexByteString", "internal/abi.NoEscape"], unfollowed := true, recurses := true, apart := false, narrowed := true }
def StepRunsUptoSaid : Prop := stepRunsUptoRow.holds Tryz.pinned (OpenSpec.upto stepRunsSpec)

/-- 'syntagmalaw12.MachineMore', WHERE WHAT IT READS IS OF BULK AT MOST 1048576: true; the input reads as it did. -/
def machineMoreUptoRow : OpenClaim := { program := "ytejpnabbmgpmaaagreat", sum := "35639cd3876c2d022a9063397fddf552d0effedc7feec9e386ddbc3892c5653d", func := "syntagma/syntagmalaw12.MachineMore", spec := "machineMore", inPlace := ["internal/bytealg.IndexByteString", "internal/abi.NoEscape"], unfollowed := true, recurses := true, apart := false, narrowed := true }
def MachineMoreUptoSaid : Prop := machineMoreUptoRow.holds Tryz.pinned (OpenSpec.upto machineMoreSpec)

/-- 'syntagmalaw10.StepStays', WHERE WHAT IT READS IS OF BULK AT MOST 1048576: true; the input reads as it did. -/
def stepStaysUptoRow : OpenClaim := { program := "ytejpnabbmgpmaaagreat", sum := "35639cd3876c2d022a9063397fddf552d0effedc7feec9e386ddbc3892c5653d", func := "syntagma/syntagmalaw10.StepStays", spec := "stepStays", inPlace := ["internal/bytealg.IndexByteString", "internal/abi.NoEscape"], unfollowed := true, recurses := true, apart := false, narrowed := true }
def StepStaysUptoSaid : Prop := stepStaysUptoRow.holds Tryz.pinned (OpenSpec.upto stepStaysSpec)

/-- 'syntagmalaw43.ScriptJoins', WHERE WHAT IT READS IS OF BULK AT MOST 1048576: true; the input reads as it did. -/
def scriptJoinsUptoRow : OpenClaim := { program := "ytejpnabbmgpmaaagreat", sum := "35639cd3876c2d022a9063397fddf552d0effedc7feec9e386ddbc3892c5653d", func := "syntagma/syntagmalaw43.ScriptJoins", spec := "scriptJoins", inPlace := ["internal/bytealg.IndexByteString", "internal/abi.NoEscape"], unfollowed := true, recurses := true, apart := false, narrowed := true }
def ScriptJoinsUptoSaid : Prop := scriptJoinsUptoRow.holds Tryz.pinned (OpenSpec.upto scriptJoinsSpec)

/-- 'syntagmalaw43.ScriptNests', WHERE WHAT IT READS IS OF BULK AT MOST 1048576: true; the input reads as it did. -/
def scriptNestsUptoRow : OpenClaim := { program := "ytejpnabbmgpmaaagreat", sum := "35639cd3876c2d022a9063397fddf552d0effedc7feec9e386ddbc3892c5653d", func := "syntagma/syntagmalaw43.ScriptNests", spec := "scriptNests", inPlace := ["internal/bytealg.IndexByteString", "internal/abi.NoEscape"], unfollowed := true, recurses := true, apart := false, narrowed := true }
def ScriptNestsUptoSaid : Prop := scriptNestsUptoRow.holds Tryz.pinned (OpenSpec.upto scriptNestsSpec)

end Rows
end Go.Proofs.YtejpnabbmgpmaaaGreat
