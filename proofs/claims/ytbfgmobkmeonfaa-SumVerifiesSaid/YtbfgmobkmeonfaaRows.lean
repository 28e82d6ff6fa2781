/-
  No cell of these rows narrows 'for every input' (looked for: loops, veiled, ifaces, maps, wideKeys, modest, calm, conditions, laid).
  DERIVED. THE GIVEN ROWS OF THIS SEAT. 11 by the template 'for every input the law returns true; each argument reads behind the call as it read before'; 0 by the template 'total and deterministic' (their statements: YtbfgmobkmeonfaaTotals.lean).
  GIVEN WITH THE SEED: the statements are not yours to turn. If you find one false, say at which input.
  Laid BY PROGRAM, IN A SANDBOX (cutbox-rows.mjs): the forced cells as the released guide's own fill.sh prints them over the translation a032c7758a5a9d05… (all of the seat's roots in one cut). By AI agents, Wed Nov 11 2026. No macro, syntax, notation, axiom, sorry.
-/
import Derived.Test.YtbfgmobkmeonfaaChecked
import GoSem.Claim
import GoSem.ClaimJoined
import GoSem.ClaimMapViews
import Derived.JoinedTies
import Derived.KernelRfl
namespace Go.Proofs.Ytbfgmobkmeonfaa
/- THE CELL 'sum', in the pinned program and in every row, IS THE sha256 OF THE DUMP (.gsa) THAT YtbfgmobkmeonfaaProg.lean LOADS. Nothing in Lean hashes anything: it is a label: what it is worth is what the hold of that sum in a sandbox is worth. -/
noncomputable def Try.pinned : Pinned := { name := "ytbfgmobkmeonfaa", sum := "a032c7758a5a9d0596be7e5c48f2e59696c68e8a0727de72ce211bed2a3e35cc", checked := Try.checked }
namespace Rows
def none {H : Type} : Left H := { results := [], args := [] }

/-- 'tallylaw.Names': WHATEVER THE INPUT: true; the input reads as it did. -/
def namesSpec : ChangeSpec := { name := "names", fn := fun _ => fun
  | [] => { results := [.lit (.bool true)], args := [] }
  | _ => none }
def namesRow : OpenClaim := { program := "ytbfgmobkmeonfaa", sum := "a032c7758a5a9d0596be7e5c48f2e59696c68e8a0727de72ce211bed2a3e35cc", func := "tallystick/tallylaw.Names", spec := "names", apart := false }
def NamesSaid : Prop := namesRow.holds Try.pinned (OpenSpec.ofChange namesSpec)

/-- ITS FALSE NEIGHBOUR: 'it returns false'. Refute it at one input. -/
def namesWrong : ChangeSpec := { name := "names", fn := fun _ => fun
  | [] => { results := [.lit (.bool false)], args := [] }
  | _ => none }
def NamesWrongFalsely : Prop := namesRow.holds Try.pinned (OpenSpec.ofChange namesWrong)

/-- 'tallylaw.MleEq': WHATEVER THE INPUT: true; the input reads as it did. -/
def mleEqSpec : ChangeSpec := { name := "mleEq", fn := fun _ => fun
  | [d] => { results := [.lit (.bool true)], args := [d] }
  | _ => none }
def mleEqRow : OpenClaim := { program := "ytbfgmobkmeonfaa", sum := "a032c7758a5a9d0596be7e5c48f2e59696c68e8a0727de72ce211bed2a3e35cc", func := "tallystick/tallylaw.MleEq", spec := "mleEq", apart := false }
def MleEqSaid : Prop := mleEqRow.holds Try.pinned (OpenSpec.ofChange mleEqSpec)

/-- ITS FALSE NEIGHBOUR: 'it returns false'. Refute it at one input. -/
def mleEqWrong : ChangeSpec := { name := "mleEq", fn := fun _ => fun
  | [d] => { results := [.lit (.bool false)], args := [d] }
  | _ => none }
def MleEqWrongFalsely : Prop := mleEqRow.holds Try.pinned (OpenSpec.ofChange mleEqWrong)

/-- 'tallylaw.FieldSays': WHATEVER THE INPUT: true; the input reads as it did. -/
def fieldSaysSpec : ChangeSpec := { name := "fieldSays", fn := fun _ => fun
  | [d1, d2, d3] => { results := [.lit (.bool true)], args := [d1, d2, d3] }
  | _ => none }
def fieldSaysRow : OpenClaim := { program := "ytbfgmobkmeonfaa", sum := "a032c7758a5a9d0596be7e5c48f2e59696c68e8a0727de72ce211bed2a3e35cc", func := "tallystick/tallylaw.FieldSays", spec := "fieldSays", apart := false }
def FieldSaysSaid : Prop := fieldSaysRow.holds Try.pinned (OpenSpec.ofChange fieldSaysSpec)

/-- ITS FALSE NEIGHBOUR: 'it returns false'. Refute it at one input. -/
def fieldSaysWrong : ChangeSpec := { name := "fieldSays", fn := fun _ => fun
  | [d1, d2, d3] => { results := [.lit (.bool false)], args := [d1, d2, d3] }
  | _ => none }
def FieldSaysWrongFalsely : Prop := fieldSaysRow.holds Try.pinned (OpenSpec.ofChange fieldSaysWrong)

/-- 'tallykeep.FieldLaws': WHATEVER THE INPUT: true; the input reads as it did. -/
def fieldLawsSpec : ChangeSpec := { name := "fieldLaws", fn := fun _ => fun
  | [d1, d2, d3, d4] => { results := [.lit (.bool true)], args := [d1, d2, d3, d4] }
  | _ => none }
def fieldLawsRow : OpenClaim := { program := "ytbfgmobkmeonfaa", sum := "a032c7758a5a9d0596be7e5c48f2e59696c68e8a0727de72ce211bed2a3e35cc", func := "tallystick/tallykeep.FieldLaws", spec := "fieldLaws", apart := false }
def FieldLawsSaid : Prop := fieldLawsRow.holds Try.pinned (OpenSpec.ofChange fieldLawsSpec)

/-- ITS FALSE NEIGHBOUR: 'it returns false'. Refute it at one input. -/
def fieldLawsWrong : ChangeSpec := { name := "fieldLaws", fn := fun _ => fun
  | [d1, d2, d3, d4] => { results := [.lit (.bool false)], args := [d1, d2, d3, d4] }
  | _ => none }
def FieldLawsWrongFalsely : Prop := fieldLawsRow.holds Try.pinned (OpenSpec.ofChange fieldLawsWrong)

/-- 'tallylaw.SpongePlays': WHATEVER THE INPUT: true; the input reads as it did. -/
def spongePlaysSpec : ChangeSpec := { name := "spongePlays", fn := fun _ => fun
  | [d1, d2] => { results := [.lit (.bool true)], args := [d1, d2] }
  | _ => none }
def spongePlaysRow : OpenClaim := { program := "ytbfgmobkmeonfaa", sum := "a032c7758a5a9d0596be7e5c48f2e59696c68e8a0727de72ce211bed2a3e35cc", func := "tallystick/tallylaw.SpongePlays", spec := "spongePlays", apart := false }
def SpongePlaysSaid : Prop := spongePlaysRow.holds Try.pinned (OpenSpec.ofChange spongePlaysSpec)

/-- ITS FALSE NEIGHBOUR: 'it returns false'. Refute it at one input. -/
def spongePlaysWrong : ChangeSpec := { name := "spongePlays", fn := fun _ => fun
  | [d1, d2] => { results := [.lit (.bool false)], args := [d1, d2] }
  | _ => none }
def SpongePlaysWrongFalsely : Prop := spongePlaysRow.holds Try.pinned (OpenSpec.ofChange spongePlaysWrong)

/-- 'tallykeep.SpongeSteps': WHATEVER THE INPUT: true; the input reads as it did. -/
def spongeStepsSpec : ChangeSpec := { name := "spongeSteps", fn := fun _ => fun
  | [d1, d2, d3] => { results := [.lit (.bool true)], args := [d1, d2, d3] }
  | _ => none }
def spongeStepsRow : OpenClaim := { program := "ytbfgmobkmeonfaa", sum := "a032c7758a5a9d0596be7e5c48f2e59696c68e8a0727de72ce211bed2a3e35cc", func := "tallystick/tallykeep.SpongeSteps", spec := "spongeSteps", apart := false }
def SpongeStepsSaid : Prop := spongeStepsRow.holds Try.pinned (OpenSpec.ofChange spongeStepsSpec)

/-- ITS FALSE NEIGHBOUR: 'it returns false'. Refute it at one input. -/
def spongeStepsWrong : ChangeSpec := { name := "spongeSteps", fn := fun _ => fun
  | [d1, d2, d3] => { results := [.lit (.bool false)], args := [d1, d2, d3] }
  | _ => none }
def SpongeStepsWrongFalsely : Prop := spongeStepsRow.holds Try.pinned (OpenSpec.ofChange spongeStepsWrong)

/-- 'tallylaw.UniSays': WHATEVER THE INPUT: true; the input reads as it did. -/
def uniSaysSpec : ChangeSpec := { name := "uniSays", fn := fun _ => fun
  | [d1, d2] => { results := [.lit (.bool true)], args := [d1, d2] }
  | _ => none }
def uniSaysRow : OpenClaim := { program := "ytbfgmobkmeonfaa", sum := "a032c7758a5a9d0596be7e5c48f2e59696c68e8a0727de72ce211bed2a3e35cc", func := "tallystick/tallylaw.UniSays", spec := "uniSays", apart := false }
def UniSaysSaid : Prop := uniSaysRow.holds Try.pinned (OpenSpec.ofChange uniSaysSpec)

/-- ITS FALSE NEIGHBOUR: 'it returns false'. Refute it at one input. -/
def uniSaysWrong : ChangeSpec := { name := "uniSays", fn := fun _ => fun
  | [d1, d2] => { results := [.lit (.bool false)], args := [d1, d2] }
  | _ => none }
def UniSaysWrongFalsely : Prop := uniSaysRow.holds Try.pinned (OpenSpec.ofChange uniSaysWrong)

/-- 'tallykeep.CircuitLayers': WHATEVER THE INPUT: true; the input reads as it did. -/
def circuitLayersSpec : ChangeSpec := { name := "circuitLayers", fn := fun _ => fun
  | [d1, d2, d3, d4] => { results := [.lit (.bool true)], args := [d1, d2, d3, d4] }
  | _ => none }
def circuitLayersRow : OpenClaim := { program := "ytbfgmobkmeonfaa", sum := "a032c7758a5a9d0596be7e5c48f2e59696c68e8a0727de72ce211bed2a3e35cc", func := "tallystick/tallykeep.CircuitLayers", spec := "circuitLayers", apart := false }
def CircuitLayersSaid : Prop := circuitLayersRow.holds Try.pinned (OpenSpec.ofChange circuitLayersSpec)

/-- ITS FALSE NEIGHBOUR: 'it returns false'. Refute it at one input. -/
def circuitLayersWrong : ChangeSpec := { name := "circuitLayers", fn := fun _ => fun
  | [d1, d2, d3, d4] => { results := [.lit (.bool false)], args := [d1, d2, d3, d4] }
  | _ => none }
def CircuitLayersWrongFalsely : Prop := circuitLayersRow.holds Try.pinned (OpenSpec.ofChange circuitLayersWrong)

/-- 'tallykeep.UniValues': WHATEVER THE INPUT: true; the input reads as it did. -/
def uniValuesSpec : ChangeSpec := { name := "uniValues", fn := fun _ => fun
  | [d1, d2, d3] => { results := [.lit (.bool true)], args := [d1, d2, d3] }
  | _ => none }
def uniValuesRow : OpenClaim := { program := "ytbfgmobkmeonfaa", sum := "a032c7758a5a9d0596be7e5c48f2e59696c68e8a0727de72ce211bed2a3e35cc", func := "tallystick/tallykeep.UniValues", spec := "uniValues", apart := false }
def UniValuesSaid : Prop := uniValuesRow.holds Try.pinned (OpenSpec.ofChange uniValuesSpec)

/-- ITS FALSE NEIGHBOUR: 'it returns false'. Refute it at one input. -/
def uniValuesWrong : ChangeSpec := { name := "uniValues", fn := fun _ => fun
  | [d1, d2, d3] => { results := [.lit (.bool false)], args := [d1, d2, d3] }
  | _ => none }
def UniValuesWrongFalsely : Prop := uniValuesRow.holds Try.pinned (OpenSpec.ofChange uniValuesWrong)

/-- 'tallylaw.WiringSays': WHATEVER THE INPUT: true; the input reads as it did. -/
def wiringSaysSpec : ChangeSpec := { name := "wiringSays", fn := fun _ => fun
  | [d1, d2, d3, d4, d5, d6, d7, d8] => { results := [.lit (.bool true)], args := [d1, d2, d3, d4, d5, d6, d7, d8] }
  | _ => none }
def wiringSaysRow : OpenClaim := { program := "ytbfgmobkmeonfaa", sum := "a032c7758a5a9d0596be7e5c48f2e59696c68e8a0727de72ce211bed2a3e35cc", func := "tallystick/tallylaw.WiringSays", spec := "wiringSays", apart := false }
def WiringSaysSaid : Prop := wiringSaysRow.holds Try.pinned (OpenSpec.ofChange wiringSaysSpec)

/-- ITS FALSE NEIGHBOUR: 'it returns false'. Refute it at one input. -/
def wiringSaysWrong : ChangeSpec := { name := "wiringSays", fn := fun _ => fun
  | [d1, d2, d3, d4, d5, d6, d7, d8] => { results := [.lit (.bool false)], args := [d1, d2, d3, d4, d5, d6, d7, d8] }
  | _ => none }
def WiringSaysWrongFalsely : Prop := wiringSaysRow.holds Try.pinned (OpenSpec.ofChange wiringSaysWrong)

/-- 'tallylaw.SumVerifies': WHATEVER THE INPUT: true; the input reads as it did. -/
def sumVerifiesSpec : ChangeSpec := { name := "sumVerifies", fn := fun _ => fun
  | [d1, d2, d3] => { results := [.lit (.bool true)], args := [d1, d2, d3] }
  | _ => none }
def sumVerifiesRow : OpenClaim := { program := "ytbfgmobkmeonfaa", sum := "a032c7758a5a9d0596be7e5c48f2e59696c68e8a0727de72ce211bed2a3e35cc", func := "tallystick/tallylaw.SumVerifies", spec := "sumVerifies", apart := false }
def SumVerifiesSaid : Prop := sumVerifiesRow.holds Try.pinned (OpenSpec.ofChange sumVerifiesSpec)

/-- ITS FALSE NEIGHBOUR: 'it returns false'. Refute it at one input. -/
def sumVerifiesWrong : ChangeSpec := { name := "sumVerifies", fn := fun _ => fun
  | [d1, d2, d3] => { results := [.lit (.bool false)], args := [d1, d2, d3] }
  | _ => none }
def SumVerifiesWrongFalsely : Prop := sumVerifiesRow.holds Try.pinned (OpenSpec.ofChange sumVerifiesWrong)

/- THE SECOND FORM. 'bulk': how many values and letters a reading holds, each counted each time it is reached (what is shared counts as often as it is met; a slice's spare places count too). A statement '..UptoSaid' is the law's where the arguments, and the package variables that the reading takes, are together of bulk at most 1048576: NARROWER than '..Said'. Prove '..Said' where nothing that the law and all that it calls make is longer than what came in: it says more and counts as full. Else prove '..UptoSaid'. A law counts once. -/
mutual
def uptoBulk {H : Type} : DataW H → Nat
  | .lit (.string bytes) => bytes.length + 1
  | .lit _ => 1
  | .nil => 1
  | .ptr d => uptoBulk d + 1
  | .slice elems spare => uptoBulkAll elems + uptoBulkAll spare + 1
  | .agg parts => uptoBulkAll parts + 1
  | .iface _ d => uptoBulk d + 1
  | .map entries => uptoBulkEntries entries + 1
  | .held _ => 1
def uptoBulkAll {H : Type} : List (DataW H) → Nat
  | [] => 0
  | d :: r => uptoBulk d + uptoBulkAll r
def uptoBulkEntries {H : Type} : List (Lit × DataW H) → Nat
  | [] => 0
  | x :: r => uptoBulkEntry x + uptoBulkEntries r
def uptoBulkEntry {H : Type} : Lit × DataW H → Nat
  | (.string bytes, d) => bytes.length + uptoBulk d + 1
  | (_, d) => uptoBulk d + 1
 end
def uptoSmall : (H : Type) → List (DataW H) → Bool := fun _ ds => decide (uptoBulkAll ds ≤ 1048576)
def OpenSpec.upto (s : _root_.Go.ChangeSpec) : _root_.Go.OpenSpec := { _root_.Go.OpenSpec.ofChange s with cond := some uptoSmall }

/-- 'tallylaw.Names', WHERE WHAT IT READS IS OF BULK AT MOST 1048576: true; the input reads as it did. -/
def namesUptoRow : OpenClaim := { program := "ytbfgmobkmeonfaa", sum := "a032c7758a5a9d0596be7e5c48f2e59696c68e8a0727de72ce211bed2a3e35cc", func := "tallystick/tallylaw.Names", spec := "names", apart := false, narrowed := true }
def NamesUptoSaid : Prop := namesUptoRow.holds Try.pinned (OpenSpec.upto namesSpec)

/-- 'tallylaw.MleEq', WHERE WHAT IT READS IS OF BULK AT MOST 1048576: true; the input reads as it did. -/
def mleEqUptoRow : OpenClaim := { program := "ytbfgmobkmeonfaa", sum := "a032c7758a5a9d0596be7e5c48f2e59696c68e8a0727de72ce211bed2a3e35cc", func := "tallystick/tallylaw.MleEq", spec := "mleEq", apart := false, narrowed := true }
def MleEqUptoSaid : Prop := mleEqUptoRow.holds Try.pinned (OpenSpec.upto mleEqSpec)

/-- 'tallylaw.FieldSays', WHERE WHAT IT READS IS OF BULK AT MOST 1048576: true; the input reads as it did. -/
def fieldSaysUptoRow : OpenClaim := { program := "ytbfgmobkmeonfaa", sum := "a032c7758a5a9d0596be7e5c48f2e59696c68e8a0727de72ce211bed2a3e35cc", func := "tallystick/tallylaw.FieldSays", spec := "fieldSays", apart := false, narrowed := true }
def FieldSaysUptoSaid : Prop := fieldSaysUptoRow.holds Try.pinned (OpenSpec.upto fieldSaysSpec)

/-- 'tallykeep.FieldLaws', WHERE WHAT IT READS IS OF BULK AT MOST 1048576: true; the input reads as it did. -/
def fieldLawsUptoRow : OpenClaim := { program := "ytbfgmobkmeonfaa", sum := "a032c7758a5a9d0596be7e5c48f2e59696c68e8a0727de72ce211bed2a3e35cc", func := "tallystick/tallykeep.FieldLaws", spec := "fieldLaws", apart := false, narrowed := true }
def FieldLawsUptoSaid : Prop := fieldLawsUptoRow.holds Try.pinned (OpenSpec.upto fieldLawsSpec)

/-- 'tallylaw.SpongePlays', WHERE WHAT IT READS IS OF BULK AT MOST 1048576: true; the input reads as it did. -/
def spongePlaysUptoRow : OpenClaim := { program := "ytbfgmobkmeonfaa", sum := "a032c7758a5a9d0596be7e5c48f2e59696c68e8a0727de72ce211bed2a3e35cc", func := "tallystick/tallylaw.SpongePlays", spec := "spongePlays", apart := false, narrowed := true }
def SpongePlaysUptoSaid : Prop := spongePlaysUptoRow.holds Try.pinned (OpenSpec.upto spongePlaysSpec)

/-- 'tallykeep.SpongeSteps', WHERE WHAT IT READS IS OF BULK AT MOST 1048576: true; the input reads as it did. -/
def spongeStepsUptoRow : OpenClaim := { program := "ytbfgmobkmeonfaa", sum := "a032c7758a5a9d0596be7e5c48f2e59696c68e8a0727de72ce211bed2a3e35cc", func := "tallystick/tallykeep.SpongeSteps", spec := "spongeSteps", apart := false, narrowed := true }
def SpongeStepsUptoSaid : Prop := spongeStepsUptoRow.holds Try.pinned (OpenSpec.upto spongeStepsSpec)

/-- 'tallylaw.UniSays', WHERE WHAT IT READS IS OF BULK AT MOST 1048576: true; the input reads as it did. -/
def uniSaysUptoRow : OpenClaim := { program := "ytbfgmobkmeonfaa", sum := "a032c7758a5a9d0596be7e5c48f2e59696c68e8a0727de72ce211bed2a3e35cc", func := "tallystick/tallylaw.UniSays", spec := "uniSays", apart := false, narrowed := true }
def UniSaysUptoSaid : Prop := uniSaysUptoRow.holds Try.pinned (OpenSpec.upto uniSaysSpec)

/-- 'tallykeep.CircuitLayers', WHERE WHAT IT READS IS OF BULK AT MOST 1048576: true; the input reads as it did. -/
def circuitLayersUptoRow : OpenClaim := { program := "ytbfgmobkmeonfaa", sum := "a032c7758a5a9d0596be7e5c48f2e59696c68e8a0727de72ce211bed2a3e35cc", func := "tallystick/tallykeep.CircuitLayers", spec := "circuitLayers", apart := false, narrowed := true }
def CircuitLayersUptoSaid : Prop := circuitLayersUptoRow.holds Try.pinned (OpenSpec.upto circuitLayersSpec)

/-- 'tallykeep.UniValues', WHERE WHAT IT READS IS OF BULK AT MOST 1048576: true; the input reads as it did. -/
def uniValuesUptoRow : OpenClaim := { program := "ytbfgmobkmeonfaa", sum := "a032c7758a5a9d0596be7e5c48f2e59696c68e8a0727de72ce211bed2a3e35cc", func := "tallystick/tallykeep.UniValues", spec := "uniValues", apart := false, narrowed := true }
def UniValuesUptoSaid : Prop := uniValuesUptoRow.holds Try.pinned (OpenSpec.upto uniValuesSpec)

/-- 'tallylaw.WiringSays', WHERE WHAT IT READS IS OF BULK AT MOST 1048576: true; the input reads as it did. -/
def wiringSaysUptoRow : OpenClaim := { program := "ytbfgmobkmeonfaa", sum := "a032c7758a5a9d0596be7e5c48f2e59696c68e8a0727de72ce211bed2a3e35cc", func := "tallystick/tallylaw.WiringSays", spec := "wiringSays", apart := false, narrowed := true }
def WiringSaysUptoSaid : Prop := wiringSaysUptoRow.holds Try.pinned (OpenSpec.upto wiringSaysSpec)

/-- 'tallylaw.SumVerifies', WHERE WHAT IT READS IS OF BULK AT MOST 1048576: true; the input reads as it did. -/
def sumVerifiesUptoRow : OpenClaim := { program := "ytbfgmobkmeonfaa", sum := "a032c7758a5a9d0596be7e5c48f2e59696c68e8a0727de72ce211bed2a3e35cc", func := "tallystick/tallylaw.SumVerifies", spec := "sumVerifies", apart := false, narrowed := true }
def SumVerifiesUptoSaid : Prop := sumVerifiesUptoRow.holds Try.pinned (OpenSpec.upto sumVerifiesSpec)

end Rows
end Go.Proofs.Ytbfgmobkmeonfaa
