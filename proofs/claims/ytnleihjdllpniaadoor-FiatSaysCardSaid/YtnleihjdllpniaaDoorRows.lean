/-
  NARROWER THAN 'FOR EVERY INPUT', by the rows' own cells (each row's printed sentence says how): TopComplete: laid · TopSound: laid · WiringTells: laid · TopInputs: laid · GkrProves: laid · GkrVerifies: laid · FiatSays: laid · FiatVerifies: laid · GkrComplete: laid · GkrOutputs: laid · FiatComplete: laid.
  DERIVED. THE GIVEN ROWS OF THIS SEAT. 11 by the template 'for every input the law returns true; each argument reads behind the call as it read before'; 0 by the template 'total and deterministic' (their statements: YtnleihjdllpniaaDoorTotals.lean).
  GIVEN WITH THE SEED: the statements are not yours to turn. If you find one false, say at which input.
  Laid BY PROGRAM, IN A SANDBOX (cutbox-rows.mjs): the forced cells as the released guide's own fill.sh prints them over the translation f7a8b3214716e473… (all of the seat's roots in one cut). By AI agents, Wed Nov 11 2026. No macro, syntax, notation, axiom, sorry.
-/
import Derived.Test.YtnleihjdllpniaaDoorChecked
import GoSem.Claim
import GoSem.ClaimJoined
import GoSem.ClaimMapViews
import Derived.JoinedTies
import Derived.KernelRfl
namespace Go.Proofs.YtnleihjdllpniaaDoor
/- THE CELL 'sum', in the pinned program and in every row, IS THE sha256 OF THE DUMP (.gsa) THAT YtnleihjdllpniaaDoorProg.lean LOADS. Nothing in Lean hashes anything: it is a label: what it is worth is what the hold of that sum in a sandbox is worth. -/
noncomputable def Tryd.pinned : Pinned := { name := "ytnleihjdllpniaadoor", sum := "f7a8b3214716e473ec63c8dc78ad0a0194a68921edd72917d134c457c75b3c79", checked := Tryd.checked }
namespace Rows
def none {H : Type} : Left H := { results := [], args := [] }

/- WHAT THE LISTED PACKAGE-LEVEL VARIABLES READ AS WHEN THE CALL BEGINS. Each datum BY PROGRAM (the guide's laid-datum.mjs) off the statement by which the dump's own 'gosem.cut.vars' lays the variable. In a bare row this is a premise. The card (YtnleihjdllpniaaDoorCards.lean) ties it to the program's text. -/
def laid_math_bits_deBruijn32tab {H : Type} : DataW H := .agg [.lit (.int .u8 0), .lit (.int .u8 1), .lit (.int .u8 28), .lit (.int .u8 2), .lit (.int .u8 29), .lit (.int .u8 14), .lit (.int .u8 24), .lit (.int .u8 3), .lit (.int .u8 30), .lit (.int .u8 22), .lit (.int .u8 20), .lit (.int .u8 15), .lit (.int .u8 25), .lit (.int .u8 17), .lit (.int .u8 4), .lit (.int .u8 8), .lit (.int .u8 31), .lit (.int .u8 27), .lit (.int .u8 13), .lit (.int .u8 23), .lit (.int .u8 21), .lit (.int .u8 19), .lit (.int .u8 16), .lit (.int .u8 7), .lit (.int .u8 26), .lit (.int .u8 12), .lit (.int .u8 18), .lit (.int .u8 6), .lit (.int .u8 11), .lit (.int .u8 5), .lit (.int .u8 10), .lit (.int .u8 9)]
def laid_math_bits_deBruijn64tab {H : Type} : DataW H := .agg [.lit (.int .u8 0), .lit (.int .u8 1), .lit (.int .u8 56), .lit (.int .u8 2), .lit (.int .u8 57), .lit (.int .u8 49), .lit (.int .u8 28), .lit (.int .u8 3), .lit (.int .u8 61), .lit (.int .u8 58), .lit (.int .u8 42), .lit (.int .u8 50), .lit (.int .u8 38), .lit (.int .u8 29), .lit (.int .u8 17), .lit (.int .u8 4), .lit (.int .u8 62), .lit (.int .u8 47), .lit (.int .u8 59), .lit (.int .u8 36), .lit (.int .u8 45), .lit (.int .u8 43), .lit (.int .u8 51), .lit (.int .u8 22), .lit (.int .u8 53), .lit (.int .u8 39), .lit (.int .u8 33), .lit (.int .u8 30), .lit (.int .u8 24), .lit (.int .u8 18), .lit (.int .u8 12), .lit (.int .u8 5), .lit (.int .u8 63), .lit (.int .u8 55), .lit (.int .u8 48), .lit (.int .u8 27), .lit (.int .u8 60), .lit (.int .u8 41), .lit (.int .u8 37), .lit (.int .u8 16), .lit (.int .u8 46), .lit (.int .u8 35), .lit (.int .u8 44), .lit (.int .u8 21), .lit (.int .u8 52), .lit (.int .u8 32), .lit (.int .u8 23), .lit (.int .u8 11), .lit (.int .u8 54), .lit (.int .u8 26), .lit (.int .u8 40), .lit (.int .u8 15), .lit (.int .u8 34), .lit (.int .u8 20), .lit (.int .u8 31), .lit (.int .u8 10), .lit (.int .u8 25), .lit (.int .u8 14), .lit (.int .u8 19), .lit (.int .u8 9), .lit (.int .u8 13), .lit (.int .u8 8), .lit (.int .u8 7), .lit (.int .u8 6)]

/-- 'tallytop.TopComplete': WHATEVER THE INPUT: true; the input reads as it did. -/
def topCompleteSpec : ChangeSpec := { name := "topComplete", fn := fun _ => fun
  | [d1, d2, d3] => { results := [.lit (.bool true)], args := [d1, d2, d3] }
  | _ => none }
def topCompleteRow : OpenClaim := { program := "ytnleihjdllpniaadoor", sum := "f7a8b3214716e473ec63c8dc78ad0a0194a68921edd72917d134c457c75b3c79", func := "tallystick/tallytop.TopComplete", spec := "topComplete", named := ["math/bits.deBruijn32tab", "math/bits.deBruijn64tab"], apart := false, laid := [("math/bits.deBruijn32tab", laid_math_bits_deBruijn32tab), ("math/bits.deBruijn64tab", laid_math_bits_deBruijn64tab)] }
def TopCompleteSaid : Prop := topCompleteRow.holds Tryd.pinned (OpenSpec.ofChange topCompleteSpec)

/-- ITS FALSE NEIGHBOUR: 'it returns false'. Refute it at one input. -/
def topCompleteWrong : ChangeSpec := { name := "topComplete", fn := fun _ => fun
  | [d1, d2, d3] => { results := [.lit (.bool false)], args := [d1, d2, d3] }
  | _ => none }
def TopCompleteWrongFalsely : Prop := topCompleteRow.holds Tryd.pinned (OpenSpec.ofChange topCompleteWrong)

/-- 'tallytop.TopSound': WHATEVER THE INPUT: true; the input reads as it did. -/
def topSoundSpec : ChangeSpec := { name := "topSound", fn := fun _ => fun
  | [d1, d2, d3, d4, d5] => { results := [.lit (.bool true)], args := [d1, d2, d3, d4, d5] }
  | _ => none }
def topSoundRow : OpenClaim := { program := "ytnleihjdllpniaadoor", sum := "f7a8b3214716e473ec63c8dc78ad0a0194a68921edd72917d134c457c75b3c79", func := "tallystick/tallytop.TopSound", spec := "topSound", unfollowed := true, recurses := true, named := ["math/bits.deBruijn32tab", "math/bits.deBruijn64tab"], apart := false, laid := [("math/bits.deBruijn32tab", laid_math_bits_deBruijn32tab), ("math/bits.deBruijn64tab", laid_math_bits_deBruijn64tab)] }
def TopSoundSaid : Prop := topSoundRow.holds Tryd.pinned (OpenSpec.ofChange topSoundSpec)

/-- ITS FALSE NEIGHBOUR: 'it returns false'. Refute it at one input. -/
def topSoundWrong : ChangeSpec := { name := "topSound", fn := fun _ => fun
  | [d1, d2, d3, d4, d5] => { results := [.lit (.bool false)], args := [d1, d2, d3, d4, d5] }
  | _ => none }
def TopSoundWrongFalsely : Prop := topSoundRow.holds Tryd.pinned (OpenSpec.ofChange topSoundWrong)

/-- 'tallykeep.WiringTells': WHATEVER THE INPUT: true; the input reads as it did. -/
def wiringTellsSpec : ChangeSpec := { name := "wiringTells", fn := fun _ => fun
  | [d1, d2, d3, d4] => { results := [.lit (.bool true)], args := [d1, d2, d3, d4] }
  | _ => none }
def wiringTellsRow : OpenClaim := { program := "ytnleihjdllpniaadoor", sum := "f7a8b3214716e473ec63c8dc78ad0a0194a68921edd72917d134c457c75b3c79", func := "tallystick/tallykeep.WiringTells", spec := "wiringTells", unfollowed := true, recurses := true, named := ["math/bits.deBruijn32tab", "math/bits.deBruijn64tab"], apart := false, laid := [("math/bits.deBruijn32tab", laid_math_bits_deBruijn32tab), ("math/bits.deBruijn64tab", laid_math_bits_deBruijn64tab)] }
def WiringTellsSaid : Prop := wiringTellsRow.holds Tryd.pinned (OpenSpec.ofChange wiringTellsSpec)

/-- ITS FALSE NEIGHBOUR: 'it returns false'. Refute it at one input. -/
def wiringTellsWrong : ChangeSpec := { name := "wiringTells", fn := fun _ => fun
  | [d1, d2, d3, d4] => { results := [.lit (.bool false)], args := [d1, d2, d3, d4] }
  | _ => none }
def WiringTellsWrongFalsely : Prop := wiringTellsRow.holds Tryd.pinned (OpenSpec.ofChange wiringTellsWrong)

/-- 'tallytop.TopInputs': WHATEVER THE INPUT: true; the input reads as it did. -/
def topInputsSpec : ChangeSpec := { name := "topInputs", fn := fun _ => fun
  | [d1, d2, d3, d4] => { results := [.lit (.bool true)], args := [d1, d2, d3, d4] }
  | _ => none }
def topInputsRow : OpenClaim := { program := "ytnleihjdllpniaadoor", sum := "f7a8b3214716e473ec63c8dc78ad0a0194a68921edd72917d134c457c75b3c79", func := "tallystick/tallytop.TopInputs", spec := "topInputs", named := ["math/bits.deBruijn32tab", "math/bits.deBruijn64tab"], apart := false, laid := [("math/bits.deBruijn32tab", laid_math_bits_deBruijn32tab), ("math/bits.deBruijn64tab", laid_math_bits_deBruijn64tab)] }
def TopInputsSaid : Prop := topInputsRow.holds Tryd.pinned (OpenSpec.ofChange topInputsSpec)

/-- ITS FALSE NEIGHBOUR: 'it returns false'. Refute it at one input. -/
def topInputsWrong : ChangeSpec := { name := "topInputs", fn := fun _ => fun
  | [d1, d2, d3, d4] => { results := [.lit (.bool false)], args := [d1, d2, d3, d4] }
  | _ => none }
def TopInputsWrongFalsely : Prop := topInputsRow.holds Tryd.pinned (OpenSpec.ofChange topInputsWrong)

/-- 'tallylaw.GkrProves': WHATEVER THE INPUT: true; the input reads as it did. -/
def gkrProvesSpec : ChangeSpec := { name := "gkrProves", fn := fun _ => fun
  | [d1, d2, d3] => { results := [.lit (.bool true)], args := [d1, d2, d3] }
  | _ => none }
def gkrProvesRow : OpenClaim := { program := "ytnleihjdllpniaadoor", sum := "f7a8b3214716e473ec63c8dc78ad0a0194a68921edd72917d134c457c75b3c79", func := "tallystick/tallylaw.GkrProves", spec := "gkrProves", unfollowed := true, recurses := true, named := ["math/bits.deBruijn32tab", "math/bits.deBruijn64tab"], apart := false, laid := [("math/bits.deBruijn32tab", laid_math_bits_deBruijn32tab), ("math/bits.deBruijn64tab", laid_math_bits_deBruijn64tab)] }
def GkrProvesSaid : Prop := gkrProvesRow.holds Tryd.pinned (OpenSpec.ofChange gkrProvesSpec)

/-- ITS FALSE NEIGHBOUR: 'it returns false'. Refute it at one input. -/
def gkrProvesWrong : ChangeSpec := { name := "gkrProves", fn := fun _ => fun
  | [d1, d2, d3] => { results := [.lit (.bool false)], args := [d1, d2, d3] }
  | _ => none }
def GkrProvesWrongFalsely : Prop := gkrProvesRow.holds Tryd.pinned (OpenSpec.ofChange gkrProvesWrong)

/-- 'tallylaw.GkrVerifies': WHATEVER THE INPUT: true; the input reads as it did. -/
def gkrVerifiesSpec : ChangeSpec := { name := "gkrVerifies", fn := fun _ => fun
  | [d1, d2, d3, d4, d5] => { results := [.lit (.bool true)], args := [d1, d2, d3, d4, d5] }
  | _ => none }
def gkrVerifiesRow : OpenClaim := { program := "ytnleihjdllpniaadoor", sum := "f7a8b3214716e473ec63c8dc78ad0a0194a68921edd72917d134c457c75b3c79", func := "tallystick/tallylaw.GkrVerifies", spec := "gkrVerifies", named := ["math/bits.deBruijn32tab", "math/bits.deBruijn64tab"], apart := false, laid := [("math/bits.deBruijn32tab", laid_math_bits_deBruijn32tab), ("math/bits.deBruijn64tab", laid_math_bits_deBruijn64tab)] }
def GkrVerifiesSaid : Prop := gkrVerifiesRow.holds Tryd.pinned (OpenSpec.ofChange gkrVerifiesSpec)

/-- ITS FALSE NEIGHBOUR: 'it returns false'. Refute it at one input. -/
def gkrVerifiesWrong : ChangeSpec := { name := "gkrVerifies", fn := fun _ => fun
  | [d1, d2, d3, d4, d5] => { results := [.lit (.bool false)], args := [d1, d2, d3, d4, d5] }
  | _ => none }
def GkrVerifiesWrongFalsely : Prop := gkrVerifiesRow.holds Tryd.pinned (OpenSpec.ofChange gkrVerifiesWrong)

/-- 'tallylaw.FiatSays': WHATEVER THE INPUT: true; the input reads as it did. -/
def fiatSaysSpec : ChangeSpec := { name := "fiatSays", fn := fun _ => fun
  | [d1, d2] => { results := [.lit (.bool true)], args := [d1, d2] }
  | _ => none }
def fiatSaysRow : OpenClaim := { program := "ytnleihjdllpniaadoor", sum := "f7a8b3214716e473ec63c8dc78ad0a0194a68921edd72917d134c457c75b3c79", func := "tallystick/tallylaw.FiatSays", spec := "fiatSays", unfollowed := true, recurses := true, named := ["math/bits.deBruijn32tab", "math/bits.deBruijn64tab"], apart := false, laid := [("math/bits.deBruijn32tab", laid_math_bits_deBruijn32tab), ("math/bits.deBruijn64tab", laid_math_bits_deBruijn64tab)] }
def FiatSaysSaid : Prop := fiatSaysRow.holds Tryd.pinned (OpenSpec.ofChange fiatSaysSpec)

/-- ITS FALSE NEIGHBOUR: 'it returns false'. Refute it at one input. -/
def fiatSaysWrong : ChangeSpec := { name := "fiatSays", fn := fun _ => fun
  | [d1, d2] => { results := [.lit (.bool false)], args := [d1, d2] }
  | _ => none }
def FiatSaysWrongFalsely : Prop := fiatSaysRow.holds Tryd.pinned (OpenSpec.ofChange fiatSaysWrong)

/-- 'tallylaw.FiatVerifies': WHATEVER THE INPUT: true; the input reads as it did. -/
def fiatVerifiesSpec : ChangeSpec := { name := "fiatVerifies", fn := fun _ => fun
  | [d1, d2, d3, d4] => { results := [.lit (.bool true)], args := [d1, d2, d3, d4] }
  | _ => none }
def fiatVerifiesRow : OpenClaim := { program := "ytnleihjdllpniaadoor", sum := "f7a8b3214716e473ec63c8dc78ad0a0194a68921edd72917d134c457c75b3c79", func := "tallystick/tallylaw.FiatVerifies", spec := "fiatVerifies", named := ["math/bits.deBruijn32tab", "math/bits.deBruijn64tab"], apart := false, laid := [("math/bits.deBruijn32tab", laid_math_bits_deBruijn32tab), ("math/bits.deBruijn64tab", laid_math_bits_deBruijn64tab)] }
def FiatVerifiesSaid : Prop := fiatVerifiesRow.holds Tryd.pinned (OpenSpec.ofChange fiatVerifiesSpec)

/-- ITS FALSE NEIGHBOUR: 'it returns false'. Refute it at one input. -/
def fiatVerifiesWrong : ChangeSpec := { name := "fiatVerifies", fn := fun _ => fun
  | [d1, d2, d3, d4] => { results := [.lit (.bool false)], args := [d1, d2, d3, d4] }
  | _ => none }
def FiatVerifiesWrongFalsely : Prop := fiatVerifiesRow.holds Tryd.pinned (OpenSpec.ofChange fiatVerifiesWrong)

/-- 'tallykeep.GkrComplete': WHATEVER THE INPUT: true; the input reads as it did. -/
def gkrCompleteSpec : ChangeSpec := { name := "gkrComplete", fn := fun _ => fun
  | [d1, d2, d3] => { results := [.lit (.bool true)], args := [d1, d2, d3] }
  | _ => none }
def gkrCompleteRow : OpenClaim := { program := "ytnleihjdllpniaadoor", sum := "f7a8b3214716e473ec63c8dc78ad0a0194a68921edd72917d134c457c75b3c79", func := "tallystick/tallykeep.GkrComplete", spec := "gkrComplete", named := ["math/bits.deBruijn32tab", "math/bits.deBruijn64tab"], apart := false, laid := [("math/bits.deBruijn32tab", laid_math_bits_deBruijn32tab), ("math/bits.deBruijn64tab", laid_math_bits_deBruijn64tab)] }
def GkrCompleteSaid : Prop := gkrCompleteRow.holds Tryd.pinned (OpenSpec.ofChange gkrCompleteSpec)

/-- ITS FALSE NEIGHBOUR: 'it returns false'. Refute it at one input. -/
def gkrCompleteWrong : ChangeSpec := { name := "gkrComplete", fn := fun _ => fun
  | [d1, d2, d3] => { results := [.lit (.bool false)], args := [d1, d2, d3] }
  | _ => none }
def GkrCompleteWrongFalsely : Prop := gkrCompleteRow.holds Tryd.pinned (OpenSpec.ofChange gkrCompleteWrong)

/-- 'tallykeep.GkrOutputs': WHATEVER THE INPUT: true; the input reads as it did. -/
def gkrOutputsSpec : ChangeSpec := { name := "gkrOutputs", fn := fun _ => fun
  | [d1, d2, d3, d4] => { results := [.lit (.bool true)], args := [d1, d2, d3, d4] }
  | _ => none }
def gkrOutputsRow : OpenClaim := { program := "ytnleihjdllpniaadoor", sum := "f7a8b3214716e473ec63c8dc78ad0a0194a68921edd72917d134c457c75b3c79", func := "tallystick/tallykeep.GkrOutputs", spec := "gkrOutputs", named := ["math/bits.deBruijn32tab", "math/bits.deBruijn64tab"], apart := false, laid := [("math/bits.deBruijn32tab", laid_math_bits_deBruijn32tab), ("math/bits.deBruijn64tab", laid_math_bits_deBruijn64tab)] }
def GkrOutputsSaid : Prop := gkrOutputsRow.holds Tryd.pinned (OpenSpec.ofChange gkrOutputsSpec)

/-- ITS FALSE NEIGHBOUR: 'it returns false'. Refute it at one input. -/
def gkrOutputsWrong : ChangeSpec := { name := "gkrOutputs", fn := fun _ => fun
  | [d1, d2, d3, d4] => { results := [.lit (.bool false)], args := [d1, d2, d3, d4] }
  | _ => none }
def GkrOutputsWrongFalsely : Prop := gkrOutputsRow.holds Tryd.pinned (OpenSpec.ofChange gkrOutputsWrong)

/-- 'tallykeep.FiatComplete': WHATEVER THE INPUT: true; the input reads as it did. -/
def fiatCompleteSpec : ChangeSpec := { name := "fiatComplete", fn := fun _ => fun
  | [d1, d2] => { results := [.lit (.bool true)], args := [d1, d2] }
  | _ => none }
def fiatCompleteRow : OpenClaim := { program := "ytnleihjdllpniaadoor", sum := "f7a8b3214716e473ec63c8dc78ad0a0194a68921edd72917d134c457c75b3c79", func := "tallystick/tallykeep.FiatComplete", spec := "fiatComplete", named := ["math/bits.deBruijn32tab", "math/bits.deBruijn64tab"], apart := false, laid := [("math/bits.deBruijn32tab", laid_math_bits_deBruijn32tab), ("math/bits.deBruijn64tab", laid_math_bits_deBruijn64tab)] }
def FiatCompleteSaid : Prop := fiatCompleteRow.holds Tryd.pinned (OpenSpec.ofChange fiatCompleteSpec)

/-- ITS FALSE NEIGHBOUR: 'it returns false'. Refute it at one input. -/
def fiatCompleteWrong : ChangeSpec := { name := "fiatComplete", fn := fun _ => fun
  | [d1, d2] => { results := [.lit (.bool false)], args := [d1, d2] }
  | _ => none }
def FiatCompleteWrongFalsely : Prop := fiatCompleteRow.holds Tryd.pinned (OpenSpec.ofChange fiatCompleteWrong)

/- THE SECOND FORM. 'bulk': how many values and letters a reading holds, each counted each time it is reached (what is shared counts as often as it is met; a slice's spare places count too). A statement '..UptoSaid' is the law's where the arguments, and the package variables that the reading takes, are together of bulk at most 1048576: NARROWER than '..Said'. Prove '..Said' where nothing that the law and all that it calls make is longer than what came in: it says more and counts as full. Else prove '..UptoSaid'. A law counts once. -/
mutual
def uptoBulk {H : Type} : DataW H → Nat
  | .lit (.string bytes) => bytes.length + 1
  | .lit _ => 1
  | .nil => 1
  | .ptr d => uptoBulk d + 1
  | .slice elems spare => uptoBulkAll elems + uptoBulkAll spare + 1
  | .agg parts => uptoBulkAll parts + 1
  | .iface _ d => uptoBulk d + 1
  | .map entries => uptoBulkEntries entries + 1
  | .held _ => 1
def uptoBulkAll {H : Type} : List (DataW H) → Nat
  | [] => 0
  | d :: r => uptoBulk d + uptoBulkAll r
def uptoBulkEntries {H : Type} : List (Lit × DataW H) → Nat
  | [] => 0
  | x :: r => uptoBulkEntry x + uptoBulkEntries r
def uptoBulkEntry {H : Type} : Lit × DataW H → Nat
  | (.string bytes, d) => bytes.length + uptoBulk d + 1
  | (_, d) => uptoBulk d + 1
 end
def uptoSmall : (H : Type) → List (DataW H) → Bool := fun _ ds => decide (uptoBulkAll ds ≤ 1048576)
def OpenSpec.upto (s : _root_.Go.ChangeSpec) : _root_.Go.OpenSpec := { _root_.Go.OpenSpec.ofChange s with cond := some uptoSmall }

/-- 'tallytop.TopComplete', WHERE WHAT IT READS IS OF BULK AT MOST 1048576: true; the input reads as it did. -/
def topCompleteUptoRow : OpenClaim := { program := "ytnleihjdllpniaadoor", sum := "f7a8b3214716e473ec63c8dc78ad0a0194a68921edd72917d134c457c75b3c79", func := "tallystick/tallytop.TopComplete", spec := "topComplete", named := ["math/bits.deBruijn32tab", "math/bits.deBruijn64tab"], apart := false, laid := [("math/bits.deBruijn32tab", laid_math_bits_deBruijn32tab), ("math/bits.deBruijn64tab", laid_math_bits_deBruijn64tab)], narrowed := true }
def TopCompleteUptoSaid : Prop := topCompleteUptoRow.holds Tryd.pinned (OpenSpec.upto topCompleteSpec)

/-- 'tallytop.TopSound', WHERE WHAT IT READS IS OF BULK AT MOST 1048576: true; the input reads as it did. -/
def topSoundUptoRow : OpenClaim := { program := "ytnleihjdllpniaadoor", sum := "f7a8b3214716e473ec63c8dc78ad0a0194a68921edd72917d134c457c75b3c79", func := "tallystick/tallytop.TopSound", spec := "topSound", unfollowed := true, recurses := true, named := ["math/bits.deBruijn32tab", "math/bits.deBruijn64tab"], apart := false, laid := [("math/bits.deBruijn32tab", laid_math_bits_deBruijn32tab), ("math/bits.deBruijn64tab", laid_math_bits_deBruijn64tab)], narrowed := true }
def TopSoundUptoSaid : Prop := topSoundUptoRow.holds Tryd.pinned (OpenSpec.upto topSoundSpec)

/-- 'tallykeep.WiringTells', WHERE WHAT IT READS IS OF BULK AT MOST 1048576: true; the input reads as it did. -/
def wiringTellsUptoRow : OpenClaim := { program := "ytnleihjdllpniaadoor", sum := "f7a8b3214716e473ec63c8dc78ad0a0194a68921edd72917d134c457c75b3c79", func := "tallystick/tallykeep.WiringTells", spec := "wiringTells", unfollowed := true, recurses := true, named := ["math/bits.deBruijn32tab", "math/bits.deBruijn64tab"], apart := false, laid := [("math/bits.deBruijn32tab", laid_math_bits_deBruijn32tab), ("math/bits.deBruijn64tab", laid_math_bits_deBruijn64tab)], narrowed := true }
def WiringTellsUptoSaid : Prop := wiringTellsUptoRow.holds Tryd.pinned (OpenSpec.upto wiringTellsSpec)

/-- 'tallytop.TopInputs', WHERE WHAT IT READS IS OF BULK AT MOST 1048576: true; the input reads as it did. -/
def topInputsUptoRow : OpenClaim := { program := "ytnleihjdllpniaadoor", sum := "f7a8b3214716e473ec63c8dc78ad0a0194a68921edd72917d134c457c75b3c79", func := "tallystick/tallytop.TopInputs", spec := "topInputs", named := ["math/bits.deBruijn32tab", "math/bits.deBruijn64tab"], apart := false, laid := [("math/bits.deBruijn32tab", laid_math_bits_deBruijn32tab), ("math/bits.deBruijn64tab", laid_math_bits_deBruijn64tab)], narrowed := true }
def TopInputsUptoSaid : Prop := topInputsUptoRow.holds Tryd.pinned (OpenSpec.upto topInputsSpec)

/-- 'tallylaw.GkrProves', WHERE WHAT IT READS IS OF BULK AT MOST 1048576: true; the input reads as it did. -/
def gkrProvesUptoRow : OpenClaim := { program := "ytnleihjdllpniaadoor", sum := "f7a8b3214716e473ec63c8dc78ad0a0194a68921edd72917d134c457c75b3c79", func := "tallystick/tallylaw.GkrProves", spec := "gkrProves", unfollowed := true, recurses := true, named := ["math/bits.deBruijn32tab", "math/bits.deBruijn64tab"], apart := false, laid := [("math/bits.deBruijn32tab", laid_math_bits_deBruijn32tab), ("math/bits.deBruijn64tab", laid_math_bits_deBruijn64tab)], narrowed := true }
def GkrProvesUptoSaid : Prop := gkrProvesUptoRow.holds Tryd.pinned (OpenSpec.upto gkrProvesSpec)

/-- 'tallylaw.GkrVerifies', WHERE WHAT IT READS IS OF BULK AT MOST 1048576: true; the input reads as it did. -/
def gkrVerifiesUptoRow : OpenClaim := { program := "ytnleihjdllpniaadoor", sum := "f7a8b3214716e473ec63c8dc78ad0a0194a68921edd72917d134c457c75b3c79", func := "tallystick/tallylaw.GkrVerifies", spec := "gkrVerifies", named := ["math/bits.deBruijn32tab", "math/bits.deBruijn64tab"], apart := false, laid := [("math/bits.deBruijn32tab", laid_math_bits_deBruijn32tab), ("math/bits.deBruijn64tab", laid_math_bits_deBruijn64tab)], narrowed := true }
def GkrVerifiesUptoSaid : Prop := gkrVerifiesUptoRow.holds Tryd.pinned (OpenSpec.upto gkrVerifiesSpec)

/-- 'tallylaw.FiatSays', WHERE WHAT IT READS IS OF BULK AT MOST 1048576: true; the input reads as it did. -/
def fiatSaysUptoRow : OpenClaim := { program := "ytnleihjdllpniaadoor", sum := "f7a8b3214716e473ec63c8dc78ad0a0194a68921edd72917d134c457c75b3c79", func := "tallystick/tallylaw.FiatSays", spec := "fiatSays", unfollowed := true, recurses := true, named := ["math/bits.deBruijn32tab", "math/bits.deBruijn64tab"], apart := false, laid := [("math/bits.deBruijn32tab", laid_math_bits_deBruijn32tab), ("math/bits.deBruijn64tab", laid_math_bits_deBruijn64tab)], narrowed := true }
def FiatSaysUptoSaid : Prop := fiatSaysUptoRow.holds Tryd.pinned (OpenSpec.upto fiatSaysSpec)

/-- 'tallylaw.FiatVerifies', WHERE WHAT IT READS IS OF BULK AT MOST 1048576: true; the input reads as it did. -/
def fiatVerifiesUptoRow : OpenClaim := { program := "ytnleihjdllpniaadoor", sum := "f7a8b3214716e473ec63c8dc78ad0a0194a68921edd72917d134c457c75b3c79", func := "tallystick/tallylaw.FiatVerifies", spec := "fiatVerifies", named := ["math/bits.deBruijn32tab", "math/bits.deBruijn64tab"], apart := false, laid := [("math/bits.deBruijn32tab", laid_math_bits_deBruijn32tab), ("math/bits.deBruijn64tab", laid_math_bits_deBruijn64tab)], narrowed := true }
def FiatVerifiesUptoSaid : Prop := fiatVerifiesUptoRow.holds Tryd.pinned (OpenSpec.upto fiatVerifiesSpec)

/-- 'tallykeep.GkrComplete', WHERE WHAT IT READS IS OF BULK AT MOST 1048576: true; the input reads as it did. -/
def gkrCompleteUptoRow : OpenClaim := { program := "ytnleihjdllpniaadoor", sum := "f7a8b3214716e473ec63c8dc78ad0a0194a68921edd72917d134c457c75b3c79", func := "tallystick/tallykeep.GkrComplete", spec := "gkrComplete", named := ["math/bits.deBruijn32tab", "math/bits.deBruijn64tab"], apart := false, laid := [("math/bits.deBruijn32tab", laid_math_bits_deBruijn32tab), ("math/bits.deBruijn64tab", laid_math_bits_deBruijn64tab)], narrowed := true }
def GkrCompleteUptoSaid : Prop := gkrCompleteUptoRow.holds Tryd.pinned (OpenSpec.upto gkrCompleteSpec)

/-- 'tallykeep.GkrOutputs', WHERE WHAT IT READS IS OF BULK AT MOST 1048576: true; the input reads as it did. -/
def gkrOutputsUptoRow : OpenClaim := { program := "ytnleihjdllpniaadoor", sum := "f7a8b3214716e473ec63c8dc78ad0a0194a68921edd72917d134c457c75b3c79", func := "tallystick/tallykeep.GkrOutputs", spec := "gkrOutputs", named := ["math/bits.deBruijn32tab", "math/bits.deBruijn64tab"], apart := false, laid := [("math/bits.deBruijn32tab", laid_math_bits_deBruijn32tab), ("math/bits.deBruijn64tab", laid_math_bits_deBruijn64tab)], narrowed := true }
def GkrOutputsUptoSaid : Prop := gkrOutputsUptoRow.holds Tryd.pinned (OpenSpec.upto gkrOutputsSpec)

/-- 'tallykeep.FiatComplete', WHERE WHAT IT READS IS OF BULK AT MOST 1048576: true; the input reads as it did. -/
def fiatCompleteUptoRow : OpenClaim := { program := "ytnleihjdllpniaadoor", sum := "f7a8b3214716e473ec63c8dc78ad0a0194a68921edd72917d134c457c75b3c79", func := "tallystick/tallykeep.FiatComplete", spec := "fiatComplete", named := ["math/bits.deBruijn32tab", "math/bits.deBruijn64tab"], apart := false, laid := [("math/bits.deBruijn32tab", laid_math_bits_deBruijn32tab), ("math/bits.deBruijn64tab", laid_math_bits_deBruijn64tab)], narrowed := true }
def FiatCompleteUptoSaid : Prop := fiatCompleteUptoRow.holds Tryd.pinned (OpenSpec.upto fiatCompleteSpec)

end Rows
end Go.Proofs.YtnleihjdllpniaaDoor
