/-
  DERIVED. GIVEN WITH THE SEED: THE CARDS: each row of YtopmlieadcpdmaaDoorRows.lean that lists a variable, with what it lists TIED to the program's text (the seventh form; the later family's looks); each row that meets fmt, with fmt's text TOLD by the authors' own Lean function (tested against real Go, not proved from fmt's source: count such statements apart). THE CARD IS WHAT COUNTS. Prove the row's statement (the work); the ties are given (YtopmlieadcpdmaaDoorTie.lean); close each card by the builder's one call (the guide's Derived/Test/ToyasCard.lean, 'card_holds'). Laid BY PROGRAM, IN A SANDBOX (cutbox-door.mjs). By AI agents, Wed Nov 11 2026. No macro, syntax, notation, axiom, sorry.
-/
import Derived.Test.YtopmlieadcpdmaaDoorRows
import GoSem.ClaimSeven
namespace Go.Proofs.YtopmlieadcpdmaaDoor
namespace Rows

/-- THE TIED CARD OF 'tallylaw.CircuitSays'. -/
def circuitSaysCard : Claim7 := { stood := { row := circuitSaysRow, standIns := [], harness := (true, "4847a3c3d8fdfac5c657d5f8783eb4662e72d55e4ec2ec4e68357f3980f6f99c"), looks := false }, kinds := [], alts := [], laidByText := true, laidKinds := [.data, .data, .data], laidTests := true, laidLooks := .later }
def CircuitSaysCardSaid : Prop := Claim7.holds Tryd.pinned (.plain (OpenSpec.ofChange circuitSaysSpec)) circuitSaysCard

/-- THE TIED CARD OF 'tallylaw.CircuitReads'. -/
def circuitReadsCard : Claim7 := { stood := { row := circuitReadsRow, standIns := [], harness := (true, "4847a3c3d8fdfac5c657d5f8783eb4662e72d55e4ec2ec4e68357f3980f6f99c"), looks := false }, kinds := [], alts := [], laidByText := true, laidKinds := [.data, .pinned], laidTests := true, laidLooks := .later }
def CircuitReadsCardSaid : Prop := Claim7.holds Tryd.pinned (.plain (OpenSpec.ofChange circuitReadsSpec)) circuitReadsCard

/-- THE TIED CARD OF 'tallykeep.CircuitBack'. -/
def circuitBackCard : Claim7 := { stood := { row := circuitBackRow, standIns := [], harness := (true, "4847a3c3d8fdfac5c657d5f8783eb4662e72d55e4ec2ec4e68357f3980f6f99c"), looks := false }, kinds := [], alts := [], laidByText := true, laidKinds := [.data, .data, .data, .data, .pinned], laidTests := true, laidLooks := .later }
def CircuitBackCardSaid : Prop := Claim7.holds Tryd.pinned (.plain (OpenSpec.ofChange circuitBackSpec)) circuitBackCard

/-- THE SECOND FORM's CARD OF 'tallylaw.CircuitSays'. -/
def circuitSaysUptoCard : Claim7 := { stood := { row := circuitSaysUptoRow, standIns := [], harness := (true, "4847a3c3d8fdfac5c657d5f8783eb4662e72d55e4ec2ec4e68357f3980f6f99c"), looks := false }, kinds := [], alts := [], laidByText := true, laidKinds := [.data, .data, .data], laidTests := true, laidLooks := .later }
def CircuitSaysUptoCardSaid : Prop := Claim7.holds Tryd.pinned (.plain (OpenSpec.upto circuitSaysSpec)) circuitSaysUptoCard

/-- THE SECOND FORM's CARD OF 'tallylaw.CircuitReads'. -/
def circuitReadsUptoCard : Claim7 := { stood := { row := circuitReadsUptoRow, standIns := [], harness := (true, "4847a3c3d8fdfac5c657d5f8783eb4662e72d55e4ec2ec4e68357f3980f6f99c"), looks := false }, kinds := [], alts := [], laidByText := true, laidKinds := [.data, .pinned], laidTests := true, laidLooks := .later }
def CircuitReadsUptoCardSaid : Prop := Claim7.holds Tryd.pinned (.plain (OpenSpec.upto circuitReadsSpec)) circuitReadsUptoCard

/-- THE SECOND FORM's CARD OF 'tallykeep.CircuitBack'. -/
def circuitBackUptoCard : Claim7 := { stood := { row := circuitBackUptoRow, standIns := [], harness := (true, "4847a3c3d8fdfac5c657d5f8783eb4662e72d55e4ec2ec4e68357f3980f6f99c"), looks := false }, kinds := [], alts := [], laidByText := true, laidKinds := [.data, .data, .data, .data, .pinned], laidTests := true, laidLooks := .later }
def CircuitBackUptoCardSaid : Prop := Claim7.holds Tryd.pinned (.plain (OpenSpec.upto circuitBackSpec)) circuitBackUptoCard
end Rows
end Go.Proofs.YtopmlieadcpdmaaDoor
