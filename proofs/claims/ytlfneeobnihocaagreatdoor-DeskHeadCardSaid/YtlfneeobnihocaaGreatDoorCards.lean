/-
  DERIVED. GIVEN WITH THE SEED: THE CARDS: each row of YtlfneeobnihocaaGreatDoorRows.lean that lists a variable, with what it lists TIED to the program's text (the seventh form; the later family's looks); each row that meets fmt, with fmt's text TOLD by the authors' own Lean function (tested against real Go, not proved from fmt's source: count such statements apart). THE CARD IS WHAT COUNTS. Prove the row's statement (the work); the ties are given (YtlfneeobnihocaaGreatDoorTie.lean); close each card by the builder's one call (the guide's Derived/Test/ToyasCard.lean, 'card_holds'). Laid BY PROGRAM, IN A SANDBOX (cutbox-door.mjs). By AI agents, Wed Nov 11 2026. No macro, syntax, notation, axiom, sorry.
-/
import Derived.Test.YtlfneeobnihocaaGreatDoorRows
import GoSem.ClaimSeven
namespace Go.Proofs.YtlfneeobnihocaaGreatDoor
namespace Rows

/-- THE TIED CARD OF 'tallylaw.DeskSays'. -/
def deskSaysCard : Claim7 := { stood := { row := deskSaysRow, standIns := [], harness := (true, "2f8097c8a405bf8ccd70f4179da14a4fb94de6395a9d728e901dbd4a8170be02"), looks := false }, kinds := [], alts := [], laidByText := true, laidKinds := [.data, .data, .data, .data, .pinned], laidTests := true, laidLooks := .later }
def DeskSaysCardSaid : Prop := Claim7.holds Tryz.pinned (.plain (OpenSpec.ofChange deskSaysSpec)) deskSaysCard

/-- THE TIED CARD OF 'tallykeep.DeskCounts'. -/
def deskCountsCard : Claim7 := { stood := { row := deskCountsRow, standIns := [], harness := (true, "2f8097c8a405bf8ccd70f4179da14a4fb94de6395a9d728e901dbd4a8170be02"), looks := false }, kinds := [], alts := [], laidByText := true, laidKinds := [.data, .data, .data, .data, .pinned], laidTests := true, laidLooks := .later }
def DeskCountsCardSaid : Prop := Claim7.holds Tryz.pinned (.plain (OpenSpec.ofChange deskCountsSpec)) deskCountsCard

/-- THE TIED CARD OF 'tallykeep.DeskHead'. -/
def deskHeadCard : Claim7 := { stood := { row := deskHeadRow, standIns := [], harness := (true, "2f8097c8a405bf8ccd70f4179da14a4fb94de6395a9d728e901dbd4a8170be02"), looks := false }, kinds := [], alts := [], laidByText := true, laidKinds := [.data, .data, .data, .data, .pinned], laidTests := true, laidLooks := .later }
def DeskHeadCardSaid : Prop := Claim7.holds Tryz.pinned (.plain (OpenSpec.ofChange deskHeadSpec)) deskHeadCard

/-- THE SECOND FORM's CARD OF 'tallylaw.DeskSays'. -/
def deskSaysUptoCard : Claim7 := { stood := { row := deskSaysUptoRow, standIns := [], harness := (true, "2f8097c8a405bf8ccd70f4179da14a4fb94de6395a9d728e901dbd4a8170be02"), looks := false }, kinds := [], alts := [], laidByText := true, laidKinds := [.data, .data, .data, .data, .pinned], laidTests := true, laidLooks := .later }
def DeskSaysUptoCardSaid : Prop := Claim7.holds Tryz.pinned (.plain (OpenSpec.upto deskSaysSpec)) deskSaysUptoCard

/-- THE SECOND FORM's CARD OF 'tallykeep.DeskCounts'. -/
def deskCountsUptoCard : Claim7 := { stood := { row := deskCountsUptoRow, standIns := [], harness := (true, "2f8097c8a405bf8ccd70f4179da14a4fb94de6395a9d728e901dbd4a8170be02"), looks := false }, kinds := [], alts := [], laidByText := true, laidKinds := [.data, .data, .data, .data, .pinned], laidTests := true, laidLooks := .later }
def DeskCountsUptoCardSaid : Prop := Claim7.holds Tryz.pinned (.plain (OpenSpec.upto deskCountsSpec)) deskCountsUptoCard

/-- THE SECOND FORM's CARD OF 'tallykeep.DeskHead'. -/
def deskHeadUptoCard : Claim7 := { stood := { row := deskHeadUptoRow, standIns := [], harness := (true, "2f8097c8a405bf8ccd70f4179da14a4fb94de6395a9d728e901dbd4a8170be02"), looks := false }, kinds := [], alts := [], laidByText := true, laidKinds := [.data, .data, .data, .data, .pinned], laidTests := true, laidLooks := .later }
def DeskHeadUptoCardSaid : Prop := Claim7.holds Tryz.pinned (.plain (OpenSpec.upto deskHeadSpec)) deskHeadUptoCard
end Rows
end Go.Proofs.YtlfneeobnihocaaGreatDoor
