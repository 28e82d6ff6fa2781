/-
  DERIVED. GIVEN WITH THE SEED: THE CARDS: each row of YtokggifjcbkmnaaDoorRows.lean that lists a variable, with what it lists TIED to the program's text (the seventh form; the later family's looks); each row that meets fmt, with fmt's text TOLD by the authors' own Lean function (tested against real Go, not proved from fmt's source: count such statements apart). THE CARD IS WHAT COUNTS. Prove the row's statement (the work); the ties are given (YtokggifjcbkmnaaDoorTie.lean); close each card by the builder's one call (the guide's Derived/Test/ToyasCard.lean, 'card_holds'). Laid BY PROGRAM, IN A SANDBOX (cutbox-door.mjs). By AI agents, Wed Nov 11 2026. No macro, syntax, notation, axiom, sorry.
-/
import Derived.Test.YtokggifjcbkmnaaDoorRows
import GoSem.ClaimSeven
namespace Go.Proofs.YtokggifjcbkmnaaDoor
namespace Rows

/-- THE TIED CARD OF 'tallykeep.MleCorners'. -/
def mleCornersCard : Claim7 := { stood := { row := mleCornersRow, standIns := [], harness := (true, "f69dc6c8e812ffe7ebc9199900643d13cfdb1b6235d931b7e8ac433d5d937570"), looks := false }, kinds := [], alts := [], laidByText := true, laidKinds := [.data, .data], laidTests := true, laidLooks := .later }
def MleCornersCardSaid : Prop := Claim7.holds Tryd.pinned (.plain (OpenSpec.ofChange mleCornersSpec)) mleCornersCard

/-- THE TIED CARD OF 'tallylaw.OpenLooks'. -/
def openLooksCard : Claim7 := { stood := { row := openLooksRow, standIns := [], harness := (true, "f69dc6c8e812ffe7ebc9199900643d13cfdb1b6235d931b7e8ac433d5d937570"), looks := false }, kinds := [], alts := [], laidByText := true, laidKinds := [.data, .data], laidTests := true, laidLooks := .later }
def OpenLooksCardSaid : Prop := Claim7.holds Tryd.pinned (.plain (OpenSpec.ofChange openLooksSpec)) openLooksCard

/-- THE TIED CARD OF 'tallylaw.OpenSays'. -/
def openSaysCard : Claim7 := { stood := { row := openSaysRow, standIns := [], harness := (true, "f69dc6c8e812ffe7ebc9199900643d13cfdb1b6235d931b7e8ac433d5d937570"), looks := false }, kinds := [], alts := [], laidByText := true, laidKinds := [.data, .data], laidTests := true, laidLooks := .later }
def OpenSaysCardSaid : Prop := Claim7.holds Tryd.pinned (.plain (OpenSpec.ofChange openSaysSpec)) openSaysCard

/-- THE TIED CARD OF 'tallykeep.OpenBent'. -/
def openBentCard : Claim7 := { stood := { row := openBentRow, standIns := [], harness := (true, "f69dc6c8e812ffe7ebc9199900643d13cfdb1b6235d931b7e8ac433d5d937570"), looks := false }, kinds := [], alts := [], laidByText := true, laidKinds := [.data, .data], laidTests := true, laidLooks := .later }
def OpenBentCardSaid : Prop := Claim7.holds Tryd.pinned (.plain (OpenSpec.ofChange openBentSpec)) openBentCard

/-- THE TIED CARD OF 'tallykeep.OpenComplete'. -/
def openCompleteCard : Claim7 := { stood := { row := openCompleteRow, standIns := [], harness := (true, "f69dc6c8e812ffe7ebc9199900643d13cfdb1b6235d931b7e8ac433d5d937570"), looks := false }, kinds := [], alts := [], laidByText := true, laidKinds := [.data, .data], laidTests := true, laidLooks := .later }
def OpenCompleteCardSaid : Prop := Claim7.holds Tryd.pinned (.plain (OpenSpec.ofChange openCompleteSpec)) openCompleteCard

/-- THE SECOND FORM's CARD OF 'tallykeep.MleCorners'. -/
def mleCornersUptoCard : Claim7 := { stood := { row := mleCornersUptoRow, standIns := [], harness := (true, "f69dc6c8e812ffe7ebc9199900643d13cfdb1b6235d931b7e8ac433d5d937570"), looks := false }, kinds := [], alts := [], laidByText := true, laidKinds := [.data, .data], laidTests := true, laidLooks := .later }
def MleCornersUptoCardSaid : Prop := Claim7.holds Tryd.pinned (.plain (OpenSpec.upto mleCornersSpec)) mleCornersUptoCard

/-- THE SECOND FORM's CARD OF 'tallylaw.OpenLooks'. -/
def openLooksUptoCard : Claim7 := { stood := { row := openLooksUptoRow, standIns := [], harness := (true, "f69dc6c8e812ffe7ebc9199900643d13cfdb1b6235d931b7e8ac433d5d937570"), looks := false }, kinds := [], alts := [], laidByText := true, laidKinds := [.data, .data], laidTests := true, laidLooks := .later }
def OpenLooksUptoCardSaid : Prop := Claim7.holds Tryd.pinned (.plain (OpenSpec.upto openLooksSpec)) openLooksUptoCard

/-- THE SECOND FORM's CARD OF 'tallylaw.OpenSays'. -/
def openSaysUptoCard : Claim7 := { stood := { row := openSaysUptoRow, standIns := [], harness := (true, "f69dc6c8e812ffe7ebc9199900643d13cfdb1b6235d931b7e8ac433d5d937570"), looks := false }, kinds := [], alts := [], laidByText := true, laidKinds := [.data, .data], laidTests := true, laidLooks := .later }
def OpenSaysUptoCardSaid : Prop := Claim7.holds Tryd.pinned (.plain (OpenSpec.upto openSaysSpec)) openSaysUptoCard

/-- THE SECOND FORM's CARD OF 'tallykeep.OpenBent'. -/
def openBentUptoCard : Claim7 := { stood := { row := openBentUptoRow, standIns := [], harness := (true, "f69dc6c8e812ffe7ebc9199900643d13cfdb1b6235d931b7e8ac433d5d937570"), looks := false }, kinds := [], alts := [], laidByText := true, laidKinds := [.data, .data], laidTests := true, laidLooks := .later }
def OpenBentUptoCardSaid : Prop := Claim7.holds Tryd.pinned (.plain (OpenSpec.upto openBentSpec)) openBentUptoCard

/-- THE SECOND FORM's CARD OF 'tallykeep.OpenComplete'. -/
def openCompleteUptoCard : Claim7 := { stood := { row := openCompleteUptoRow, standIns := [], harness := (true, "f69dc6c8e812ffe7ebc9199900643d13cfdb1b6235d931b7e8ac433d5d937570"), looks := false }, kinds := [], alts := [], laidByText := true, laidKinds := [.data, .data], laidTests := true, laidLooks := .later }
def OpenCompleteUptoCardSaid : Prop := Claim7.holds Tryd.pinned (.plain (OpenSpec.upto openCompleteSpec)) openCompleteUptoCard
end Rows
end Go.Proofs.YtokggifjcbkmnaaDoor
