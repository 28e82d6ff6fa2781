/-
  DERIVED. GIVEN WITH THE SEED: THE CARDS: each row of YtaaaoljllpbplaaDoorRows.lean that lists a variable, with what it lists TIED to the program's text (the seventh form; the later family's looks); each row that meets fmt, with fmt's text TOLD by the authors' own Lean function (tested against real Go, not proved from fmt's source: count such statements apart). THE CARD IS WHAT COUNTS. Prove the row's statement (the work); the ties are given (YtaaaoljllpbplaaDoorTie.lean); close each card by the builder's one call (the guide's Derived/Test/ToyasCard.lean, 'card_holds'). Laid BY PROGRAM, IN A SANDBOX (cutbox-door.mjs). By AI agents, Wed Nov 11 2026. No macro, syntax, notation, axiom, sorry.
-/
import Derived.Test.YtaaaoljllpbplaaDoorRows
import GoSem.ClaimSeven
namespace Go.Proofs.YtaaaoljllpbplaaDoor
namespace Rows

/-- THE TIED CARD OF 'tallykeep.MleCorners'. -/
def mleCornersCard : Claim7 := { stood := { row := mleCornersRow, standIns := [], harness := (true, "0247b0d8637bd7b58486e560338f51cec023130ab2b8a0a43d4182786a65aa10"), looks := false }, kinds := [], alts := [], laidByText := true, laidKinds := [.data, .data], laidTests := true, laidLooks := .later }
def MleCornersCardSaid : Prop := Claim7.holds Tryd.pinned (.plain (OpenSpec.ofChange mleCornersSpec)) mleCornersCard

/-- THE TIED CARD OF 'tallykeep.MleEqs'. -/
def mleEqsCard : Claim7 := { stood := { row := mleEqsRow, standIns := [], harness := (true, "0247b0d8637bd7b58486e560338f51cec023130ab2b8a0a43d4182786a65aa10"), looks := false }, kinds := [], alts := [], laidByText := true, laidKinds := [.data, .data], laidTests := true, laidLooks := .later }
def MleEqsCardSaid : Prop := Claim7.holds Tryd.pinned (.plain (OpenSpec.ofChange mleEqsSpec)) mleEqsCard

/-- THE TIED CARD OF 'tallylaw.MleSays'. -/
def mleSaysCard : Claim7 := { stood := { row := mleSaysRow, standIns := [], harness := (true, "0247b0d8637bd7b58486e560338f51cec023130ab2b8a0a43d4182786a65aa10"), looks := false }, kinds := [], alts := [], laidByText := true, laidKinds := [.data, .data], laidTests := true, laidLooks := .later }
def MleSaysCardSaid : Prop := Claim7.holds Tryd.pinned (.plain (OpenSpec.ofChange mleSaysSpec)) mleSaysCard

/-- THE TIED CARD OF 'tallykeep.TreeBinds'. -/
def treeBindsCard : Claim7 := { stood := { row := treeBindsRow, standIns := [], harness := (true, "0247b0d8637bd7b58486e560338f51cec023130ab2b8a0a43d4182786a65aa10"), looks := false }, kinds := [], alts := [], laidByText := true, laidKinds := [.data, .data], laidTests := true, laidLooks := .later }
def TreeBindsCardSaid : Prop := Claim7.holds Tryd.pinned (.plain (OpenSpec.ofChange treeBindsSpec)) treeBindsCard

/-- THE TIED CARD OF 'tallylaw.SumSays'. -/
def sumSaysCard : Claim7 := { stood := { row := sumSaysRow, standIns := [], harness := (true, "0247b0d8637bd7b58486e560338f51cec023130ab2b8a0a43d4182786a65aa10"), looks := false }, kinds := [], alts := [], laidByText := true, laidKinds := [.data, .data], laidTests := true, laidLooks := .later }
def SumSaysCardSaid : Prop := Claim7.holds Tryd.pinned (.plain (OpenSpec.ofChange sumSaysSpec)) sumSaysCard

/-- THE TIED CARD OF 'tallykeep.TreePaths'. -/
def treePathsCard : Claim7 := { stood := { row := treePathsRow, standIns := [], harness := (true, "0247b0d8637bd7b58486e560338f51cec023130ab2b8a0a43d4182786a65aa10"), looks := false }, kinds := [], alts := [], laidByText := true, laidKinds := [.data, .data], laidTests := true, laidLooks := .later }
def TreePathsCardSaid : Prop := Claim7.holds Tryd.pinned (.plain (OpenSpec.ofChange treePathsSpec)) treePathsCard

/-- THE TIED CARD OF 'tallylaw.SumProves'. -/
def sumProvesCard : Claim7 := { stood := { row := sumProvesRow, standIns := [], harness := (true, "0247b0d8637bd7b58486e560338f51cec023130ab2b8a0a43d4182786a65aa10"), looks := false }, kinds := [], alts := [], laidByText := true, laidKinds := [.data, .data], laidTests := true, laidLooks := .later }
def SumProvesCardSaid : Prop := Claim7.holds Tryd.pinned (.plain (OpenSpec.ofChange sumProvesSpec)) sumProvesCard

/-- THE TIED CARD OF 'tallylaw.TreeSays'. -/
def treeSaysCard : Claim7 := { stood := { row := treeSaysRow, standIns := [], harness := (true, "0247b0d8637bd7b58486e560338f51cec023130ab2b8a0a43d4182786a65aa10"), looks := false }, kinds := [], alts := [], laidByText := true, laidKinds := [.data, .data], laidTests := true, laidLooks := .later }
def TreeSaysCardSaid : Prop := Claim7.holds Tryd.pinned (.plain (OpenSpec.ofChange treeSaysSpec)) treeSaysCard

/-- THE TIED CARD OF 'tallylaw.OpenLooks'. -/
def openLooksCard : Claim7 := { stood := { row := openLooksRow, standIns := [], harness := (true, "0247b0d8637bd7b58486e560338f51cec023130ab2b8a0a43d4182786a65aa10"), looks := false }, kinds := [], alts := [], laidByText := true, laidKinds := [.data, .data], laidTests := true, laidLooks := .later }
def OpenLooksCardSaid : Prop := Claim7.holds Tryd.pinned (.plain (OpenSpec.ofChange openLooksSpec)) openLooksCard

/-- THE TIED CARD OF 'tallylaw.OpenSays'. -/
def openSaysCard : Claim7 := { stood := { row := openSaysRow, standIns := [], harness := (true, "0247b0d8637bd7b58486e560338f51cec023130ab2b8a0a43d4182786a65aa10"), looks := false }, kinds := [], alts := [], laidByText := true, laidKinds := [.data, .data], laidTests := true, laidLooks := .later }
def OpenSaysCardSaid : Prop := Claim7.holds Tryd.pinned (.plain (OpenSpec.ofChange openSaysSpec)) openSaysCard

/-- THE TIED CARD OF 'tallykeep.SumBent'. -/
def sumBentCard : Claim7 := { stood := { row := sumBentRow, standIns := [], harness := (true, "0247b0d8637bd7b58486e560338f51cec023130ab2b8a0a43d4182786a65aa10"), looks := false }, kinds := [], alts := [], laidByText := true, laidKinds := [.data, .data], laidTests := true, laidLooks := .later }
def SumBentCardSaid : Prop := Claim7.holds Tryd.pinned (.plain (OpenSpec.ofChange sumBentSpec)) sumBentCard

/-- THE TIED CARD OF 'tallykeep.SumComplete'. -/
def sumCompleteCard : Claim7 := { stood := { row := sumCompleteRow, standIns := [], harness := (true, "0247b0d8637bd7b58486e560338f51cec023130ab2b8a0a43d4182786a65aa10"), looks := false }, kinds := [], alts := [], laidByText := true, laidKinds := [.data, .data], laidTests := true, laidLooks := .later }
def SumCompleteCardSaid : Prop := Claim7.holds Tryd.pinned (.plain (OpenSpec.ofChange sumCompleteSpec)) sumCompleteCard

/-- THE TIED CARD OF 'tallykeep.SumSound'. -/
def sumSoundCard : Claim7 := { stood := { row := sumSoundRow, standIns := [], harness := (true, "0247b0d8637bd7b58486e560338f51cec023130ab2b8a0a43d4182786a65aa10"), looks := false }, kinds := [], alts := [], laidByText := true, laidKinds := [.data, .data], laidTests := true, laidLooks := .later }
def SumSoundCardSaid : Prop := Claim7.holds Tryd.pinned (.plain (OpenSpec.ofChange sumSoundSpec)) sumSoundCard

/-- THE TIED CARD OF 'tallykeep.OpenBent'. -/
def openBentCard : Claim7 := { stood := { row := openBentRow, standIns := [], harness := (true, "0247b0d8637bd7b58486e560338f51cec023130ab2b8a0a43d4182786a65aa10"), looks := false }, kinds := [], alts := [], laidByText := true, laidKinds := [.data, .data], laidTests := true, laidLooks := .later }
def OpenBentCardSaid : Prop := Claim7.holds Tryd.pinned (.plain (OpenSpec.ofChange openBentSpec)) openBentCard

/-- THE TIED CARD OF 'tallykeep.OpenComplete'. -/
def openCompleteCard : Claim7 := { stood := { row := openCompleteRow, standIns := [], harness := (true, "0247b0d8637bd7b58486e560338f51cec023130ab2b8a0a43d4182786a65aa10"), looks := false }, kinds := [], alts := [], laidByText := true, laidKinds := [.data, .data], laidTests := true, laidLooks := .later }
def OpenCompleteCardSaid : Prop := Claim7.holds Tryd.pinned (.plain (OpenSpec.ofChange openCompleteSpec)) openCompleteCard

/-- THE SECOND FORM's CARD OF 'tallykeep.MleCorners'. -/
def mleCornersUptoCard : Claim7 := { stood := { row := mleCornersUptoRow, standIns := [], harness := (true, "0247b0d8637bd7b58486e560338f51cec023130ab2b8a0a43d4182786a65aa10"), looks := false }, kinds := [], alts := [], laidByText := true, laidKinds := [.data, .data], laidTests := true, laidLooks := .later }
def MleCornersUptoCardSaid : Prop := Claim7.holds Tryd.pinned (.plain (OpenSpec.upto mleCornersSpec)) mleCornersUptoCard

/-- THE SECOND FORM's CARD OF 'tallykeep.MleEqs'. -/
def mleEqsUptoCard : Claim7 := { stood := { row := mleEqsUptoRow, standIns := [], harness := (true, "0247b0d8637bd7b58486e560338f51cec023130ab2b8a0a43d4182786a65aa10"), looks := false }, kinds := [], alts := [], laidByText := true, laidKinds := [.data, .data], laidTests := true, laidLooks := .later }
def MleEqsUptoCardSaid : Prop := Claim7.holds Tryd.pinned (.plain (OpenSpec.upto mleEqsSpec)) mleEqsUptoCard

/-- THE SECOND FORM's CARD OF 'tallylaw.MleSays'. -/
def mleSaysUptoCard : Claim7 := { stood := { row := mleSaysUptoRow, standIns := [], harness := (true, "0247b0d8637bd7b58486e560338f51cec023130ab2b8a0a43d4182786a65aa10"), looks := false }, kinds := [], alts := [], laidByText := true, laidKinds := [.data, .data], laidTests := true, laidLooks := .later }
def MleSaysUptoCardSaid : Prop := Claim7.holds Tryd.pinned (.plain (OpenSpec.upto mleSaysSpec)) mleSaysUptoCard

/-- THE SECOND FORM's CARD OF 'tallykeep.TreeBinds'. -/
def treeBindsUptoCard : Claim7 := { stood := { row := treeBindsUptoRow, standIns := [], harness := (true, "0247b0d8637bd7b58486e560338f51cec023130ab2b8a0a43d4182786a65aa10"), looks := false }, kinds := [], alts := [], laidByText := true, laidKinds := [.data, .data], laidTests := true, laidLooks := .later }
def TreeBindsUptoCardSaid : Prop := Claim7.holds Tryd.pinned (.plain (OpenSpec.upto treeBindsSpec)) treeBindsUptoCard

/-- THE SECOND FORM's CARD OF 'tallylaw.SumSays'. -/
def sumSaysUptoCard : Claim7 := { stood := { row := sumSaysUptoRow, standIns := [], harness := (true, "0247b0d8637bd7b58486e560338f51cec023130ab2b8a0a43d4182786a65aa10"), looks := false }, kinds := [], alts := [], laidByText := true, laidKinds := [.data, .data], laidTests := true, laidLooks := .later }
def SumSaysUptoCardSaid : Prop := Claim7.holds Tryd.pinned (.plain (OpenSpec.upto sumSaysSpec)) sumSaysUptoCard

/-- THE SECOND FORM's CARD OF 'tallykeep.TreePaths'. -/
def treePathsUptoCard : Claim7 := { stood := { row := treePathsUptoRow, standIns := [], harness := (true, "0247b0d8637bd7b58486e560338f51cec023130ab2b8a0a43d4182786a65aa10"), looks := false }, kinds := [], alts := [], laidByText := true, laidKinds := [.data, .data], laidTests := true, laidLooks := .later }
def TreePathsUptoCardSaid : Prop := Claim7.holds Tryd.pinned (.plain (OpenSpec.upto treePathsSpec)) treePathsUptoCard

/-- THE SECOND FORM's CARD OF 'tallylaw.SumProves'. -/
def sumProvesUptoCard : Claim7 := { stood := { row := sumProvesUptoRow, standIns := [], harness := (true, "0247b0d8637bd7b58486e560338f51cec023130ab2b8a0a43d4182786a65aa10"), looks := false }, kinds := [], alts := [], laidByText := true, laidKinds := [.data, .data], laidTests := true, laidLooks := .later }
def SumProvesUptoCardSaid : Prop := Claim7.holds Tryd.pinned (.plain (OpenSpec.upto sumProvesSpec)) sumProvesUptoCard

/-- THE SECOND FORM's CARD OF 'tallylaw.TreeSays'. -/
def treeSaysUptoCard : Claim7 := { stood := { row := treeSaysUptoRow, standIns := [], harness := (true, "0247b0d8637bd7b58486e560338f51cec023130ab2b8a0a43d4182786a65aa10"), looks := false }, kinds := [], alts := [], laidByText := true, laidKinds := [.data, .data], laidTests := true, laidLooks := .later }
def TreeSaysUptoCardSaid : Prop := Claim7.holds Tryd.pinned (.plain (OpenSpec.upto treeSaysSpec)) treeSaysUptoCard

/-- THE SECOND FORM's CARD OF 'tallylaw.OpenLooks'. -/
def openLooksUptoCard : Claim7 := { stood := { row := openLooksUptoRow, standIns := [], harness := (true, "0247b0d8637bd7b58486e560338f51cec023130ab2b8a0a43d4182786a65aa10"), looks := false }, kinds := [], alts := [], laidByText := true, laidKinds := [.data, .data], laidTests := true, laidLooks := .later }
def OpenLooksUptoCardSaid : Prop := Claim7.holds Tryd.pinned (.plain (OpenSpec.upto openLooksSpec)) openLooksUptoCard

/-- THE SECOND FORM's CARD OF 'tallylaw.OpenSays'. -/
def openSaysUptoCard : Claim7 := { stood := { row := openSaysUptoRow, standIns := [], harness := (true, "0247b0d8637bd7b58486e560338f51cec023130ab2b8a0a43d4182786a65aa10"), looks := false }, kinds := [], alts := [], laidByText := true, laidKinds := [.data, .data], laidTests := true, laidLooks := .later }
def OpenSaysUptoCardSaid : Prop := Claim7.holds Tryd.pinned (.plain (OpenSpec.upto openSaysSpec)) openSaysUptoCard

/-- THE SECOND FORM's CARD OF 'tallykeep.SumBent'. -/
def sumBentUptoCard : Claim7 := { stood := { row := sumBentUptoRow, standIns := [], harness := (true, "0247b0d8637bd7b58486e560338f51cec023130ab2b8a0a43d4182786a65aa10"), looks := false }, kinds := [], alts := [], laidByText := true, laidKinds := [.data, .data], laidTests := true, laidLooks := .later }
def SumBentUptoCardSaid : Prop := Claim7.holds Tryd.pinned (.plain (OpenSpec.upto sumBentSpec)) sumBentUptoCard

/-- THE SECOND FORM's CARD OF 'tallykeep.SumComplete'. -/
def sumCompleteUptoCard : Claim7 := { stood := { row := sumCompleteUptoRow, standIns := [], harness := (true, "0247b0d8637bd7b58486e560338f51cec023130ab2b8a0a43d4182786a65aa10"), looks := false }, kinds := [], alts := [], laidByText := true, laidKinds := [.data, .data], laidTests := true, laidLooks := .later }
def SumCompleteUptoCardSaid : Prop := Claim7.holds Tryd.pinned (.plain (OpenSpec.upto sumCompleteSpec)) sumCompleteUptoCard

/-- THE SECOND FORM's CARD OF 'tallykeep.SumSound'. -/
def sumSoundUptoCard : Claim7 := { stood := { row := sumSoundUptoRow, standIns := [], harness := (true, "0247b0d8637bd7b58486e560338f51cec023130ab2b8a0a43d4182786a65aa10"), looks := false }, kinds := [], alts := [], laidByText := true, laidKinds := [.data, .data], laidTests := true, laidLooks := .later }
def SumSoundUptoCardSaid : Prop := Claim7.holds Tryd.pinned (.plain (OpenSpec.upto sumSoundSpec)) sumSoundUptoCard

/-- THE SECOND FORM's CARD OF 'tallykeep.OpenBent'. -/
def openBentUptoCard : Claim7 := { stood := { row := openBentUptoRow, standIns := [], harness := (true, "0247b0d8637bd7b58486e560338f51cec023130ab2b8a0a43d4182786a65aa10"), looks := false }, kinds := [], alts := [], laidByText := true, laidKinds := [.data, .data], laidTests := true, laidLooks := .later }
def OpenBentUptoCardSaid : Prop := Claim7.holds Tryd.pinned (.plain (OpenSpec.upto openBentSpec)) openBentUptoCard

/-- THE SECOND FORM's CARD OF 'tallykeep.OpenComplete'. -/
def openCompleteUptoCard : Claim7 := { stood := { row := openCompleteUptoRow, standIns := [], harness := (true, "0247b0d8637bd7b58486e560338f51cec023130ab2b8a0a43d4182786a65aa10"), looks := false }, kinds := [], alts := [], laidByText := true, laidKinds := [.data, .data], laidTests := true, laidLooks := .later }
def OpenCompleteUptoCardSaid : Prop := Claim7.holds Tryd.pinned (.plain (OpenSpec.upto openCompleteSpec)) openCompleteUptoCard
end Rows
end Go.Proofs.YtaaaoljllpbplaaDoor
