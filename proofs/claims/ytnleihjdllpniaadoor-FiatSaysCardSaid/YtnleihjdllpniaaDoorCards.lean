/-
  DERIVED. GIVEN WITH THE SEED: THE CARDS: each row of YtnleihjdllpniaaDoorRows.lean that lists a variable, with what it lists TIED to the program's text (the seventh form; the later family's looks); each row that meets fmt, with fmt's text TOLD by the authors' own Lean function (tested against real Go, not proved from fmt's source: count such statements apart). THE CARD IS WHAT COUNTS. Prove the row's statement (the work); the ties are given (YtnleihjdllpniaaDoorTie.lean); close each card by the builder's one call (the guide's Derived/Test/ToyasCard.lean, 'card_holds'). Laid BY PROGRAM, IN A SANDBOX (cutbox-door.mjs). By AI agents, Wed Nov 11 2026. No macro, syntax, notation, axiom, sorry.
-/
import Derived.Test.YtnleihjdllpniaaDoorRows
import GoSem.ClaimSeven
namespace Go.Proofs.YtnleihjdllpniaaDoor
namespace Rows

/-- THE TIED CARD OF 'tallytop.TopComplete'. -/
def topCompleteCard : Claim7 := { stood := { row := topCompleteRow, standIns := [], harness := (true, "04a2224583f79b50745d1c78c0bcbfe3075563a210ff6de22a0a5f0b36947fef"), looks := false }, kinds := [], alts := [], laidByText := true, laidKinds := [.data, .data], laidTests := true, laidLooks := .later }
def TopCompleteCardSaid : Prop := Claim7.holds Tryd.pinned (.plain (OpenSpec.ofChange topCompleteSpec)) topCompleteCard

/-- THE TIED CARD OF 'tallytop.TopSound'. -/
def topSoundCard : Claim7 := { stood := { row := topSoundRow, standIns := [], harness := (true, "04a2224583f79b50745d1c78c0bcbfe3075563a210ff6de22a0a5f0b36947fef"), looks := false }, kinds := [], alts := [], laidByText := true, laidKinds := [.data, .data], laidTests := true, laidLooks := .later }
def TopSoundCardSaid : Prop := Claim7.holds Tryd.pinned (.plain (OpenSpec.ofChange topSoundSpec)) topSoundCard

/-- THE TIED CARD OF 'tallykeep.WiringTells'. -/
def wiringTellsCard : Claim7 := { stood := { row := wiringTellsRow, standIns := [], harness := (true, "04a2224583f79b50745d1c78c0bcbfe3075563a210ff6de22a0a5f0b36947fef"), looks := false }, kinds := [], alts := [], laidByText := true, laidKinds := [.data, .data], laidTests := true, laidLooks := .later }
def WiringTellsCardSaid : Prop := Claim7.holds Tryd.pinned (.plain (OpenSpec.ofChange wiringTellsSpec)) wiringTellsCard

/-- THE TIED CARD OF 'tallytop.TopInputs'. -/
def topInputsCard : Claim7 := { stood := { row := topInputsRow, standIns := [], harness := (true, "04a2224583f79b50745d1c78c0bcbfe3075563a210ff6de22a0a5f0b36947fef"), looks := false }, kinds := [], alts := [], laidByText := true, laidKinds := [.data, .data], laidTests := true, laidLooks := .later }
def TopInputsCardSaid : Prop := Claim7.holds Tryd.pinned (.plain (OpenSpec.ofChange topInputsSpec)) topInputsCard

/-- THE TIED CARD OF 'tallylaw.GkrProves'. -/
def gkrProvesCard : Claim7 := { stood := { row := gkrProvesRow, standIns := [], harness := (true, "04a2224583f79b50745d1c78c0bcbfe3075563a210ff6de22a0a5f0b36947fef"), looks := false }, kinds := [], alts := [], laidByText := true, laidKinds := [.data, .data], laidTests := true, laidLooks := .later }
def GkrProvesCardSaid : Prop := Claim7.holds Tryd.pinned (.plain (OpenSpec.ofChange gkrProvesSpec)) gkrProvesCard

/-- THE TIED CARD OF 'tallylaw.GkrVerifies'. -/
def gkrVerifiesCard : Claim7 := { stood := { row := gkrVerifiesRow, standIns := [], harness := (true, "04a2224583f79b50745d1c78c0bcbfe3075563a210ff6de22a0a5f0b36947fef"), looks := false }, kinds := [], alts := [], laidByText := true, laidKinds := [.data, .data], laidTests := true, laidLooks := .later }
def GkrVerifiesCardSaid : Prop := Claim7.holds Tryd.pinned (.plain (OpenSpec.ofChange gkrVerifiesSpec)) gkrVerifiesCard

/-- THE TIED CARD OF 'tallylaw.FiatSays'. -/
def fiatSaysCard : Claim7 := { stood := { row := fiatSaysRow, standIns := [], harness := (true, "04a2224583f79b50745d1c78c0bcbfe3075563a210ff6de22a0a5f0b36947fef"), looks := false }, kinds := [], alts := [], laidByText := true, laidKinds := [.data, .data], laidTests := true, laidLooks := .later }
def FiatSaysCardSaid : Prop := Claim7.holds Tryd.pinned (.plain (OpenSpec.ofChange fiatSaysSpec)) fiatSaysCard

/-- THE TIED CARD OF 'tallylaw.FiatVerifies'. -/
def fiatVerifiesCard : Claim7 := { stood := { row := fiatVerifiesRow, standIns := [], harness := (true, "04a2224583f79b50745d1c78c0bcbfe3075563a210ff6de22a0a5f0b36947fef"), looks := false }, kinds := [], alts := [], laidByText := true, laidKinds := [.data, .data], laidTests := true, laidLooks := .later }
def FiatVerifiesCardSaid : Prop := Claim7.holds Tryd.pinned (.plain (OpenSpec.ofChange fiatVerifiesSpec)) fiatVerifiesCard

/-- THE TIED CARD OF 'tallykeep.GkrComplete'. -/
def gkrCompleteCard : Claim7 := { stood := { row := gkrCompleteRow, standIns := [], harness := (true, "04a2224583f79b50745d1c78c0bcbfe3075563a210ff6de22a0a5f0b36947fef"), looks := false }, kinds := [], alts := [], laidByText := true, laidKinds := [.data, .data], laidTests := true, laidLooks := .later }
def GkrCompleteCardSaid : Prop := Claim7.holds Tryd.pinned (.plain (OpenSpec.ofChange gkrCompleteSpec)) gkrCompleteCard

/-- THE TIED CARD OF 'tallykeep.GkrOutputs'. -/
def gkrOutputsCard : Claim7 := { stood := { row := gkrOutputsRow, standIns := [], harness := (true, "04a2224583f79b50745d1c78c0bcbfe3075563a210ff6de22a0a5f0b36947fef"), looks := false }, kinds := [], alts := [], laidByText := true, laidKinds := [.data, .data], laidTests := true, laidLooks := .later }
def GkrOutputsCardSaid : Prop := Claim7.holds Tryd.pinned (.plain (OpenSpec.ofChange gkrOutputsSpec)) gkrOutputsCard

/-- THE TIED CARD OF 'tallykeep.FiatComplete'. -/
def fiatCompleteCard : Claim7 := { stood := { row := fiatCompleteRow, standIns := [], harness := (true, "04a2224583f79b50745d1c78c0bcbfe3075563a210ff6de22a0a5f0b36947fef"), looks := false }, kinds := [], alts := [], laidByText := true, laidKinds := [.data, .data], laidTests := true, laidLooks := .later }
def FiatCompleteCardSaid : Prop := Claim7.holds Tryd.pinned (.plain (OpenSpec.ofChange fiatCompleteSpec)) fiatCompleteCard

/-- THE SECOND FORM's CARD OF 'tallytop.TopComplete'. -/
def topCompleteUptoCard : Claim7 := { stood := { row := topCompleteUptoRow, standIns := [], harness := (true, "04a2224583f79b50745d1c78c0bcbfe3075563a210ff6de22a0a5f0b36947fef"), looks := false }, kinds := [], alts := [], laidByText := true, laidKinds := [.data, .data], laidTests := true, laidLooks := .later }
def TopCompleteUptoCardSaid : Prop := Claim7.holds Tryd.pinned (.plain (OpenSpec.upto topCompleteSpec)) topCompleteUptoCard

/-- THE SECOND FORM's CARD OF 'tallytop.TopSound'. -/
def topSoundUptoCard : Claim7 := { stood := { row := topSoundUptoRow, standIns := [], harness := (true, "04a2224583f79b50745d1c78c0bcbfe3075563a210ff6de22a0a5f0b36947fef"), looks := false }, kinds := [], alts := [], laidByText := true, laidKinds := [.data, .data], laidTests := true, laidLooks := .later }
def TopSoundUptoCardSaid : Prop := Claim7.holds Tryd.pinned (.plain (OpenSpec.upto topSoundSpec)) topSoundUptoCard

/-- THE SECOND FORM's CARD OF 'tallykeep.WiringTells'. -/
def wiringTellsUptoCard : Claim7 := { stood := { row := wiringTellsUptoRow, standIns := [], harness := (true, "04a2224583f79b50745d1c78c0bcbfe3075563a210ff6de22a0a5f0b36947fef"), looks := false }, kinds := [], alts := [], laidByText := true, laidKinds := [.data, .data], laidTests := true, laidLooks := .later }
def WiringTellsUptoCardSaid : Prop := Claim7.holds Tryd.pinned (.plain (OpenSpec.upto wiringTellsSpec)) wiringTellsUptoCard

/-- THE SECOND FORM's CARD OF 'tallytop.TopInputs'. -/
def topInputsUptoCard : Claim7 := { stood := { row := topInputsUptoRow, standIns := [], harness := (true, "04a2224583f79b50745d1c78c0bcbfe3075563a210ff6de22a0a5f0b36947fef"), looks := false }, kinds := [], alts := [], laidByText := true, laidKinds := [.data, .data], laidTests := true, laidLooks := .later }
def TopInputsUptoCardSaid : Prop := Claim7.holds Tryd.pinned (.plain (OpenSpec.upto topInputsSpec)) topInputsUptoCard

/-- THE SECOND FORM's CARD OF 'tallylaw.GkrProves'. -/
def gkrProvesUptoCard : Claim7 := { stood := { row := gkrProvesUptoRow, standIns := [], harness := (true, "04a2224583f79b50745d1c78c0bcbfe3075563a210ff6de22a0a5f0b36947fef"), looks := false }, kinds := [], alts := [], laidByText := true, laidKinds := [.data, .data], laidTests := true, laidLooks := .later }
def GkrProvesUptoCardSaid : Prop := Claim7.holds Tryd.pinned (.plain (OpenSpec.upto gkrProvesSpec)) gkrProvesUptoCard

/-- THE SECOND FORM's CARD OF 'tallylaw.GkrVerifies'. -/
def gkrVerifiesUptoCard : Claim7 := { stood := { row := gkrVerifiesUptoRow, standIns := [], harness := (true, "04a2224583f79b50745d1c78c0bcbfe3075563a210ff6de22a0a5f0b36947fef"), looks := false }, kinds := [], alts := [], laidByText := true, laidKinds := [.data, .data], laidTests := true, laidLooks := .later }
def GkrVerifiesUptoCardSaid : Prop := Claim7.holds Tryd.pinned (.plain (OpenSpec.upto gkrVerifiesSpec)) gkrVerifiesUptoCard

/-- THE SECOND FORM's CARD OF 'tallylaw.FiatSays'. -/
def fiatSaysUptoCard : Claim7 := { stood := { row := fiatSaysUptoRow, standIns := [], harness := (true, "04a2224583f79b50745d1c78c0bcbfe3075563a210ff6de22a0a5f0b36947fef"), looks := false }, kinds := [], alts := [], laidByText := true, laidKinds := [.data, .data], laidTests := true, laidLooks := .later }
def FiatSaysUptoCardSaid : Prop := Claim7.holds Tryd.pinned (.plain (OpenSpec.upto fiatSaysSpec)) fiatSaysUptoCard

/-- THE SECOND FORM's CARD OF 'tallylaw.FiatVerifies'. -/
def fiatVerifiesUptoCard : Claim7 := { stood := { row := fiatVerifiesUptoRow, standIns := [], harness := (true, "04a2224583f79b50745d1c78c0bcbfe3075563a210ff6de22a0a5f0b36947fef"), looks := false }, kinds := [], alts := [], laidByText := true, laidKinds := [.data, .data], laidTests := true, laidLooks := .later }
def FiatVerifiesUptoCardSaid : Prop := Claim7.holds Tryd.pinned (.plain (OpenSpec.upto fiatVerifiesSpec)) fiatVerifiesUptoCard

/-- THE SECOND FORM's CARD OF 'tallykeep.GkrComplete'. -/
def gkrCompleteUptoCard : Claim7 := { stood := { row := gkrCompleteUptoRow, standIns := [], harness := (true, "04a2224583f79b50745d1c78c0bcbfe3075563a210ff6de22a0a5f0b36947fef"), looks := false }, kinds := [], alts := [], laidByText := true, laidKinds := [.data, .data], laidTests := true, laidLooks := .later }
def GkrCompleteUptoCardSaid : Prop := Claim7.holds Tryd.pinned (.plain (OpenSpec.upto gkrCompleteSpec)) gkrCompleteUptoCard

/-- THE SECOND FORM's CARD OF 'tallykeep.GkrOutputs'. -/
def gkrOutputsUptoCard : Claim7 := { stood := { row := gkrOutputsUptoRow, standIns := [], harness := (true, "04a2224583f79b50745d1c78c0bcbfe3075563a210ff6de22a0a5f0b36947fef"), looks := false }, kinds := [], alts := [], laidByText := true, laidKinds := [.data, .data], laidTests := true, laidLooks := .later }
def GkrOutputsUptoCardSaid : Prop := Claim7.holds Tryd.pinned (.plain (OpenSpec.upto gkrOutputsSpec)) gkrOutputsUptoCard

/-- THE SECOND FORM's CARD OF 'tallykeep.FiatComplete'. -/
def fiatCompleteUptoCard : Claim7 := { stood := { row := fiatCompleteUptoRow, standIns := [], harness := (true, "04a2224583f79b50745d1c78c0bcbfe3075563a210ff6de22a0a5f0b36947fef"), looks := false }, kinds := [], alts := [], laidByText := true, laidKinds := [.data, .data], laidTests := true, laidLooks := .later }
def FiatCompleteUptoCardSaid : Prop := Claim7.holds Tryd.pinned (.plain (OpenSpec.upto fiatCompleteSpec)) fiatCompleteUptoCard
end Rows
end Go.Proofs.YtnleihjdllpniaaDoor
