/-
  DERIVED. GIVEN WITH THE SEED: THE CARDS: each row of YtfgoidaldgfklaaDoorRows.lean that lists a variable, with what it lists TIED to the program's text (the seventh form; the later family's looks); each row that meets fmt, with fmt's text TOLD by the authors' own Lean function (tested against real Go, not proved from fmt's source: count such statements apart). THE CARD IS WHAT COUNTS. Prove the row's statement (the work); the ties are given (YtfgoidaldgfklaaDoorTie.lean); close each card by the builder's one call (the guide's Derived/Test/ToyasCard.lean, 'card_holds'). Laid BY PROGRAM, IN A SANDBOX (cutbox-door.mjs). By AI agents, Wed Nov 11 2026. No macro, syntax, notation, axiom, sorry.
-/
import Derived.Test.YtfgoidaldgfklaaDoorRows
import GoSem.ClaimSeven
namespace Go.Proofs.YtfgoidaldgfklaaDoor
namespace Rows

/-- THE TIED CARD OF 'tallytop.TopOpened'. -/
def topOpenedCard : Claim7 := { stood := { row := topOpenedRow, standIns := [], harness := (true, "1abfb12c768841b3f4b583a68a3dc9166a2b2f33ab86850b427d84803f3ad432"), looks := false }, kinds := [], alts := [], laidByText := true, laidKinds := [.data, .data], laidTests := true, laidLooks := .later }
def TopOpenedCardSaid : Prop := Claim7.holds Tryd.pinned (.plain (OpenSpec.ofChange topOpenedSpec)) topOpenedCard

/-- THE TIED CARD OF 'tallytop.TopLooks'. -/
def topLooksCard : Claim7 := { stood := { row := topLooksRow, standIns := [], harness := (true, "1abfb12c768841b3f4b583a68a3dc9166a2b2f33ab86850b427d84803f3ad432"), looks := false }, kinds := [], alts := [], laidByText := true, laidKinds := [.data, .data], laidTests := true, laidLooks := .later }
def TopLooksCardSaid : Prop := Claim7.holds Tryd.pinned (.plain (OpenSpec.ofChange topLooksSpec)) topLooksCard

/-- THE SECOND FORM's CARD OF 'tallytop.TopOpened'. -/
def topOpenedUptoCard : Claim7 := { stood := { row := topOpenedUptoRow, standIns := [], harness := (true, "1abfb12c768841b3f4b583a68a3dc9166a2b2f33ab86850b427d84803f3ad432"), looks := false }, kinds := [], alts := [], laidByText := true, laidKinds := [.data, .data], laidTests := true, laidLooks := .later }
def TopOpenedUptoCardSaid : Prop := Claim7.holds Tryd.pinned (.plain (OpenSpec.upto topOpenedSpec)) topOpenedUptoCard

/-- THE SECOND FORM's CARD OF 'tallytop.TopLooks'. -/
def topLooksUptoCard : Claim7 := { stood := { row := topLooksUptoRow, standIns := [], harness := (true, "1abfb12c768841b3f4b583a68a3dc9166a2b2f33ab86850b427d84803f3ad432"), looks := false }, kinds := [], alts := [], laidByText := true, laidKinds := [.data, .data], laidTests := true, laidLooks := .later }
def TopLooksUptoCardSaid : Prop := Claim7.holds Tryd.pinned (.plain (OpenSpec.upto topLooksSpec)) topLooksUptoCard
end Rows
end Go.Proofs.YtfgoidaldgfklaaDoor
