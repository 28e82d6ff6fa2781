/-
  DERIVED. GIVEN WITH THE SEED: THE CARDS: each row of YtcihkechphldcaaDoorRows.lean that lists a variable, with what it lists TIED to the program's text (the seventh form; the later family's looks); each row that meets fmt, with fmt's text TOLD by the authors' own Lean function (tested against real Go, not proved from fmt's source: count such statements apart). THE CARD IS WHAT COUNTS. Prove the row's statement (the work); the ties are given (YtcihkechphldcaaDoorTie.lean); close each card by the builder's one call (the guide's Derived/Test/ToyasCard.lean, 'card_holds'). Laid BY PROGRAM, IN A SANDBOX (cutbox-door.mjs). By AI agents, Wed Nov 11 2026. No macro, syntax, notation, axiom, sorry.
-/
import Derived.Test.YtcihkechphldcaaDoorRows
import GoSem.ClaimSeven
namespace Go.Proofs.YtcihkechphldcaaDoor
namespace Rows

/-- THE TIED CARD OF 'tallykeep.ListsOwn'. -/
def listsOwnCard : Claim7 := { stood := { row := listsOwnRow, standIns := [], harness := (true, "b0eb4a10d178354276b5bd808527d1e4e45eff7fb1576b84db28835e7bc810e3"), looks := false }, kinds := [], alts := [], laidByText := true, laidKinds := [.data, .data, .data], laidTests := true, laidLooks := .later }
def ListsOwnCardSaid : Prop := Claim7.holds Tryd.pinned (.plain (OpenSpec.ofChange listsOwnSpec)) listsOwnCard

/-- THE SECOND FORM's CARD OF 'tallykeep.ListsOwn'. -/
def listsOwnUptoCard : Claim7 := { stood := { row := listsOwnUptoRow, standIns := [], harness := (true, "b0eb4a10d178354276b5bd808527d1e4e45eff7fb1576b84db28835e7bc810e3"), looks := false }, kinds := [], alts := [], laidByText := true, laidKinds := [.data, .data, .data], laidTests := true, laidLooks := .later }
def ListsOwnUptoCardSaid : Prop := Claim7.holds Tryd.pinned (.plain (OpenSpec.upto listsOwnSpec)) listsOwnUptoCard
end Rows
end Go.Proofs.YtcihkechphldcaaDoor
