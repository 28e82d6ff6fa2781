/- What the listed package-level variables give: the table of bits lies as its initialiser lays it; a world in which both lie so. No condition. -/
import Derived.Test.YtfgoidaldgfklaaDoorRows
import Derived.Test.YtfgoidaldgfklaaDoorTZ
import Derived.Lib.LaidTab
import Derived.Stop.LaidErr
namespace Go.Proofs.YtfgoidaldgfklaaDoor
open Go.ChangeShapes Go.WideShapes Go.ChangeAt Go.RowKit
theorem gTab : Tryd.prog.globalNamed "math/bits.deBruijn64tab" = some 1 := by kernel_rfl
theorem gTabType : (Tryd.prog.globals[1]?).map (·.type) = some 137 := by kernel_rfl
theorem cellsTab : Tryd.prog.cellsOf 137 = 64 := by kernel_rfl
theorem cells8 : Tryd.prog.cellsOf 5 = 1 := by kernel_rfl
/-- the list of the rows -/
noncomputable abbrev laidBits : List (String × DataW Unit) := [("math/bits.deBruijn32tab", Rows.laid_math_bits_deBruijn32tab), ("math/bits.deBruijn64tab", Rows.laid_math_bits_deBruijn64tab)]
theorem tab_of {W : World} (h : laidMet Tryd.prog laidBits W) : Tab W := by
  have t : Lib.TabIs Tryd.prog W "math/bits.deBruijn64tab" .u8 (Lib.deBruijn64tab.map fun (n : Nat) => (n : Int)) :=
    Lib.tabIs_of_head (rest := []) gTab gTabType Tryd.underlying137 Tryd.underlying5 cells8 cellsTab h.tail
  intro j hj
  have e : ∀ j, j < 64 → (Lib.deBruijn64tab.map fun (n : Nat) => (n : Int)).getD j 0 = ((Lib.deBruijn64tab.getD j 0 : Nat) : Int) := by decide +kernel
  rw [t.cell gTab j (by simpa [Lib.deBruijn64tab] using hj), e j hj]
/-- a block with other cells -/
def laidCells (l : List Nat) : Obj → Obj
  | .cells _ t frozen => .cells (l.map fun (n : Nat) => Value.int .u8 (n : Int)).toArray t frozen
  | o => o
/-- a world in which the tables lie so -/
noncomputable def laidWorld (os : Os) (args : Array Value) : World :=
  let w := World.holding Tryd.prog os ⟨#[], args, []⟩
  { w with heap := (w.heap.modify 0 (laidCells Lib.deBruijn32tab)).modify 1 (laidCells Lib.deBruijn64tab) }
end Go.Proofs.YtfgoidaldgfklaaDoor
