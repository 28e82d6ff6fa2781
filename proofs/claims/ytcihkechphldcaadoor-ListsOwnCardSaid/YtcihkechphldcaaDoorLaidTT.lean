/- What the listed package-level variables give: the table of bits lies as its initialiser lays it. No condition. -/
import Derived.Test.YtcihkechphldcaaDoorLaidT
import Derived.Test.YtcihkechphldcaaDoorTZ
namespace Go.Proofs.YtcihkechphldcaaDoor
set_option maxRecDepth 100000
set_option linter.unusedVariables false
open Go.ChangeShapes Go.WideShapes Go.ChangeAt Go.RowKit
theorem gTab : Tryd.prog.globalNamed "math/bits.deBruijn64tab" = some 1 := by kernel_rfl
theorem gTabType : (Tryd.prog.globals[1]?).map (·.type) = some 141 := by kernel_rfl
theorem cellsTab : Tryd.prog.cellsOf 141 = 64 := by kernel_rfl
theorem cells8 : Tryd.prog.cellsOf 5 = 1 := by kernel_rfl
theorem tab_of {W : World} {rest : List (String × DataW Unit)} (h : laidMet Tryd.prog (("math/bits.deBruijn32tab", Rows.laid_math_bits_deBruijn32tab) :: ("math/bits.deBruijn64tab", Rows.laid_math_bits_deBruijn64tab) :: rest) W) : Tab W := by
  have t : Lib.TabIs Tryd.prog W "math/bits.deBruijn64tab" .u8 (Lib.deBruijn64tab.map fun (n : Nat) => (n : Int)) :=
    Lib.tabIs_of_head (rest := rest) gTab gTabType Tryd.underlying141 Tryd.underlying5 cells8 cellsTab h.tail
  intro j hj
  have e : ∀ j, j < 64 → (Lib.deBruijn64tab.map fun (n : Nat) => (n : Int)).getD j 0 = ((Lib.deBruijn64tab.getD j 0 : Nat) : Int) := by decide +kernel
  rw [t.cell gTab j (by simpa [Lib.deBruijn64tab] using hj), e j hj]
end Go.Proofs.YtcihkechphldcaaDoor
