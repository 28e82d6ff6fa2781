/- What the listed package-level variables give: the table of bits lies as its initialiser lays it. No condition. -/
import Derived.Test.YtlkdaobhmijggaaGreatDoorLaidT
import Derived.Test.YtlkdaobhmijggaaGreatDoorTZ
namespace Go.Proofs.YtlkdaobhmijggaaGreatDoor
set_option maxRecDepth 100000
set_option linter.unusedVariables false
open Go.ChangeShapes Go.WideShapes Go.ChangeAt Go.RowKit
theorem gTab : Tryz.prog.globalNamed "math/bits.deBruijn64tab" = some 5 := by kernel_rfl
theorem gTabType : (Tryz.prog.globals[5]?).map (·.type) = some 166 := by kernel_rfl
theorem cellsTab : Tryz.prog.cellsOf 166 = 64 := by kernel_rfl
theorem cells8 : Tryz.prog.cellsOf 5 = 1 := by kernel_rfl
theorem tab_of {W : World} {rest : List (String × DataW Unit)} (h : laidMet Tryz.prog (("math/bits.deBruijn32tab", Rows.laid_math_bits_deBruijn32tab) :: ("math/bits.deBruijn64tab", Rows.laid_math_bits_deBruijn64tab) :: rest) W) : Tab W := by
  have t : Lib.TabIs Tryz.prog W "math/bits.deBruijn64tab" .u8 (Lib.deBruijn64tab.map fun (n : Nat) => (n : Int)) :=
    Lib.tabIs_of_head (rest := rest) gTab gTabType Tryz.underlying166 Tryz.underlying5 cells8 cellsTab h.tail
  intro j hj
  have e : ∀ j, j < 64 → (Lib.deBruijn64tab.map fun (n : Nat) => (n : Int)).getD j 0 = ((Lib.deBruijn64tab.getD j 0 : Nat) : Int) := by decide +kernel
  rw [t.cell gTab j (by simpa [Lib.deBruijn64tab] using hj), e j hj]
end Go.Proofs.YtlkdaobhmijggaaGreatDoor
