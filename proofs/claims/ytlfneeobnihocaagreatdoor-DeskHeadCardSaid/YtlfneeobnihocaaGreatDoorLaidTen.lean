/- Several texts in one: LaidT, LaidTT, LaidTen. What each says, and its conditions, stands at its head. -/
import Derived.Test.YtlfneeobnihocaaGreatDoorRows
import Derived.Test.YtlfneeobnihocaaGreatDoorOpen
import Derived.Lib.LaidTab
import Derived.Stop.LaidErr
import Derived.Test.YtlfneeobnihocaaGreatDoorTZ
import Derived.Test.YtlfneeobnihocaaGreatDoorHalvesW
/- A world in which the listed package-level variables lie as their initialisers lay them. No condition. -/
namespace Go.Proofs.YtlfneeobnihocaaGreatDoor
open Go.ChangeShapes Go.WideShapes Go.ChangeAt Go.RowKit
/-- the numbers of a datum, in a row -/
def flatD : Nat → DataW Unit → List Value
  | _ + 1, .lit (.int k x) => [.int k x]
  | n + 1, .agg ps => ps.flatMap (flatD n)
  | _, _ => []
/-- a block with other cells -/
def laidObj (d : DataW Unit) : Obj → Obj
  | .cells _ t frozen => .cells (flatD 4 d).toArray t frozen
  | o => o
noncomputable def lay1 (h : Array Obj) : Array Obj := h.modify 4 (laidObj Rows.laid_math_bits_deBruijn32tab)
noncomputable def lay2 (h : Array Obj) : Array Obj := h.modify 5 (laidObj Rows.laid_math_bits_deBruijn64tab)
noncomputable def lay3 (h : Array Obj) : Array Obj := h.modify 3 (laidObj Rows.laid_internal_strconv_uint64pow10)
noncomputable def lay4 (h : Array Obj) : Array Obj := h.modify 2 (laidObj Rows.laid_unicode_utf8_acceptRanges)
noncomputable def lay5 (h : Array Obj) : Array Obj := h.modify 1 (laidObj Rows.laid_unicode_utf8_first)
noncomputable def laidWorldT (os : Os) (args : Array Value) : World :=
  let w := World.holding Tryz.prog os ⟨#[], args, []⟩
  { w with heap := lay5 (lay4 (lay3 (lay2 (lay1 w.heap)))) }
end Go.Proofs.YtlfneeobnihocaaGreatDoor

/- What the listed package-level variables give: the table of bits lies as its initialiser lays it. No condition. -/
namespace Go.Proofs.YtlfneeobnihocaaGreatDoor
open Go.ChangeShapes Go.WideShapes Go.ChangeAt Go.RowKit
theorem gTab : Tryz.prog.globalNamed "math/bits.deBruijn64tab" = some 5 := by kernel_rfl
theorem gTabType : (Tryz.prog.globals[5]?).map (·.type) = some 194 := by kernel_rfl
theorem cellsTab : Tryz.prog.cellsOf 194 = 64 := by kernel_rfl
theorem cells8 : Tryz.prog.cellsOf 5 = 1 := by kernel_rfl
theorem tab_of {W : World} {rest : List (String × DataW Unit)} (h : laidMet Tryz.prog (("math/bits.deBruijn32tab", Rows.laid_math_bits_deBruijn32tab) :: ("math/bits.deBruijn64tab", Rows.laid_math_bits_deBruijn64tab) :: rest) W) : Tab W := by
  have t : Lib.TabIs Tryz.prog W "math/bits.deBruijn64tab" .u8 (Lib.deBruijn64tab.map fun (n : Nat) => (n : Int)) :=
    Lib.tabIs_of_head (rest := rest) gTab gTabType Tryz.underlying194 Tryz.underlying5 cells8 cellsTab h.tail
  intro j hj
  have e : ∀ j, j < 64 → (Lib.deBruijn64tab.map fun (n : Nat) => (n : Int)).getD j 0 = ((Lib.deBruijn64tab.getD j 0 : Nat) : Int) := by decide +kernel
  rw [t.cell gTab j (by simpa [Lib.deBruijn64tab] using hj), e j hj]
end Go.Proofs.YtlfneeobnihocaaGreatDoor

/- What the listed package-level variables give: the tables of bits and of powers of ten lie as their initialisers lay them. No condition. -/
namespace Go.Proofs.YtlfneeobnihocaaGreatDoor
open Go.ChangeShapes Go.WideShapes Go.ChangeAt Go.RowKit
theorem gTenType : (Tryz.prog.globals[3]?).map (·.type) = some 191 := by kernel_rfl
theorem cellsTen : Tryz.prog.cellsOf 191 = 20 := by kernel_rfl
theorem cells64 : Tryz.prog.cellsOf 57 = 1 := by kernel_rfl
theorem ten_data : Rows.laid_internal_strconv_uint64pow10 (H := Unit) = Lib.tabData .u64 Lib.pow10Tab := by rfl
theorem ten_of {W : World} {x y : String × DataW Unit} {rest : List (String × DataW Unit)} (h : laidMet Tryz.prog (x :: y :: ("internal/strconv.uint64pow10", Rows.laid_internal_strconv_uint64pow10) :: rest) W) : Ten W := by
  have h3 := h.tail.tail
  rw [ten_data] at h3
  exact Lib.tabIs_of_head (rest := rest) gTen gTenType Tryz.underlying191 Tryz.underlying57 cells64 cellsTen h3
/-- a string of little bulk is short -/
theorem short_of {H : Type} {l : List UInt8} (hk : Rows.uptoSmall H [.lit (.string l)] = true) : l.length ≤ 1048576 := by
  have h : Rows.uptoBulkAll [DataW.lit (H := H) (.string l)] ≤ 1048576 := of_decide_eq_true hk
  simp only [Rows.uptoBulkAll, Rows.uptoBulk] at h
  omega
theorem short_of2 {H : Type} {l m : List UInt8} (hk : Rows.uptoSmall H [.lit (.string l), .lit (.string m)] = true) : l.length + m.length ≤ 1048576 := by
  have h : Rows.uptoBulkAll [DataW.lit (H := H) (.string l), DataW.lit (H := H) (.string m)] ≤ 1048576 := of_decide_eq_true hk
  simp only [Rows.uptoBulkAll, Rows.uptoBulk] at h
  omega
end Go.Proofs.YtlfneeobnihocaaGreatDoor
