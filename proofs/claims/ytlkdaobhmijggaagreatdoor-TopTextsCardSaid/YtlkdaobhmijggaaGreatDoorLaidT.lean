/- A world in which the listed package-level variables lie as their initialisers lay them. No condition. -/
import Derived.Test.YtlkdaobhmijggaaGreatDoorRows
import Derived.Test.YtlkdaobhmijggaaGreatDoorOpen
import Derived.Lib.LaidTab
import Derived.Stop.LaidErr
namespace Go.Proofs.YtlkdaobhmijggaaGreatDoor
open Go.ChangeShapes Go.WideShapes Go.ChangeAt Go.RowKit
/-- the numbers of a datum, in a row -/
def flatD : Nat → DataW Unit → List Value
  | _ + 1, .lit (.int k x) => [.int k x]
  | n + 1, .agg ps => ps.flatMap (flatD n)
  | _, _ => []
/-- a block with other cells -/
def laidObj (d : DataW Unit) : Obj → Obj
  | .cells _ t frozen => .cells (flatD 4 d).toArray t frozen
  | o => o
noncomputable def lay1 (h : Array Obj) : Array Obj := h.modify 4 (laidObj Rows.laid_math_bits_deBruijn32tab)
noncomputable def lay2 (h : Array Obj) : Array Obj := h.modify 5 (laidObj Rows.laid_math_bits_deBruijn64tab)
noncomputable def lay3 (h : Array Obj) : Array Obj := h.modify 1 (laidObj Rows.laid_internal_strconv_uint64pow10)
noncomputable def lay4 (h : Array Obj) : Array Obj := h.modify 3 (laidObj Rows.laid_unicode_utf8_acceptRanges)
noncomputable def lay5 (h : Array Obj) : Array Obj := h.modify 2 (laidObj Rows.laid_unicode_utf8_first)
noncomputable def laidWorldT (os : Os) (args : Array Value) : World :=
  let w := World.holding Tryz.prog os ⟨#[], args, []⟩
  { w with heap := lay5 (lay4 (lay3 (lay2 (lay1 w.heap)))) }
end Go.Proofs.YtlkdaobhmijggaaGreatDoor
