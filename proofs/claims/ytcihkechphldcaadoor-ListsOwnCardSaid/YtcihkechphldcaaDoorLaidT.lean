/- A world in which the listed package-level variables lie as their initialisers lay them. No condition. -/
import Derived.Test.YtcihkechphldcaaDoorRows
import Derived.Test.YtcihkechphldcaaDoorOpen
import Derived.Lib.LaidTab
import Derived.Stop.LaidErr
namespace Go.Proofs.YtcihkechphldcaaDoor
open Go.ChangeShapes Go.WideShapes Go.ChangeAt Go.RowKit
/-- the numbers of a datum, in a row -/
def flatD : Nat → DataW Unit → List Value
  | _ + 1, .lit (.int k x) => [.int k x]
  | n + 1, .agg ps => ps.flatMap (flatD n)
  | _, _ => []
/-- a block with other cells -/
def laidObj (d : DataW Unit) : Obj → Obj
  | .cells _ t frozen => .cells (flatD 4 d).toArray t frozen
  | o => o
noncomputable def lay1 (h : Array Obj) : Array Obj := h.modify 0 (laidObj Rows.laid_math_bits_deBruijn32tab)
noncomputable def lay2 (h : Array Obj) : Array Obj := h.modify 1 (laidObj Rows.laid_math_bits_deBruijn64tab)
noncomputable def lay3 (h : Array Obj) : Array Obj := h.modify 2 (laidObj Rows.laid_internal_strconv_uint64pow10)
end Go.Proofs.YtcihkechphldcaaDoor
