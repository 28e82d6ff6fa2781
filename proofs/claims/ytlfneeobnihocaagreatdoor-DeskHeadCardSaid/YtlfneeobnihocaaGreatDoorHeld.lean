/- The walk of the laws' held: a proof of the tiny circuit holds for its outputs alone. The table of bits lies as its initialiser lays it. -/
import Derived.Test.YtlfneeobnihocaaGreatDoorGkrVerW
import Derived.Deep.DeepCutAuto
namespace Go.Proofs.YtlfneeobnihocaaGreatDoor
set_option maxRecDepth 100000
set_option linter.unusedVariables false
open Go.RowKit Tally
theorem below_al' {A w : World} {o : Obj} (h : Below A.heap.size A w) : Below A.heap.size A (w.alloc o) := h.alloc h.size _
theorem below_dw {A w : World} (h : Below A.heap.size A w) : Below A.heap.size A w.drew := below_drewN h 1
theorem RowU.dw {w : World} {v : Value} {l : List Int} (h : RowU w v l) : RowU w.drew v l := h.go (below_drw w)
theorem IsC.dw {w : World} {v : Value} {c : Ci} (h : IsC w v c) : IsC w.drew v c := h.go (below_drw w)
theorem IsC.more {w : World} {v : Value} {c : Ci} (h : IsC w v c) (o : Obj) : IsC (w.alloc o) v c := h.go (below_alloc w o)
theorem row2' {w : World} {n : Nat} {x y : Int} (hn : n = w.heap.size) (hx : U64 x) (hy : U64 y) : RowU (w.alloc (.cells #[.int .u64 x, .int .u64 y] 57)) (.slice (some ⟨n, 0, none⟩) 2 2) [x, y] := row2 w n x y hx hy hn.symm
theorem tiny_good' : Good tinyC := good_of_check tiny_check
theorem tiny_draws : drawsN tinyC = 4 := by decide
theorem tiny_verB1 : verB tinyC [3, 4] [12, 7] (proveI tinyC [3, 4] [5, 6, 7, 8]) [5, 6, 7, 8] = true := by
  rw [verB_prove tiny_good' [3, 4] [3, 4] [12, 7] [5, 6, 7, 8] (by decide) (by rw [tiny_draws]; rfl)]
  rw [if_pos (show evalF ([12, 7].map phi) (topZ tinyC [5, 6, 7, 8]) = evalF (valF tinyC ([3, 4].map phi) tinyC.layers.length) (topZ tinyC [5, 6, 7, 8]) by decide +kernel)]
  exact beq_self_eq_true _
theorem tiny_verB2 : verB tinyC [3, 4] [12, 8] (proveI tinyC [3, 4] [5, 6, 7, 8]) [5, 6, 7, 8] = false := by
  rw [verB_prove tiny_good' [3, 4] [3, 4] [12, 8] [5, 6, 7, 8] (by decide) (by rw [tiny_draws]; rfl)]
  rw [if_neg (show ¬ evalF ([12, 8].map phi) (topZ tinyC [5, 6, 7, 8]) = evalF (valF tinyC ([3, 4].map phi) tinyC.layers.length) (topZ tinyC [5, 6, 7, 8]) by decide +kernel)]
/-- one of the two calls of Verify -/
theorem tiny_Verify (y : Int) (b : Bool) (hb : verB tinyC [3, 4] [12, y] (proveI tinyC [3, 4] [5, 6, 7, 8]) [5, 6, 7, 8] = b) (v vi vo vp vd : Value) (w : World) (hT : Tab w) (h : IsC w v tinyC) (hi : RowU w vi [3, 4]) (ho : RowU w vo [12, y]) (hp : IsP w vp (proveI tinyC [3, 4] [5, 6, 7, 8])) (hd : RowU w vd [5, 6, 7, 8]) (hcd : CapOk vd) :
    Calls Tryz.prog 106 #[v, vi, vo, vp, vd] w fun e w' => e = .returned (.tuple #[.bool b, .int .i64 0]) ∧ Below w.heap.size w w' := by
  have := gkr_Verify v tinyC vi vo vp vd [3, 4] [12, y] (proveI tinyC [3, 4] [5, 6, 7, 8]) [5, 6, 7, 8] w hT h tiny_check hi ho hp hd hcd (by decide) (show [12, y].length = 2 from rfl) (shaped_prove _ _ _ (by rw [tiny_draws]; rfl)) (by rw [tiny_draws]; rfl)
  rwa [hb] at this
end Go.Proofs.YtlfneeobnihocaaGreatDoor
