/- Regions that draw their order and whose callees make memory: the contracts, met in a world of the class of Derived.Lib.QuietBelow; worlds with a struct copied. No condition. -/
import Derived.Test.YtaaaoljllpbplaaDoorUni
import Derived.Lib.QuietBelow
import Derived.BigQuiet
namespace Go.Proofs.YtaaaoljllpbplaaDoor
set_option maxRecDepth 100000
set_option linter.unusedVariables false
open Go.RowKit Tally
open Go.Sort (grow)
/-- a contract that leaves the world alone -/
theorem regrown_same {Pr : Program} {f : FuncId} {args : Array Value} {w : World} {d : Nat} {os : Array Obj} {v : Value}
    (h : Calls Pr f args (grow (redrawn w d) os) fun e w' => e = .returned v ∧ grow (redrawn w d) os = w') : Calls Pr f args (grow (redrawn w d) os) fun e w'' => e = .returned v ∧ ∃ p : Regrown, w'' = grow (redrawn w p.d) p.os :=
  h.mono fun _ _ ⟨he, hw⟩ => ⟨he, ⟨d, os⟩, hw.symm⟩
/-- a contract that only draws -/
theorem regrown_drawn {Pr : Program} {f : FuncId} {args : Array Value} {w : World} {d : Nat} {os : Array Obj} {v : Value}
    (h : Calls Pr f args (grow (redrawn w d) os) fun e w' => e = .returned v ∧ Drawn (grow (redrawn w d) os) w') : Calls Pr f args (grow (redrawn w d) os) fun e w'' => e = .returned v ∧ ∃ p : Regrown, w'' = grow (redrawn w p.d) p.os :=
  Calls.regrown_of (h.mono fun _ _ ⟨he, hw⟩ => ⟨he, hw.below⟩)
theorem RowU.regrown {w : World} {v : Value} {l : List Int} (h : RowU w v l) (d : Nat) (os : Array Obj) : RowU (grow (redrawn w d) os) v l := h.below (below_regrown w d os) (Nat.le_refl _)
theorem copied1' (w : World) (x : Value) (t : Nat) : ∃ W, w.alloc (.cells #[x] t) = W ∧ W.cell? ⟨w.heap.size, 0, none⟩ = some x ∧ Below w.heap.size w W ∧ W.heap.size = w.heap.size + 1 := by
  refine ⟨_, rfl, ?_, (Below.refl _ _).alloc (Nat.le_refl _) _, by simp⟩
  rw [World.cell?_alloc_at _ _ _ _ rfl]; rfl
theorem copied2' (w : World) (x y : Value) (t : Nat) : ∃ W, w.alloc (.cells #[x, y] t) = W ∧ W.cell? ⟨w.heap.size, 0, none⟩ = some x ∧ W.cell? ⟨w.heap.size, 1, none⟩ = some y ∧ Below w.heap.size w W ∧ W.heap.size = w.heap.size + 1 := by
  refine ⟨_, rfl, ?_, ?_, (Below.refl _ _).alloc (Nat.le_refl _) _, by simp⟩
  · rw [World.cell?_alloc_at _ _ _ _ rfl]; rfl
  · rw [World.cell?_alloc_at _ _ _ _ rfl]; rfl
theorem copied3' (w : World) (x y z : Value) (t : Nat) : ∃ W, w.alloc (.cells #[x, y, z] t) = W ∧ W.cell? ⟨w.heap.size, 0, none⟩ = some x ∧ W.cell? ⟨w.heap.size, 1, none⟩ = some y ∧ W.cell? ⟨w.heap.size, 2, none⟩ = some z ∧ Below w.heap.size w W ∧ W.heap.size = w.heap.size + 1 := by
  refine ⟨_, rfl, ?_, ?_, ?_, (Below.refl _ _).alloc (Nat.le_refl _) _, by simp⟩
  · rw [World.cell?_alloc_at _ _ _ _ rfl]; rfl
  · rw [World.cell?_alloc_at _ _ _ _ rfl]; rfl
  · rw [World.cell?_alloc_at _ _ _ _ rfl]; rfl
theorem below_two {a b c : World} (h : Below a.heap.size a b) (k : Below b.heap.size b c) : Below a.heap.size a c := h.trans (k.mono h.size)
theorem RowU.go {w w' : World} {v : Value} {l : List Int} (h : RowU w v l) (hb : Below w.heap.size w w') : RowU w' v l := h.below hb (Nat.le_refl _)
end Go.Proofs.YtaaaoljllpbplaaDoor
