/- The walks of the laws' small: is a circuit right, of layers of at most four gates? The circuit is a value that reads as data. -/
import Derived.Test.YtfgoidaldgfklaaDoorLayM
import Derived.Test.YtfgoidaldgfklaaDoorRCircW
import Derived.Test.YtfgoidaldgfklaaDoorWireS
namespace Go.Proofs.YtfgoidaldgfklaaDoor
set_option maxRecDepth 100000
set_option linter.unusedVariables false
open Go.RowKit Tally
/-- a right circuit of layers of at most four gates -/
structure SmallC (c : Ci) : Prop where
  layers : ∀ j, j < c.layers.length → (aty c.layers j).log ≤ 2
  right : checkC c = 0
  log : c.log ≤ 2
noncomputable instance (c : Ci) : Decidable (SmallC c) := Classical.propDecidable _
noncomputable def smallB (c : Ci) : Bool := decide (SmallC c)
theorem smallB_layer {c : Ci} {j : Nat} (hj : j < c.layers.length) (h : ¬ (aty c.layers j).log ≤ 2) : smallB c = false := (decide_eq_false_iff_not ..).2 fun e => h (e.layers j hj)
theorem smallB_check {c : Ci} (h : ¬ checkC c = 0) : smallB c = false := (decide_eq_false_iff_not ..).2 fun e => h e.right
theorem smallB_end {c : Ci} (h : ∀ q, q < c.layers.length → (aty c.layers q).log ≤ 2) (hc : checkC c = 0) : smallB c = decide (c.log ≤ 2) := by
  by_cases h2 : c.log ≤ 2
  · rw [decide_eq_true h2]; exact (decide_eq_true_iff ..).2 ⟨h, hc, h2⟩
  · rw [decide_eq_false h2]; exact (decide_eq_false_iff_not ..).2 fun e => h2 e.log
theorem smallB_yes {c : Ci} (h : smallB c = true) : SmallC c := (decide_eq_true_iff ..).1 h
theorem ret_b {a b : Bool} (h : a = b) : Ending.returned (.bool a) = .returned (.bool b) := by rw [h]
end Go.Proofs.YtfgoidaldgfklaaDoor
