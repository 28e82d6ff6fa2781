/- The walk of the law GkrComplete: it returns true, whatever is handed in. The table of bits lies as its initialiser lays it. -/
import Derived.Test.YtfgoidaldgfklaaDoorHeld
import Derived.Test.YtfgoidaldgfklaaDoorSmall
namespace Go.Proofs.YtfgoidaldgfklaaDoor
set_option maxRecDepth 100000
set_option linter.unusedVariables false
open Go.RowKit Tally
open Go.Sort (grow)
theorem verB_right {c : Ci} (hg : Good c) (inp d : List Int) (hi : inp.length = 2 ^ c.log.toNat) (hd : d.length = drawsN c) :
    verB c inp ((valF c (inp.map phi) c.layers.length).map psi) (proveI c inp d) d = true := by
  rw [verB_prove hg inp inp _ d hi hd, if_pos (by rw [mapphi_psi]), beq_self_eq_true]
theorem val_out_len {c : Ci} (hg : Good c) (inp : List Int) (hi : inp.length = 2 ^ c.log.toNat) : ((valF c (inp.map phi) c.layers.length).map psi).length = 2 ^ (belowLog c c.layers.length).toNat := by
  rw [List.length_map]; exact valF_length hg _ (by rw [List.length_map, hi]) _ (Nat.le_refl _)
end Go.Proofs.YtfgoidaldgfklaaDoor
