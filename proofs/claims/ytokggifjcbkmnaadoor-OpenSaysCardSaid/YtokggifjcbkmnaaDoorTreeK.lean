/- The helper grown; the walk of the law TreePaths: it returns true, whatever is handed in. The table of bits lies as its initialiser lays it. -/
import Derived.Test.YtokggifjcbkmnaaDoorTreeW2
import Derived.Test.YtokggifjcbkmnaaDoorKeepM
namespace Go.Proofs.YtokggifjcbkmnaaDoor
set_option maxRecDepth 100000
set_option linter.unusedVariables false
open Go.RowKit Tally
theorem root56 : rootF [5, 6] 1 = pairF (pairF (phi 5) (phi 0)) (pairF (phi 6) (phi 0)) := by
  have h0 : phi 0 = 0 := phi_zero
  rw [h0]; rfl
/-- the root of 5 and 6, hidden -/
def r56 : F := pairF (pairF (phi 5) (phi 0)) (pairF (phi 6) (phi 0))
theorem r56_ne : (psi r56 != 0) = true := by decide +kernel
theorem root_56 (v : Value) (w : World) (hT : Tab w) (hp : RowU w v [5, 6]) : Calls Tryd.prog 28 #[v] w fun e w' => e = .returned (.tuple #[.int .u64 (psi r56), .int .i64 0]) ∧ Below w.heap.size w w' := by
  have := tree_Root [5, 6] 1 v w hT hp (by simp) (by decide)
  rw [root56] at this; exact this
/-- the leaves of 5 and 6, hidden -/
def l5 : F := pairF (phi 5) (phi 0)
def l6 : F := pairF (phi 6) (phi 0)
theorem pair_5 (w : World) : Calls Tryd.prog 29 #[.int .u64 5, .int .u64 0] w fun e w' => e = .returned (.int .u64 (psi l5)) ∧ Below w.heap.size w w' := sponge_Pair 5 0 w ⟨by decide, by decide⟩ U64.zero
theorem pair_6 (w : World) : Calls Tryd.prog 29 #[.int .u64 6, .int .u64 0] w fun e w' => e = .returned (.int .u64 (psi l6)) ∧ Below w.heap.size w w' := sponge_Pair 6 0 w ⟨by decide, by decide⟩ U64.zero
theorem pair_56 (w : World) : Calls Tryd.prog 29 #[.int .u64 (psi l5), .int .u64 (psi l6)] w fun e w' => e = .returned (.int .u64 (psi r56)) ∧ Below w.heap.size w w' := by
  have := sponge_Pair (psi l5) (psi l6) w (U64.psi _) (U64.psi _)
  rw [phi_psi, phi_psi] at this; exact this
theorem climb_root (t : List Int) (n i : Nat) (hn : t.length = 2 ^ n) (hi : i < 2 ^ n) : climbF (at0 t i) ((pathF t n i).map psi) i = rootF t n := by
  unfold climbF pathF rootF
  rw [mapphi_psi]
  have e : pairF (phi (at0 t i)) 0 = atF (leafs pairF (t.map phi)) i := by
    rw [leafs_at pairF _ i (by simpa [hn] using hi), atF_map t i (by omega)]
  rw [e]
  exact climb_path pairF n _ i (by simp [leafs, hn]) hi
end Go.Proofs.YtokggifjcbkmnaaDoor
