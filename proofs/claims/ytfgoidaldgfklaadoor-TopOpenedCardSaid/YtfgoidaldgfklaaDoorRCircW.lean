/- Several texts in one: CircM, RCircW. What each says, and its conditions, stands at its head. -/
import Derived.Test.YtfgoidaldgfklaaDoorRCheckW
import Derived.Test.YtfgoidaldgfklaaDoorPoly
/- Plain law: what a right circuit is, what its layers compute, how they are wired. No condition. -/
namespace Go.Proofs.YtfgoidaldgfklaaDoor
set_option maxRecDepth 100000
set_option linter.unusedVariables false
open Go.RowKit Tally
/-- a circuit that Check lets by -/
structure Good (c : Ci) : Prop where
  log0 : 0 ≤ c.log
  log4 : c.log ≤ 4
  n1 : 0 < c.layers.length
  n4 : c.layers.length ≤ 4
  l0 : ∀ k, k < c.layers.length → 0 ≤ (aty c.layers k).log
  l4 : ∀ k, k < c.layers.length → (aty c.layers k).log ≤ 4
  len : ∀ k, k < c.layers.length → (aty c.layers k).gates.length = 2 ^ (aty c.layers k).log.toNat
  gate : ∀ k, k < c.layers.length → ∀ j, j < (aty c.layers k).gates.length → gateOk (2 ^ (belowLog c k).toNat) (atg (aty c.layers k).gates j) = true
theorem belowLog_zero (c : Ci) : belowLog c 0 = c.log := rfl
theorem belowLog_succ (c : Ci) (k : Nat) : belowLog c (k + 1) = (aty c.layers k).log := by unfold belowLog; rw [if_neg (by omega)]; rfl
theorem Good.below0 {c : Ci} (h : Good c) {k : Nat} (hk : k ≤ c.layers.length) : 0 ≤ belowLog c k := by
  cases k with
  | zero => exact h.log0
  | succ k => rw [belowLog_succ]; exact h.l0 k (by omega)
theorem Good.below4 {c : Ci} (h : Good c) {k : Nat} (hk : k ≤ c.layers.length) : belowLog c k ≤ 4 := by
  cases k with
  | zero => exact h.log4
  | succ k => rw [belowLog_succ]; exact h.l4 k (by omega)
theorem drop_aty (l : List Ly) (k : Nat) (h : k < l.length) : l.drop k = aty l k :: l.drop (k + 1) := by
  rw [List.drop_eq_getElem_cons h]; simp [aty, List.getElem?_eq_getElem h]
theorem checkL_cons {m : Nat} {l : Ly} {ls : List Ly} (h : checkL m (l :: ls) = 0) : (0 ≤ l.log ∧ l.log ≤ 4) ∧ l.gates.length = 2 ^ l.log.toNat ∧ l.gates.all (gateOk m) = true ∧ checkL l.gates.length ls = 0 := by
  unfold checkL at h
  split at h
  · rename_i h1
    split at h
    · rename_i h2
      split at h
      · rename_i h3
        exact ⟨of_decide_eq_true h1, h2, h3, h⟩
      · omega
    · omega
  · omega
theorem gate_at {m : Nat} {l : List Gt} (h : l.all (gateOk m) = true) {j : Nat} (hj : j < l.length) : gateOk m (atg l j) = true := by
  rw [List.all_eq_true] at h
  exact h _ (atg_mem hj)
theorem good_from (c : Ci) (k : Nat) (hk : k ≤ c.layers.length) (h : checkL (2 ^ (belowLog c k).toNat) (c.layers.drop k) = 0) :
    ∀ q, k ≤ q → q < c.layers.length → (0 ≤ (aty c.layers q).log ∧ (aty c.layers q).log ≤ 4) ∧ (aty c.layers q).gates.length = 2 ^ (aty c.layers q).log.toNat ∧ (aty c.layers q).gates.all (gateOk (2 ^ (belowLog c q).toNat)) = true := by
  obtain ⟨n, hn⟩ : ∃ n, n = c.layers.length - k := ⟨_, rfl⟩
  induction n generalizing k with
  | zero => intro q h1 h2; omega
  | succ n ih =>
    intro q h1 h2
    rw [drop_aty _ _ (by omega)] at h
    obtain ⟨g1, g2, g3, g4⟩ := checkL_cons h
    by_cases e : q = k
    · subst e; exact ⟨g1, g2, g3⟩
    · rw [g2] at g4
      exact ih (k + 1) (by omega) (by rw [belowLog_succ]; exact g4) (by omega) q (by omega) h2
theorem good_of_check {c : Ci} (h : checkC c = 0) : Good c := by
  unfold checkC at h
  split at h
  · rename_i h1
    obtain ⟨hl, h0⟩ := h1
    split at h
    · rename_i h4
      have hl' : 0 ≤ c.log ∧ c.log ≤ 4 := of_decide_eq_true hl
      have hall := good_from c 0 (by omega) (by rw [belowLog_zero, List.drop_zero]; exact h)
      exact ⟨hl'.1, hl'.2, by omega, h4, fun k hk => (hall k (by omega) hk).1.1, fun k hk => (hall k (by omega) hk).1.2, fun k hk => (hall k (by omega) hk).2.1, fun k hk j hj => gate_at (hall k (by omega) hk).2.2 hj⟩
    · omega
  · omega
theorem checkL_range (m : Nat) (ls : List Ly) : checkL m ls = 0 ∨ checkL m ls = 1 ∨ checkL m ls = 4 := by
  induction ls generalizing m with
  | nil => left; rfl
  | cons l ls ih =>
    unfold checkL
    split
    · split
      · split
        · exact ih _
        · omega
      · omega
    · omega
theorem checkC_range (c : Ci) : checkC c = 0 ∨ checkC c = 1 ∨ checkC c = 2 ∨ checkC c = 4 := by
  unfold checkC
  split
  · split
    · rcases checkL_range (2 ^ c.log.toNat) c.layers with h | h | h <;> omega
    · omega
  · omega
theorem gateOk_bd {m : Nat} {g : Gt} (h : gateOk m g = true) : 0 ≤ g.a ∧ g.a < (m : Int) ∧ 0 ≤ g.b ∧ g.b < (m : Int) := of_decide_eq_true h
/-- what a layer computes of the values below it -/
def gateF (V : List F) (g : Gt) : F := if g.mul then atF V g.a.toNat * atF V g.b.toNat else atF V g.a.toNat + atF V g.b.toNat
def layF (V : List F) (gs : List Gt) : List F := gs.map (gateF V)
/-- the values of a circuit: of its inputs, of its layers -/
def valF (c : Ci) (inp : List F) : Nat → List F
  | 0 => inp
  | k + 1 => layF (valF c inp k) (aty c.layers k).gates
theorem layF_length (V : List F) (gs : List Gt) : (layF V gs).length = gs.length := by unfold layF; exact List.length_map _
theorem valF_length {c : Ci} (h : Good c) (inp : List F) (hi : inp.length = 2 ^ c.log.toNat) (k : Nat) (hk : k ≤ c.layers.length) : (valF c inp k).length = 2 ^ (belowLog c k).toNat := by
  cases k with
  | zero => exact hi
  | succ k => show (layF _ _).length = _; rw [layF_length, belowLog_succ]; exact h.len k (by omega)
theorem layF_at (V : List F) (gs : List Gt) (j : Nat) (h : j < gs.length) : atF (layF V gs) j = gateF V (atg gs j) := by
  simp [atF, layF, atg, h]
/-- how much of a sort of gates stands between z, x and y -/
def wireT (gs : List Gt) (mul : Bool) (z x y : List F) (k : Nat) : F := if (atg gs k).mul = mul then eqAt z k * (eqAt x (atg gs k).a.toNat * eqAt y (atg gs k).b.toNat) else 0
def wiredF (gs : List Gt) (mul : Bool) (z x y : List F) : F := sumTo (wireT gs mul z x y) gs.length
def stepF (gs : List Gt) (z x y : List F) (vx vy : F) : F := wiredF gs false z x y * (vx + vy) + wiredF gs true z x y * (vx * vy)
end Go.Proofs.YtfgoidaldgfklaaDoor

/- The walk of the reference's Circuit: it answers what Check answers. The circuit is a value that reads as data. -/
namespace Go.Proofs.YtfgoidaldgfklaaDoor
set_option maxRecDepth 100000
set_option linter.unusedVariables false
open Go.RowKit Tally
end Go.Proofs.YtfgoidaldgfklaaDoor
