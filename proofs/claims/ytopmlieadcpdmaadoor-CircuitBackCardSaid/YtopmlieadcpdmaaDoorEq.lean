/- The walks of Eq: the program's list and the reference's number; the point is a slice of 64-bit numbers. -/
import Derived.Test.YtopmlieadcpdmaaDoorMem
import Derived.Test.YtopmlieadcpdmaaDoorPoly
namespace Go.Proofs.YtopmlieadcpdmaaDoor
set_option maxRecDepth 100000
set_option linter.unusedVariables false
open Go.RowKit Tally
theorem take_map_snoc (p : List Int) (k : Nat) (h : k < p.length) : (p.map phi).take (k + 1) = (p.map phi).take k ++ [phi (at0 p k)] := by
  rw [take_snoc _ k 0 (by simpa using h)]; simp [at0, h]
theorem take_map_pred (p : List Int) (k : Nat) (h0 : 0 < k) (h : k ≤ p.length) : (p.map phi).take k = (p.map phi).take (k - 1) ++ [phi (at0 p (k - 1))] := by
  rw [← take_map_snoc p (k - 1) (by omega)]; congr 1; omega
theorem toNat_half {b : Int} (h : 0 ≤ b) : (b / 2).toNat = b.toNat / 2 := by omega
theorem eq_odd (p : List Int) (k : Nat) (b c : Int) (r : F) (h0 : 0 < k) (h : k ≤ p.length) (hb : 0 ≤ b) (ho : (b % 2 == 1) = true) (H : phi c * eqAt ((p.map phi).take k) b.toNat = r) :
    phi (psi (phi c * phi (at0 p (k - 1)))) * eqAt ((p.map phi).take (k - 1)) (b / 2).toNat = r := by
  have hb2 : b.toNat % 2 = 1 := by have := of_decide_eq_true ho; omega
  rw [take_map_pred p k h0 h, eqAt_snoc, if_pos hb2] at H
  rw [phi_psi, toNat_half hb, ← H]; grind
theorem eq_even (p : List Int) (k : Nat) (b c : Int) (r : F) (h0 : 0 < k) (h : k ≤ p.length) (hb : 0 ≤ b) (ho : (b % 2 == 1) = false) (H : phi c * eqAt ((p.map phi).take k) b.toNat = r) :
    phi (psi (phi c * phi (psi (phi 1 - phi (at0 p (k - 1)))))) * eqAt ((p.map phi).take (k - 1)) (b / 2).toNat = r := by
  have hb2 : ¬ b.toNat % 2 = 1 := by have := beq_eq_false_iff_ne.mp ho; omega
  rw [take_map_pred p k h0 h, eqAt_snoc, if_neg hb2] at H
  rw [phi_psi, phi_psi, phi_one, toNat_half hb, ← H]; grind
theorem eq_start (p : List Int) (b : Int) : phi 1 * eqAt ((p.map phi).take p.length) b.toNat = eqAt (p.map phi) b.toNat := by
  rw [List.take_of_length_le (by simp), phi_one]; grind
theorem eq_end (p : List Int) (b c : Int) (r : F) (hc : U64 c) (hlt : c < P) (H : phi c * eqAt ((p.map phi).take 0) b.toNat = r) : c = psi r := by
  refine eq_psi ?_ hc.1 hlt
  rw [← H, List.take_zero, eqAt_nil]; grind
/-- what one number of Eq becomes -/
def eqI (x v : Int) : List Int := [psi (phi v * phi (psi (phi 1 - phi x))), psi (phi v * phi x)]
theorem eqI_len (x : Int) (L : List Int) : (L.flatMap (eqI x)).length = 2 * L.length := by
  induction L with
  | nil => rfl
  | cons a L ih => rw [List.flatMap_cons, List.length_append, ih, List.length_cons]; simp only [eqI, List.length_cons, List.length_nil]; omega
theorem eqI_snoc (x : Int) (L : List Int) (j : Nat) (h : j < L.length) : (L.take (j + 1)).flatMap (eqI x) = (L.take j).flatMap (eqI x) ++ [psi (phi (at0 L j) * phi (psi (phi 1 - phi x))), psi (phi (at0 L j) * phi x)] := by
  rw [take_snoc L j 0 h, List.flatMap_append]; simp [eqI]
theorem eqI_all (x : Int) (l : List F) : (l.map psi).flatMap (eqI x) = (eqStep l (phi x)).map psi := by
  unfold eqStep eqI
  induction l with
  | nil => rfl
  | cons a l ih => rw [List.map_cons, List.flatMap_cons, ih]; simp only [List.flatMap_cons, List.map_append, List.map_cons, List.map_nil, phi_psi, phi_one]
theorem eqs_start : [1] = (eqs (([] : List F))).map psi := by
  show [1] = [psi 1]; rw [psi_one]
theorem eqs_step (p : List Int) (k : Nat) (h : k < p.length) (L : List Int) (H : L = (eqs ((p.map phi).take k)).map psi) : L.flatMap (eqI (at0 p k)) = (eqs ((p.map phi).take (k + 1))).map psi := by
  rw [H, eqI_all, take_map_snoc p k h, eqs_snoc]
theorem eqs_len (p : List Int) (k : Nat) (h : k ≤ p.length) (h8 : p.length ≤ 8) (L : List Int) (H : L = (eqs ((p.map phi).take k)).map psi) : 0 < L.length ∧ L.length ≤ 256 := by
  rw [H, List.length_map, eqs_length, List.length_take, List.length_map, Nat.min_eq_left h]
  exact ⟨Nat.pow_pos (by decide), Nat.pow_le_pow_right (by decide) (by omega : k ≤ 8)⟩
end Go.Proofs.YtopmlieadcpdmaaDoor
