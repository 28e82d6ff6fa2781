/- The walks of package uni, and of the reference's LAGRANGE: values of polynomials. The lists are slices of 64-bit numbers. -/
import Derived.Test.YtaaaoljllpbplaaField2
import Derived.Test.YtaaaoljllpbplaaOpen
import Derived.Test.YtaaaoljllpbplaaLag
namespace Go.Proofs.Ytaaaoljllpbplaa
set_option maxRecDepth 100000
set_option linter.unusedVariables false
open Go.RowKit Tally
/-- only draws lie between two worlds -/
def Drawn (w w' : World) : Prop := ∃ n, w' = w.drewN n
theorem Drawn.refl (w : World) : Drawn w w := ⟨0, rfl⟩
theorem Drawn.more {w w' : World} (h : Drawn w w') (m : Nat) : Drawn w (w'.drewN m) := by
  obtain ⟨n, rfl⟩ := h; exact ⟨n + m, by rw [World.drewN_drewN]⟩
theorem Drawn.trans {a b c : World} (h : Drawn a b) (k : Drawn b c) : Drawn a c := by
  obtain ⟨n, rfl⟩ := k; exact h.more n
theorem Drawn.below {w w' : World} (h : Drawn w w') : Below w.heap.size w w' := by
  obtain ⟨n, rfl⟩ := h; exact below_drewN (Below.refl _ _) n
/-- such a contract, as a region that draws its order wants it -/
theorem flipD {Pr : Program} {f : FuncId} {args : Array Value} {w : World} {n : Nat} {v : Value} (h : Calls Pr f args (w.drewN n) fun e w' => e = .returned v ∧ Drawn (w.drewN n) w') :
    Calls Pr f args (w.drewN n) fun e w'' => e = .returned v ∧ ∃ m, w'' = w.drewN m := Calls.quiet_of h
theorem hor_step (a : List Int) (k : Nat) (h0 : 0 < k) (hk : k ≤ a.length) {c : Int} {y : F} (H : phi c = hor ((a.map phi).drop k) y) :
    phi (psi (phi (psi (phi c * y)) + phi (at0 a (k - 1)))) = hor ((a.map phi).drop (k - 1)) y := by
  have e : (a.map phi).drop (k - 1) = phi (at0 a (k - 1)) :: (a.map phi).drop k := by
    rw [List.drop_eq_getElem_cons (by simp; omega)]
    have e1 : k - 1 + 1 = k := by omega
    rw [e1, List.getElem_map]; congr 2
    simp [at0, List.getElem?_eq_getElem (show k - 1 < a.length by omega)]
  rw [e, hor_cons, phi_psi, phi_psi, H]; grind
theorem atF_map (a : List Int) (k : Nat) (h : k < a.length) : atF (a.map phi) k = phi (at0 a k) := by
  simp [atF, at0, h]
theorem coef_step (a : List Int) (k : Nat) (hk : k < a.length) {c y : Int} {x : F} (H : phi c = horTo (atF (a.map phi)) k x ∧ phi y = x ^ k) :
    phi (psi (phi c + phi (psi (phi (at0 a k) * phi y)))) = horTo (atF (a.map phi)) (k + 1) x ∧ phi (psi (phi y * x)) = x ^ (k + 1) := by
  rw [phi_psi, phi_psi, phi_psi, H.1, H.2, horTo, atF_map a k hk, pow_succ']
  exact ⟨by grind, rfl⟩
theorem lagp_step (a : List Int) (j k : Nat) (hjk : ¬ j = k) {y z : Int} {x : F} (H : phi y = phi (at0 a k) * prodEx j k x ∧ phi z = prodEx j k (phi k)) :
    phi (psi (phi y * phi (psi (x - phi j)))) = phi (at0 a k) * prodEx (j + 1) k x ∧ phi (psi (phi z * phi (psi (phi k - phi j)))) = prodEx (j + 1) k (phi k) := by
  rw [phi_psi, phi_psi, phi_psi, phi_psi, H.1, H.2]
  simp only [prodEx, if_neg hjk, and_true]
  generalize prodEx j k x = u; generalize phi (at0 a k) = t; grind
theorem lag_step (a : List Int) (k : Nat) (hk : k < a.length) {c y z : Int} {x : F} (H : phi c = lagTo (a.map phi) a.length k x) (H2 : phi y = phi (at0 a k) * prodEx a.length k x ∧ phi z = prodEx a.length k (phi k)) :
    phi (psi (phi c + phi (psi (phi y * phi (psi (inv (phi z))))))) = lagTo (a.map phi) a.length (k + 1) x := by
  simp only [phi_psi, lagTo, H, H2.1, H2.2, atF_map a k hk]
end Go.Proofs.Ytaaaoljllpbplaa
