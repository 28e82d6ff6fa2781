/- The walks of the reference's sponge: it is mixed as the program's is. -/
import Derived.Test.YtcihkechphldcaaDoorSponge
import Derived.StillTailTactics
namespace Go.Proofs.YtcihkechphldcaaDoor
set_option maxRecDepth 100000
set_option linter.unusedVariables false
open Go.RowKit Tally
theorem at3_U64 {t0 t1 t2 : Int} (h0 : U64 t0) (h1 : U64 t1) (h2 : U64 t2) (j : Nat) (hj : j < 3) : U64 (at0 [t0, t1, t2] j) := by
  have : j = 0 ∨ j = 1 ∨ j = 2 := by omega
  rcases this with rfl | rfl | rfl
  · exact h0
  · exact h1
  · exact h2
def newv (t0 t1 t2 : Int) (q : Nat) : Int := psi (phi (psi (phi t0 + phi t1)) + phi (psi (phi t2 + phi (at0 [t0, t1, t2] q))))
theorem grownBy_setdrew (w : World) (b j : Nat) (u : Value) : w.grownBy ((w.setCell ⟨b, j, none⟩ u).drew) (some b) :=
  let h := grownBy_setCell w b j u
  ⟨h.os, h.tape, h.output, h.size, h.block⟩
theorem mid_step {L : List Int} {t0 t1 t2 : Int} (j : Int) (h0 : 0 ≤ j) (h3 : j < 3) (h : L.length = 3 ∧ ∀ q : Nat, q < j.toNat → at0 L q = newv t0 t1 t2 q) :
    (L.set j.toNat (newv t0 t1 t2 j.toNat)).length = 3 ∧ ∀ q : Nat, q < (j + 1).toNat → at0 (L.set j.toNat (newv t0 t1 t2 j.toNat)) q = newv t0 t1 t2 q := by
  refine ⟨by rw [List.length_set]; exact h.1, fun q hq => ?_⟩
  have hl := h.1
  by_cases e : q = j.toNat
  · subst e; simp only [at0]; rw [List.getElem?_set_self (by omega)]; rfl
  · simp only [at0]; rw [List.getElem?_set_ne (by omega)]; exact h.2 q (by omega)
/-- squared j times -/
def sqs : Nat → F → F
  | 0, x => x
  | j + 1, x => sqs j x * sqs j x
theorem sqs_step {c x : F} {j : Nat} (h : c = sqs j x) : phi (psi c) * phi (psi c) = sqs (j + 1) x := by rw [phi_psi, h]; rfl
theorem t17 {c : F} {x : F} {m : Int} (h : c = sqs 4 (phi (psi x) + phi m)) : psi (phi (psi c) * phi (psi (phi (psi x) + phi m))) = psi (p17 (x + phi m)) := by
  rw [phi_psi, phi_psi, h, phi_psi]
  congr 1
  generalize x + phi m = a
  show sqs 4 a * a = a ^ 17
  have e : a ^ 17 = a ^ 16 * a := pow_succ' a 16
  have e2 : a ^ 16 = a ^ 8 * a ^ 8 := pow_add' a 8 8
  have e3 : a ^ 8 = a ^ 4 * a ^ 4 := pow_add' a 4 4
  have e4 : a ^ 4 = a ^ 2 * a ^ 2 := pow_add' a 2 2
  have e5 : a ^ 2 = a ^ 1 * a ^ 1 := pow_add' a 1 1
  have e6 : a ^ 1 = a := by rw [pow_succ', pow_zero']; grind
  rw [e, e2, e3, e4, e5, e6]; rfl
theorem turns_step {k : Int} {s t : St} (hk : 0 ≤ k) (h : t = turns k.toNat s) : turn (k + 1) t = turns (k + 1).toNat s := by
  have e : (k + 1).toNat = k.toNat + 1 := by omega
  rw [e, h]
  show _ = turn ((k.toNat : Int) + 1) _
  rw [Int.toNat_of_nonneg hk]
/-- what is taken by round j -/
def taken (l : List Int) (s : St) : Nat → St
  | 0 => s
  | j + 1 => tookL (l.take j) (took l.length s)
end Go.Proofs.YtcihkechphldcaaDoor
