/- Plain law: the numbers of Eq; tables and what they are between; no program in sight, no condition. -/
import Derived.Test.YtaaaoljllpbplaaDoorNum
namespace Tally
set_option maxRecDepth 100000
set_option linter.unusedVariables false

/-- of a point turned round, at b -/
def eqR : List F → Nat → F
  | [], _ => 1
  | x :: r, b => (if b % 2 = 1 then x else 1 - x) * eqR r (b / 2)
/-- Eq of a point at b -/
def eqAt (p : List F) (b : Nat) : F := eqR p.reverse b
/-- Eq's step: each number twice -/
def eqStep (o : List F) (x : F) : List F := o.flatMap fun v => [v * (1 - x), v * x]
/-- all numbers of Eq -/
def eqs (p : List F) : List F := p.foldl eqStep [1]

theorem eqAt_nil (b : Nat) : eqAt [] b = 1 := rfl
theorem eqAt_snoc (p : List F) (x : F) (b : Nat) : eqAt (p ++ [x]) b = (if b % 2 = 1 then x else 1 - x) * eqAt p (b / 2) := by
  unfold eqAt; rw [List.reverse_append]; rfl
theorem eqs_snoc (p : List F) (x : F) : eqs (p ++ [x]) = eqStep (eqs p) x := by
  unfold eqs; rw [List.foldl_append]; rfl
theorem eqStep_length (o : List F) (x : F) : (eqStep o x).length = 2 * o.length := by
  unfold eqStep
  induction o with
  | nil => rfl
  | cons a o ih => simp only [List.flatMap_cons, List.length_append, List.length_cons, List.length_nil] at *; omega
theorem eqStep_get (o : List F) (x : F) (b : Nat) : (eqStep o x)[b]? = (o[b / 2]?).map (fun v => if b % 2 = 1 then v * x else v * (1 - x)) := by
  unfold eqStep
  induction o generalizing b with
  | nil => simp
  | cons a o ih =>
    match b with
    | 0 => simp
    | 1 => simp
    | b + 2 =>
      have e1 : (b + 2) / 2 = b / 2 + 1 := by omega
      have e2 : (b + 2) % 2 = b % 2 := by omega
      rw [e1, e2]
      simp only [List.flatMap_cons, List.cons_append, List.nil_append, List.getElem?_cons_succ]
      exact ih b
theorem snoc_ind {Q : List F → Prop} (h0 : Q []) (h1 : ∀ p x, Q p → Q (p ++ [x])) (p : List F) : Q p := by
  have : ∀ r : List F, Q r.reverse := by
    intro r
    induction r with
    | nil => exact h0
    | cons a r ih => rw [List.reverse_cons]; exact h1 _ _ ih
  have h := this p.reverse
  rwa [List.reverse_reverse] at h
theorem eqs_length (p : List F) : (eqs p).length = 2 ^ p.length := by
  refine snoc_ind (Q := fun p => (eqs p).length = 2 ^ p.length) rfl ?_ p
  intro p x ih
  rw [eqs_snoc, eqStep_length, ih, List.length_append, List.length_singleton, Nat.pow_succ]; omega
theorem eqs_get (p : List F) (b : Nat) (h : b < 2 ^ p.length) : (eqs p)[b]? = some (eqAt p b) := by
  revert b
  refine snoc_ind (Q := fun p => ∀ b, b < 2 ^ p.length → (eqs p)[b]? = some (eqAt p b)) ?_ ?_ p
  · intro b hb
    have : b = 0 := by simpa using hb
    subst this; rfl
  · intro p x ih b hb
    rw [List.length_append, List.length_singleton, Nat.pow_succ] at hb
    rw [eqs_snoc, eqStep_get, ih (b / 2) (by omega), eqAt_snoc]
    simp only [Option.map_some]
    split <;> (congr 1; grind)
theorem take_snoc {α : Type} (l : List α) (k : Nat) (d : α) (h : k < l.length) : l.take (k + 1) = l.take k ++ [l[k]?.getD d] := by
  rw [List.take_succ_eq_append_getElem h, List.getElem?_eq_getElem h]; rfl
end Tally
