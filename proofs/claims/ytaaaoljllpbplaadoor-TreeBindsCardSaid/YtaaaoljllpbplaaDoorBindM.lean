/- Mathematics of TreeBinds: two ways up that meet meet somewhere by unlike pairs, if they begin unlike. No program in sight. -/
import Derived.Test.YtaaaoljllpbplaaDoorTreeM
namespace Tally
set_option maxRecDepth 100000
set_option linter.unusedVariables false
/-- the pairs on the way up -/
def pairAt (pr : F → F → F) (a : F) (p : List F) (i : Nat) : Nat → F × F
  | 0 => (a, 0)
  | j + 1 => if i / 2 ^ j % 2 = 0 then (pr (pairAt pr a p i j).1 (pairAt pr a p i j).2, atF p j) else (atF p j, pr (pairAt pr a p i j).1 (pairAt pr a p i j).2)
/-- what the pairs make -/
def madeAt (pr : F → F → F) (a : F) (p : List F) (i j : Nat) : F := pr (pairAt pr a p i j).1 (pairAt pr a p i j).2
theorem made_climb (pr : F → F → F) (a : F) (p : List F) (i : Nat) : ∀ j, j ≤ p.length → madeAt pr a p i j = climbN pr (pr a 0) (p.take j) i
  | 0, _ => by rw [List.take_zero]; rfl
  | j + 1, h => by
    have e : p.take (j + 1) = p.take j ++ [atF p j] := by
      rw [List.take_add_one]; congr 1; simp [atF, show j < p.length by omega]
    have hl : (p.take j).length = j := by simp; omega
    rw [e, climb_snoc, hl, ← made_climb pr a p i j (by omega)]
    unfold madeAt
    simp only [pairAt]
    split <;> rfl
theorem binds (pr : F → F → F) (a b : F) (p q : List F) (i : Nat) (hab : a ≠ b) : ∀ n, (∀ j, j ≤ n → pairAt pr a p i j ≠ pairAt pr b q i j → madeAt pr a p i j ≠ madeAt pr b q i j) → pairAt pr a p i n ≠ pairAt pr b q i n
  | 0, _ => fun e => hab (congrArg Prod.fst e)
  | n + 1, h => by
    have h1 := h n (by omega) (binds pr a b p q i hab n (fun j hj => h j (by omega)))
    intro e
    simp only [pairAt] at e
    split at e
    · exact h1 (congrArg Prod.fst e)
    · exact h1 (congrArg Prod.snd e)
/-- where they meet -/
theorem binds_some (pr : F → F → F) (a b : F) (p q : List F) (i n : Nat) (hab : a ≠ b) (he : madeAt pr a p i n = madeAt pr b q i n) : ∃ j, j ≤ n ∧ pairAt pr a p i j ≠ pairAt pr b q i j ∧ madeAt pr a p i j = madeAt pr b q i j := by
  apply Classical.byContradiction
  intro hno
  have h : ∀ j, j ≤ n → pairAt pr a p i j ≠ pairAt pr b q i j → madeAt pr a p i j ≠ madeAt pr b q i j := fun j hj h1 h2 => hno ⟨j, hj, h1, h2⟩
  exact h n (Nat.le_refl _) (binds pr a b p q i hab n h) he
end Tally
