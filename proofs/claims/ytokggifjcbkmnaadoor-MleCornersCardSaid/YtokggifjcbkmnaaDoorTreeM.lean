/- Plain law: trees of pairs, level by level and by halves; paths; climbing. Over whatever pairing; no program in sight, no condition. -/
import Derived.Test.YtokggifjcbkmnaaDoorPoly
namespace Tally
set_option maxRecDepth 100000
set_option linter.unusedVariables false
/-- the level above -/
def up (pr : F → F → F) (l : List F) : List F := (List.range (l.length / 2)).map fun k => pr (atF l (2 * k)) (atF l (2 * k + 1))
theorem up_length (pr : F → F → F) (l : List F) : (up pr l).length = l.length / 2 := by simp [up]
theorem up_at (pr : F → F → F) (l : List F) (k : Nat) (h : k < l.length / 2) : atF (up pr l) k = pr (atF l (2 * k)) (atF l (2 * k + 1)) := by
  simp [up, atF, h]
theorem atF_take (l : List F) (n k : Nat) (h : k < n) : atF (l.take n) k = atF l k := by
  unfold atF; rw [List.getElem?_take, if_pos h]
theorem atF_drop (l : List F) (n k : Nat) : atF (l.drop n) k = atF l (n + k) := by
  unfold atF; rw [List.getElem?_drop]
theorem atF_ext (l m : List F) (h : l.length = m.length) (h2 : ∀ k, k < l.length → atF l k = atF m k) : l = m := by
  refine List.ext_getElem h fun i h1 h3 => ?_
  have := h2 i h1
  simpa [atF, h1, h3] using this
theorem up_take (pr : F → F → F) (l : List F) (n : Nat) (h : 2 * n ≤ l.length) : (up pr l).take n = up pr (l.take (2 * n)) := by
  refine atF_ext _ _ (by simp [up_length]; omega) fun k hk => ?_
  have hk' : k < n := by simp [up_length] at hk; omega
  rw [atF_take _ _ _ hk', up_at pr l k (by omega), up_at pr _ k (by simp; omega), atF_take _ _ _ (by omega), atF_take _ _ _ (by omega)]
theorem up_drop (pr : F → F → F) (l : List F) (n : Nat) (h : 2 * n ≤ l.length) : (up pr l).drop n = up pr (l.drop (2 * n)) := by
  refine atF_ext _ _ (by simp [up_length]; omega) fun k hk => ?_
  have hk' : k < l.length / 2 - n := by simpa [up_length] using hk
  rw [atF_drop, up_at pr l _ (by omega), up_at pr _ k (by simp; omega), atF_drop, atF_drop]
  congr 2 <;> omega
/-- the top, n levels above -/
def rootN (pr : F → F → F) : Nat → List F → F
  | 0, l => atF l 0
  | n + 1, l => rootN pr n (up pr l)
/-- the other one of a pair -/
def sib (i : Nat) : Nat := if i % 2 = 0 then i + 1 else i - 1
def pathN (pr : F → F → F) : Nat → List F → Nat → List F
  | 0, _, _ => []
  | n + 1, l, i => atF l (sib i) :: pathN pr n (up pr l) (i / 2)
def climbN (pr : F → F → F) : F → List F → Nat → F
  | out, [], _ => out
  | out, x :: p, i => climbN pr (if i % 2 = 0 then pr out x else pr x out) p (i / 2)
theorem pathN_length (pr : F → F → F) (n : Nat) (l : List F) (i : Nat) : (pathN pr n l i).length = n := by
  induction n generalizing l i with
  | zero => rfl
  | succ n ih => simp [pathN, ih]
theorem climb_path (pr : F → F → F) (n : Nat) (l : List F) (i : Nat) (h : l.length = 2 ^ n) (hi : i < 2 ^ n) : climbN pr (atF l i) (pathN pr n l i) i = rootN pr n l := by
  induction n generalizing l i with
  | zero => have : i = 0 := by simpa using hi
            subst this; rfl
  | succ n ih =>
    have hu : (up pr l).length = 2 ^ n := by rw [up_length, h, Nat.pow_succ]; omega
    rw [Nat.pow_succ] at hi h
    simp only [pathN, climbN, rootN]
    rw [← ih (up pr l) (i / 2) hu (by omega), up_at pr l (i / 2) (by omega)]
    congr 1
    unfold sib
    by_cases e : i % 2 = 0
    · rw [if_pos e, if_pos e, show 2 * (i / 2) = i by omega]
    · rw [if_neg e, if_neg e, show 2 * (i / 2) = i - 1 by omega, show i - 1 + 1 = i by omega]
theorem rootN_half (pr : F → F → F) (n : Nat) (l : List F) (h : l.length = 2 ^ (n + 1)) : rootN pr (n + 1) l = pr (rootN pr n (l.take (2 ^ n))) (rootN pr n (l.drop (2 ^ n))) := by
  induction n generalizing l with
  | zero =>
    have h2 : l.length = 2 := by simpa using h
    simp only [rootN]
    rw [up_at pr l 0 (by omega), atF_take _ _ _ (by decide), atF_drop]
  | succ n ih =>
    have h2 : l.length = 2 * 2 ^ (n + 1) := by rw [h, Nat.pow_succ]; omega
    have e : 2 ^ (n + 1) = 2 * 2 ^ n := by rw [Nat.pow_succ]; omega
    rw [show rootN pr (n + 1 + 1) l = rootN pr (n + 1) (up pr l) from rfl, ih (up pr l) (by rw [up_length]; omega), up_take pr l _ (by omega), up_drop pr l _ (by omega), ← e]; rfl
theorem pathN_half (pr : F → F → F) (n : Nat) (l : List F) (i : Nat) (h : l.length = 2 ^ (n + 1)) (hi : i < 2 ^ (n + 1)) : pathN pr (n + 1) l i =
    if i < 2 ^ n then pathN pr n (l.take (2 ^ n)) i ++ [rootN pr n (l.drop (2 ^ n))] else pathN pr n (l.drop (2 ^ n)) (i - 2 ^ n) ++ [rootN pr n (l.take (2 ^ n))] := by
  induction n generalizing l i with
  | zero =>
    have hi2 : i = 0 ∨ i = 1 := by simp at hi; omega
    rcases hi2 with rfl | rfl
    · simp only [pathN, rootN]; rw [if_pos (by decide), atF_drop]; rfl
    · simp only [pathN, rootN]; rw [if_neg (by decide), atF_take _ _ _ (by decide)]; rfl
  | succ n ih =>
    have h2 : l.length = 2 * 2 ^ (n + 1) := by rw [h, Nat.pow_succ]; omega
    have e : 2 ^ (n + 1) = 2 * 2 ^ n := by rw [Nat.pow_succ]; omega
    have hi2 : i < 2 * (2 * 2 ^ n) := by rw [Nat.pow_succ, e] at hi; omega
    rw [show pathN pr (n + 1 + 1) l i = atF l (sib i) :: pathN pr (n + 1) (up pr l) (i / 2) from rfl, ih (up pr l) (i / 2) (by rw [up_length]; omega) (by omega), up_take pr l _ (by omega), up_drop pr l _ (by omega), ← e]
    by_cases hlt : i < 2 ^ (n + 1)
    · rw [if_pos hlt, if_pos (by omega)]
      show _ = (atF (l.take (2 ^ (n + 1))) (sib i) :: pathN pr n (up pr (l.take (2 ^ (n + 1)))) (i / 2)) ++ [rootN pr n (up pr (l.drop (2 ^ (n + 1))))]
      rw [atF_take _ _ _ (by unfold sib; split <;> omega)]; rfl
    · rw [if_neg hlt, if_neg (by omega)]
      show _ = (atF (l.drop (2 ^ (n + 1))) (sib (i - 2 ^ (n + 1))) :: pathN pr n (up pr (l.drop (2 ^ (n + 1)))) ((i - 2 ^ (n + 1)) / 2)) ++ [rootN pr n (up pr (l.take (2 ^ (n + 1))))]
      rw [atF_drop, show 2 ^ (n + 1) + sib (i - 2 ^ (n + 1)) = sib i by unfold sib; split <;> split <;> omega, show (i - 2 ^ (n + 1)) / 2 = i / 2 - 2 ^ n by omega]; rfl
/-- the leaves -/
def leafs (pr : F → F → F) (t : List F) : List F := t.map (pr · 0)
theorem leafs_at (pr : F → F → F) (t : List F) (k : Nat) (h : k < t.length) : atF (leafs pr t) k = pr (atF t k) 0 := by simp [leafs, atF, h]
def rootR (pr : F → F → F) : Nat → List F → F
  | 0, t => pr (atF t 0) 0
  | n + 1, t => pr (rootR pr n (t.take (2 ^ n))) (rootR pr n (t.drop (2 ^ n)))
theorem root_eq (pr : F → F → F) (n : Nat) (t : List F) (h : t.length = 2 ^ n) : rootN pr n (leafs pr t) = rootR pr n t := by
  induction n generalizing t with
  | zero => have h1 : t.length = 1 := by simpa using h
            simp only [rootN, rootR]; rw [leafs_at pr t 0 (by omega)]
  | succ n ih =>
    rw [rootN_half pr n _ (by rw [leafs, List.length_map]; exact h)]
    have h2 := h; rw [Nat.pow_succ] at h2
    simp only [rootR, leafs, ← List.map_take, ← List.map_drop]
    rw [← ih (t.take (2 ^ n)) (by simp; omega), ← ih (t.drop (2 ^ n)) (by simp; omega)]; rfl
def pathR (pr : F → F → F) : Nat → List F → Nat → List F
  | 0, _, _ => []
  | n + 1, t, i => if i < 2 ^ n then pathR pr n (t.take (2 ^ n)) i ++ [rootR pr n (t.drop (2 ^ n))] else pathR pr n (t.drop (2 ^ n)) (i - 2 ^ n) ++ [rootR pr n (t.take (2 ^ n))]
theorem path_eq (pr : F → F → F) (n : Nat) (t : List F) (i : Nat) (h : t.length = 2 ^ n) (hi : i < 2 ^ n) : pathN pr n (leafs pr t) i = pathR pr n t i := by
  induction n generalizing t i with
  | zero => rfl
  | succ n ih =>
    rw [pathN_half pr n _ i (by rw [leafs, List.length_map]; exact h) hi]
    have h2 := h; rw [Nat.pow_succ] at h2
    have hi2 := hi; rw [Nat.pow_succ] at hi2
    simp only [pathR, leafs, ← List.map_take, ← List.map_drop]
    by_cases hlt : i < 2 ^ n
    · rw [if_pos hlt, if_pos hlt, ← ih (t.take (2 ^ n)) i (by simp; omega) hlt, ← root_eq pr n (t.drop (2 ^ n)) (by simp; omega)]; rfl
    · rw [if_neg hlt, if_neg hlt, ← ih (t.drop (2 ^ n)) (i - 2 ^ n) (by simp; omega) (by omega), ← root_eq pr n (t.take (2 ^ n)) (by simp; omega)]; rfl
theorem climb_snoc (pr : F → F → F) (out x : F) (p : List F) (i : Nat) : climbN pr out (p ++ [x]) i = if i / 2 ^ p.length % 2 = 0 then pr (climbN pr out p i) x else pr x (climbN pr out p i) := by
  induction p generalizing out i with
  | nil => simp [climbN]
  | cons y p ih =>
    have e : i / 2 ^ (p.length + 1) = i / 2 / 2 ^ p.length := by rw [Nat.div_div_eq_div_mul, Nat.pow_succ, Nat.mul_comm 2]
    simp only [List.cons_append, climbN, List.length_cons, e]
    rw [ih]
theorem climb_mod (pr : F → F → F) (out : F) (p : List F) (i : Nat) : climbN pr out p (i % 2 ^ p.length) = climbN pr out p i := by
  induction p generalizing out i with
  | nil => rfl
  | cons y p ih =>
    have e1 : i % 2 ^ (p.length + 1) % 2 = i % 2 := by rw [Nat.pow_succ, Nat.mul_comm, Nat.mod_mul_right_mod]
    have e2 : i % 2 ^ (p.length + 1) / 2 = i / 2 % 2 ^ p.length := by rw [Nat.pow_succ, Nat.mul_comm, Nat.mod_mul_right_div_self]
    simp only [climbN, List.length_cons, e1, e2]
    rw [ih]
/-- by halves -/
def climbR (pr : F → F → F) (leaf : F) (p : List F) : Nat → Nat → F
  | 0, _ => pr leaf 0
  | n + 1, i => if i < 2 ^ n then pr (climbR pr leaf p n i) (atF p n) else pr (atF p n) (climbR pr leaf p n (i - 2 ^ n))
theorem climb_eq (pr : F → F → F) (leaf : F) (p : List F) (n i : Nat) (hn : n ≤ p.length) (hi : i < 2 ^ n) : climbN pr (pr leaf 0) (p.take n) i = climbR pr leaf p n i := by
  induction n generalizing i with
  | zero => rfl
  | succ n ih =>
    have hl : (p.take n).length = n := by simp; omega
    rw [Nat.pow_succ] at hi
    rw [take_snoc p n 0 (by omega), climb_snoc, hl]
    simp only [climbR]
    by_cases hlt : i < 2 ^ n
    · rw [if_pos hlt, if_pos (by rw [Nat.div_eq_of_lt hlt]), ih i (by omega) hlt]
    · have hd : i / 2 ^ n = 1 := by
        rw [Nat.div_eq_of_lt_le] <;> omega
      rw [if_neg hlt, if_neg (by rw [hd]; decide)]
      have hm : i % 2 ^ n = i - 2 ^ n := by rw [Nat.mod_eq_sub_mod (by omega), Nat.mod_eq_of_lt (by omega)]
      have := climb_mod pr (pr leaf 0) (p.take n) i
      rw [hl, hm] at this
      rw [← this, ih (i - 2 ^ n) (by omega) (by omega)]
/-- two unlike ones stay unlike, step by step, unless unlike pairs are the same -/
theorem climbN_cons (pr : F → F → F) (out x : F) (p : List F) (i : Nat) : climbN pr out (x :: p) i = climbN pr (if i % 2 = 0 then pr out x else pr x out) p (i / 2) := rfl
end Tally
