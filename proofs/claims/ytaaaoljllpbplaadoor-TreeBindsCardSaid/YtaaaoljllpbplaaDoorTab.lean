/- Plain law: tables fixed variable by variable are what they are between; sums of products; no program in sight, no condition. -/
import Derived.Test.YtaaaoljllpbplaaDoorMle
import Derived.Test.YtaaaoljllpbplaaDoorLag
namespace Tally
set_option maxRecDepth 100000
set_option linter.unusedVariables false
/-- between two numbers -/
def btw (a b x : F) : F := a + x * (b - a)
/-- the first variable at x -/
def fixF (t : List F) (x : F) : List F := (List.range (t.length / 2)).map fun i => btw (atF t i) (atF t (i + t.length / 2)) x
/-- the first variables at some numbers -/
def fixes (t p : List F) : List F := p.foldl fixF t
def evalF (t p : List F) : F := atF (fixes t p) 0
theorem one_mul' (a : F) : 1 * a = a := by grind
theorem mul_one' (a : F) : a * 1 = a := by grind
theorem sub_zero' (a : F) : a - 0 = a := by grind
theorem sub_self' (a : F) : a - a = 0 := by grind
theorem zero_add' (a : F) : 0 + a = a := by grind
/-- a sum -/
def sumTo (f : Nat → F) : Nat → F
  | 0 => 0
  | n + 1 => sumTo f n + f n
theorem sumTo_congr {f g : Nat → F} {n : Nat} (h : ∀ k, k < n → f k = g k) : sumTo f n = sumTo g n := by
  induction n with
  | zero => rfl
  | succ n ih => simp only [sumTo]; rw [ih (fun k hk => h k (by omega)), h n (by omega)]
theorem sumTo_add (f g : Nat → F) (n : Nat) : sumTo (fun k => f k + g k) n = sumTo f n + sumTo g n := by
  induction n with
  | zero => simp only [sumTo]; exact (by decide : (0 : F) = 0 + 0)
  | succ n ih => simp only [sumTo]; rw [ih]; grind
theorem sumTo_mul (c : F) (f : Nat → F) (n : Nat) : sumTo (fun k => c * f k) n = c * sumTo f n := by
  induction n with
  | zero => simp only [sumTo]; rw [mul_zero']
  | succ n ih => simp only [sumTo]; rw [ih]; grind
theorem sumTo_zero (f : Nat → F) (n : Nat) (h : ∀ k, k < n → f k = 0) : sumTo f n = 0 := by
  induction n with
  | zero => rfl
  | succ n ih => simp only [sumTo]; rw [ih (fun k hk => h k (by omega)), h n (by omega)]; exact (by decide : (0 : F) + 0 = 0)
theorem sumTo_split (f : Nat → F) (m n : Nat) : sumTo f (m + n) = sumTo f m + sumTo (fun k => f (k + m)) n := by
  induction n with
  | zero => simp only [sumTo, Nat.add_zero]; rw [add_zero']
  | succ n ih => rw [← Nat.add_assoc]; simp only [sumTo]; rw [ih, Nat.add_comm n m]; grind
theorem sumTo_one (f : Nat → F) (n i : Nat) (hi : i < n) (h : ∀ k, k < n → k ≠ i → f k = 0) : sumTo f n = f i := by
  induction n with
  | zero => omega
  | succ n ih =>
    simp only [sumTo]
    by_cases e : i = n
    · subst e
      rw [sumTo_zero f i (fun k hk => h k (by omega) (by omega))]; grind
    · rw [ih (by omega) (fun k hk hne => h k (by omega) hne), h n (by omega) (by omega)]; grind
theorem sumTo_swap (f : Nat → Nat → F) (m n : Nat) : sumTo (fun a => sumTo (f a) n) m = sumTo (fun b => sumTo (fun a => f a b) m) n := by
  induction m with
  | zero => simp only [sumTo]; rw [sumTo_zero _ _ (fun k _ => rfl)]
  | succ m ih => simp only [sumTo]; rw [ih, ← sumTo_add]

theorem fixF_length (t : List F) (x : F) : (fixF t x).length = t.length / 2 := by simp [fixF]
theorem fixF_at (t : List F) (x : F) (i : Nat) (h : i < t.length / 2) : atF (fixF t x) i = btw (atF t i) (atF t (i + t.length / 2)) x := by
  simp [fixF, atF, h]
theorem fixes_nil (t : List F) : fixes t [] = t := rfl
theorem fixes_cons (t : List F) (x : F) (p : List F) : fixes t (x :: p) = fixes (fixF t x) p := rfl
theorem fixes_append (t p q : List F) : fixes t (p ++ q) = fixes (fixes t p) q := by unfold fixes; rw [List.foldl_append]
theorem fixes_snoc (t p : List F) (x : F) : fixes t (p ++ [x]) = fixF (fixes t p) x := fixes_append t p [x]
theorem fixes_length (t p : List F) (n : Nat) (h : t.length = 2 ^ (p.length + n)) : (fixes t p).length = 2 ^ n := by
  induction p generalizing t with
  | nil => rw [fixes_nil]; simpa using h
  | cons x p ih =>
    rw [fixes_cons]
    refine ih _ ?_
    rw [fixF_length, h, List.length_cons, show p.length + 1 + n = (p.length + n) + 1 by omega, Nat.pow_succ]; omega
theorem eqAt_cons (x : F) (p : List F) (b : Nat) (h : b < 2 ^ (p.length + 1)) : eqAt (x :: p) b = (if b < 2 ^ p.length then 1 - x else x) * eqAt p (b % 2 ^ p.length) := by
  revert b
  refine snoc_ind (Q := fun p => ∀ b, b < 2 ^ (p.length + 1) → eqAt (x :: p) b = (if b < 2 ^ p.length then 1 - x else x) * eqAt p (b % 2 ^ p.length)) ?_ ?_ p
  · intro b hb
    have hb' : b = 0 ∨ b = 1 := by simp at hb; omega
    rcases hb' with rfl | rfl <;> simp [eqAt, eqR]
  · intro p y ih b hb
    rw [List.length_append, List.length_singleton] at hb ⊢
    have hb2 : b < 2 ^ (p.length + 1) * 2 := by rw [Nat.pow_succ] at hb; exact hb
    rw [← List.cons_append, eqAt_snoc, eqAt_snoc, ih (b / 2) (by omega)]
    have e1 : b % 2 ^ (p.length + 1) % 2 = b % 2 := by
      rw [Nat.pow_succ, Nat.mul_comm, Nat.mod_mul_right_mod]
    have e2 : b % 2 ^ (p.length + 1) / 2 = b / 2 % 2 ^ p.length := by
      rw [Nat.pow_succ, Nat.mul_comm, Nat.mod_mul_right_div_self]
    have e3 : (b / 2 < 2 ^ p.length) ↔ (b < 2 ^ (p.length + 1)) := by rw [Nat.pow_succ]; omega
    rw [e1, e2]; simp only [e3]; split <;> grind
/-- the reference's value -/
def dotEq (t p : List F) : F := sumTo (fun b => atF t b * eqAt p b) t.length
theorem dotEq_cons (t : List F) (x : F) (p : List F) (h : t.length = 2 ^ (p.length + 1)) : dotEq t (x :: p) = dotEq (fixF t x) p := by
  have hh : t.length / 2 = 2 ^ p.length := by rw [h, Nat.pow_succ]; omega
  unfold dotEq
  rw [fixF_length, hh, h, Nat.pow_succ, Nat.mul_two, sumTo_split, ← sumTo_add]
  refine sumTo_congr fun k hk => ?_
  rw [fixF_at t x k (by omega), hh, eqAt_cons x p k (by rw [Nat.pow_succ]; omega), eqAt_cons x p (k + 2 ^ p.length) (by rw [Nat.pow_succ]; omega)]
  rw [if_pos hk, if_neg (by omega), Nat.mod_eq_of_lt hk, Nat.add_mod_right, Nat.mod_eq_of_lt hk]
  unfold btw; grind
theorem eval_dot (t p : List F) (h : t.length = 2 ^ p.length) : evalF t p = dotEq t p := by
  induction p generalizing t with
  | nil =>
    have h1 : t.length = 1 := by simpa using h
    unfold evalF dotEq; rw [h1]; simp only [fixes_nil, sumTo, eqAt_nil]; grind
  | cons x p ih =>
    have h' : t.length = 2 ^ (p.length + 1) := by simpa using h
    rw [dotEq_cons t x p h', ← ih (fixF t x) (by rw [fixF_length, h', Nat.pow_succ]; omega)]; rfl
theorem sum_eqs (p : List F) : sumTo (eqAt p) (2 ^ p.length) = 1 := by
  induction p with
  | nil => show sumTo (eqAt []) 1 = 1; simp only [sumTo, eqAt_nil]; exact (by decide : (0 : F) + 1 = 1)
  | cons x p ih =>
    rw [List.length_cons, Nat.pow_succ, Nat.mul_two, sumTo_split]
    rw [sumTo_congr (f := eqAt (x :: p)) (g := fun b => (1 - x) * eqAt p b) (n := 2 ^ p.length) (fun k hk => by rw [eqAt_cons x p k (by rw [Nat.pow_succ]; omega), if_pos hk, Nat.mod_eq_of_lt hk])]
    rw [sumTo_congr (f := fun k => eqAt (x :: p) (k + 2 ^ p.length)) (g := fun b => x * eqAt p b) (n := 2 ^ p.length) (fun k hk => by rw [eqAt_cons x p _ (by rw [Nat.pow_succ]; omega), if_neg (by omega), Nat.add_mod_right, Nat.mod_eq_of_lt hk])]
    rw [sumTo_mul, sumTo_mul, ih]; grind
/-- bits of b, the highest first -/
def bitsF (b : Nat) : Nat → List F
  | 0 => []
  | n + 1 => bitsF (b / 2) n ++ [if b % 2 = 1 then 1 else 0]
theorem bitsF_length (b n : Nat) : (bitsF b n).length = n := by
  induction n generalizing b with
  | zero => rfl
  | succ n ih => simp [bitsF, ih]
theorem eqAt_bits (b c n : Nat) (hb : b < 2 ^ n) (hc : c < 2 ^ n) : eqAt (bitsF b n) c = if b = c then 1 else 0 := by
  induction n generalizing b c with
  | zero => have : b = c := by simp at hb hc; omega
            rw [if_pos this]; rfl
  | succ n ih =>
    rw [Nat.pow_succ] at hb hc
    rw [bitsF, eqAt_snoc, ih (b / 2) (c / 2) (by omega) (by omega)]
    by_cases e : b = c
    · subst e; rw [if_pos rfl, if_pos rfl]
      split
      · exact one_mul' 1
      · rw [sub_zero']; exact one_mul' 1
    · rw [if_neg e]
      by_cases e2 : b / 2 = c / 2
      · rw [if_pos e2]
        have : b % 2 ≠ c % 2 := by omega
        by_cases hc2 : c % 2 = 1
        · rw [if_pos hc2, if_neg (by omega)]; exact zero_mul' _
        · rw [if_neg hc2, if_pos (by omega), sub_self']; exact zero_mul' _
      · rw [if_neg e2]; exact mul_zero' _
theorem eval_bits (t : List F) (b n : Nat) (h : t.length = 2 ^ n) (hb : b < 2 ^ n) : evalF t (bitsF b n) = atF t b := by
  rw [eval_dot t _ (by rw [bitsF_length]; exact h)]
  unfold dotEq
  rw [h, sumTo_one _ (2 ^ n) b hb]
  · rw [eqAt_bits b b n hb hb, if_pos rfl]; exact mul_one' _
  · intro k hk hne; rw [eqAt_bits b k n hb hk, if_neg (fun e => hne e.symm)]; exact mul_zero' _
theorem eval_ahead (t p : List F) (b n : Nat) (h : t.length = 2 ^ (p.length + n)) (hb : b < 2 ^ n) : evalF t (p ++ bitsF b n) = atF (fixes t p) b := by
  rw [← eval_bits (fixes t p) b n (fixes_length t p n h) hb]
  unfold evalF; rw [fixes_append]
/-- the product of the tables' numbers at b -/
def prodAt (l : List (List F)) (b : Nat) : F := l.foldl (fun p t => p * atF t b) 1
/-- the sum of all products -/
def claimF (l : List (List F)) (n : Nat) : F := sumTo (prodAt l) n
theorem prodAt_snoc (l : List (List F)) (t : List F) (b : Nat) : prodAt (l ++ [t]) b = prodAt l b * atF t b := by
  unfold prodAt; rw [List.foldl_append]; rfl
end Tally
