/- Plain law: LAGRANGE's polynomial, and NEWTON's steps; no program in sight, no condition. -/
import Derived.Test.YtaaaoljllpbplaaDoorPoly
namespace Tally
set_option maxRecDepth 100000
set_option linter.unusedVariables false

/-- number j of a list -/
abbrev atF (l : List F) (j : Nat) : F := l[j]?.getD 0
/-- all x - k, k from 0 below n, but k = i, multiplied -/
def prodEx : Nat → Nat → F → F
  | 0, _, _ => 1
  | n + 1, i, x => if n = i then prodEx n i x else prodEx n i x * (x - phi n)
/-- the first m limbs of LAGRANGE's sum, of n values -/
def lagTo (v : List F) (n : Nat) : Nat → F → F
  | 0, _ => 0
  | m + 1, x => lagTo v n m x + atF v m * prodEx n m x * inv (prodEx n m (phi m))
/-- the value at x of the polynomial that has the values v at 0, 1, .. -/
def lag (v : List F) (x : F) : F := lagTo v v.length v.length x

/-- times x - r -/
def mulLin (r : F) (l : List F) : List F := addL (0 :: l) (smul (-r) l)
theorem hor_mulLin (r : F) (l : List F) (x : F) : hor (mulLin r l) x = (x - r) * hor l x := by
  unfold mulLin; rw [hor_addL, hor_cons, hor_smul]; generalize hor l x = u; grind
theorem addL_length (a : List F) : ∀ b : List F, (addL a b).length = max a.length b.length := by
  induction a with
  | nil => intro b; simp [addL]
  | cons u a ih =>
    intro b; cases b with
    | nil => simp [addL]
    | cons v b => have := ih b; simp only [addL, List.length_cons]; omega
theorem mulLin_length (r : F) (l : List F) : (mulLin r l).length = l.length + 1 := by
  unfold mulLin; rw [addL_length]; simp [smul]
def prodL : Nat → Nat → List F
  | 0, _ => [1]
  | n + 1, i => if n = i then prodL n i else mulLin (phi n) (prodL n i)
theorem hor_prodL (n i : Nat) (x : F) : hor (prodL n i) x = prodEx n i x := by
  induction n with
  | zero => show (1 : F) + x * 0 = 1; rw [mul_zero', add_zero']
  | succ n ih =>
    simp only [prodL, prodEx]; split
    · exact ih
    · rw [hor_mulLin, ih]; grind
theorem prodL_length (n i : Nat) : (prodL n i).length = if i < n then n else n + 1 := by
  induction n with
  | zero => rfl
  | succ n ih =>
    simp only [prodL]; split
    · subst n; rw [ih, if_neg (by omega), if_pos (by omega)]
    · rw [mulLin_length, ih]; split <;> split <;> omega
def lagL (v : List F) (n : Nat) : Nat → List F
  | 0 => []
  | m + 1 => addL (lagL v n m) (smul (atF v m * inv (prodEx n m (phi m))) (prodL n m))
theorem hor_lagL (v : List F) (n m : Nat) (x : F) : hor (lagL v n m) x = lagTo v n m x := by
  induction m with
  | zero => rfl
  | succ m ih => simp only [lagL, lagTo]; rw [hor_addL, hor_smul, ih, hor_prodL]; grind
theorem lagL_length (v : List F) (n : Nat) : ∀ m, m ≤ n → (lagL v n m).length ≤ n
  | 0, _ => by simp [lagL]
  | m + 1, h => by
    have := lagL_length v n m (by omega)
    simp only [lagL]; rw [addL_length]; simp only [smul, List.length_map]; rw [prodL_length, if_pos (by omega)]; omega
theorem phi_diff_ne {i k : Nat} (hi : i < 2305843009213693951) (hk : k < 2305843009213693951) (h : i ≠ k) : phi (i : Int) - phi (k : Int) ≠ 0 := by
  intro h0
  apply h; apply phi_nat_inj hi hk; grind
theorem prodEx_ne (n i : Nat) (hn : n < 2305843009213693951) (hi : i < 2305843009213693951) : prodEx n i (phi i) ≠ 0 := by
  induction n with
  | zero => exact fun h => zero_ne_one h.symm
  | succ n ih =>
    simp only [prodEx]; split
    · exact ih (by omega)
    · exact mul_ne_zero (ih (by omega)) (phi_diff_ne hi (by omega) (fun h => by omega))
theorem prodEx_zero (n i j : Nat) (hj : j < n) (hij : j ≠ i) : prodEx n i (phi j) = 0 := by
  induction n with
  | zero => omega
  | succ n ih =>
    simp only [prodEx]; split
    · exact ih (by omega)
    · by_cases e : j = n
      · subst e
        have : phi (j : Int) - phi (j : Int) = 0 := by grind
        rw [this, mul_zero']
      · rw [ih (by omega), zero_mul']
theorem lagTo_at (v : List F) (n : Nat) (hn : n < 2305843009213693951) (j : Nat) (hj : j < n) : ∀ m, m ≤ n → lagTo v n m (phi j) = if j < m then atF v j else 0
  | 0, _ => by simp [lagTo]
  | m + 1, h => by
    have ih := lagTo_at v n hn j hj m (by omega)
    simp only [lagTo]; rw [ih]
    by_cases e : j = m
    · subst e
      rw [if_neg (by omega), if_pos (by omega)]
      have := mul_inv _ (prodEx_ne n j hn (by omega))
      generalize prodEx n j (phi j) = a at *; generalize inv a = b at *; generalize atF v j = c
      grind
    · rw [prodEx_zero n m j hj e]
      by_cases h2 : j < m
      · rw [if_pos h2, if_pos (by omega)]; grind
      · rw [if_neg h2, if_neg (by omega), mul_zero', zero_mul', add_zero']
/-- LAGRANGE's polynomial has the values -/
theorem lag_at (v : List F) (hv : v.length < 2305843009213693951) (j : Nat) (hj : j < v.length) : lag v (phi j) = atF v j := by
  unfold lag; rw [lagTo_at v _ hv j hj _ (Nat.le_refl _), if_pos hj]
/-- whatever few coefficients tell the values, they tell LAGRANGE's polynomial -/
theorem hor_lag (v l : List F) (hv : v.length < 2305843009213693951) (hl : l.length ≤ v.length) (h : ∀ i : Nat, i < v.length → hor l (phi i) = atF v i) (x : F) : hor l x = lag v x := by
  unfold lag; rw [← hor_lagL]
  refine same_everywhere v.length hv l _ hl (lagL_length v _ _ (Nat.le_refl _)) ?_ x
  intro i hi
  rw [h i hi, hor_lagL]
  exact (lag_at v hv i hi).symm

/-! NEWTON -/
/-- all x - k, k below n, multiplied -/
def prodTo : Nat → F → F
  | 0, _ => 1
  | n + 1, x => prodTo n x * (x - phi n)
theorem prodTo_ne (n i : Nat) (hn : n ≤ i) (hi : i < 2305843009213693951) : prodTo n (phi i) ≠ 0 := by
  induction n with
  | zero => exact fun h => zero_ne_one h.symm
  | succ n ih => exact mul_ne_zero (ih (by omega)) (phi_diff_ne hi (by omega) (by omega))
theorem prodTo_zero (n j : Nat) (hj : j < n) : prodTo n (phi j) = 0 := by
  induction n with
  | zero => omega
  | succ n ih =>
    simp only [prodTo]
    by_cases e : j = n
    · subst e
      have : phi (j : Int) - phi (j : Int) = 0 := by grind
      rw [this, mul_zero']
    · rw [ih (by omega), zero_mul']
/-- by index -/
theorem hor_ext (l m : List F) (x : F) (hlen : l.length = m.length) (h : ∀ k, k < l.length → atF l k = atF m k) : hor l x = hor m x := by
  have : l = m := by
    apply List.ext_getElem? ; intro k
    by_cases hk : k < l.length
    · have := h k hk
      simp only [atF, List.getElem?_eq_getElem hk, List.getElem?_eq_getElem (hlen ▸ hk : k < m.length), Option.getD_some] at this
      rw [List.getElem?_eq_getElem hk, List.getElem?_eq_getElem (hlen ▸ hk : k < m.length), this]
    · rw [List.getElem?_eq_none (by omega), List.getElem?_eq_none (by omega)]
  rw [this]
/-- the value by powers -/
def horTo (f : Nat → F) : Nat → F → F
  | 0, _ => 0
  | n + 1, x => horTo f n x + x ^ n * f n
theorem hor_horTo (l : List F) (x : F) : hor l x = horTo (atF l) l.length x := by
  have : ∀ k, k ≤ l.length → hor (l.take k) x = horTo (atF l) k x := by
    intro k
    induction k with
    | zero => intro _; simp [hor_nil, horTo]
    | succ k ih =>
      intro hk
      have e : l.take (k + 1) = l.take k ++ [atF l k] := by
        rw [List.take_succ_eq_append_getElem (by omega), atF, List.getElem?_eq_getElem (by omega)]; rfl
      rw [e, hor_append, ih (by omega), List.length_take, Nat.min_eq_left (by omega)]
      simp only [horTo, hor_cons, hor_nil]; grind
  have := this l.length (Nat.le_refl _)
  rwa [List.take_of_length_le (Nat.le_refl _)] at this
theorem horTo_congr (f g : Nat → F) (n : Nat) (x : F) (h : ∀ k, k < n → f k = g k) : horTo f n x = horTo g n x := by
  induction n with
  | zero => rfl
  | succ n ih => simp only [horTo]; rw [ih (fun k hk => h k (by omega)), h n (by omega)]
theorem horTo_lin (f g : Nat → F) (c : F) (n : Nat) (x : F) : horTo (fun k => f k + c * g k) n x = horTo f n x + c * horTo g n x := by
  induction n with
  | zero => simp only [horTo]; rw [mul_zero', add_zero']
  | succ n ih => simp only [horTo]; rw [ih]; grind
theorem horTo_tail (f : Nat → F) (m n : Nat) (x : F) (hmn : m ≤ n) (h : ∀ k, m ≤ k → k < n → f k = 0) : horTo f n x = horTo f m x := by
  induction n with
  | zero => obtain rfl : m = 0 := by omega
            rfl
  | succ n ih =>
    by_cases e : m = n + 1
    · subst e; rfl
    · simp only [horTo]; rw [h n (by omega) (by omega), ih (by omega) (fun k h1 h2 => h k h1 (by omega))]; grind
/-- f moved up by one place, less r times f -/
theorem horTo_shift (f : Nat → F) (r : F) (n : Nat) (x : F) (h : f n = 0) :
    horTo (fun k => f k * (0 - r) + (if k = 0 then 0 else f (k - 1))) (n + 1) x = (x - r) * horTo f (n + 1) x := by
  have key : ∀ m, horTo (fun k => f k * (0 - r) + (if k = 0 then 0 else f (k - 1))) (m + 1) x = (x - r) * horTo f (m + 1) x - x ^ (m + 1) * f m := by
    intro m
    induction m with
    | zero => simp only [horTo, pow_succ', pow_zero']; grind
    | succ m ih =>
      rw [horTo, ih]
      simp only [horTo, pow_succ']
      rw [if_neg (by omega), Nat.add_sub_cancel]
      generalize horTo f m x = u; generalize x ^ m = y; generalize f m = a; generalize f (m + 1) = b
      grind
  rw [key n, h]; grind
end Tally
