/- Several texts in one: Poly, Lag, Mle, Tab, PolyD. What each says, and its conditions, stands at its head. -/
import Derived.Test.YtlfneeobnihocaaGreatDoorNum
/- Plain law: polynomials by their values: HORNER, NEWTON, LAGRANGE; no program in sight, no condition. -/
namespace Tally
set_option maxRecDepth 100000
set_option linter.unusedVariables false

/-- what coefficients tell at a place -/
def hor : List F → F → F
  | [], _ => 0
  | a :: l, x => a + x * hor l x

theorem hor_nil (x : F) : hor [] x = 0 := rfl
theorem hor_cons (a : F) (l : List F) (x : F) : hor (a :: l) x = a + x * hor l x := rfl
theorem hor_append (l m : List F) (x : F) : hor (l ++ m) x = hor l x + x ^ l.length * hor m x := by
  induction l with
  | nil => simp only [List.nil_append, hor_nil, List.length_nil, pow_zero']; grind
  | cons a l ih =>
    simp only [List.cons_append, hor_cons, ih, List.length_cons, pow_succ']
    generalize hor l x = u; generalize hor m x = v; generalize x ^ l.length = y; grind

/-- coefficients, one by one, added -/
def addL : List F → List F → List F
  | [], m => m
  | l, [] => l
  | a :: l, b :: m => (a + b) :: addL l m
def smul (c : F) (l : List F) : List F := l.map (c * ·)
theorem hor_addL (l m : List F) (x : F) : hor (addL l m) x = hor l x + hor m x := by
  induction l generalizing m with
  | nil => simp only [addL, hor_nil]; grind
  | cons a l ih =>
    cases m with
    | nil => simp only [addL, hor_nil]; grind
    | cons b m => simp only [addL, hor_cons, ih]; generalize hor l x = u; generalize hor m x = v; grind
theorem hor_smul (c : F) (l : List F) (x : F) : hor (smul c l) x = c * hor l x := by
  induction l with
  | nil => simp only [smul, List.map_nil, hor_nil]; grind
  | cons a l ih =>
    have ih' : hor (List.map (c * ·) l) x = c * hor l x := ih
    simp only [smul, List.map_cons, hor_cons, ih']; generalize hor l x = u; grind

/-- division by x - r: what is left over is the value at r -/
def quo (r : F) : List F → List F
  | [] => []
  | _ :: l => match l with
    | [] => []
    | _ :: _ => hor l r :: quo r l
theorem quo_length (r : F) : ∀ l : List F, (quo r l).length = l.length - 1
  | [] => rfl
  | [_] => rfl
  | _ :: b :: l => by
    have := quo_length r (b :: l)
    simp only [quo, List.length_cons] at *; omega
theorem mul_zero' (a : F) : a * 0 = 0 := by grind
theorem zero_mul' (a : F) : 0 * a = 0 := by grind
theorem add_zero' (a : F) : a + 0 = a := by grind
theorem hor_quo (r : F) (x : F) : ∀ l : List F, hor l x = hor l r + (x - r) * hor (quo r l) x
  | [] => by show (0 : F) = 0 + (x - r) * 0; rw [mul_zero', add_zero']
  | [a] => by show a + x * 0 = a + r * 0 + (x - r) * 0; grind
  | a :: b :: l => by
    have ih := hor_quo r x (b :: l)
    have e : quo r (a :: b :: l) = hor (b :: l) r :: quo r (b :: l) := rfl
    rw [e, hor_cons a, hor_cons a, hor_cons (hor (b :: l) r)]
    generalize hor (b :: l) x = u at *; generalize hor (b :: l) r = v at *; generalize hor (quo r (b :: l)) x = q at *
    grind
/-- fewer coefficients than noughts: it is nought everywhere -/
theorem few_roots : ∀ (n : Nat) (l : List F) (rs : List F), l.length ≤ n → rs.length = n → rs.Nodup → (∀ r ∈ rs, hor l r = 0) → ∀ x, hor l x = 0 := by
  intro n
  induction n with
  | zero =>
    intro l rs hl _ _ _ x
    have : l = [] := List.length_eq_zero_iff.mp (by omega)
    subst this; rfl
  | succ n ih =>
    intro l rs hl hrs hnd hr x
    match rs, hrs, hnd, hr with
    | r :: rs, hrs, hnd, hr =>
      have hr0 := hr r (by simp)
      have key : ∀ y, hor l y = (y - r) * hor (quo r l) y := by
        intro y; rw [hor_quo r y l, hr0]; grind
      have hq : ∀ y, hor (quo r l) y = 0 := by
        refine ih (quo r l) rs (by rw [quo_length]; omega) (by simpa using hrs) (List.nodup_cons.mp hnd).2 ?_
        intro s hs
        have h1 := hr s (by simp [hs])
        rw [key s] at h1
        rcases mul_eq_zero h1 with h | h
        · exfalso
          have : s = r := by grind
          subst this; exact (List.nodup_cons.mp hnd).1 hs
        · exact h
      rw [key x, hq x]; grind
theorem phi_nat_inj {i j : Nat} (hi : i < 2305843009213693951) (hj : j < 2305843009213693951) (h : phi (i : Int) = phi (j : Int)) : i = j := by
  have := phi_eq_iff.mp h
  have e : P = 2305843009213693951 := rfl
  rw [e] at this; omega
theorem places_nodup (n : Nat) (hn : n < 2305843009213693951) : ((List.range n).map fun i : Nat => phi (i : Int)).Nodup := by
  rw [List.nodup_iff_pairwise_ne, List.pairwise_map]
  refine List.Pairwise.imp_of_mem ?_ (List.nodup_iff_pairwise_ne.mp List.nodup_range)
  intro a b ha hb hab h
  exact hab (phi_nat_inj (by have := List.mem_range.mp ha; omega) (by have := List.mem_range.mp hb; omega) h)
/-- two lists of n coefficients that tell the same at 0 .. n-1 tell the same everywhere -/
theorem same_everywhere (n : Nat) (hn : n < 2305843009213693951) (l m : List F) (hl : l.length ≤ n) (hm : m.length ≤ n) (h : ∀ i : Nat, i < n → hor l (phi i) = hor m (phi i)) (x : F) : hor l x = hor m x := by
  have hadd : (addL l (smul (-1) m)).length ≤ n := by
    have : ∀ (a b : List F), (addL a b).length ≤ max a.length b.length := by
      intro a
      induction a with
      | nil => intro b; simp [addL]
      | cons u a ih =>
        intro b; cases b with
        | nil => simp [addL]
        | cons v b => have := ih b; simp only [addL, List.length_cons]; omega
    have := this l (smul (-1) m)
    simp only [smul, List.length_map] at this ⊢; omega
  have h0 := few_roots n (addL l (smul (-1) m)) ((List.range n).map fun i : Nat => phi (i : Int)) hadd (by simp) (places_nodup n hn) (by
    intro r hr
    obtain ⟨i, hi, rfl⟩ := List.mem_map.mp hr
    rw [hor_addL, hor_smul, h i (List.mem_range.mp hi)]; grind) x
  rw [hor_addL, hor_smul] at h0
  grind
end Tally
/- Plain law: LAGRANGE's polynomial, and NEWTON's steps; no program in sight, no condition. -/
namespace Tally
set_option maxRecDepth 100000
set_option linter.unusedVariables false

/-- number j of a list -/
abbrev atF (l : List F) (j : Nat) : F := l[j]?.getD 0
/-- all x - k, k from 0 below n, but k = i, multiplied -/
def prodEx : Nat → Nat → F → F
  | 0, _, _ => 1
  | n + 1, i, x => if n = i then prodEx n i x else prodEx n i x * (x - phi n)
/-- the first m limbs of LAGRANGE's sum, of n values -/
def lagTo (v : List F) (n : Nat) : Nat → F → F
  | 0, _ => 0
  | m + 1, x => lagTo v n m x + atF v m * prodEx n m x * inv (prodEx n m (phi m))
/-- the value at x of the polynomial that has the values v at 0, 1, .. -/
def lag (v : List F) (x : F) : F := lagTo v v.length v.length x

/-- times x - r -/
def mulLin (r : F) (l : List F) : List F := addL (0 :: l) (smul (-r) l)
theorem hor_mulLin (r : F) (l : List F) (x : F) : hor (mulLin r l) x = (x - r) * hor l x := by
  unfold mulLin; rw [hor_addL, hor_cons, hor_smul]; generalize hor l x = u; grind
theorem addL_length (a : List F) : ∀ b : List F, (addL a b).length = max a.length b.length := by
  induction a with
  | nil => intro b; simp [addL]
  | cons u a ih =>
    intro b; cases b with
    | nil => simp [addL]
    | cons v b => have := ih b; simp only [addL, List.length_cons]; omega
theorem mulLin_length (r : F) (l : List F) : (mulLin r l).length = l.length + 1 := by
  unfold mulLin; rw [addL_length]; simp [smul]
def prodL : Nat → Nat → List F
  | 0, _ => [1]
  | n + 1, i => if n = i then prodL n i else mulLin (phi n) (prodL n i)
theorem hor_prodL (n i : Nat) (x : F) : hor (prodL n i) x = prodEx n i x := by
  induction n with
  | zero => show (1 : F) + x * 0 = 1; rw [mul_zero', add_zero']
  | succ n ih =>
    simp only [prodL, prodEx]; split
    · exact ih
    · rw [hor_mulLin, ih]; grind
theorem prodL_length (n i : Nat) : (prodL n i).length = if i < n then n else n + 1 := by
  induction n with
  | zero => rfl
  | succ n ih =>
    simp only [prodL]; split
    · subst n; rw [ih, if_neg (by omega), if_pos (by omega)]
    · rw [mulLin_length, ih]; split <;> split <;> omega
def lagL (v : List F) (n : Nat) : Nat → List F
  | 0 => []
  | m + 1 => addL (lagL v n m) (smul (atF v m * inv (prodEx n m (phi m))) (prodL n m))
theorem hor_lagL (v : List F) (n m : Nat) (x : F) : hor (lagL v n m) x = lagTo v n m x := by
  induction m with
  | zero => rfl
  | succ m ih => simp only [lagL, lagTo]; rw [hor_addL, hor_smul, ih, hor_prodL]; grind
theorem lagL_length (v : List F) (n : Nat) : ∀ m, m ≤ n → (lagL v n m).length ≤ n
  | 0, _ => by simp [lagL]
  | m + 1, h => by
    have := lagL_length v n m (by omega)
    simp only [lagL]; rw [addL_length]; simp only [smul, List.length_map]; rw [prodL_length, if_pos (by omega)]; omega
theorem phi_diff_ne {i k : Nat} (hi : i < 2305843009213693951) (hk : k < 2305843009213693951) (h : i ≠ k) : phi (i : Int) - phi (k : Int) ≠ 0 := by
  intro h0
  apply h; apply phi_nat_inj hi hk; grind
theorem prodEx_ne (n i : Nat) (hn : n < 2305843009213693951) (hi : i < 2305843009213693951) : prodEx n i (phi i) ≠ 0 := by
  induction n with
  | zero => exact fun h => zero_ne_one h.symm
  | succ n ih =>
    simp only [prodEx]; split
    · exact ih (by omega)
    · exact mul_ne_zero (ih (by omega)) (phi_diff_ne hi (by omega) (fun h => by omega))
theorem prodEx_zero (n i j : Nat) (hj : j < n) (hij : j ≠ i) : prodEx n i (phi j) = 0 := by
  induction n with
  | zero => omega
  | succ n ih =>
    simp only [prodEx]; split
    · exact ih (by omega)
    · by_cases e : j = n
      · subst e
        have : phi (j : Int) - phi (j : Int) = 0 := by grind
        rw [this, mul_zero']
      · rw [ih (by omega), zero_mul']
theorem lagTo_at (v : List F) (n : Nat) (hn : n < 2305843009213693951) (j : Nat) (hj : j < n) : ∀ m, m ≤ n → lagTo v n m (phi j) = if j < m then atF v j else 0
  | 0, _ => by simp [lagTo]
  | m + 1, h => by
    have ih := lagTo_at v n hn j hj m (by omega)
    simp only [lagTo]; rw [ih]
    by_cases e : j = m
    · subst e
      rw [if_neg (by omega), if_pos (by omega)]
      have := mul_inv _ (prodEx_ne n j hn (by omega))
      generalize prodEx n j (phi j) = a at *; generalize inv a = b at *; generalize atF v j = c
      grind
    · rw [prodEx_zero n m j hj e]
      by_cases h2 : j < m
      · rw [if_pos h2, if_pos (by omega)]; grind
      · rw [if_neg h2, if_neg (by omega), mul_zero', zero_mul', add_zero']
/-- LAGRANGE's polynomial has the values -/
theorem lag_at (v : List F) (hv : v.length < 2305843009213693951) (j : Nat) (hj : j < v.length) : lag v (phi j) = atF v j := by
  unfold lag; rw [lagTo_at v _ hv j hj _ (Nat.le_refl _), if_pos hj]
/-- whatever few coefficients tell the values, they tell LAGRANGE's polynomial -/
theorem hor_lag (v l : List F) (hv : v.length < 2305843009213693951) (hl : l.length ≤ v.length) (h : ∀ i : Nat, i < v.length → hor l (phi i) = atF v i) (x : F) : hor l x = lag v x := by
  unfold lag; rw [← hor_lagL]
  refine same_everywhere v.length hv l _ hl (lagL_length v _ _ (Nat.le_refl _)) ?_ x
  intro i hi
  rw [h i hi, hor_lagL]
  exact (lag_at v hv i hi).symm

/-! NEWTON -/
/-- all x - k, k below n, multiplied -/
def prodTo : Nat → F → F
  | 0, _ => 1
  | n + 1, x => prodTo n x * (x - phi n)
theorem prodTo_ne (n i : Nat) (hn : n ≤ i) (hi : i < 2305843009213693951) : prodTo n (phi i) ≠ 0 := by
  induction n with
  | zero => exact fun h => zero_ne_one h.symm
  | succ n ih => exact mul_ne_zero (ih (by omega)) (phi_diff_ne hi (by omega) (by omega))
theorem prodTo_zero (n j : Nat) (hj : j < n) : prodTo n (phi j) = 0 := by
  induction n with
  | zero => omega
  | succ n ih =>
    simp only [prodTo]
    by_cases e : j = n
    · subst e
      have : phi (j : Int) - phi (j : Int) = 0 := by grind
      rw [this, mul_zero']
    · rw [ih (by omega), zero_mul']
/-- by index -/
theorem hor_ext (l m : List F) (x : F) (hlen : l.length = m.length) (h : ∀ k, k < l.length → atF l k = atF m k) : hor l x = hor m x := by
  have : l = m := by
    apply List.ext_getElem? ; intro k
    by_cases hk : k < l.length
    · have := h k hk
      simp only [atF, List.getElem?_eq_getElem hk, List.getElem?_eq_getElem (hlen ▸ hk : k < m.length), Option.getD_some] at this
      rw [List.getElem?_eq_getElem hk, List.getElem?_eq_getElem (hlen ▸ hk : k < m.length), this]
    · rw [List.getElem?_eq_none (by omega), List.getElem?_eq_none (by omega)]
  rw [this]
/-- the value by powers -/
def horTo (f : Nat → F) : Nat → F → F
  | 0, _ => 0
  | n + 1, x => horTo f n x + x ^ n * f n
theorem hor_horTo (l : List F) (x : F) : hor l x = horTo (atF l) l.length x := by
  have : ∀ k, k ≤ l.length → hor (l.take k) x = horTo (atF l) k x := by
    intro k
    induction k with
    | zero => intro _; simp [hor_nil, horTo]
    | succ k ih =>
      intro hk
      have e : l.take (k + 1) = l.take k ++ [atF l k] := by
        rw [List.take_succ_eq_append_getElem (by omega), atF, List.getElem?_eq_getElem (by omega)]; rfl
      rw [e, hor_append, ih (by omega), List.length_take, Nat.min_eq_left (by omega)]
      simp only [horTo, hor_cons, hor_nil]; grind
  have := this l.length (Nat.le_refl _)
  rwa [List.take_of_length_le (Nat.le_refl _)] at this
theorem horTo_congr (f g : Nat → F) (n : Nat) (x : F) (h : ∀ k, k < n → f k = g k) : horTo f n x = horTo g n x := by
  induction n with
  | zero => rfl
  | succ n ih => simp only [horTo]; rw [ih (fun k hk => h k (by omega)), h n (by omega)]
theorem horTo_lin (f g : Nat → F) (c : F) (n : Nat) (x : F) : horTo (fun k => f k + c * g k) n x = horTo f n x + c * horTo g n x := by
  induction n with
  | zero => simp only [horTo]; rw [mul_zero', add_zero']
  | succ n ih => simp only [horTo]; rw [ih]; grind
theorem horTo_tail (f : Nat → F) (m n : Nat) (x : F) (hmn : m ≤ n) (h : ∀ k, m ≤ k → k < n → f k = 0) : horTo f n x = horTo f m x := by
  induction n with
  | zero => obtain rfl : m = 0 := by omega
            rfl
  | succ n ih =>
    by_cases e : m = n + 1
    · subst e; rfl
    · simp only [horTo]; rw [h n (by omega) (by omega), ih (by omega) (fun k h1 h2 => h k h1 (by omega))]; grind
/-- f moved up by one place, less r times f -/
theorem horTo_shift (f : Nat → F) (r : F) (n : Nat) (x : F) (h : f n = 0) :
    horTo (fun k => f k * (0 - r) + (if k = 0 then 0 else f (k - 1))) (n + 1) x = (x - r) * horTo f (n + 1) x := by
  have key : ∀ m, horTo (fun k => f k * (0 - r) + (if k = 0 then 0 else f (k - 1))) (m + 1) x = (x - r) * horTo f (m + 1) x - x ^ (m + 1) * f m := by
    intro m
    induction m with
    | zero => simp only [horTo, pow_succ', pow_zero']; grind
    | succ m ih =>
      rw [horTo, ih]
      simp only [horTo, pow_succ']
      rw [if_neg (by omega), Nat.add_sub_cancel]
      generalize horTo f m x = u; generalize x ^ m = y; generalize f m = a; generalize f (m + 1) = b
      grind
  rw [key n, h]; grind
end Tally
/- Plain law: the numbers of Eq; tables and what they are between; no program in sight, no condition. -/
namespace Tally
set_option maxRecDepth 100000
set_option linter.unusedVariables false

/-- of a point turned round, at b -/
def eqR : List F → Nat → F
  | [], _ => 1
  | x :: r, b => (if b % 2 = 1 then x else 1 - x) * eqR r (b / 2)
/-- Eq of a point at b -/
def eqAt (p : List F) (b : Nat) : F := eqR p.reverse b
/-- Eq's step: each number twice -/
def eqStep (o : List F) (x : F) : List F := o.flatMap fun v => [v * (1 - x), v * x]
/-- all numbers of Eq -/
def eqs (p : List F) : List F := p.foldl eqStep [1]

theorem eqAt_nil (b : Nat) : eqAt [] b = 1 := rfl
theorem eqAt_snoc (p : List F) (x : F) (b : Nat) : eqAt (p ++ [x]) b = (if b % 2 = 1 then x else 1 - x) * eqAt p (b / 2) := by
  unfold eqAt; rw [List.reverse_append]; rfl
theorem eqs_snoc (p : List F) (x : F) : eqs (p ++ [x]) = eqStep (eqs p) x := by
  unfold eqs; rw [List.foldl_append]; rfl
theorem eqStep_length (o : List F) (x : F) : (eqStep o x).length = 2 * o.length := by
  unfold eqStep
  induction o with
  | nil => rfl
  | cons a o ih => simp only [List.flatMap_cons, List.length_append, List.length_cons, List.length_nil] at *; omega
theorem eqStep_get (o : List F) (x : F) (b : Nat) : (eqStep o x)[b]? = (o[b / 2]?).map (fun v => if b % 2 = 1 then v * x else v * (1 - x)) := by
  unfold eqStep
  induction o generalizing b with
  | nil => simp
  | cons a o ih =>
    match b with
    | 0 => simp
    | 1 => simp
    | b + 2 =>
      have e1 : (b + 2) / 2 = b / 2 + 1 := by omega
      have e2 : (b + 2) % 2 = b % 2 := by omega
      rw [e1, e2]
      simp only [List.flatMap_cons, List.cons_append, List.nil_append, List.getElem?_cons_succ]
      exact ih b
theorem snoc_ind {Q : List F → Prop} (h0 : Q []) (h1 : ∀ p x, Q p → Q (p ++ [x])) (p : List F) : Q p := by
  have : ∀ r : List F, Q r.reverse := by
    intro r
    induction r with
    | nil => exact h0
    | cons a r ih => rw [List.reverse_cons]; exact h1 _ _ ih
  have h := this p.reverse
  rwa [List.reverse_reverse] at h
theorem eqs_length (p : List F) : (eqs p).length = 2 ^ p.length := by
  refine snoc_ind (Q := fun p => (eqs p).length = 2 ^ p.length) rfl ?_ p
  intro p x ih
  rw [eqs_snoc, eqStep_length, ih, List.length_append, List.length_singleton, Nat.pow_succ]; omega
theorem eqs_get (p : List F) (b : Nat) (h : b < 2 ^ p.length) : (eqs p)[b]? = some (eqAt p b) := by
  revert b
  refine snoc_ind (Q := fun p => ∀ b, b < 2 ^ p.length → (eqs p)[b]? = some (eqAt p b)) ?_ ?_ p
  · intro b hb
    have : b = 0 := by simpa using hb
    subst this; rfl
  · intro p x ih b hb
    rw [List.length_append, List.length_singleton, Nat.pow_succ] at hb
    rw [eqs_snoc, eqStep_get, ih (b / 2) (by omega), eqAt_snoc]
    simp only [Option.map_some]
    split <;> (congr 1; grind)
theorem take_snoc {α : Type} (l : List α) (k : Nat) (d : α) (h : k < l.length) : l.take (k + 1) = l.take k ++ [l[k]?.getD d] := by
  rw [List.take_succ_eq_append_getElem h, List.getElem?_eq_getElem h]; rfl
end Tally
/- Plain law: tables fixed variable by variable are what they are between; sums of products; no program in sight, no condition. -/
namespace Tally
set_option maxRecDepth 100000
set_option linter.unusedVariables false
/-- between two numbers -/
def btw (a b x : F) : F := a + x * (b - a)
/-- the first variable at x -/
def fixF (t : List F) (x : F) : List F := (List.range (t.length / 2)).map fun i => btw (atF t i) (atF t (i + t.length / 2)) x
/-- the first variables at some numbers -/
def fixes (t p : List F) : List F := p.foldl fixF t
def evalF (t p : List F) : F := atF (fixes t p) 0
theorem one_mul' (a : F) : 1 * a = a := by grind
theorem mul_one' (a : F) : a * 1 = a := by grind
theorem sub_zero' (a : F) : a - 0 = a := by grind
theorem sub_self' (a : F) : a - a = 0 := by grind
theorem zero_add' (a : F) : 0 + a = a := by grind
/-- a sum -/
def sumTo (f : Nat → F) : Nat → F
  | 0 => 0
  | n + 1 => sumTo f n + f n
theorem sumTo_congr {f g : Nat → F} {n : Nat} (h : ∀ k, k < n → f k = g k) : sumTo f n = sumTo g n := by
  induction n with
  | zero => rfl
  | succ n ih => simp only [sumTo]; rw [ih (fun k hk => h k (by omega)), h n (by omega)]
theorem sumTo_add (f g : Nat → F) (n : Nat) : sumTo (fun k => f k + g k) n = sumTo f n + sumTo g n := by
  induction n with
  | zero => simp only [sumTo]; exact (by decide : (0 : F) = 0 + 0)
  | succ n ih => simp only [sumTo]; rw [ih]; grind
theorem sumTo_mul (c : F) (f : Nat → F) (n : Nat) : sumTo (fun k => c * f k) n = c * sumTo f n := by
  induction n with
  | zero => simp only [sumTo]; rw [mul_zero']
  | succ n ih => simp only [sumTo]; rw [ih]; grind
theorem sumTo_zero (f : Nat → F) (n : Nat) (h : ∀ k, k < n → f k = 0) : sumTo f n = 0 := by
  induction n with
  | zero => rfl
  | succ n ih => simp only [sumTo]; rw [ih (fun k hk => h k (by omega)), h n (by omega)]; exact (by decide : (0 : F) + 0 = 0)
theorem sumTo_split (f : Nat → F) (m n : Nat) : sumTo f (m + n) = sumTo f m + sumTo (fun k => f (k + m)) n := by
  induction n with
  | zero => simp only [sumTo, Nat.add_zero]; rw [add_zero']
  | succ n ih => rw [← Nat.add_assoc]; simp only [sumTo]; rw [ih, Nat.add_comm n m]; grind
theorem sumTo_one (f : Nat → F) (n i : Nat) (hi : i < n) (h : ∀ k, k < n → k ≠ i → f k = 0) : sumTo f n = f i := by
  induction n with
  | zero => omega
  | succ n ih =>
    simp only [sumTo]
    by_cases e : i = n
    · subst e
      rw [sumTo_zero f i (fun k hk => h k (by omega) (by omega))]; grind
    · rw [ih (by omega) (fun k hk hne => h k (by omega) hne), h n (by omega) (by omega)]; grind
theorem sumTo_swap (f : Nat → Nat → F) (m n : Nat) : sumTo (fun a => sumTo (f a) n) m = sumTo (fun b => sumTo (fun a => f a b) m) n := by
  induction m with
  | zero => simp only [sumTo]; rw [sumTo_zero _ _ (fun k _ => rfl)]
  | succ m ih => simp only [sumTo]; rw [ih, ← sumTo_add]

theorem fixF_length (t : List F) (x : F) : (fixF t x).length = t.length / 2 := by simp [fixF]
theorem fixF_at (t : List F) (x : F) (i : Nat) (h : i < t.length / 2) : atF (fixF t x) i = btw (atF t i) (atF t (i + t.length / 2)) x := by
  simp [fixF, atF, h]
theorem fixes_nil (t : List F) : fixes t [] = t := rfl
theorem fixes_cons (t : List F) (x : F) (p : List F) : fixes t (x :: p) = fixes (fixF t x) p := rfl
theorem fixes_append (t p q : List F) : fixes t (p ++ q) = fixes (fixes t p) q := by unfold fixes; rw [List.foldl_append]
theorem fixes_snoc (t p : List F) (x : F) : fixes t (p ++ [x]) = fixF (fixes t p) x := fixes_append t p [x]
theorem fixes_length (t p : List F) (n : Nat) (h : t.length = 2 ^ (p.length + n)) : (fixes t p).length = 2 ^ n := by
  induction p generalizing t with
  | nil => rw [fixes_nil]; simpa using h
  | cons x p ih =>
    rw [fixes_cons]
    refine ih _ ?_
    rw [fixF_length, h, List.length_cons, show p.length + 1 + n = (p.length + n) + 1 by omega, Nat.pow_succ]; omega
theorem eqAt_cons (x : F) (p : List F) (b : Nat) (h : b < 2 ^ (p.length + 1)) : eqAt (x :: p) b = (if b < 2 ^ p.length then 1 - x else x) * eqAt p (b % 2 ^ p.length) := by
  revert b
  refine snoc_ind (Q := fun p => ∀ b, b < 2 ^ (p.length + 1) → eqAt (x :: p) b = (if b < 2 ^ p.length then 1 - x else x) * eqAt p (b % 2 ^ p.length)) ?_ ?_ p
  · intro b hb
    have hb' : b = 0 ∨ b = 1 := by simp at hb; omega
    rcases hb' with rfl | rfl <;> simp [eqAt, eqR]
  · intro p y ih b hb
    rw [List.length_append, List.length_singleton] at hb ⊢
    have hb2 : b < 2 ^ (p.length + 1) * 2 := by rw [Nat.pow_succ] at hb; exact hb
    rw [← List.cons_append, eqAt_snoc, eqAt_snoc, ih (b / 2) (by omega)]
    have e1 : b % 2 ^ (p.length + 1) % 2 = b % 2 := by
      rw [Nat.pow_succ, Nat.mul_comm, Nat.mod_mul_right_mod]
    have e2 : b % 2 ^ (p.length + 1) / 2 = b / 2 % 2 ^ p.length := by
      rw [Nat.pow_succ, Nat.mul_comm, Nat.mod_mul_right_div_self]
    have e3 : (b / 2 < 2 ^ p.length) ↔ (b < 2 ^ (p.length + 1)) := by rw [Nat.pow_succ]; omega
    rw [e1, e2]; simp only [e3]; split <;> grind
/-- the reference's value -/
def dotEq (t p : List F) : F := sumTo (fun b => atF t b * eqAt p b) t.length
theorem dotEq_cons (t : List F) (x : F) (p : List F) (h : t.length = 2 ^ (p.length + 1)) : dotEq t (x :: p) = dotEq (fixF t x) p := by
  have hh : t.length / 2 = 2 ^ p.length := by rw [h, Nat.pow_succ]; omega
  unfold dotEq
  rw [fixF_length, hh, h, Nat.pow_succ, Nat.mul_two, sumTo_split, ← sumTo_add]
  refine sumTo_congr fun k hk => ?_
  rw [fixF_at t x k (by omega), hh, eqAt_cons x p k (by rw [Nat.pow_succ]; omega), eqAt_cons x p (k + 2 ^ p.length) (by rw [Nat.pow_succ]; omega)]
  rw [if_pos hk, if_neg (by omega), Nat.mod_eq_of_lt hk, Nat.add_mod_right, Nat.mod_eq_of_lt hk]
  unfold btw; grind
theorem eval_dot (t p : List F) (h : t.length = 2 ^ p.length) : evalF t p = dotEq t p := by
  induction p generalizing t with
  | nil =>
    have h1 : t.length = 1 := by simpa using h
    unfold evalF dotEq; rw [h1]; simp only [fixes_nil, sumTo, eqAt_nil]; grind
  | cons x p ih =>
    have h' : t.length = 2 ^ (p.length + 1) := by simpa using h
    rw [dotEq_cons t x p h', ← ih (fixF t x) (by rw [fixF_length, h', Nat.pow_succ]; omega)]; rfl
theorem sum_eqs (p : List F) : sumTo (eqAt p) (2 ^ p.length) = 1 := by
  induction p with
  | nil => show sumTo (eqAt []) 1 = 1; simp only [sumTo, eqAt_nil]; exact (by decide : (0 : F) + 1 = 1)
  | cons x p ih =>
    rw [List.length_cons, Nat.pow_succ, Nat.mul_two, sumTo_split]
    rw [sumTo_congr (f := eqAt (x :: p)) (g := fun b => (1 - x) * eqAt p b) (n := 2 ^ p.length) (fun k hk => by rw [eqAt_cons x p k (by rw [Nat.pow_succ]; omega), if_pos hk, Nat.mod_eq_of_lt hk])]
    rw [sumTo_congr (f := fun k => eqAt (x :: p) (k + 2 ^ p.length)) (g := fun b => x * eqAt p b) (n := 2 ^ p.length) (fun k hk => by rw [eqAt_cons x p _ (by rw [Nat.pow_succ]; omega), if_neg (by omega), Nat.add_mod_right, Nat.mod_eq_of_lt hk])]
    rw [sumTo_mul, sumTo_mul, ih]; grind
/-- bits of b, the highest first -/
def bitsF (b : Nat) : Nat → List F
  | 0 => []
  | n + 1 => bitsF (b / 2) n ++ [if b % 2 = 1 then 1 else 0]
theorem bitsF_length (b n : Nat) : (bitsF b n).length = n := by
  induction n generalizing b with
  | zero => rfl
  | succ n ih => simp [bitsF, ih]
theorem eqAt_bits (b c n : Nat) (hb : b < 2 ^ n) (hc : c < 2 ^ n) : eqAt (bitsF b n) c = if b = c then 1 else 0 := by
  induction n generalizing b c with
  | zero => have : b = c := by simp at hb hc; omega
            rw [if_pos this]; rfl
  | succ n ih =>
    rw [Nat.pow_succ] at hb hc
    rw [bitsF, eqAt_snoc, ih (b / 2) (c / 2) (by omega) (by omega)]
    by_cases e : b = c
    · subst e; rw [if_pos rfl, if_pos rfl]
      split
      · exact one_mul' 1
      · rw [sub_zero']; exact one_mul' 1
    · rw [if_neg e]
      by_cases e2 : b / 2 = c / 2
      · rw [if_pos e2]
        have : b % 2 ≠ c % 2 := by omega
        by_cases hc2 : c % 2 = 1
        · rw [if_pos hc2, if_neg (by omega)]; exact zero_mul' _
        · rw [if_neg hc2, if_pos (by omega), sub_self']; exact zero_mul' _
      · rw [if_neg e2]; exact mul_zero' _
theorem eval_bits (t : List F) (b n : Nat) (h : t.length = 2 ^ n) (hb : b < 2 ^ n) : evalF t (bitsF b n) = atF t b := by
  rw [eval_dot t _ (by rw [bitsF_length]; exact h)]
  unfold dotEq
  rw [h, sumTo_one _ (2 ^ n) b hb]
  · rw [eqAt_bits b b n hb hb, if_pos rfl]; exact mul_one' _
  · intro k hk hne; rw [eqAt_bits b k n hb hk, if_neg (fun e => hne e.symm)]; exact mul_zero' _
theorem eval_ahead (t p : List F) (b n : Nat) (h : t.length = 2 ^ (p.length + n)) (hb : b < 2 ^ n) : evalF t (p ++ bitsF b n) = atF (fixes t p) b := by
  rw [← eval_bits (fixes t p) b n (fixes_length t p n h) hb]
  unfold evalF; rw [fixes_append]
/-- the product of the tables' numbers at b -/
def prodAt (l : List (List F)) (b : Nat) : F := l.foldl (fun p t => p * atF t b) 1
/-- the sum of all products -/
def claimF (l : List (List F)) (n : Nat) : F := sumTo (prodAt l) n
theorem prodAt_snoc (l : List (List F)) (t : List F) (b : Nat) : prodAt (l ++ [t]) b = prodAt l b * atF t b := by
  unfold prodAt; rw [List.foldl_append]; rfl
end Tally
/- Plain law: functions that are polynomials of a degree at most; tables along a line; four tables that are fixed together; no program in sight, no condition. -/
namespace Tally
set_option maxRecDepth 100000
set_option linter.unusedVariables false
/-- a polynomial of at most n + 1 coefficients -/
def Deg (n : Nat) (f : F → F) : Prop := ∃ l : List F, l.length ≤ n + 1 ∧ ∀ x, f x = hor l x
theorem Deg.const (n : Nat) (c : F) : Deg n (fun _ => c) := ⟨[c], by simp, fun x => by rw [hor_cons, hor_nil]; grind⟩
theorem Deg.mono {m n : Nat} {f : F → F} (h : Deg m f) (hmn : m ≤ n) : Deg n f :=
  let ⟨l, h1, h2⟩ := h
  ⟨l, by omega, h2⟩
theorem Deg.congr {n : Nat} {f g : F → F} (h : Deg n f) (e : ∀ x, g x = f x) : Deg n g :=
  let ⟨l, h1, h2⟩ := h
  ⟨l, h1, fun x => by rw [e, h2]⟩
theorem Deg.add {n : Nat} {f g : F → F} (h : Deg n f) (k : Deg n g) : Deg n (fun x => f x + g x) := by
  obtain ⟨l, h1, h2⟩ := h
  obtain ⟨m, k1, k2⟩ := k
  exact ⟨addL l m, by rw [addL_length]; omega, fun x => by show f x + g x = _; rw [hor_addL, h2, k2]⟩
theorem Deg.scale {n : Nat} {f : F → F} (c : F) (h : Deg n f) : Deg n (fun x => c * f x) := by
  obtain ⟨l, h1, h2⟩ := h
  exact ⟨smul c l, by simpa [smul] using h1, fun x => by show c * f x = _; rw [hor_smul, h2]⟩
theorem Deg.lin {n : Nat} {f : F → F} (a c : F) (h : Deg n f) : Deg (n + 1) (fun x => (a + x * c) * f x) := by
  obtain ⟨l, h1, h2⟩ := h
  refine ⟨addL (smul a l) (0 :: smul c l), by rw [addL_length]; simp [smul]; omega, fun x => ?_⟩
  show (a + x * c) * f x = _
  rw [hor_addL, hor_cons, hor_smul, hor_smul, h2]; grind
theorem Deg.sum {n : Nat} (f : Nat → F → F) (m : Nat) (h : ∀ k, k < m → Deg n (f k)) : Deg n (fun x => sumTo (fun k => f k x) m) := by
  induction m with
  | zero => exact Deg.const n 0
  | succ m ih => exact (ih (fun k hk => h k (by omega))).add (h m (by omega))
/-- who has its values is it -/
theorem Deg.lag {n : Nat} {f : F → F} (h : Deg n f) (v : List F) (hv : v.length = n + 1) (hn : n < 1000) (he : ∀ i, i < n + 1 → atF v i = f (phi i)) (x : F) : lag v x = f x := by
  obtain ⟨l, h1, h2⟩ := h
  rw [h2, hor_lag v l (by omega) (by omega) (fun i hi => by rw [he i (by omega), h2])]
/-- places along a line from x to y -/
def lineF (x y : List F) (t : F) : List F := List.zipWith (fun a b => btw a b t) x y
theorem lineF_length (x y : List F) (t : F) (h : y.length = x.length) : (lineF x y t).length = x.length := by
  unfold lineF; rw [List.length_zipWith, h, Nat.min_self]
theorem lineF_at (x y : List F) (t : F) (i : Nat) (hx : i < x.length) (hy : i < y.length) : atF (lineF x y t) i = btw (atF x i) (atF y i) t := by
  simp [lineF, atF, List.getElem?_zipWith, List.getElem?_eq_getElem hx, List.getElem?_eq_getElem hy]
theorem btw_zero' (a b : F) : btw a b 0 = a := by unfold btw; grind
theorem btw_one' (a b : F) : btw a b 1 = b := by unfold btw; grind
theorem btw_same (a x : F) : btw a a x = a := by unfold btw; grind
theorem lineF_zero (x : List F) : ∀ y : List F, y.length = x.length → lineF x y 0 = x := by
  induction x with
  | nil => intro y _; rfl
  | cons a x ih =>
    intro y h
    match y, h with
    | b :: y, h => show btw a b 0 :: lineF x y 0 = _; rw [btw_zero', ih y (by simpa using h)]
theorem lineF_one (x : List F) : ∀ y : List F, y.length = x.length → lineF x y 1 = y := by
  induction x with
  | nil => intro y h; exact (List.eq_nil_of_length_eq_zero h).symm
  | cons a x ih =>
    intro y h
    match y, h with
    | b :: y, h => show btw a b 1 :: lineF x y 1 = _; rw [btw_one', ih y (by simpa using h)]
theorem Deg.btw {n : Nat} {f g : F → F} (a b : F) (hf : Deg n f) (hg : Deg n g) : Deg (n + 1) (fun t => Tally.btw (f t) (g t) (Tally.btw a b t)) := by
  have h1 := hf.mono (Nat.le_succ n)
  have h2 := Deg.lin a (b - a) (hg.add (hf.scale (-1)))
  refine (h1.add h2).congr fun t => ?_
  unfold Tally.btw; grind
/-- a table's value along a line -/
theorem deg_eval (xs : List F) : ∀ (ys : List F) (n : Nat) (V : F → List F), ys.length = xs.length → (∀ t, (V t).length = 2 ^ xs.length) → (∀ i, Deg n (fun t => atF (V t) i)) → Deg (n + xs.length) (fun t => evalF (V t) (lineF xs ys t)) := by
  induction xs with
  | nil => intro ys n V _ _ h; exact h 0
  | cons x xs ih =>
    intro ys n V hl hV h
    match ys, hl with
    | y :: ys, hl =>
      have hh : ∀ t, (V t).length / 2 = 2 ^ xs.length := fun t => by rw [hV t, List.length_cons, Nat.pow_succ]; omega
      have h2 := ih ys (n + 1) (fun t => fixF (V t) (Tally.btw x y t)) (by simpa using hl) (fun t => by rw [fixF_length, hh]) (fun i => ?_)
      · rw [List.length_cons, show n + (xs.length + 1) = n + 1 + xs.length by omega]
        exact h2
      · by_cases hi : i < 2 ^ xs.length
        · refine (Deg.btw x y (h i) (h (i + 2 ^ xs.length))).congr fun t => ?_
          rw [fixF_at _ _ _ (by rw [hh]; exact hi), hh]
        · refine (Deg.const (n + 1) 0).congr fun t => ?_
          have : (fixF (V t) (Tally.btw x y t))[i]? = none := List.getElem?_eq_none (by rw [fixF_length, hh]; omega)
          simp [atF, this]
theorem deg_line (V xs ys : List F) (hl : ys.length = xs.length) (hV : V.length = 2 ^ xs.length) : Deg xs.length (fun t => evalF V (lineF xs ys t)) := by
  have := deg_eval xs ys 0 (fun _ => V) hl (fun _ => hV) (fun i => Deg.const 0 _)
  rwa [Nat.zero_add] at this
/-- the values of a table along a line, at 0, 1, .., k -/
def partL (V x y : List F) : List F := (List.range (x.length + 1)).map fun (t : Nat) => evalF V (lineF x y (phi t))
theorem partL_length (V x y : List F) : (partL V x y).length = x.length + 1 := by simp [partL]
theorem partL_at (V x y : List F) (t : Nat) (h : t < x.length + 1) : atF (partL V x y) t = evalF V (lineF x y (phi t)) := by simp [partL, atF, h]
theorem lag_partL (V x y : List F) (hl : y.length = x.length) (hV : V.length = 2 ^ x.length) (hk : x.length < 1000) (t : F) : lag (partL V x y) t = evalF V (lineF x y t) :=
  (deg_line V x y hl hV).lag _ (partL_length V x y) hk (fun i hi => partL_at V x y i hi) t

/-- four tables: what is added, what is multiplied, by x and y -/
structure Tb where
  a : List F
  m : List F
  x : List F
  y : List F
def Tb.fix (T : Tb) (u : F) : Tb := ⟨fixF T.a u, fixF T.m u, fixF T.x u, fixF T.y u⟩
def Tb.fixes (T : Tb) (p : List F) : Tb := p.foldl Tb.fix T
def Tb.term (T : Tb) (i : Nat) : F := atF T.a i * (atF T.x i + atF T.y i) + atF T.m i * (atF T.x i * atF T.y i)
def Tb.sum (T : Tb) : F := sumTo T.term T.a.length
structure Tb.Len (T : Tb) (N : Nat) : Prop where
  a : T.a.length = N
  m : T.m.length = N
  x : T.x.length = N
  y : T.y.length = N
theorem Tb.Len.fix {T : Tb} {N : Nat} (h : T.Len (2 * N)) (u : F) : (T.fix u).Len N :=
  ⟨by show (fixF _ _).length = _; rw [fixF_length, h.a]; omega, by show (fixF _ _).length = _; rw [fixF_length, h.m]; omega, by show (fixF _ _).length = _; rw [fixF_length, h.x]; omega, by show (fixF _ _).length = _; rw [fixF_length, h.y]; omega⟩
theorem Tb.fixes_eq (T : Tb) (p : List F) : T.fixes p = ⟨Tally.fixes T.a p, Tally.fixes T.m p, Tally.fixes T.x p, Tally.fixes T.y p⟩ := by
  induction p generalizing T with
  | nil => rfl
  | cons u p ih => exact ih (T.fix u)
theorem Tb.fixes_snoc (T : Tb) (p : List F) (u : F) : T.fixes (p ++ [u]) = (T.fixes p).fix u := by unfold Tb.fixes; rw [List.foldl_append]; rfl
theorem Tb.fixes_cons (T : Tb) (p : List F) (u : F) : T.fixes (u :: p) = (T.fix u).fixes p := rfl
theorem Tb.Len.fixes {T : Tb} {m : Nat} (p : List F) (h : T.Len (2 ^ (p.length + m))) : (T.fixes p).Len (2 ^ m) := by
  induction p generalizing T with
  | nil => rw [List.length_nil, Nat.zero_add] at h; exact h
  | cons u p ih =>
    rw [Tb.fixes_cons]
    refine ih (Tb.Len.fix ?_ u)
    rw [List.length_cons, show p.length + 1 + m = (p.length + m) + 1 by omega, Nat.pow_succ, Nat.mul_comm] at h
    exact h
theorem Tb.fix_term {T : Tb} {N : Nat} (h : T.Len (2 * N)) (u : F) (i : Nat) (hi : i < N) :
    (T.fix u).term i = btw (atF T.a i) (atF T.a (i + N)) u * (btw (atF T.x i) (atF T.x (i + N)) u + btw (atF T.y i) (atF T.y (i + N)) u) + btw (atF T.m i) (atF T.m (i + N)) u * (btw (atF T.x i) (atF T.x (i + N)) u * btw (atF T.y i) (atF T.y (i + N)) u) := by
  have e : ∀ l : List F, l.length = 2 * N → atF (fixF l u) i = btw (atF l i) (atF l (i + N)) u := fun l hl => by
    rw [fixF_at l u i (by omega), show l.length / 2 = N by omega]
  show atF (fixF T.a u) i * (atF (fixF T.x u) i + atF (fixF T.y u) i) + atF (fixF T.m u) i * (atF (fixF T.x u) i * atF (fixF T.y u) i) = _
  rw [e _ h.a, e _ h.m, e _ h.x, e _ h.y]
/-- the sum is told by its halves -/
theorem Tb.sum_split {T : Tb} {N : Nat} (h : T.Len (2 * N)) : (T.fix 0).sum + (T.fix 1).sum = T.sum := by
  unfold Tb.sum
  rw [(h.fix 0).a, (h.fix 1).a, h.a, show 2 * N = N + N by omega, sumTo_split]
  congr 1
  · refine sumTo_congr fun i hi => ?_
    rw [Tb.fix_term h 0 i hi]; simp only [btw_zero']; rfl
  · refine sumTo_congr fun i hi => ?_
    rw [Tb.fix_term h 1 i hi]; simp only [btw_one']; rfl
/-- in the first variable x or y alone turns -/
def Tb.Half (T : Tb) (N : Nat) : Prop := ∀ i, i < N → atF T.x i = atF T.x (i + N) ∨ atF T.y i = atF T.y (i + N)
theorem deg_btw (a b : F) : Deg 1 (fun u => btw a b u) := by
  refine (Deg.lin a (b - a) (Deg.const 0 1)).congr fun u => ?_
  unfold btw; grind
theorem Deg.mulBtw {n : Nat} {f : F → F} (a b : F) (h : Deg n f) : Deg (n + 1) (fun u => Tally.btw a b u * f u) :=
  (Deg.lin a (b - a) h).congr fun _ => rfl
theorem Tb.deg {T : Tb} {N : Nat} (h : T.Len (2 * N)) (hh : T.Half N) : Deg 2 (fun u => (T.fix u).sum) := by
  refine (Deg.sum (fun i u => (T.fix u).term i) N (fun i hi => ?_)).congr fun u => by unfold Tb.sum; rw [(h.fix u).a]
  refine Deg.congr ?_ (fun u => Tb.fix_term h u i hi)
  refine (Deg.mulBtw _ _ ((deg_btw _ _).add (deg_btw _ _))).add (Deg.mulBtw _ _ ?_)
  rcases hh i hi with e | e
  · refine ((deg_btw (atF T.y i) (atF T.y (i + N))).scale (atF T.x i)).congr fun u => ?_
    rw [← e, btw_same]
  · refine ((deg_btw (atF T.x i) (atF T.x (i + N))).scale (atF T.y i)).congr fun u => ?_
    rw [← e, btw_same]; grind
/-- what is told in a round: the sums at 0, 1, 2 -/
def Tb.round (T : Tb) : List F := (List.range 3).map fun (v : Nat) => (T.fix (phi v)).sum
theorem Tb.round_length (T : Tb) : T.round.length = 3 := by simp [Tb.round]
theorem Tb.round_at (T : Tb) (v : Nat) (h : v < 3) : atF T.round v = (T.fix (phi v)).sum := by
  unfold Tb.round; simp [atF, h]
theorem Tb.lag_round {T : Tb} {N : Nat} (h : T.Len (2 * N)) (hh : T.Half N) (u : F) : lag T.round u = (T.fix u).sum :=
  (Tb.deg h hh).lag _ T.round_length (by omega) (fun i hi => T.round_at i (by omega)) u
end Tally
