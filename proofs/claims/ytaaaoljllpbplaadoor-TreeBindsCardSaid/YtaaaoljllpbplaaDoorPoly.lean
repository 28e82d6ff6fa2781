/- Plain law: polynomials by their values: HORNER, NEWTON, LAGRANGE; no program in sight, no condition. -/
import Derived.Test.YtaaaoljllpbplaaDoorNum
namespace Tally
set_option maxRecDepth 100000
set_option linter.unusedVariables false

/-- what coefficients tell at a place -/
def hor : List F → F → F
  | [], _ => 0
  | a :: l, x => a + x * hor l x

theorem hor_nil (x : F) : hor [] x = 0 := rfl
theorem hor_cons (a : F) (l : List F) (x : F) : hor (a :: l) x = a + x * hor l x := rfl
theorem hor_append (l m : List F) (x : F) : hor (l ++ m) x = hor l x + x ^ l.length * hor m x := by
  induction l with
  | nil => simp only [List.nil_append, hor_nil, List.length_nil, pow_zero']; grind
  | cons a l ih =>
    simp only [List.cons_append, hor_cons, ih, List.length_cons, pow_succ']
    generalize hor l x = u; generalize hor m x = v; generalize x ^ l.length = y; grind

/-- coefficients, one by one, added -/
def addL : List F → List F → List F
  | [], m => m
  | l, [] => l
  | a :: l, b :: m => (a + b) :: addL l m
def smul (c : F) (l : List F) : List F := l.map (c * ·)
theorem hor_addL (l m : List F) (x : F) : hor (addL l m) x = hor l x + hor m x := by
  induction l generalizing m with
  | nil => simp only [addL, hor_nil]; grind
  | cons a l ih =>
    cases m with
    | nil => simp only [addL, hor_nil]; grind
    | cons b m => simp only [addL, hor_cons, ih]; generalize hor l x = u; generalize hor m x = v; grind
theorem hor_smul (c : F) (l : List F) (x : F) : hor (smul c l) x = c * hor l x := by
  induction l with
  | nil => simp only [smul, List.map_nil, hor_nil]; grind
  | cons a l ih =>
    have ih' : hor (List.map (c * ·) l) x = c * hor l x := ih
    simp only [smul, List.map_cons, hor_cons, ih']; generalize hor l x = u; grind

/-- division by x - r: what is left over is the value at r -/
def quo (r : F) : List F → List F
  | [] => []
  | _ :: l => match l with
    | [] => []
    | _ :: _ => hor l r :: quo r l
theorem quo_length (r : F) : ∀ l : List F, (quo r l).length = l.length - 1
  | [] => rfl
  | [_] => rfl
  | _ :: b :: l => by
    have := quo_length r (b :: l)
    simp only [quo, List.length_cons] at *; omega
theorem mul_zero' (a : F) : a * 0 = 0 := by grind
theorem zero_mul' (a : F) : 0 * a = 0 := by grind
theorem add_zero' (a : F) : a + 0 = a := by grind
theorem hor_quo (r : F) (x : F) : ∀ l : List F, hor l x = hor l r + (x - r) * hor (quo r l) x
  | [] => by show (0 : F) = 0 + (x - r) * 0; rw [mul_zero', add_zero']
  | [a] => by show a + x * 0 = a + r * 0 + (x - r) * 0; grind
  | a :: b :: l => by
    have ih := hor_quo r x (b :: l)
    have e : quo r (a :: b :: l) = hor (b :: l) r :: quo r (b :: l) := rfl
    rw [e, hor_cons a, hor_cons a, hor_cons (hor (b :: l) r)]
    generalize hor (b :: l) x = u at *; generalize hor (b :: l) r = v at *; generalize hor (quo r (b :: l)) x = q at *
    grind
/-- fewer coefficients than noughts: it is nought everywhere -/
theorem few_roots : ∀ (n : Nat) (l : List F) (rs : List F), l.length ≤ n → rs.length = n → rs.Nodup → (∀ r ∈ rs, hor l r = 0) → ∀ x, hor l x = 0 := by
  intro n
  induction n with
  | zero =>
    intro l rs hl _ _ _ x
    have : l = [] := List.length_eq_zero_iff.mp (by omega)
    subst this; rfl
  | succ n ih =>
    intro l rs hl hrs hnd hr x
    match rs, hrs, hnd, hr with
    | r :: rs, hrs, hnd, hr =>
      have hr0 := hr r (by simp)
      have key : ∀ y, hor l y = (y - r) * hor (quo r l) y := by
        intro y; rw [hor_quo r y l, hr0]; grind
      have hq : ∀ y, hor (quo r l) y = 0 := by
        refine ih (quo r l) rs (by rw [quo_length]; omega) (by simpa using hrs) (List.nodup_cons.mp hnd).2 ?_
        intro s hs
        have h1 := hr s (by simp [hs])
        rw [key s] at h1
        rcases mul_eq_zero h1 with h | h
        · exfalso
          have : s = r := by grind
          subst this; exact (List.nodup_cons.mp hnd).1 hs
        · exact h
      rw [key x, hq x]; grind
theorem phi_nat_inj {i j : Nat} (hi : i < 2305843009213693951) (hj : j < 2305843009213693951) (h : phi (i : Int) = phi (j : Int)) : i = j := by
  have := phi_eq_iff.mp h
  have e : P = 2305843009213693951 := rfl
  rw [e] at this; omega
theorem places_nodup (n : Nat) (hn : n < 2305843009213693951) : ((List.range n).map fun i : Nat => phi (i : Int)).Nodup := by
  rw [List.nodup_iff_pairwise_ne, List.pairwise_map]
  refine List.Pairwise.imp_of_mem ?_ (List.nodup_iff_pairwise_ne.mp List.nodup_range)
  intro a b ha hb hab h
  exact hab (phi_nat_inj (by have := List.mem_range.mp ha; omega) (by have := List.mem_range.mp hb; omega) h)
/-- two lists of n coefficients that tell the same at 0 .. n-1 tell the same everywhere -/
theorem same_everywhere (n : Nat) (hn : n < 2305843009213693951) (l m : List F) (hl : l.length ≤ n) (hm : m.length ≤ n) (h : ∀ i : Nat, i < n → hor l (phi i) = hor m (phi i)) (x : F) : hor l x = hor m x := by
  have hadd : (addL l (smul (-1) m)).length ≤ n := by
    have : ∀ (a b : List F), (addL a b).length ≤ max a.length b.length := by
      intro a
      induction a with
      | nil => intro b; simp [addL]
      | cons u a ih =>
        intro b; cases b with
        | nil => simp [addL]
        | cons v b => have := ih b; simp only [addL, List.length_cons]; omega
    have := this l (smul (-1) m)
    simp only [smul, List.length_map] at this ⊢; omega
  have h0 := few_roots n (addL l (smul (-1) m)) ((List.range n).map fun i : Nat => phi (i : Int)) hadd (by simp) (places_nodup n hn) (by
    intro r hr
    obtain ⟨i, hi, rfl⟩ := List.mem_map.mp hr
    rw [hor_addL, hor_smul, h i (List.mem_range.mp hi)]; grind) x
  rw [hor_addL, hor_smul] at h0
  grind
end Tally
