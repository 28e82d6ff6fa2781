/- Plain law: LAGRANGE's polynomials of sums, and with one value more; and a number. No condition. -/
import Derived.Test.YtbfgmobkmeonfaaLag
namespace Tally
theorem lag_hor (v : List F) (x : F) : lag v x = hor (lagL v v.length v.length) x := (hor_lagL v v.length v.length x).symm
theorem lag_add (v w : List F) (hl : v.length = w.length) (hv : v.length < 2305843009213693951) (s : List F) (hs : s.length = v.length) (h : ∀ i, i < v.length → atF s i = atF v i + atF w i) (x : F) : lag s x = lag v x + lag w x := by
  rw [lag_hor v, lag_hor w, ← hor_addL]
  symm
  refine hor_lag s _ (by omega) ?_ ?_ x
  · rw [addL_length]
    have h1 := lagL_length v v.length v.length (Nat.le_refl _)
    have h2 := lagL_length w w.length w.length (Nat.le_refl _)
    omega
  · intro i hi
    rw [hor_addL, ← lag_hor, ← lag_hor, h i (by omega), lag_at v hv i (by omega), lag_at w (by omega) i (by omega)]
theorem lag_more (v : List F) (hv : v.length + 1 < 2305843009213693951) (x : F) : lag (v ++ [lag v (phi v.length)]) x = lag v x := by
  rw [lag_hor v x]
  symm
  refine hor_lag (v ++ [lag v (phi v.length)]) _ (by simp; omega) ?_ ?_ x
  · have h1 := lagL_length v v.length v.length (Nat.le_refl _)
    simp; omega
  · intro i hi
    rw [← lag_hor]
    simp only [List.length_append, List.length_cons, List.length_nil] at hi
    by_cases e : i < v.length
    · rw [lag_at v (by omega) i e]; simp [atF, List.getElem?_append_left e]
    · obtain rfl : i = v.length := by omega
      simp [atF]
theorem lag_125 : lag [1, 2, 5] 3 = 10 := by
  have h := hor_lag [1, 2, 5] [1, 0, 1] (by decide) (by decide) (by
    intro i hi
    have : i = 0 ∨ i = 1 ∨ i = 2 := by simp at hi; omega
    rcases this with rfl | rfl | rfl
    · decide
    · decide
    · decide) 3
  rw [← h]; decide
end Tally
