/- The walks of package mle: Vars, Sum, Between, fix, Fix, Eval. The table of bits lies as its initialiser lays it; the lists are slices of 64-bit numbers. -/
import Derived.Test.YtopmlieadcpdmaaDoorTZ
import Derived.Test.YtopmlieadcpdmaaDoorEq
import Derived.Test.YtopmlieadcpdmaaDoorPoly
import Derived.StillTailTactics
import Derived.IntWalk
namespace Go.Proofs.YtopmlieadcpdmaaDoor
set_option maxRecDepth 100000
set_option linter.unusedVariables false
open Go.RowKit Tally
theorem ctz_pow (n : Nat) (h : n ≤ 8) : Lib.ctz 64 (2 ^ n) = n := by
  have : n = 0 ∨ n = 1 ∨ n = 2 ∨ n = 3 ∨ n = 4 ∨ n = 5 ∨ n = 6 ∨ n = 7 ∨ n = 8 := by omega
  rcases this with rfl | rfl | rfl | rfl | rfl | rfl | rfl | rfl | rfl <;> decide
theorem pow_le8 {n : Nat} (h : n ≤ 8) : 1 ≤ 2 ^ n ∧ 2 ^ n ≤ 256 := ⟨Nat.pow_pos (by decide), Nat.pow_le_pow_right (by decide) h⟩
theorem pow_wrap8 {n : Nat} (h : n ≤ 8) : wrap64 (2 ^ n) = ((2 ^ n : Nat) : Int) := by
  have h1 := pow_le8 h
  have e : ((2 : Int) ^ n) = ((2 ^ n : Nat) : Int) := by simp
  rw [e]; generalize 2 ^ n = m at *; exact IntWalk.wrap64_in _ ⟨by omega, by omega⟩
theorem wrapLen {n : Nat} (h : n ≤ 9223372036854775807) : IntKind.u64.wrap (n : Int) = (n : Int) := by rw [IntKind.wrap_u64]; omega
/-- no table -/
def NoTab (n : Nat) : Prop := ∀ k, k ≤ 8 → n ≠ 2 ^ k
/-- where fix stands -/
def FStep (T : List F) (x : F) (k : Nat) (L : List Int) : Prop := ∀ j, j < k → at0 L j = psi (atF (fixF T x) j)
theorem fstep_step {T : List F} {x : F} {k : Nat} {L : List Int} (hk : k < L.length) (h : FStep T x k L) {v : Int} (hv : v = psi (atF (fixF T x) k)) : FStep T x (k + 1) (L.set k v) := by
  intro j hj
  by_cases e : j = k
  · subst e; rw [at0_set_self _ _ _ hk]; exact hv
  · rw [at0_set_ne _ _ _ _ (by omega)]; exact h j (by omega)
theorem fstep_end {T : List F} {x : F} {L : List Int} (hl : L.length = T.length / 2) (h : FStep T x L.length L) : L = (fixF T x).map psi := by
  refine List.ext_getElem (by rw [List.length_map, fixF_length]; exact hl) fun i h1 h2 => ?_
  have := h i h1
  have h3 : i < (fixF T x).length := by rw [fixF_length]; omega
  simpa [at0, atF, h1, h3] using this
theorem fixF_val (t : List Int) (x : Int) (k : Nat) (hk : k < t.length / 2) : psi (btw (phi (at0 t k)) (phi (at0 t (k + t.length / 2))) (phi x)) = psi (atF (fixF (t.map phi) (phi x)) k) := by
  rw [fixF_at _ _ _ (by simpa using hk), List.length_map, atF_map t k (by omega), atF_map t _ (by omega)]
theorem ret2 {k : IntKind} {a b c : Int} (h : a = b) : Ending.returned (.tuple #[.int k a, .int .i64 c]) = .returned (.tuple #[.int k b, .int .i64 c]) := by rw [h]
theorem sum_step (t : List Int) (k : Nat) (c : Int) (hk : k < t.length) (H : c = psi (sumTo (atF (t.map phi)) k)) : psi (phi c + phi (at0 t k)) = psi (sumTo (atF (t.map phi)) (k + 1)) := by
  rw [H, phi_psi, sumTo, atF_map t k hk]
theorem mapphi_psi (l : List F) : (l.map psi).map phi = l := by
  rw [List.map_map]; conv => rhs; rw [← List.map_id l]
  exact List.map_congr_left fun a _ => phi_psi a
/-- where Eval stands -/
def EvAt (t p : List Int) (k : Nat) (L : List Int) : Prop := L.map phi = fixes (t.map phi) ((p.map phi).take k)
theorem evAt_len {t p : List Int} {k : Nat} {L : List Int} (hn : t.length = 2 ^ p.length) (hk : k ≤ p.length) (h : EvAt t p k L) : L.length = 2 ^ (p.length - k) := by
  have := congrArg List.length h
  rw [List.length_map, fixes_length _ _ (p.length - k) (by rw [List.length_map, hn, List.length_take, List.length_map]; congr 1; omega)] at this
  exact this
theorem evAt_step {t p : List Int} {k : Nat} {L : List Int} (hk : k < p.length) (h : EvAt t p k L) : EvAt t p (k + 1) ((fixF (L.map phi) (phi (at0 p k))).map psi) := by
  unfold EvAt at *
  rw [mapphi_psi, take_map_snoc p k hk, fixes_snoc, h]
theorem evAt_end {t p : List Int} {L : List Int} (h1 : 0 < L.length) (h : EvAt t p p.length L) : psi (phi (at0 L 0)) = psi (evalF (t.map phi) (p.map phi)) := by
  unfold EvAt at h
  rw [List.take_of_length_le (by simp)] at h
  unfold evalF; rw [← h, atF_map L 0 h1]
end Go.Proofs.YtopmlieadcpdmaaDoor
