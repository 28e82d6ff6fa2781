/- Several texts in one: Num, Field, Mem, Open, Poly, Uni. What each says, and its conditions, stands at its head. -/
import Derived.Test.YtlfneeobnihocaaGreatDoorProg
import Derived.WalkKit
import Derived.Outline
import Derived.Laws.Bits64b
import Derived.Lib.Mul64
import Derived.Handy
import Derived.Lib.Hide
import Derived.WalkSmall
import Derived.OneCell
import Derived.Deep.QuietTactic
import Derived.BigQuiet
import Derived.ProofKit
import Derived.OpenShut
import Derived.Deep.Matrix
/- Plain arithmetic: the numbers by the prime 2^61 - 1 as a field; Fermat; no condition. -/
namespace Tally
set_option maxRecDepth 100000
set_option linter.unusedVariables false
def pN : Nat := 2305843009213693951
instance : NeZero pN := ⟨by decide⟩
abbrev F := Fin pN
def P : Int := 2305843009213693951
def phi (x : Int) : F := Fin.ofNat pN (x % P).toNat
def psi (a : F) : Int := (a.val : Int)
theorem P_pos : 0 < P := by decide
theorem P_eq : P = (pN : Int) := by decide
theorem psi_nonneg (a : F) : 0 ≤ psi a := by unfold psi; omega
theorem psi_lt (a : F) : psi a < P := by have := a.isLt; rw [P_eq]; unfold psi; omega
theorem phi_val (x : Int) : ((phi x).val : Int) = x % P := by
 have h0 : 0 ≤ x % P := Int.emod_nonneg _ (by decide)
 have h1 : x % P < P := Int.emod_lt_of_pos _ P_pos
 unfold phi
 simp only [Fin.ofNat]
 have hp : x % P < (pN : Int) := by rw [P_eq]; rw [P_eq] at h1; exact h1
 rw [Nat.mod_eq_of_lt (by omega)]
 omega
theorem psi_phi (x : Int) : psi (phi x) = x % P := phi_val x
theorem phi_eq {x y : Int} (h : x % P = y % P) : phi x = phi y := by
 unfold phi; rw [h]
theorem phi_eq_iff {x y : Int} : phi x = phi y ↔ x % P = y % P :=
 ⟨fun h => by rw [← phi_val, ← phi_val, h], phi_eq⟩
theorem phi_psi (a : F) : phi (psi a) = a := by
 apply Fin.ext
 have h := phi_val (psi a)
 rw [Int.emod_eq_of_lt (psi_nonneg a) (psi_lt a)] at h
 unfold psi at h ⊢
 omega
theorem psi_inj {a b : F} (h : psi a = psi b) : a = b := by
 rw [← phi_psi a, ← phi_psi b, h]
theorem phi_emod (x : Int) : phi (x % P) = phi x := phi_eq (by simp)
theorem eq_psi {x : Int} {a : F} (h : phi x = a) (h0 : 0 ≤ x) (h1 : x < P) : x = psi a := by
 rw [← h, psi_phi, Int.emod_eq_of_lt h0 h1]
theorem phi_zero : phi 0 = 0 := by decide
theorem phi_one : phi 1 = 1 := by decide
theorem psi_zero : psi 0 = 0 := by decide
theorem psi_one : psi 1 = 1 := by decide
theorem phi_add (x y : Int) : phi (x + y) = phi x + phi y := by
 apply Fin.ext
 have hx := phi_val x
 have hy := phi_val y
 have h := phi_val (x + y)
 rw [Fin.val_add]
 rw [Int.add_emod, ← hx, ← hy, P_eq, ← Int.natCast_add, ← Int.natCast_emod] at h
 omega
theorem phi_mul (x y : Int) : phi (x * y) = phi x * phi y := by
 apply Fin.ext
 have hx := phi_val x
 have hy := phi_val y
 have h := phi_val (x * y)
 rw [Fin.val_mul]
 rw [Int.mul_emod, ← hx, ← hy, P_eq, ← Int.natCast_mul, ← Int.natCast_emod] at h
 omega
theorem phi_neg (x : Int) : phi (-x) = - phi x := by
 have h : phi (-x) + phi x = 0 := by rw [← phi_add, Int.add_left_neg, phi_zero]
 grind
theorem phi_sub (x y : Int) : phi (x - y) = phi x - phi y := by
 rw [Int.sub_eq_add_neg, phi_add, phi_neg]; grind
theorem phi_P : phi P = 0 := by decide
theorem zero_ne_one : (0 : F) ≠ 1 := by decide
theorem pow_zero' (a : F) : a ^ 0 = 1 := rfl
theorem pow_succ' (a : F) (n : Nat) : a ^ (n + 1) = a ^ n * a := rfl
theorem pow_add' (a : F) (m n : Nat) : a ^ (m + n) = a ^ m * a ^ n := by
 induction n with
 | zero => rw [Nat.add_zero, pow_zero']; grind
 | succ n ih => rw [← Nat.add_assoc, pow_succ', pow_succ', ih]; grind
theorem one_pow' (n : Nat) : (1 : F) ^ n = 1 := by
 induction n with
 | zero => rfl
 | succ n ih => rw [pow_succ', ih]; grind
theorem pow_mul' (a : F) (m n : Nat) : a ^ (m * n) = (a ^ m) ^ n := by
 induction n with
 | zero => rfl
 | succ n ih => rw [Nat.mul_succ, pow_add', ih, pow_succ']
/-! the pigeonhole -/
theorem pigeon (n : Nat) : ∀ (f : Nat → Nat), (∀ i, i < n → f i < n) → (∀ i j, i < n → j < n → f i = f j → i = j) → ∀ y, y < n → ∃ i, i < n ∧ f i = y := by
 induction n with
 | zero => intro f _ _ y hy; omega
 | succ n ih =>
  intro f hlt hinj y hy
  have hv := hlt n (by omega)
  have key := ih (fun i => if f i = n then f n else f i)
   (by
    intro i hi
    have h1 := hlt i (by omega)
    have h2 : f i = f n → i = n := hinj i n (by omega) (by omega)
    show (if f i = n then f n else f i) < n
    split
    ·rename_i h; by_cases hvn : f n = n
     ·exfalso; have := h2 (by omega); omega
     ·omega
    ·omega)
   (by
    intro i j hi hj h
    have h1 : f i = f n → i = n := hinj i n (by omega) (by omega)
    have h2 : f j = f n → j = n := hinj j n (by omega) (by omega)
    have h3 : f i = f j → i = j := hinj i j (by omega) (by omega)
    change (if f i = n then f n else f i) = (if f j = n then f n else f j) at h
    split at h <;> split at h <;> omega)
  by_cases e1 : y = f n
  ·exact ⟨n, by omega, e1.symm⟩
  ·by_cases e2 : y = n
   ·obtain ⟨i, hi, h⟩ := key (f n) (by omega)
    split at h
    ·exact ⟨i, by omega, by omega⟩
    ·have := hinj i n (by omega) (by omega) h; omega
   ·obtain ⟨i, hi, h⟩ := key y (by omega)
    split at h
    ·omega
    ·exact ⟨i, by omega, h⟩
/-! powers, reckoned -/
def powmod (m : Nat) : Nat → Nat → Nat → Nat
 | 0, _, _ => 1 % m
 | k + 1, b, n => if n % 2 = 1 then (powmod m k (b * b % m) (n / 2)) * b % m else powmod m k (b * b % m) (n / 2)
theorem powmod_eq (m : Nat) : ∀ (k b n : Nat), n < 2 ^ k → powmod m k b n = b ^ n % m := by
 intro k
 induction k with
 | zero => intro b n h; have : n = 0 := by simp at h; exact h
           subst this; simp [powmod]
 | succ k ih =>
  intro b n h
  have h2 : n / 2 < 2 ^ k := by rw [Nat.pow_succ] at h; omega
  have hs : (b * b % m) ^ (n / 2) % m = b ^ (2 * (n / 2)) % m := by
   rw [Nat.pow_mul, Nat.pow_two]; exact (Nat.pow_mod _ _ _).symm
  simp only [powmod]
  rw [ih _ _ h2, hs]
  split
  ·rw [Nat.mod_mul_mod, ← Nat.pow_succ]; congr 2; omega
  ·congr 2; omega
theorem val_pow (a : F) (n : Nat) : (a ^ n).val = a.val ^ n % pN := by
 induction n with
 | zero => rfl
 | succ n ih => rw [pow_succ', Fin.val_mul, ih, Nat.mod_mul_mod, Nat.pow_succ]
theorem pow_val (a : F) (n : Nat) (h : n < 2 ^ 64) : (a ^ n).val = powmod pN 64 a.val n := by
 rw [val_pow, powmod_eq _ _ _ _ h]
def gen : F := ⟨37, by decide⟩
def ord : Nat := 2305843009213693950
theorem ord_eq : pN = ord + 1 := by decide
theorem gen_ord : gen ^ ord = 1 := by
 apply Fin.ext; rw [pow_val _ _ (by decide)]; decide +kernel
def qs : List Nat := [2, 3, 5, 7, 11, 13, 31, 41, 61, 151, 331, 1321]
theorem gen_not : ∀ q, q ∈ qs → gen ^ (ord / q) ≠ 1 := by
 intro q hq h
 have h1 : powmod pN 64 37 (ord / q) = 1 := by
  have := congrArg Fin.val h
  rw [pow_val _ _ (Nat.lt_of_le_of_lt (Nat.div_le_self _ _) (by decide))] at this
  exact this
 revert h1 hq
 have : ∀ q ∈ qs, powmod pN 64 37 (ord / q) ≠ 1 := by decide +kernel
 intro hq h1; exact this q hq h1
theorem qs_prime : ∀ q ∈ qs, ∀ d, d ∣ q → d = 1 ∨ d = q := by
 have h : ∀ q ∈ qs, 0 < q ∧ ∀ d < q + 1, d ∣ q → d = 1 ∨ d = q := by decide +kernel
 intro q hq d hd
 obtain ⟨h0, h1⟩ := h q hq
 exact h1 d (Nat.lt_succ_of_le (Nat.le_of_dvd h0 hd)) hd
theorem ord_prod : ord = 2 * (3 * (3 * (5 * (5 * (7 * (11 * (13 * (31 * (41 * (61 * (151 * (331 * 1321)))))))))))) := by decide
theorem some_q (m : Nat) (hm : m ∣ ord) (h1 : m ≠ 1) : ∃ q, q ∈ qs ∧ q ∣ m := by
 apply Classical.byContradiction
 intro hno
 have hc : ∀ q, q ∈ qs → Nat.Coprime m q := by
  intro q hq
  rcases qs_prime q hq _ (Nat.gcd_dvd_right m q) with h | h
  ·exact h
  ·exact absurd ⟨q, hq, h ▸ Nat.gcd_dvd_left m q⟩ hno
 have hall : Nat.Coprime m ord := by
  rw [ord_prod]
  have g := fun q hq => hc q hq
  have i2 := g 2 (by decide); have i3 := g 3 (by decide); have i5 := g 5 (by decide); have i7 := g 7 (by decide)
  have i11 := g 11 (by decide); have i13 := g 13 (by decide); have i31 := g 31 (by decide); have i41 := g 41 (by decide)
  have i61 := g 61 (by decide); have i151 := g 151 (by decide); have i331 := g 331 (by decide); have i1321 := g 1321 (by decide)
  exact i2.mul_right (i3.mul_right (i3.mul_right (i5.mul_right (i5.mul_right (i7.mul_right (i11.mul_right (i13.mul_right (i31.mul_right (i41.mul_right (i61.mul_right (i151.mul_right (i331.mul_right i1321))))))))))))
 apply h1
 have : m ∣ Nat.gcd m ord := Nat.dvd_gcd (Nat.dvd_refl m) hm
 rw [hall] at this
 exact Nat.dvd_one.mp this
theorem pow_gcd (a : F) (m : Nat) : ∀ n, a ^ m = 1 → a ^ n = 1 → a ^ (Nat.gcd m n) = 1 := by
 induction m using Nat.strongRecOn with
 | ind m ih =>
  intro n hm hn
  by_cases h0 : m = 0
  ·subst h0; rw [Nat.gcd_zero_left]; exact hn
  ·have hr : a ^ (n % m) = 1 := by
    have h := Nat.div_add_mod n m
    have h2 : a ^ n = a ^ (m * (n / m)) * a ^ (n % m) := by rw [← pow_add', h]
    rw [hn, pow_mul', hm, one_pow'] at h2
    grind
   rw [Nat.gcd_rec]
   exact ih (n % m) (Nat.mod_lt _ (by omega)) m hr hm
theorem gen_least (d : Nat) (h0 : 0 < d) (hd : d < ord) : gen ^ d ≠ 1 := by
 intro h
 have hg := pow_gcd gen d ord h gen_ord
 have hdv : Nat.gcd d ord ∣ ord := Nat.gcd_dvd_right _ _
 have hle : Nat.gcd d ord ≤ d := Nat.gcd_le_left _ h0
 have hpos : 0 < Nat.gcd d ord := Nat.gcd_pos_of_pos_left _ h0
 generalize Nat.gcd d ord = e at *
 obtain ⟨m, hm⟩ := hdv
 have hm1 : m ≠ 1 := by intro h1; subst h1; omega
 obtain ⟨q, hq, hqm⟩ := some_q m ⟨e, by rw [hm, Nat.mul_comm]⟩ hm1
 obtain ⟨t, ht⟩ := hqm
 have hq0 : 0 < q := by have : ∀ q ∈ qs, 0 < q := by decide
                        exact this q hq
 have hdiv : ord / q = e * t := by
  rw [hm, ht, Nat.mul_left_comm, Nat.mul_div_cancel_left _ hq0]
 apply gen_not q hq
 rw [hdiv, pow_mul', hg, one_pow']
theorem gen_unit (k : Nat) (hk : k ≤ ord) : gen ^ k * gen ^ (ord - k) = 1 := by
 rw [← pow_add', Nat.add_sub_cancel' hk, gen_ord]
theorem gen_inj (i j : Nat) (hi : i < ord) (hj : j < ord) (h : gen ^ i = gen ^ j) : i = j := by
 have aux : ∀ i j, i < j → j < ord → gen ^ i = gen ^ j → False := by
  intro i j hij hj h
  have h1 := gen_unit i (by omega)
  have h2 : gen ^ j = gen ^ i * gen ^ (j - i) := by rw [← pow_add']; congr 1; omega
  apply gen_least (j - i) (by omega) (by omega)
  rw [← h] at h2
  grind
 rcases Nat.lt_trichotomy i j with hij | hij | hij
 ·exact (aux i j hij hj h).elim
 ·exact hij
 ·exact (aux j i hij hi h.symm).elim
theorem gen_all (a : F) (ha : a ≠ 0) : ∃ k : Nat, a = gen ^ k := by
 have hnz : ∀ i, i < ord → (gen ^ i).val ≠ 0 := by
  intro i hi h
  have h0 : gen ^ i = 0 := Fin.ext h
  have h1 := gen_unit i (by omega)
  rw [h0] at h1
  have : (0 : F) = 1 := by grind
  exact zero_ne_one this
 have hb : ∀ b : F, b.val < ord + 1 := fun b => ord_eq ▸ b.isLt
 have hav : a.val ≠ 0 := fun h => ha (Fin.ext h)
 obtain ⟨i, hi, h⟩ := pigeon ord (fun i => (gen ^ i).val - 1)
  (by intro i hi; have := hnz i hi; have := hb (gen ^ i); omega)
  (by
   intro i j hi hj h
   have h1 := hnz i hi
   have h2 := hnz j hj
   exact gen_inj i j hi hj (Fin.ext (by omega)))
  (a.val - 1) (by have := hb a; omega)
 refine ⟨i, Fin.ext ?_⟩
 have h1 := hnz i hi
 omega
theorem fermat (a : F) (ha : a ≠ 0) : a ^ ord = 1 := by
 obtain ⟨k, rfl⟩ := gen_all a ha
 rw [← pow_mul', Nat.mul_comm, pow_mul', gen_ord, one_pow']
def inv (a : F) : F := a ^ (ord - 1)
theorem mul_inv (a : F) (ha : a ≠ 0) : a * inv a = 1 := by
 have h := fermat a ha
 have e : ord = (ord - 1) + 1 := by decide
 rw [e, pow_succ'] at h
 unfold inv; grind
theorem mul_eq_zero {a b : F} (h : a * b = 0) : a = 0 ∨ b = 0 := by
 by_cases ha : a = 0
 ·exact Or.inl ha
 ·right
  have := mul_inv a ha
  grind
theorem mul_ne_zero {a b : F} (ha : a ≠ 0) (hb : b ≠ 0) : a * b ≠ 0 := fun h => by
 rcases mul_eq_zero h with h | h
 ·exact ha h
 ·exact hb h
theorem inv_unique {a x : F} (h : a * x = 1) : x = inv a := by
 have ha : a ≠ 0 := by intro h0; subst h0; apply zero_ne_one; grind
 have := mul_inv a ha
 grind
end Tally
/- The walks of package field and of the reference's numbers: each computes the field's operation; the arguments are numbers of 64 bits. -/
namespace Go.Proofs.YtlfneeobnihocaaGreatDoor
set_option maxRecDepth 100000
set_option linter.unusedVariables false
open Go.RowKit Tally
def U64 (a : Int) : Prop := 0 ≤ a ∧ a < 18446744073709551616
theorem U64.mk {a : Int} (h0 : 0 ≤ a) (h1 : a < 18446744073709551616) : U64 a := ⟨h0, h1⟩
theorem U64.psi (a : F) : U64 (psi a) := ⟨psi_nonneg a, Int.lt_trans (psi_lt a) (by decide)⟩
theorem U64.zero : U64 0 := ⟨by decide, by decide⟩
theorem U64.one : U64 1 := ⟨by decide, by decide⟩
theorem mask61 (a : Int) (h0 : 0 ≤ a) (h1 : a < 18446744073709551616) : bits .and .u64 a 2305843009213693951 = a % 2305843009213693952 := by
 rw [u64_and a _ h0 h1 (by decide) (by decide)]
 have e : a.toNat &&& (2305843009213693951 : Int).toNat = a.toNat % 2305843009213693952 := Nat.and_two_pow_sub_one_eq_mod a.toNat 61
 rw [e]; omega
theorem psi_phi' (a : Int) : a % 2305843009213693951 = psi (phi a) := (psi_phi a).symm
theorem ret_u64 {a b : Int} (h : a = b) : Ending.returned (.int .u64 a) = .returned (.int .u64 b) := by rw [h]
theorem wrap_small (a : Int) (h0 : 0 ≤ a) (h1 : a < 18446744073709551616) : (a % 2305843009213693952 + a / 2305843009213693952) % 18446744073709551616 = a % 2305843009213693952 + a / 2305843009213693952 := by
 have : a / 2305843009213693952 < 8 := by omega
 omega
theorem norm_lt (a : Int) (h0 : 0 ≤ a) (h1 : a < 18446744073709551616) (h : a % 2305843009213693952 + a / 2305843009213693952 < 2305843009213693951) :
  a % 2305843009213693952 + a / 2305843009213693952 = a % 2305843009213693951 := by
 have hq : a / 2305843009213693952 < 8 := by omega
 have hq0 : 0 ≤ a / 2305843009213693952 := by omega
 have e := Int.emod_add_mul_ediv a 2305843009213693952
 generalize a / 2305843009213693952 = q at *
 have : q = 0 ∨ q = 1 ∨ q = 2 ∨ q = 3 ∨ q = 4 ∨ q = 5 ∨ q = 6 ∨ q = 7 := by omega
 rcases this with h | h | h | h | h | h | h | h <;> subst h <;> omega
theorem norm_sub (a : Int) (h0 : 0 ≤ a) (h1 : a < 18446744073709551616) (h : 2305843009213693951 ≤ a % 2305843009213693952 + a / 2305843009213693952) :
  (a % 2305843009213693952 + a / 2305843009213693952 - 2305843009213693951) % 18446744073709551616 = a % 2305843009213693951 := by
 have hq : a / 2305843009213693952 < 8 := by omega
 have hq0 : 0 ≤ a / 2305843009213693952 := by omega
 have e := Int.emod_add_mul_ediv a 2305843009213693952
 generalize a / 2305843009213693952 = q at *
 have : q = 0 ∨ q = 1 ∨ q = 2 ∨ q = 3 ∨ q = 4 ∨ q = 5 ∨ q = 6 ∨ q = 7 := by omega
 rcases this with h | h | h | h | h | h | h | h <;> subst h <;> omega
theorem norm_wrap (a : Int) (h0 : 0 ≤ a) (h1 : a < 18446744073709551616) : IntKind.u64.wrap (bits BinOp.and IntKind.u64 a 2305843009213693951 + a / 2305843009213693952) = a % 2305843009213693952 + a / 2305843009213693952 := by
 rw [mask61 a h0 h1, IntKind.wrap_u64, wrap_small a h0 h1]
theorem norm_one (a : Int) (h0 : 0 ≤ a) (h1 : a < 18446744073709551616) (h : IntKind.u64.wrap (bits BinOp.and IntKind.u64 a 2305843009213693951 + a / 2305843009213693952) < 2305843009213693951) :
  IntKind.u64.wrap (bits BinOp.and IntKind.u64 a 2305843009213693951 + a / 2305843009213693952) = psi (phi a) := by
 rw [norm_wrap a h0 h1] at *
 rw [← psi_phi']; exact norm_lt a h0 h1 h
theorem norm_two (a : Int) (h0 : 0 ≤ a) (h1 : a < 18446744073709551616) (h : 2305843009213693951 ≤ IntKind.u64.wrap (bits BinOp.and IntKind.u64 a 2305843009213693951 + a / 2305843009213693952)) :
  IntKind.u64.wrap (IntKind.u64.wrap (bits BinOp.and IntKind.u64 a 2305843009213693951 + a / 2305843009213693952) - 2305843009213693951) = psi (phi a) := by
 rw [norm_wrap a h0 h1] at *
 rw [← psi_phi', IntKind.wrap_u64]; exact norm_sub a h0 h1 h
set_option maxHeartbeats 400000 in
theorem norm_raw (a : Int) (w : World) (h0 : 0 ≤ a) (h1 : a < 18446744073709551616) :
  Calls Tryz.prog 64 #[.int .u64 a] w fun e w' => e = .returned (.int .u64 (psi (phi a))) ∧ w = w' := by
 go_enter Tryz.func64, Tryz.ntmps64
 go_wp2
 all_goals
  go_ret
  refine ⟨ret_u64 ?_, rfl⟩
  first | exact norm_one a h0 h1 ‹_› | exact norm_two a h0 h1 ‹_›
theorem field_Norm (a : Int) (w : World) (h : U64 a) :
  Calls Tryz.prog 64 #[.int .u64 a] w fun e w' => e = .returned (.int .u64 (psi (phi a))) ∧ w = w' := norm_raw a w h.1 h.2
theorem sum_lt (a b : F) : 0 ≤ psi a + psi b ∧ psi a + psi b < 18446744073709551616 := by
 have := psi_nonneg a; have := psi_nonneg b; have := psi_lt a; have := psi_lt b
 have : P = 2305843009213693951 := rfl
 omega
theorem wrap_id {a : Int} (h : 0 ≤ a ∧ a < 18446744073709551616) : IntKind.u64.wrap a = a := by rw [IntKind.wrap_u64]; omega
theorem phi_sum (a b : F) : phi (psi a + psi b) = a + b := by rw [phi_add, phi_psi, phi_psi]
theorem diff_lt (a b : F) : 0 ≤ psi a + 2305843009213693951 - psi b ∧ psi a + 2305843009213693951 - psi b < 18446744073709551616 := by
 have := psi_nonneg a; have := psi_nonneg b; have := psi_lt a; have := psi_lt b
 have : P = 2305843009213693951 := rfl
 omega
theorem diff_lt0 (a : F) : 0 ≤ psi a + 2305843009213693951 ∧ psi a + 2305843009213693951 < 18446744073709551616 := by
 have := psi_nonneg a; have := psi_lt a
 have : P = 2305843009213693951 := rfl
 omega
theorem phi_diff (a b : F) : phi (psi a + 2305843009213693951 - psi b) = a - b := by
 have h := phi_P
 have e : P = 2305843009213693951 := rfl
 rw [e] at h
 rw [phi_sub, phi_add, phi_psi, phi_psi, h]; grind
set_option maxHeartbeats 400000 in
theorem field_Add (a b : Int) (w : World) (ha : U64 a) (hb : U64 b) :
  Calls Tryz.prog 108 #[.int .u64 a, .int .u64 b] w fun e w' => e = .returned (.int .u64 (psi (phi a + phi b))) ∧ w = w' := by
 have hs := sum_lt (phi a) (phi b)
 have hw := wrap_id hs
 go_enter Tryz.func108, Tryz.ntmps108
 go_wp2_with (go_at_call 64; refine (field_Norm _ _ (by first | assumption | exact hs)).mono ?_; rintro e w' ⟨rfl, rfl⟩)
 go_ret
 exact ⟨ret_u64 (by rw [phi_sum]), rfl⟩
set_option maxHeartbeats 400000 in
theorem field_Sub (a b : Int) (w : World) (ha : U64 a) (hb : U64 b) :
  Calls Tryz.prog 111 #[.int .u64 a, .int .u64 b] w fun e w' => e = .returned (.int .u64 (psi (phi a - phi b))) ∧ w = w' := by
 have hs := diff_lt (phi a) (phi b)
 have hw := wrap_id hs
 have hw0 := wrap_id (diff_lt0 (phi a))
 go_enter Tryz.func111, Tryz.ntmps111
 go_wp2_with (go_at_call 64; refine (field_Norm _ _ (by first | assumption | exact hs)).mono ?_; rintro e w' ⟨rfl, rfl⟩)
 go_ret
 exact ⟨ret_u64 (by rw [phi_diff]), rfl⟩
/-! the product of two words: the library's own text, as the guide's shelf walks it -/
theorem maskN (a : Nat) (ha : a < 18446744073709551616) : bits .and .u64 (a : Int) 4294967295 = ((a % 4294967296 : Nat) : Int) := by
 have h := bits_and_u64_nat a 4294967295 ha (by omega)
 have e : a &&& 4294967295 = a % 4294967296 := Nat.and_two_pow_sub_one_eq_mod a 32
 rw [e] at h
 exact h
theorem divN (a : Nat) : (a : Int) / 4294967296 = ((a / 4294967296 : Nat) : Int) := by omega
theorem mulN (a b : Nat) : (a : Int) * (b : Int) = ((a * b : Nat) : Int) := (Int.natCast_mul a b).symm
theorem addN (a b : Nat) : (a : Int) + (b : Int) = ((a + b : Nat) : Int) := (Int.natCast_add a b).symm
theorem wrapN (a : Nat) (ha : a < 18446744073709551616) : IntKind.u64.wrap (a : Int) = (a : Int) := by rw [IntKind.wrap_u64]; omega
theorem wrapM (a : Nat) : IntKind.u64.wrap (a : Int) = ((a % 18446744073709551616 : Nat) : Int) := by rw [IntKind.wrap_u64]; omega
set_option maxHeartbeats 1000000 in
theorem bits_Mul64 (x y : Nat) (hx : x < 18446744073709551616) (hy : y < 18446744073709551616) (w : World) :
  Calls Tryz.prog 151 #[.int .u64 x, .int .u64 y] w fun e w' => e = .returned (.tuple #[.int .u64 ((x * y / 18446744073709551616 : Nat) : Int), .int .u64 ((x * y % 18446744073709551616 : Nat) : Int)]) ∧ w = w' := by
 obtain ⟨bd, bt, bw, hhi⟩ := Lib.mul64_hi x y hx hy
 have ba := Lib.half_mul_le (a := x / 4294967296) (b := y / 4294967296) (by omega) (by omega)
 have bb := Lib.half_mul_le (a := x / 4294967296) (b := y % 4294967296) (by omega) (by omega)
 have bc := Lib.half_mul_le (a := x % 4294967296) (b := y / 4294967296) (by omega) (by omega)
 have ba' : x / 4294967296 * (y / 4294967296) < 18446744073709551616 := by omega
 have bb' : x / 4294967296 * (y % 4294967296) < 18446744073709551616 := by omega
 have bc' : x % 4294967296 * (y / 4294967296) < 18446744073709551616 := by omega
 have bh1 : x / 4294967296 * (y / 4294967296) + (x / 4294967296 * (y % 4294967296) + x % 4294967296 * (y % 4294967296) / 4294967296) / 4294967296 < 18446744073709551616 := by omega
 have bh : x / 4294967296 * (y / 4294967296) + (x / 4294967296 * (y % 4294967296) + x % 4294967296 * (y % 4294967296) / 4294967296) / 4294967296 + ((x / 4294967296 * (y % 4294967296) + x % 4294967296 * (y % 4294967296) / 4294967296) % 4294967296 + x % 4294967296 * (y / 4294967296)) / 4294967296 < 18446744073709551616 := by omega
 go_enter Tryz.func151, Tryz.ntmps151
 go_wp2
 simp only [maskN x hx, maskN y hy, divN, mulN, addN, wrapN _ bd, wrapN _ bb', wrapN _ bt, maskN _ bt, wrapN _ bc', wrapN _ bw, wrapN _ ba', wrapN _ bh1, wrapN _ bh, wrapM (x * y)]
 rw [hhi]
 go_ret2
 exact ⟨rfl, rfl⟩
def hiOf (a b : F) : Int := ((a.val * b.val / 18446744073709551616 : Nat) : Int)
def loOf (a b : F) : Int := ((a.val * b.val % 18446744073709551616 : Nat) : Int)
theorem bits_Mul64_psi (a b : F) (w : World) :
  Calls Tryz.prog 151 #[.int .u64 (psi a), .int .u64 (psi b)] w fun e w' => e = .returned (.tuple #[.int .u64 (hiOf a b), .int .u64 (loOf a b)]) ∧ w = w' :=
 bits_Mul64 a.val b.val (Nat.lt_trans a.isLt (by decide)) (Nat.lt_trans b.isLt (by decide)) w
theorem prod_lt (a b : F) : a.val * b.val < 5316911983139663487003542222693990401 := by
 have ha : a.val ≤ 2305843009213693950 := Nat.le_of_lt_succ a.isLt
 have hb : b.val ≤ 2305843009213693950 := Nat.le_of_lt_succ b.isLt
 exact Nat.lt_of_le_of_lt (Nat.mul_le_mul ha hb) (by decide)
theorem lo_and (a b : F) : bits BinOp.and IntKind.u64 (loOf a b) 2305843009213693951 = ((a.val * b.val % 2305843009213693952 : Nat) : Int) := by
 rw [mask61 _ (by unfold loOf; omega) (by unfold loOf; omega)]
 unfold loOf; omega
theorem hi_or (a b : F) : bits BinOp.or IntKind.u64 (IntKind.u64.wrap (hiOf a b * 8)) (loOf a b / 2305843009213693952) = ((a.val * b.val / 2305843009213693952 : Nat) : Int) := by
 have hp := prod_lt a b
 unfold hiOf loOf
 generalize a.val * b.val = n at *
 have h1 : n / 18446744073709551616 < 288230376151711744 := by omega
 have e1 : ((n / 18446744073709551616 : Nat) : Int) * 8 = ((n / 18446744073709551616 * 8 : Nat) : Int) := by omega
 have e2 : ((n % 18446744073709551616 : Nat) : Int) / 2305843009213693952 = ((n % 18446744073709551616 / 2305843009213693952 : Nat) : Int) := by omega
 rw [e1, e2, wrapN _ (by omega), u64_or_nat _ _ (by omega) (by omega), nat_join 3 _ _ (by omega) (by omega)]
 omega
theorem mul_U1 (a b : F) : U64 (bits BinOp.and IntKind.u64 (loOf a b) 2305843009213693951) := by
 rw [lo_and]; exact ⟨by omega, by omega⟩
theorem mul_U2 (a b : F) : U64 (bits BinOp.or IntKind.u64 (IntKind.u64.wrap (hiOf a b * 8)) (loOf a b / 2305843009213693952)) := by
 rw [hi_or]; have := prod_lt a b; exact ⟨by omega, by omega⟩
theorem phi_mul_val (a b : F) : phi ((a.val * b.val : Nat) : Int) = a * b := by
 rw [Int.natCast_mul, phi_mul]
 have h := phi_psi a; have h' := phi_psi b
 unfold psi at h h'
 rw [h, h']
theorem mul_fold (a b : F) : phi (bits BinOp.and IntKind.u64 (loOf a b) 2305843009213693951) + phi (bits BinOp.or IntKind.u64 (IntKind.u64.wrap (hiOf a b * 8)) (loOf a b / 2305843009213693952)) = a * b := by
 rw [lo_and, hi_or, ← phi_mul_val]
 generalize a.val * b.val = n
 have e : (n : Int) = 2305843009213693952 * ((n / 2305843009213693952 : Nat) : Int) + ((n % 2305843009213693952 : Nat) : Int) := by omega
 have h1 : phi 2305843009213693952 = 1 := by decide
 rw [e, phi_add, phi_mul, h1]
 generalize phi ((n % 2305843009213693952 : Nat) : Int) = x
 generalize phi ((n / 2305843009213693952 : Nat) : Int) = y
 grind
set_option maxHeartbeats 400000 in
theorem field_Mul (a b : Int) (w : World) (ha : U64 a) (hb : U64 b) :
  Calls Tryz.prog 112 #[.int .u64 a, .int .u64 b] w fun e w' => e = .returned (.int .u64 (psi (phi a * phi b))) ∧ w = w' := by
 go_enter Tryz.func112, Tryz.ntmps112
 go_wp2_with (first | (go_at_call 64; (with_reducible refine (field_Norm _ _ (by first | assumption | exact U64.psi _ | exact U64.zero | exact U64.one | exact U64.mk (by decide) (by decide))).mono ?_); rintro e w' ⟨rfl, rfl⟩) | (go_at_call 151; refine (bits_Mul64_psi _ _ _).mono ?_; rintro e w' ⟨rfl, rfl⟩) | (go_at_call 108; refine (field_Add _ _ _ (mul_U1 _ _) (mul_U2 _ _)).mono ?_; rintro e w' ⟨rfl, rfl⟩))
 go_ret
 exact ⟨ret_u64 (by rw [mul_fold]), rfl⟩
/-! powers -/
theorem and_one {n : Int} (h : U64 n) : bits BinOp.and IntKind.u64 n 1 = n % 2 := by
 rw [u64_and n 1 h.1 h.2 (by decide) (by decide)]
 have e : n.toNat &&& (1 : Int).toNat = n.toNat % 2 := nat_mask1 n.toNat
 rw [e]; have := h.1; omega
theorem U64.half {n : Int} (h : U64 n) : U64 (n / 2) := by have := h.1; have := h.2; exact ⟨by omega, by omega⟩
theorem pow_even (a : F) (n : Int) (h0 : 0 ≤ n) (h : n % 2 = 0) : (a * a) ^ (n / 2).toNat = a ^ n.toNat := by
 have e : n.toNat = 2 * (n / 2).toNat := by omega
 rw [e, pow_mul']; congr 1
 show a * a = a ^ (1 + 1)
 rw [pow_add']; grind
theorem pow_odd (a : F) (n : Int) (h0 : 0 ≤ n) (h : n % 2 = 1) : a * (a * a) ^ (n / 2).toNat = a ^ n.toNat := by
 have e : n.toNat = 2 * (n / 2).toNat + 1 := by omega
 have h2 : a ^ 2 = a * a := by show a ^ (1 + 1) = _; rw [pow_add']; grind
 rw [e, pow_succ', pow_mul', h2]; grind
theorem pow_done (c : Int) (x r : F) (hc : U64 c) (hlt : c < P) (h : phi c * x ^ (0 : Int).toNat = r) : c = psi r := by
 have e : x ^ (0 : Int).toNat = 1 := pow_zero' x
 rw [e] at h
 refine eq_psi ?_ hc.1 hlt
 rw [← h]; grind
theorem pow_odd_step (c : Int) (x r : F) (m : Int) (hm : U64 m) (h : (m % 2 == 1) = true) (H : phi c * x ^ m.toNat = r) :
  phi (psi (phi c * phi (psi x))) * (phi (psi x) * phi (psi x)) ^ (m / 2).toNat = r := by
 rw [phi_psi, phi_psi]
 have := pow_odd x m hm.1 (by simpa using h)
 rw [← this] at H
 grind
theorem pow_even_step (c : Int) (x r : F) (m : Int) (hm : U64 m) (h : (m % 2 == 1) = false) (H : phi c * x ^ m.toNat = r) :
  phi c * (phi (psi x) * phi (psi x)) ^ (m / 2).toNat = r := by
 rw [phi_psi]
 have := pow_even x m hm.1 (by have h' := beq_eq_false_iff_ne.mp h; omega)
 rw [this]; exact H
set_option maxHeartbeats 400000 in
theorem field_Pow (a n : Int) (w : World) (ha : U64 a) (hn : U64 n) :
  Calls Tryz.prog 110 #[.int .u64 a, .int .u64 n] w fun e w' => e = .returned (.int .u64 (psi (phi a ^ n.toNat))) ∧ w = w' := by
 go_enter Tryz.func110, Tryz.ntmps110
 go_wp2_with (first | (go_at_call 64; (with_reducible refine (field_Norm _ _ (by first | assumption | exact U64.psi _ | exact U64.zero | exact U64.one | exact U64.mk (by decide) (by decide))).mono ?_); rintro e w' ⟨rfl, rfl⟩) | (go_at_call 112; (with_reducible refine (field_Mul _ _ _ (by first | assumption | exact U64.psi _ | exact U64.zero | exact U64.one | exact U64.mk (by decide) (by decide)) (by first | assumption | exact U64.psi _ | exact U64.zero | exact U64.one | exact U64.mk (by decide) (by decide))).mono ?_); rintro e w' ⟨rfl, rfl⟩))
 go_loop [0, 1, 5] (fun s t o => ∃ (x : F) (m c : Int), U64 m ∧ U64 c ∧ c < P ∧ s = .int .u64 (psi x) ∧ t = .int .u64 m ∧ o = .int .u64 c ∧ Hid (phi c * x ^ m.toNat = phi a ^ n.toNat)) (fun _ t _ => (intOf t).toNat)
 case atStart => exact ⟨phi a, n, 1, hn, U64.one, by decide, rfl, rfl, rfl, (by rw [phi_one]; show 1 * phi a ^ n.toNat = _; grind)⟩
 case round =>
  obtain ⟨x, m, c, hm, hc, hlt, rfl, rfl, rfl, H⟩ := hrel
  have h0 := hm.1
  have hm2 := hm.half
  by_cases hz : 0 < m
  ·have ho := and_one hm
   go_wp2_with (first | (go_at_call 64; (with_reducible refine (field_Norm _ _ (by first | assumption | exact U64.psi _ | exact U64.zero | exact U64.one | exact U64.mk (by decide) (by decide))).mono ?_); rintro e w' ⟨rfl, rfl⟩) | (go_at_call 112; (with_reducible refine (field_Mul _ _ _ (by first | assumption | exact U64.psi _ | exact U64.zero | exact U64.one | exact U64.mk (by decide) (by decide)) (by first | assumption | exact U64.psi _ | exact U64.zero | exact U64.one | exact U64.mk (by decide) (by decide))).mono ?_); rintro e w' ⟨rfl, rfl⟩))
   all_goals go_round
   case rel => exact ⟨_, _, _, hm2, U64.psi _, psi_lt _, rfl, rfl, rfl, pow_odd_step c x _ m hm ‹_› H.out⟩
   case measure => simp [intOf]; omega
   case rel => exact ⟨_, _, _, hm2, hc, hlt, rfl, rfl, rfl, pow_even_step c x _ m hm ‹_› H.out⟩
   case measure => simp [intOf]; omega
  ·obtain rfl : m = 0 := by omega
   go_wp2
   go_ret
   exact ⟨ret_u64 (pow_done c x _ hc hlt H.out), rfl⟩
theorem field_Pow_inv (a : Int) (w : World) (ha : U64 a) :
  Calls Tryz.prog 110 #[.int .u64 a, .int .u64 2305843009213693949] w fun e w' => e = .returned (.int .u64 (psi (inv (phi a)))) ∧ w = w' :=
 field_Pow a 2305843009213693949 w ha ⟨by decide, by decide⟩
set_option maxHeartbeats 400000 in
theorem field_Inv (a : Int) (w : World) (ha : U64 a) (h : phi a ≠ 0) :
  Calls Tryz.prog 72 #[.int .u64 a] w fun e w' => e = .returned (.tuple #[.int .u64 (psi (inv (phi a))), .int .i64 0]) ∧ w = w' := by
 have hz : (psi (phi a) == 0) = false := by
  rw [beq_eq_false_iff_ne]; intro h0; apply h; rw [← psi_zero] at h0; exact psi_inj h0
 go_enter Tryz.func72, Tryz.ntmps72
 go_wp2_with (first | (go_at_call 64; (with_reducible refine (field_Norm _ _ (by first | assumption | exact U64.psi _ | exact U64.zero | exact U64.one | exact U64.mk (by decide) (by decide))).mono ?_); rintro e w' ⟨rfl, rfl⟩) | (go_at_call 110; refine (field_Pow_inv _ _ ha).mono ?_; rintro e w' ⟨rfl, rfl⟩))
 go_ret2
 exact ⟨rfl, rfl⟩
set_option maxHeartbeats 400000 in
theorem field_Inv_zero (a : Int) (w : World) (ha : U64 a) (h : phi a = 0) :
  Calls Tryz.prog 72 #[.int .u64 a] w fun e w' => e = .returned (.tuple #[.int .u64 0, .int .i64 1]) ∧ w = w' := by
 have hz : (psi (phi a) == 0) = true := by rw [h]; decide
 go_enter Tryz.func72, Tryz.ntmps72
 go_wp2_with (first | (go_at_call 64; (with_reducible refine (field_Norm _ _ (by first | assumption | exact U64.psi _ | exact U64.zero | exact U64.one | exact U64.mk (by decide) (by decide))).mono ?_); rintro e w' ⟨rfl, rfl⟩))
 go_ret2
 exact ⟨rfl, rfl⟩
/-! the reference's numbers -/
theorem phi_emod' (a : Int) : phi (a % 2305843009213693951) = phi a := phi_emod a
set_option maxHeartbeats 400000 in
theorem ref_Norm (a : Int) (w : World) (ha : U64 a) :
  Calls Tryz.prog 47 #[.int .u64 a] w fun e w' => e = .returned (.int .u64 (psi (phi a))) ∧ w = w' := by
 have h0 := ha.1
 go_enter Tryz.func47, Tryz.ntmps47
 go_wp2
 go_ret
 exact ⟨ret_u64 (psi_phi' a), rfl⟩
set_option maxHeartbeats 400000 in
theorem ref_Add (a b : Int) (w : World) (ha : U64 a) (hb : U64 b) :
  Calls Tryz.prog 43 #[.int .u64 a, .int .u64 b] w fun e w' => e = .returned (.int .u64 (psi (phi a + phi b))) ∧ w = w' := by
 have h0 := ha.1
 have h1 := hb.1
 go_enter Tryz.func43, Tryz.ntmps43
 go_wp2
 go_ret
 refine ⟨ret_u64 ?_, rfl⟩
 rw [psi_phi', phi_add, phi_emod', phi_emod']
set_option maxHeartbeats 400000 in
theorem ref_Sub (a b : Int) (w : World) (ha : U64 a) (hb : U64 b) :
  Calls Tryz.prog 44 #[.int .u64 a, .int .u64 b] w fun e w' => e = .returned (.int .u64 (psi (phi a - phi b))) ∧ w = w' := by
 have h0 := ha.1
 have h1 := hb.1
 go_enter Tryz.func44, Tryz.ntmps44
 go_wp2
 go_ret
 refine ⟨ret_u64 ?_, rfl⟩
 have h := phi_P
 have e : P = 2305843009213693951 := rfl
 rw [e] at h
 rw [psi_phi', phi_sub, phi_add, phi_emod', phi_emod', h]; congr 1; grind
theorem wadd (x y : F) : (IntKind.u64.wrap (psi x + psi y)).tmod 2305843009213693951 = psi (x + y) := by
 rw [wrap_id (sum_lt x y), Int.tmod_eq_emod_of_nonneg (sum_lt x y).1, psi_phi', phi_sum]
theorem bit_one (b : F) (k : Nat) (hk : 0 < k) (h : ((psi b / 2 ^ (k - 1)).tmod 2 == 1) = true) : psi b / 2 ^ (k - 1) = psi b / 2 ^ k + psi b / 2 ^ k + 1 := by
 obtain ⟨j, rfl⟩ : ∃ j, k = j + 1 := ⟨k - 1, by omega⟩
 simp only [Nat.add_sub_cancel] at *
 have h2 : (0 : Int) ≤ psi b / 2 ^ j := Int.ediv_nonneg (psi_nonneg b) (by exact Int.le_of_lt (Int.pow_pos (by decide)))
 rw [Int.tmod_eq_emod_of_nonneg h2] at h
 have e : psi b / 2 ^ (j + 1) = psi b / 2 ^ j / 2 := by rw [Int.pow_succ, Int.ediv_ediv_of_nonneg (Int.le_of_lt (Int.pow_pos (by decide)))]
 rw [e]
 have := of_decide_eq_true h
 omega
theorem bit_zero (b : F) (k : Nat) (hk : 0 < k) (h : ((psi b / 2 ^ (k - 1)).tmod 2 == 1) = false) : psi b / 2 ^ (k - 1) = psi b / 2 ^ k + psi b / 2 ^ k := by
 obtain ⟨j, rfl⟩ : ∃ j, k = j + 1 := ⟨k - 1, by omega⟩
 simp only [Nat.add_sub_cancel] at *
 have h2 : (0 : Int) ≤ psi b / 2 ^ j := Int.ediv_nonneg (psi_nonneg b) (by exact Int.le_of_lt (Int.pow_pos (by decide)))
 rw [Int.tmod_eq_emod_of_nonneg h2] at h
 have e : psi b / 2 ^ (j + 1) = psi b / 2 ^ j / 2 := by rw [Int.pow_succ, Int.ediv_ediv_of_nonneg (Int.le_of_lt (Int.pow_pos (by decide)))]
 rw [e]
 have := beq_eq_false_iff_ne.mp h
 omega
theorem mul_bit_one (a b : F) (k : Nat) (hk : 0 < k) (h : ((psi b / 2 ^ (k - 1)).tmod 2 == 1) = true) :
  (IntKind.u64.wrap ((IntKind.u64.wrap (psi (a * phi (psi b / 2 ^ k)) + psi (a * phi (psi b / 2 ^ k)))).tmod 2305843009213693951 + psi a)).tmod 2305843009213693951 = psi (a * phi (psi b / 2 ^ (k - 1))) := by
 rw [wadd, wadd, bit_one b k hk h, phi_add, phi_add, phi_one]
 congr 1; grind
theorem mul_bit_zero (a b : F) (k : Nat) (hk : 0 < k) (h : ((psi b / 2 ^ (k - 1)).tmod 2 == 1) = false) :
  (IntKind.u64.wrap (psi (a * phi (psi b / 2 ^ k)) + psi (a * phi (psi b / 2 ^ k)))).tmod 2305843009213693951 = psi (a * phi (psi b / 2 ^ (k - 1))) := by
 rw [wadd, bit_zero b k hk h, phi_add]
 congr 1; grind
theorem mul_start (a b : F) : (0 : Int) = psi (a * phi (psi b / 2 ^ 61)) := by
 have h0 := psi_nonneg b
 have h1 := psi_lt b
 have e : P = 2305843009213693951 := rfl
 rw [e] at h1
 have : psi b / 2 ^ 61 = 0 := Int.ediv_eq_zero_of_lt h0 (by omega)
 rw [this, phi_zero]
 have e0 : a * 0 = 0 := by grind
 rw [e0, psi_zero]
set_option maxHeartbeats 400000 in
theorem ref_Mul (a b : Int) (w : World) (ha : U64 a) (hb : U64 b) :
  Calls Tryz.prog 45 #[.int .u64 a, .int .u64 b] w fun e w' => e = .returned (.int .u64 (psi (phi a * phi b))) ∧ w = w' := by
 have h0 := ha.1
 have h1 := hb.1
 have e2 := psi_phi' b
 have e1 := psi_phi' a
 go_enter Tryz.func45, Tryz.ntmps45
 go_wp2
 go_loop [5, 6] (fun o i => ∃ (k : Nat), k ≤ 61 ∧ i = .int .i64 ((k : Int) - 1) ∧ o = .int .u64 (psi (phi a * phi (psi (phi b) / 2 ^ k)))) (fun _ i => (intOf i + 1).toNat)
 case atStart => exact ⟨61, by omega, rfl, by rw [← mul_start]⟩
 case round =>
  obtain ⟨k, hk, rfl, rfl⟩ := hrel
  by_cases hz : 0 < k
  ·go_wp2
   all_goals go_round
   case rel => exact ⟨k - 1, by omega, by congr 1; omega, by rw [mul_bit_one _ _ k hz ‹_›]⟩
   case measure => simp [intOf]; omega
   case rel => exact ⟨k - 1, by omega, by congr 1; omega, by rw [mul_bit_zero _ _ k hz ‹_›]⟩
   case measure => simp [intOf]; omega
  ·obtain rfl : k = 0 := by omega
   go_wp2
   go_ret
   exact ⟨ret_u64 (by rw [phi_psi]), rfl⟩
theorem bitI_one (n : Int) (hn : 0 ≤ n) (k : Nat) (hk : 0 < k) (h : ((n / 2 ^ (k - 1)).tmod 2 == 1) = true) : (n / 2 ^ (k - 1)).toNat = (n / 2 ^ k).toNat + (n / 2 ^ k).toNat + 1 := by
 obtain ⟨j, rfl⟩ : ∃ j, k = j + 1 := ⟨k - 1, by omega⟩
 simp only [Nat.add_sub_cancel] at *
 have h2 : (0 : Int) ≤ n / 2 ^ j := Int.ediv_nonneg hn (by exact Int.le_of_lt (Int.pow_pos (by decide)))
 rw [Int.tmod_eq_emod_of_nonneg h2] at h
 have e : n / 2 ^ (j + 1) = n / 2 ^ j / 2 := by rw [Int.pow_succ, Int.ediv_ediv_of_nonneg (Int.le_of_lt (Int.pow_pos (by decide)))]
 rw [e]
 have := of_decide_eq_true h
 omega
theorem bitI_zero (n : Int) (hn : 0 ≤ n) (k : Nat) (hk : 0 < k) (h : ((n / 2 ^ (k - 1)).tmod 2 == 1) = false) : (n / 2 ^ (k - 1)).toNat = (n / 2 ^ k).toNat + (n / 2 ^ k).toNat := by
 obtain ⟨j, rfl⟩ : ∃ j, k = j + 1 := ⟨k - 1, by omega⟩
 simp only [Nat.add_sub_cancel] at *
 have h2 : (0 : Int) ≤ n / 2 ^ j := Int.ediv_nonneg hn (by exact Int.le_of_lt (Int.pow_pos (by decide)))
 rw [Int.tmod_eq_emod_of_nonneg h2] at h
 have e : n / 2 ^ (j + 1) = n / 2 ^ j / 2 := by rw [Int.pow_succ, Int.ediv_ediv_of_nonneg (Int.le_of_lt (Int.pow_pos (by decide)))]
 rw [e]
 have := beq_eq_false_iff_ne.mp h
 omega
theorem rpow_one (a c : F) (n : Int) (hn : U64 n) (k : Nat) (hk : 0 < k) (h : ((n / 2 ^ (k - 1)).tmod 2 == 1) = true) (H : c = a ^ (n / 2 ^ k).toNat) :
  phi (psi (phi (psi (c * c)) * a)) = a ^ (n / 2 ^ (k - 1)).toNat := by
 rw [phi_psi, phi_psi, bitI_one n hn.1 k hk h, pow_succ', pow_add', ← H]
theorem rpow_zero (a c : F) (n : Int) (hn : U64 n) (k : Nat) (hk : 0 < k) (h : ((n / 2 ^ (k - 1)).tmod 2 == 1) = false) (H : c = a ^ (n / 2 ^ k).toNat) :
  phi (psi (c * c)) = a ^ (n / 2 ^ (k - 1)).toNat := by
 rw [phi_psi, bitI_zero n hn.1 k hk h, pow_add', ← H]
theorem rpow_start (a : F) (n : Int) (hn : U64 n) : phi 1 = a ^ (n / 2 ^ 64).toNat := by
 have h0 := hn.1
 have h1 := hn.2
 have : n / 2 ^ 64 = 0 := Int.ediv_eq_zero_of_lt h0 (by omega)
 rw [this, phi_one]; rfl
theorem rpow_end (a : F) (n c : Int) (hc : U64 c) (hlt : c < P) (H : phi c = a ^ (n / 2 ^ 0).toNat) : c = psi (a ^ n.toNat) := by
 rw [Int.pow_zero, Int.ediv_one] at H
 exact eq_psi H hc.1 hlt
set_option maxHeartbeats 400000 in
theorem ref_Pow (a n : Int) (w : World) (ha : U64 a) (hn : U64 n) :
  Calls Tryz.prog 46 #[.int .u64 a, .int .u64 n] w fun e w' => e = .returned (.int .u64 (psi (phi a ^ n.toNat))) ∧ w = w' := by
 go_enter Tryz.func46, Tryz.ntmps46
 go_wp2
 go_loop [5, 6] (fun o i => ∃ (k : Nat) (c : Int), k ≤ 64 ∧ U64 c ∧ c < P ∧ i = .int .i64 ((k : Int) - 1) ∧ o = .int .u64 c ∧ Hid (phi c = phi a ^ (n / 2 ^ k).toNat)) (fun _ i => (intOf i + 1).toNat)
 case atStart => exact ⟨64, 1, by omega, U64.one, by decide, rfl, rfl, rpow_start _ _ hn⟩
 case round =>
  obtain ⟨k, c, hk, hc, hlt, rfl, rfl, H⟩ := hrel
  by_cases hz : 0 < k
  ·go_wp2_with (first | (go_at_call 45; (with_reducible refine (ref_Mul _ _ _ (by first | assumption | exact U64.psi _ | exact U64.zero | exact U64.one | exact U64.mk (by decide) (by decide)) (by first | assumption | exact U64.psi _ | exact U64.zero | exact U64.one | exact U64.mk (by decide) (by decide))).mono ?_); rintro e w' ⟨rfl, rfl⟩))
   all_goals go_round
   case rel => exact ⟨k - 1, _, by omega, U64.psi _, psi_lt _, by congr 1; omega, rfl, rpow_one _ _ n hn k hz ‹_› H.out⟩
   case measure => simp [intOf]; omega
   case rel => exact ⟨k - 1, _, by omega, U64.psi _, psi_lt _, by congr 1; omega, rfl, rpow_zero _ _ n hn k hz ‹_› H.out⟩
   case measure => simp [intOf]; omega
  ·obtain rfl : k = 0 := by omega
   go_wp2
   go_ret
   exact ⟨ret_u64 (rpow_end _ n c hc hlt H.out), rfl⟩
end Go.Proofs.YtlfneeobnihocaaGreatDoor
/- Memory: what is meant by a slice of 64-bit numbers that reads as a list; how such facts are kept. No condition. -/
namespace Go.Proofs.YtlfneeobnihocaaGreatDoor
set_option maxRecDepth 100000
set_option linter.unusedVariables false
open Go.RowKit Tally
theorem Tryz.infoU : (Tryz.prog.info? 57).map (fun i => (i.zero, i.size, i.bytes)) = some (some (.int .u64 0), 1, 8) := by kernel_rfl
abbrev at0 (l : List Int) (j : Nat) : Int := l[j]?.getD 0
theorem zH {p : Prop} (h : p) : Hid p := h
def RowU (w : World) (v : Value) (l : List Int) : Prop :=
 (∀ x ∈ l, U64 x) ∧ l.length ≤ 9223372036854775807 ∧ ∃ a cap, v = .slice a l.length cap ∧
  (0 < l.length → ∃ b off, a = some ⟨b, off, none⟩ ∧ b < w.heap.size ∧ ∀ j, j < l.length → w.cell? ⟨b, off + j, none⟩ = some (.int .u64 (at0 l j)))
def NewU (B : Nat) (w : World) (v : Value) (l : List Int) : Prop :=
 (∀ x ∈ l, U64 x) ∧ l.length * 8 ≤ 140737488351232 ∧ w.ownsRow B 57 1 v l.length (l.map (Value.int .u64))
theorem at0_mem {l : List Int} {j : Nat} (h : j < l.length) : at0 l j ∈ l := by
 simp [at0, List.getElem?_eq_getElem h]
theorem RowU.at {w : World} {v : Value} {l : List Int} (h : RowU w v l) {j : Nat} (hj : j < l.length) : U64 (at0 l j) := h.1 _ (at0_mem hj)
theorem RowU.len {w : World} {v : Value} {l : List Int} (h : RowU w v l) : l.length ≤ 9223372036854775807 := h.2.1
theorem NewU.len {B : Nat} {w : World} {v : Value} {l : List Int} (h : NewU B w v l) : l.length ≤ 17592186043904 := by have := h.2.1; omega
theorem RowU.below {K : Nat} {w w' : World} {v : Value} {l : List Int} (h : RowU w v l) (hb : Below K w w') (hK : w.heap.size ≤ K) : RowU w' v l := by
 obtain ⟨h1, h2, a, cap, rfl, h3⟩ := h
 refine ⟨h1, h2, a, cap, rfl, fun hl => ?_⟩
 obtain ⟨b, off, rfl, hlt, hc⟩ := h3 hl
 exact ⟨b, off, rfl, Nat.lt_of_lt_of_le hlt hb.size, fun j hj => by rw [hb.cell (by show b < K; omega)]; exact hc j hj⟩
theorem ownsRow_mono {w : World} {B B' : Nat} {e : TypeId} {s : Nat} {v : Value} {n : Nat} {xs : List Value} (h : w.ownsRow B e s v n xs) (hB : B' ≤ B) : w.ownsRow B' e s v n xs := by
 obtain ⟨h1, h2⟩ := h
 refine ⟨h1, ?_⟩
 rcases h2 with h2 | ⟨g, cap, cur, hv, hg, r⟩
 ·exact .inl h2
 ·exact .inr ⟨g, cap, cur, hv, by omega, r⟩
theorem ownsRow_below {w w' : World} {B K : Nat} {e : TypeId} {s : Nat} {v : Value} {n : Nat} {xs : List Value} (h : w.ownsRow B e s v n xs) (hb : Below K w w') (hK : w.heap.size ≤ K) : w'.ownsRow B e s v n xs := by
 obtain ⟨h1, h2⟩ := h
 refine ⟨h1, ?_⟩
 rcases h2 with h2 | ⟨g, cap, cur, hv, hg, hh, r⟩
 ·exact .inl h2
 ·have hlt : g < w.heap.size := by
   rcases Nat.lt_or_ge g w.heap.size with hh' | hh'
   ·exact hh'
   ·rw [Array.getElem?_eq_none hh'] at hh; cases hh
  exact .inr ⟨g, cap, cur, hv, hg, by rw [hb.block g (by omega)]; exact hh, r⟩
theorem NewU.below {B K : Nat} {w w' : World} {v : Value} {l : List Int} (h : NewU B w v l) (hb : Below K w w') (hK : w.heap.size ≤ K) : NewU B w' v l :=
 ⟨h.1, h.2.1, ownsRow_below h.2.2 hb hK⟩
theorem NewU.mono {B B' : Nat} {w : World} {v : Value} {l : List Int} (h : NewU B w v l) (hB : B' ≤ B) : NewU B' w v l :=
 ⟨h.1, h.2.1, ownsRow_mono h.2.2 hB⟩
theorem take_snoc' (l : List Int) (k : Nat) (h : k < l.length) : l.take (k + 1) = l.take k ++ [at0 l k] := by
 rw [List.take_succ_eq_append_getElem h, at0, List.getElem?_eq_getElem h]; rfl
theorem NewU.row {B : Nat} {w : World} {v : Value} {l : List Int} (h : NewU B w v l) : RowU w v l := by
 obtain ⟨h1, h2, h3⟩ := h
 refine ⟨h1, by omega, ?_⟩
 rcases h3.2 with ⟨rfl, h0⟩ | ⟨g, cap, cur, rfl, hg, hh, hn, hcap, hs, ht⟩
 ·exact ⟨none, 0, by rw [h0], fun hl => by omega⟩
 ·refine ⟨_, cap, rfl, fun hl => ⟨g, 0, rfl, ?_, fun j hj => ?_⟩⟩
  ·rcases Nat.lt_or_ge g w.heap.size with hh' | hh'
   ·exact hh'
   ·rw [Array.getElem?_eq_none hh'] at hh; cases hh
  ·have := h3.cellAt j (by omega)
   rw [show (0 + j) = j from Nat.zero_add j, this]
   simp [at0, List.getElem?_eq_getElem hj]
theorem NewU.shape {B : Nat} {w : World} {v : Value} {l : List Int} (h : NewU B w v l) (hl : 0 < l.length) :
  ∃ g cap, v = .slice (some ⟨g, 0, none⟩) l.length cap ∧ B ≤ g ∧ g < w.heap.size ∧ (∀ j, j < l.length → w.cell? ⟨g, j, none⟩ = some (.int .u64 (at0 l j))) ∧ (∀ j, w.frozen? ⟨g, j, none⟩ = false) := by
 obtain ⟨h1, h2, h3⟩ := h
 rcases h3.2 with ⟨rfl, h0⟩ | ⟨g, cap, cur, rfl, hg, hh, hn, hcap, hs, ht⟩
 ·omega
 ·refine ⟨g, cap, rfl, hg, ?_, fun j hj => ?_, fun j => h3.frozenAt j⟩
  ·rcases Nat.lt_or_ge g w.heap.size with hh' | hh'
   ·exact hh'
   ·rw [Array.getElem?_eq_none hh'] at hh; cases hh
  ·rw [h3.cellAt j (by omega)]
   simp [at0, List.getElem?_eq_getElem hj]
theorem NewU.lenEq {B g n c : Nat} {w : World} {l : List Int} (h : NewU B w (.slice (some ⟨g, 0, none⟩) n c) l) : n = l.length := by
 rcases h.2.2.2 with ⟨h0, _⟩ | ⟨g', cap, cur, hv, _⟩
 ·cases h0
 ·cases hv; rfl
theorem NewU.cellAt {B g n c : Nat} {w : World} {l : List Int} (h : NewU B w (.slice (some ⟨g, 0, none⟩) n c) l) (j : Nat) (hj : j < l.length) : w.cell? ⟨g, j, none⟩ = some (.int .u64 (at0 l j)) := by
 obtain rfl := h.lenEq
 rw [h.2.2.cellAt j (by omega)]; simp [at0, List.getElem?_eq_getElem hj]
theorem NewU.freeAt {B g n c : Nat} {w : World} {l : List Int} (h : NewU B w (.slice (some ⟨g, 0, none⟩) n c) l) (j : Nat) : w.frozen? ⟨g, j, none⟩ = false := by
 obtain rfl := h.lenEq
 exact h.2.2.frozenAt j
theorem NewU.blk {B g n c : Nat} {w : World} {l : List Int} (h : NewU B w (.slice (some ⟨g, 0, none⟩) n c) l) : B ≤ g ∧ g < w.heap.size := h.2.2.lt g rfl
theorem NewU.set {B g n c : Nat} {w : World} {l : List Int} (h : NewU B w (.slice (some ⟨g, 0, none⟩) n c) l) (j : Nat) (y : Int) (hy : U64 y) : NewU B (w.setCell ⟨g, j, none⟩ (.int .u64 y)) (.slice (some ⟨g, 0, none⟩) n c) (l.set j y) := by
 obtain rfl := h.lenEq
 refine ⟨fun x hx => ?_, by rw [List.length_set]; exact h.2.1, ?_⟩
 ·rcases List.mem_or_eq_of_mem_set hx with hx | rfl
  ·exact h.1 x hx
  ·exact hy
 ·have := h.2.2.stored j (.int .u64 y)
  rw [List.length_set, List.map_set]; exact this.1
theorem NewU.other {B g n c g' : Nat} {w : World} {l : List Int} (h : NewU B w (.slice (some ⟨g, 0, none⟩) n c) l) (j : Nat) (u : Value) (hne : g ≠ g') : NewU B (w.setCell ⟨g', j, none⟩ u) (.slice (some ⟨g, 0, none⟩) n c) l :=
 ⟨h.1, h.2.1, ownsRow_setCell_other h.2.2 (by simp only [Value.ownBlock, ne_eq, Option.some.injEq]; exact hne) u⟩
theorem NewU.nil (B : Nat) (w : World) : NewU B w (.slice none 0 0) [] := ⟨by simp, by simp, World.ownsRow_nil w B _ _⟩
theorem psis (l : List F) : ∀ x ∈ l.map psi, U64 x := by
 intro x hx
 obtain ⟨y, _, rfl⟩ := List.mem_map.mp hx
 exact U64.psi y
theorem wpList_app {Pr : Program} {ops : Array Oper} {rest : List Oper} {o : Oper} {a : Act} {Q : Exit → Act → World → Prop} {w0 : World} (hgd : o.guard = none) (s x : Operand) (t : TypeId)
  (ho : o.op = .call { callee := .builtin .append, args := #[s, x], argTypes := #[t, t] })
  (B : Nat) (e e' : TypeId) (z : Value) (size bytes : Nat) (ht : Pr.underlying t = some (.slice e)) (hi : (Pr.info? e).map (fun i => (i.zero, i.size, i.bytes)) = some (some z, size, bytes)) (hzs : z.cells.size = size) (hsz : 0 < size)
  (v : Value) (n : Nat) (xs : List Value) (hs : a.eval s = v) (hown : w0.ownsRow B e size v n xs)
  (m : Nat) (news : Array Value) (hx : a.eval x = .slice (some ⟨w0.heap.size, 0, none⟩) m m) (hl : news.size = m * size) (h1 : ∀ u ∈ news.toList, u.oneCell' = true)
  (h63 : n + m ≤ maxLen) (hbytes : (n + m) * bytes ≤ 140737488355328) (hB : B ≤ w0.heap.size)
  (h : ∀ v' w', w'.ownsRow B e size v' (n + m) (xs ++ news.toList) → Below B w0 w' → wpList Pr ops Q rest (a.put o.dst v') w') : wpList Pr ops Q (o :: rest) a (w0.alloc (.cells news e')) := by
 obtain ⟨i0, hi1, hz0, hz1, hz2⟩ := info_parts hi
 refine wpList_append_own _ hgd s x t ho B e i0 z size bytes ht hi1 hz0 hz1 hz2 hzs hsz v n xs hs (hown.alloc _) ⟨w0.heap.size, 0, none⟩ m m news.toList hx (by simpa using hl) ?_ h1 h63 hbytes (by simp; omega) ?_
 ·intro j u hj
  have e1 : ((⟨w0.heap.size, 0, none⟩ : Addr).add j) = ⟨w0.heap.size, j, none⟩ := by rw [Addr.add_lit, Nat.zero_add]
  rw [e1, World.cell?_alloc_at _ _ _ _ rfl]
  simpa using hj
 ·intro v' w' h2 h3 _
  refine h v' w' h2 (((Below.refl B w0).alloc hB _).grown h3 (by simp; omega) fun k hk => ?_)
  exact (hown.lt k hk).1
theorem wpList_appU {ops : Array Oper} {rest : List Oper} {o : Oper} {a : Act} {Q : Exit → Act → World → Prop} {w0 : World} (hgd : o.guard = none) (s x : Operand)
  (ho : o.op = .call { callee := .builtin .append, args := #[s, x], argTypes := #[53, 53] })
  (B : Nat) (v : Value) (l : List Int) (hs : a.eval s = v) (hown : NewU B w0 v l) (y : Int) (hx : a.eval x = .slice (some ⟨w0.heap.size, 0, none⟩) 1 1) (hy : U64 y)
  (hlen : l.length + 1 ≤ 17592186043904) (hB : B ≤ w0.heap.size)
  (h : ∀ v' w', NewU B w' v' (l ++ [y]) → Below B w0 w' → wpList Tryz.prog ops Q rest (a.put o.dst v') w') : wpList Tryz.prog ops Q (o :: rest) a (w0.alloc (.cells #[.int .u64 y] 57)) := by
 refine wpList_app hgd s x _ ho B 57 _ (.int .u64 0) 1 8 Tryz.underlying53 Tryz.infoU rfl (by decide) v l.length _ hs hown.2.2 1 _ hx rfl (by simp [Value.oneCell']) (by unfold maxLen; omega) (by omega) hB fun v' w' h1 h2 => h v' w' ⟨?_, ?_, ?_⟩ h2
 ·intro z hz
  rcases List.mem_append.mp hz with hz | hz
  ·exact hown.1 z hz
  ·rw [List.mem_singleton.mp hz]; exact hy
 ·simp; omega
 ·simpa using h1
theorem wpList_appU2 {ops : Array Oper} {rest : List Oper} {o : Oper} {a : Act} {Q : Exit → Act → World → Prop} {w0 : World} (hgd : o.guard = none) (s x : Operand)
  (ho : o.op = .call { callee := .builtin .append, args := #[s, x], argTypes := #[53, 53] })
  (B : Nat) (v : Value) (l : List Int) (hs : a.eval s = v) (hown : NewU B w0 v l) (y z : Int) (hx : a.eval x = .slice (some ⟨w0.heap.size, 0, none⟩) 2 2) (hy : U64 y) (hz : U64 z)
  (hlen : l.length + 2 ≤ 17592186043904) (hB : B ≤ w0.heap.size)
  (h : ∀ v' w', NewU B w' v' (l ++ [y, z]) → Below B w0 w' → wpList Tryz.prog ops Q rest (a.put o.dst v') w') : wpList Tryz.prog ops Q (o :: rest) a (w0.alloc (.cells #[.int .u64 y, .int .u64 z] 57)) := by
 refine wpList_app hgd s x _ ho B 57 _ (.int .u64 0) 1 8 Tryz.underlying53 Tryz.infoU rfl (by decide) v l.length _ hs hown.2.2 2 _ hx rfl (by simp [Value.oneCell']) (by unfold maxLen; omega) (by omega) hB fun v' w' h1 h2 => h v' w' ⟨?_, ?_, ?_⟩ h2
 ·intro u hu
  rcases List.mem_append.mp hu with hu | hu
  ·exact hown.1 u hu
  ·simp at hu; rcases hu with rfl | rfl
   ·exact hy
   ·exact hz
 ·simp; omega
 ·simpa using h1
theorem wpList_makeU0 {ops : Array Oper} {rest : List Oper} {o : Oper} {a : Act} {Q : Exit → Act → World → Prop} (w : World) (hg : o.guard = none) (lo co : Operand) (hop : o.op = Op.makeSlice 53 lo co)
  (C : Int) (n : Nat) (hl : a.eval lo = .int .i64 0) (hc : a.eval co = .int .i64 C) (hC : C = (n : Int)) (hn : n ≤ 17592186043904)
  (h : ∀ v w', NewU w.heap.size w' v [] → Below w.heap.size w w' → wpList Tryz.prog ops Q rest (a.put o.dst v) w') : wpList Tryz.prog ops Q (o :: rest) a w := by
 obtain ⟨i0, hi1, hz0, hz1, hz2⟩ := info_parts Tryz.infoU
 refine wpList_make_own w hg lo co _ hop w.heap.size 57 i0 (.int .u64 0) 1 Tryz.underlying53 hi1 hz0 hz1 .i64 .i64 C n hl hc hC (by rw [hz2]; omega) (by unfold maxLen; omega) (Nat.le_refl _) fun w' h1 h2 => ?_
 refine h _ w' ⟨by simp, by simp, ?_⟩ ((Below.refl _ w).grown h2 (Nat.le_refl _) (by simp))
 obtain ⟨_, r⟩ := h1
 rcases r with ⟨r, _⟩ | ⟨g, cap, cur, rv, r2, r3, r4, r5, r6, r7⟩
 ·cases r
 ·cases rv
  exact ⟨by simp, .inr ⟨_, _, cur, rfl, r2, r3, r4, r5, r6, r7⟩⟩
theorem wpList_makeU {ops : Array Oper} {rest : List Oper} {o : Oper} {a : Act} {Q : Exit → Act → World → Prop} (w : World) (hg : o.guard = none) (lo co : Operand) (hop : o.op = Op.makeSlice 53 lo co)
  (L C : Int) (n : Nat) (hl : a.eval lo = .int .i64 L) (hc : a.eval co = .int .i64 C) (hL : L = (n : Int)) (hC : C = (n : Int)) (hn : n ≤ 17592186043904)
  (h : ∀ w', NewU w.heap.size w' (.slice (some ⟨w.heap.size, 0, none⟩) n n) (List.replicate n 0) → Below w.heap.size w w' → wpList Tryz.prog ops Q rest (a.put o.dst (.slice (some ⟨w.heap.size, 0, none⟩) n n)) w') : wpList Tryz.prog ops Q (o :: rest) a w := by
 obtain ⟨i0, hi1, hz0, hz1, hz2⟩ := info_parts Tryz.infoU
 refine wpList_make_full w hg lo co _ hop w.heap.size 57 i0 (.int .u64 0) 1 Tryz.underlying53 hi1 hz0 hz1 .i64 .i64 L C n hl hc hL hC (by rw [hz2]; omega) (by unfold maxLen; omega) (Nat.le_refl _) fun w' h1 h2 => ?_
 refine h w' ⟨?_, by simp; omega, ?_⟩ ((Below.refl _ w).grown h2 (Nat.le_refl _) (by simp))
 ·intro x hx; rw [List.eq_of_mem_replicate hx]; exact U64.zero
 ·have e1 : (madeCells (Value.int .u64 0).cells (n * 1)).toList = (List.replicate n (0 : Int)).map (Value.int .u64) := by
   rw [Nat.mul_one]; show (madeCells #[Value.int .u64 0] n).toList = _
   rw [toList_madeCells_one, List.map_replicate]
  rw [e1] at h1
  simpa using h1
theorem NewU.lit1 (w : World) (y : Int) (hy : U64 y) : NewU w.heap.size (w.alloc (.cells #[.int .u64 y] 57)) (.slice (some ⟨w.heap.size, 0, none⟩) 1 1) [y] :=
 ⟨by simpa using hy, by simp, World.ownsRow_lit w #[.int .u64 y] 1 (Nat.le_refl _) (by unfold maxLen; omega) rfl⟩
theorem NewU.lit2 (w : World) (y z : Int) (hy : U64 y) (hz : U64 z) : NewU w.heap.size (w.alloc (.cells #[.int .u64 y, .int .u64 z] 57)) (.slice (some ⟨w.heap.size, 0, none⟩) 2 2) [y, z] :=
 ⟨by simpa using ⟨hy, hz⟩, by simp, World.ownsRow_lit w #[.int .u64 y, .int .u64 z] 2 (Nat.le_refl _) (by unfold maxLen; omega) rfl⟩
abbrev atl (ll : List (List Int)) (j : Nat) : List Int := ll[j]?.getD []
def RowUU (w : World) (v : Value) (ll : List (List Int)) : Prop :=
 ll.length ≤ 9223372036854775807 ∧ ∃ a cap, v = .slice a ll.length cap ∧
  (0 < ll.length → ∃ b off, a = some ⟨b, off, none⟩ ∧ b < w.heap.size ∧ ∀ j, j < ll.length → ∃ u, w.cell? ⟨b, off + j, none⟩ = some u ∧ RowU w u (atl ll j))
theorem RowUU.below {K : Nat} {w w' : World} {v : Value} {l : List (List Int)} (h : RowUU w v l) (hb : Below K w w') (hK : w.heap.size ≤ K) : RowUU w' v l := by
 obtain ⟨h2, a, cap, rfl, h3⟩ := h
 refine ⟨h2, a, cap, rfl, fun hl => ?_⟩
 obtain ⟨b, off, rfl, hlt, hc⟩ := h3 hl
 refine ⟨b, off, rfl, Nat.lt_of_lt_of_le hlt hb.size, fun j hj => ?_⟩
 obtain ⟨u, hu, hr⟩ := hc j hj
 exact ⟨u, by rw [hb.cell (by show b < K; omega)]; exact hu, hr.below hb hK⟩
/-! a block that is known whole -/
theorem blk_lt {w : World} {b : Nat} {o : Obj} (h : w.heap[b]? = some o) : b < w.heap.size := by
 rcases Nat.lt_or_ge b w.heap.size with h' | h'
 ·exact h'
 ·simp [Array.getElem?_eq_none h'] at h
theorem cell_blk {w : World} {b : Nat} {cs : Array Value} {t : TypeId} (h : w.heap[b]? = some (.cells cs t (0, 0))) (j : Nat) : w.cell? ⟨b, j, none⟩ = cs[j]? := by simp [World.cell?, h]
theorem free_blk {w : World} {b : Nat} {cs : Array Value} {t : TypeId} (h : w.heap[b]? = some (.cells cs t (0, 0))) (j : Nat) : w.frozen? ⟨b, j, none⟩ = false := by simp [World.frozen?, h]
theorem blk_setCell {w : World} {b : Nat} {cs : Array Value} {t : TypeId} (h : w.heap[b]? = some (.cells cs t (0, 0))) (j : Nat) (u : Value) :
  (w.setCell ⟨b, j, none⟩ u).heap[b]? = some (.cells (cs.setIfInBounds j u) t (0, 0)) := by
 have hlt := blk_lt h
 have h' : w.heap[b] = .cells cs t (0, 0) := by simpa [Array.getElem?_eq_getElem hlt] using h
 show (w.heap.modify b _)[b]? = _
 rw [Array.getElem?_eq_getElem (by simpa using hlt), Array.getElem_modify_self, h']
 rfl
theorem grownBy_trans {a b c : World} {r : Option Nat} (h : a.grownBy b r) (k : b.grownBy c r) : a.grownBy c r :=
 ⟨k.os.trans h.os, k.tape.trans h.tape, k.output.trans h.output, Nat.le_trans h.size k.size, fun i hi hne => (k.block i (Nat.lt_of_lt_of_le hi h.size) hne).trans (h.block i hi hne)⟩
theorem grownBy_setCell (w : World) (b j : Nat) (u : Value) : w.grownBy (w.setCell ⟨b, j, none⟩ u) (some b) :=
 ⟨rfl, rfl, rfl, by simp [World.setCell], fun k _ hne => Below.heap_setCell _ _ _ _ (fun e => hne (by rw [e]))⟩
theorem grownBy_drewN (w : World) (n : Nat) (r : Option Nat) : w.grownBy (w.drewN n) r := ⟨rfl, rfl, rfl, Nat.le_refl _, fun _ _ _ => rfl⟩
theorem below_of_grownBy {w w' : World} {b B : Nat} (h : w.grownBy w' (some b)) (hB : B ≤ b) (hB2 : B ≤ w.heap.size) : Below B w w' :=
 ⟨h.os, h.tape, h.output, h.size, fun k hk => h.block k (by omega) (fun e => by cases e; omega)⟩
theorem RowU.grown {w w' : World} {v : Value} {l : List Int} {b : Nat} (h : RowU w v l) (hg : w.grownBy w' (some b)) (hty : ∀ a n c, v = .slice (some a) n c → 0 < n → a.block ≠ b) : RowU w' v l := by
 obtain ⟨h1, h2, a, cap, rfl, h3⟩ := h
 refine ⟨h1, h2, a, cap, rfl, fun hl => ?_⟩
 obtain ⟨k, off, rfl, hlt, hc⟩ := h3 hl
 have hk : k ≠ b := hty _ _ _ rfl hl
 refine ⟨k, off, rfl, Nat.lt_of_lt_of_le hlt hg.size, fun j hj => ?_⟩
 rw [World.cell?_of_block (w := w) (hg.block k hlt (fun e => hk (by cases e; rfl)))]
 exact hc j hj
theorem flip {Pr : Program} {f : FuncId} {args : Array Value} {w : World} {n : Nat} {v : Value} (h : Calls Pr f args (w.drewN n) fun e w' => e = .returned v ∧ w.drewN n = w') :
  Calls Pr f args (w.drewN n) fun e w'' => e = .returned v ∧ ∃ m, w'' = w.drewN m := Calls.quiet_of_same (h.mono fun _ _ h => ⟨h.1, h.2.symm⟩)
theorem still_of {Pr : Program} {f : FuncId} {args : Array Value} {w : World} {v : Value} (h : Calls Pr f args w fun e w' => e = .returned v ∧ w = w') :
  Calls Pr f args w fun e w'' => e = .returned v ∧ w'' = w := h.mono fun _ _ h => ⟨h.1, h.2.symm⟩
theorem RowU.drewN {w : World} {v : Value} {l : List Int} (h : RowU w v l) (n : Nat) : RowU (w.drewN n) v l :=
 h.below (below_drewN (Below.refl w.heap.size w) n) (Nat.le_refl _)
theorem alloc_blk (w : World) (o : Obj) : (w.alloc o).heap[w.heap.size]? = some o := by
 show (w.heap.push o)[w.heap.size]? = _
 rw [Array.getElem?_push, if_pos rfl]
theorem NewU.drewN {B : Nat} {w : World} {v : Value} {l : List Int} (h : NewU B w v l) (n : Nat) : NewU B (w.drewN n) v l :=
 h.below (below_drewN (Below.refl w.heap.size w) n) (Nat.le_refl _)
theorem at0_set_self (l : List Int) (j : Nat) (v : Int) (h : j < l.length) : at0 (l.set j v) j = v := by
 simp only [at0]; rw [List.getElem?_set_self h]; rfl
theorem at0_set_ne (l : List Int) (j q : Nat) (v : Int) (h : j ≠ q) : at0 (l.set j v) q = at0 l q := by
 simp only [at0]; rw [List.getElem?_set_ne h]
end Go.Proofs.YtlfneeobnihocaaGreatDoor
/- Several texts in one: Open, Cap, Circ. What each says, and its conditions, stands at its head. -/
/- How an argument that can be read as data is opened: slices of 64-bit numbers. No condition. -/
namespace Go.Proofs.YtlfneeobnihocaaGreatDoor
set_option maxRecDepth 100000
set_option linter.unusedVariables false
open Go.ChangeShapes Go.WideShapes Go.ChangeAt Go.RowKit
def I64 (a : Int) : Prop := -9223372036854775808 ≤ a ∧ a ≤ 9223372036854775807
theorem Tryz.own : ownKnob Tryz.prog.godebug = none := by kernel_rfl
end Go.Proofs.YtlfneeobnihocaaGreatDoor
/- A slice's length is at most its room: what an argument that can be read as data gives besides. No condition. -/
namespace Go.Proofs.YtlfneeobnihocaaGreatDoor
set_option maxRecDepth 100000
set_option linter.unusedVariables false
open Go.ChangeShapes Go.WideShapes Go.ChangeAt Go.RowKit
def CapOk (v : Value) : Prop := ∀ a n c, v = .slice a n c → n ≤ c ∧ c ≤ 9223372036854775807
theorem CapOk.mk {a : Option Addr} {n c : Nat} (h : n ≤ c) (h2 : c ≤ 9223372036854775807) : CapOk (.slice a n c) := fun _ _ _ e => by cases e; exact ⟨h, h2⟩
theorem NewU.cap {B : Nat} {w : World} {v : Value} {l : List Int} (h : NewU B w v l) : CapOk v := by
 obtain ⟨_, _, ho⟩ := h
 rcases ho.2 with ⟨rfl, _⟩ | ⟨g, cap, cur, rfl, hg, hh, hn, hcap, _⟩
 ·exact CapOk.mk (by omega) (by omega)
 ·unfold maxLen at hcap; exact CapOk.mk hn hcap
def NilOk (v : Value) : Prop := ∀ n c, v = .slice none n c → c = 0
theorem NilOk.some (a : Addr) (n c : Nat) : NilOk (.slice (some a) n c) := fun _ _ e => by cases e
theorem NilOk.none : NilOk (.slice none 0 0) := fun _ _ e => by cases e; rfl
theorem NewU.nilOk {B : Nat} {w : World} {v : Value} {l : List Int} (h : NewU B w v l) : NilOk v := by
 obtain ⟨_, _, ho⟩ := h
 rcases ho.2 with ⟨rfl, _⟩ | ⟨g, cap, cur, rfl, _⟩
 ·exact NilOk.none
 ·exact NilOk.some _ _ _
end Go.Proofs.YtlfneeobnihocaaGreatDoor
/- Circuits in memory: what is meant by a circuit that reads as data; how such facts are kept. No condition. -/
namespace Go.Proofs.YtlfneeobnihocaaGreatDoor
set_option maxRecDepth 100000
set_option linter.unusedVariables false
open Go.RowKit Tally
structure Gt where
 mul : Bool
 a : Int
 b : Int
structure Ly where
 log : Int
 gates : List Gt
structure Ci where
 log : Int
 layers : List Ly
abbrev gate0 : Gt := ⟨false, 0, 0⟩
abbrev layer0 : Ly := ⟨0, []⟩
abbrev atg (l : List Gt) (j : Nat) : Gt := l[j]?.getD gate0
abbrev aty (l : List Ly) (j : Nat) : Ly := l[j]?.getD layer0
def RowG (w : World) (v : Value) (l : List Gt) : Prop :=
 (∀ g ∈ l, I64 g.a ∧ I64 g.b) ∧ l.length ≤ 9223372036854775807 ∧ ∃ a cap, v = .slice a l.length cap ∧
  (0 < l.length → ∃ b off, a = some ⟨b, off, none⟩ ∧ b < w.heap.size ∧ ∀ j, j < l.length →
   w.cell? ⟨b, off + j * 3, none⟩ = some (.bool (atg l j).mul) ∧ w.cell? ⟨b, off + j * 3 + 1, none⟩ = some (.int .i64 (atg l j).a) ∧ w.cell? ⟨b, off + j * 3 + 2, none⟩ = some (.int .i64 (atg l j).b))
def RowL (w : World) (v : Value) (l : List Ly) : Prop :=
 (∀ y ∈ l, I64 y.log) ∧ l.length ≤ 9223372036854775807 ∧ ∃ a cap, v = .slice a l.length cap ∧
  (0 < l.length → ∃ b off, a = some ⟨b, off, none⟩ ∧ b < w.heap.size ∧ ∀ j, j < l.length →
   w.cell? ⟨b, off + j * 2, none⟩ = some (.int .i64 (aty l j).log) ∧ ∃ u, w.cell? ⟨b, off + j * 2 + 1, none⟩ = some u ∧ RowG w u (aty l j).gates)
def IsC (w : World) (v : Value) (c : Ci) : Prop := I64 c.log ∧ ∃ u, v = .agg #[.int .i64 c.log, u] ∧ RowL w u c.layers
theorem RowG.below {K : Nat} {w w' : World} {v : Value} {l : List Gt} (h : RowG w v l) (hb : Below K w w') (hK : w.heap.size ≤ K) : RowG w' v l := by
 obtain ⟨h1, h2, a, cap, rfl, h3⟩ := h
 refine ⟨h1, h2, a, cap, rfl, fun hl => ?_⟩
 obtain ⟨b, off, rfl, hlt, hc⟩ := h3 hl
 refine ⟨b, off, rfl, Nat.lt_of_lt_of_le hlt hb.size, fun j hj => ?_⟩
 obtain ⟨c1, c2, c3⟩ := hc j hj
 exact ⟨by rw [hb.cell (by show b < K; omega)]; exact c1, by rw [hb.cell (by show b < K; omega)]; exact c2, by rw [hb.cell (by show b < K; omega)]; exact c3⟩
theorem RowL.below {K : Nat} {w w' : World} {v : Value} {l : List Ly} (h : RowL w v l) (hb : Below K w w') (hK : w.heap.size ≤ K) : RowL w' v l := by
 obtain ⟨h1, h2, a, cap, rfl, h3⟩ := h
 refine ⟨h1, h2, a, cap, rfl, fun hl => ?_⟩
 obtain ⟨b, off, rfl, hlt, hc⟩ := h3 hl
 refine ⟨b, off, rfl, Nat.lt_of_lt_of_le hlt hb.size, fun j hj => ?_⟩
 obtain ⟨c1, u, c2, c3⟩ := hc j hj
 exact ⟨by rw [hb.cell (by show b < K; omega)]; exact c1, u, by rw [hb.cell (by show b < K; omega)]; exact c2, c3.below hb hK⟩
theorem IsC.below {K : Nat} {w w' : World} {v : Value} {c : Ci} (h : IsC w v c) (hb : Below K w w') (hK : w.heap.size ≤ K) : IsC w' v c := by
 obtain ⟨h1, u, rfl, h2⟩ := h
 exact ⟨h1, u, rfl, h2.below hb hK⟩
theorem atg_mem {l : List Gt} {j : Nat} (h : j < l.length) : atg l j ∈ l := by simp [atg, List.getElem?_eq_getElem h]
end Go.Proofs.YtlfneeobnihocaaGreatDoor
/- Several texts in one: Poly, Lag, Mle, Tab, PolyD. What each says, and its conditions, stands at its head. -/
/- Plain law: polynomials by their values: HORNER, NEWTON, LAGRANGE; no program in sight, no condition. -/
namespace Tally
set_option maxRecDepth 100000
set_option linter.unusedVariables false
def hor : List F → F → F
 | [], _ => 0
 | a :: l, x => a + x * hor l x
theorem hor_nil (x : F) : hor [] x = 0 := rfl
theorem hor_cons (a : F) (l : List F) (x : F) : hor (a :: l) x = a + x * hor l x := rfl
theorem hor_append (l m : List F) (x : F) : hor (l ++ m) x = hor l x + x ^ l.length * hor m x := by
 induction l with
 | nil => simp only [List.nil_append, hor_nil, List.length_nil, pow_zero']; grind
 | cons a l ih =>
  simp only [List.cons_append, hor_cons, ih, List.length_cons, pow_succ']
  generalize hor l x = u; generalize hor m x = v; generalize x ^ l.length = y; grind
def addL : List F → List F → List F
 | [], m => m
 | l, [] => l
 | a :: l, b :: m => (a + b) :: addL l m
def smul (c : F) (l : List F) : List F := l.map (c * ·)
theorem hor_addL (l m : List F) (x : F) : hor (addL l m) x = hor l x + hor m x := by
 induction l generalizing m with
 | nil => simp only [addL, hor_nil]; grind
 | cons a l ih =>
  cases m with
  | nil => simp only [addL, hor_nil]; grind
  | cons b m => simp only [addL, hor_cons, ih]; generalize hor l x = u; generalize hor m x = v; grind
theorem hor_smul (c : F) (l : List F) (x : F) : hor (smul c l) x = c * hor l x := by
 induction l with
 | nil => simp only [smul, List.map_nil, hor_nil]; grind
 | cons a l ih =>
  have ih' : hor (List.map (c * ·) l) x = c * hor l x := ih
  simp only [smul, List.map_cons, hor_cons, ih']; generalize hor l x = u; grind
def quo (r : F) : List F → List F
 | [] => []
 | _ :: l => match l with
  | [] => []
  | _ :: _ => hor l r :: quo r l
theorem quo_length (r : F) : ∀ l : List F, (quo r l).length = l.length - 1
 | [] => rfl
 | [_] => rfl
 | _ :: b :: l => by
  have := quo_length r (b :: l)
  simp only [quo, List.length_cons] at *; omega
theorem mul_zero' (a : F) : a * 0 = 0 := by grind
theorem zero_mul' (a : F) : 0 * a = 0 := by grind
theorem add_zero' (a : F) : a + 0 = a := by grind
theorem hor_quo (r : F) (x : F) : ∀ l : List F, hor l x = hor l r + (x - r) * hor (quo r l) x
 | [] => by show (0 : F) = 0 + (x - r) * 0; rw [mul_zero', add_zero']
 | [a] => by show a + x * 0 = a + r * 0 + (x - r) * 0; grind
 | a :: b :: l => by
  have ih := hor_quo r x (b :: l)
  have e : quo r (a :: b :: l) = hor (b :: l) r :: quo r (b :: l) := rfl
  rw [e, hor_cons a, hor_cons a, hor_cons (hor (b :: l) r)]
  generalize hor (b :: l) x = u at *; generalize hor (b :: l) r = v at *; generalize hor (quo r (b :: l)) x = q at *
  grind
theorem few_roots : ∀ (n : Nat) (l : List F) (rs : List F), l.length ≤ n → rs.length = n → rs.Nodup → (∀ r ∈ rs, hor l r = 0) → ∀ x, hor l x = 0 := by
 intro n
 induction n with
 | zero =>
  intro l rs hl _ _ _ x
  have : l = [] := List.length_eq_zero_iff.mp (by omega)
  subst this; rfl
 | succ n ih =>
  intro l rs hl hrs hnd hr x
  match rs, hrs, hnd, hr with
  | r :: rs, hrs, hnd, hr =>
   have hr0 := hr r (by simp)
   have key : ∀ y, hor l y = (y - r) * hor (quo r l) y := by
    intro y; rw [hor_quo r y l, hr0]; grind
   have hq : ∀ y, hor (quo r l) y = 0 := by
    refine ih (quo r l) rs (by rw [quo_length]; omega) (by simpa using hrs) (List.nodup_cons.mp hnd).2 ?_
    intro s hs
    have h1 := hr s (by simp [hs])
    rw [key s] at h1
    rcases mul_eq_zero h1 with h | h
    ·exfalso
     have : s = r := by grind
     subst this; exact (List.nodup_cons.mp hnd).1 hs
    ·exact h
   rw [key x, hq x]; grind
theorem phi_nat_inj {i j : Nat} (hi : i < 2305843009213693951) (hj : j < 2305843009213693951) (h : phi (i : Int) = phi (j : Int)) : i = j := by
 have := phi_eq_iff.mp h
 have e : P = 2305843009213693951 := rfl
 rw [e] at this; omega
theorem places_nodup (n : Nat) (hn : n < 2305843009213693951) : ((List.range n).map fun i : Nat => phi (i : Int)).Nodup := by
 rw [List.nodup_iff_pairwise_ne, List.pairwise_map]
 refine List.Pairwise.imp_of_mem ?_ (List.nodup_iff_pairwise_ne.mp List.nodup_range)
 intro a b ha hb hab h
 exact hab (phi_nat_inj (by have := List.mem_range.mp ha; omega) (by have := List.mem_range.mp hb; omega) h)
theorem same_everywhere (n : Nat) (hn : n < 2305843009213693951) (l m : List F) (hl : l.length ≤ n) (hm : m.length ≤ n) (h : ∀ i : Nat, i < n → hor l (phi i) = hor m (phi i)) (x : F) : hor l x = hor m x := by
 have hadd : (addL l (smul (-1) m)).length ≤ n := by
  have : ∀ (a b : List F), (addL a b).length ≤ max a.length b.length := by
   intro a
   induction a with
   | nil => intro b; simp [addL]
   | cons u a ih =>
    intro b; cases b with
    | nil => simp [addL]
    | cons v b => have := ih b; simp only [addL, List.length_cons]; omega
  have := this l (smul (-1) m)
  simp only [smul, List.length_map] at this ⊢; omega
 have h0 := few_roots n (addL l (smul (-1) m)) ((List.range n).map fun i : Nat => phi (i : Int)) hadd (by simp) (places_nodup n hn) (by
  intro r hr
  obtain ⟨i, hi, rfl⟩ := List.mem_map.mp hr
  rw [hor_addL, hor_smul, h i (List.mem_range.mp hi)]; grind) x
 rw [hor_addL, hor_smul] at h0
 grind
end Tally
/- Plain law: LAGRANGE's polynomial, and NEWTON's steps; no program in sight, no condition. -/
namespace Tally
set_option maxRecDepth 100000
set_option linter.unusedVariables false
abbrev atF (l : List F) (j : Nat) : F := l[j]?.getD 0
def prodEx : Nat → Nat → F → F
 | 0, _, _ => 1
 | n + 1, i, x => if n = i then prodEx n i x else prodEx n i x * (x - phi n)
def lagTo (v : List F) (n : Nat) : Nat → F → F
 | 0, _ => 0
 | m + 1, x => lagTo v n m x + atF v m * prodEx n m x * inv (prodEx n m (phi m))
def lag (v : List F) (x : F) : F := lagTo v v.length v.length x
def mulLin (r : F) (l : List F) : List F := addL (0 :: l) (smul (-r) l)
theorem hor_mulLin (r : F) (l : List F) (x : F) : hor (mulLin r l) x = (x - r) * hor l x := by
 unfold mulLin; rw [hor_addL, hor_cons, hor_smul]; generalize hor l x = u; grind
theorem addL_length (a : List F) : ∀ b : List F, (addL a b).length = max a.length b.length := by
 induction a with
 | nil => intro b; simp [addL]
 | cons u a ih =>
  intro b; cases b with
  | nil => simp [addL]
  | cons v b => have := ih b; simp only [addL, List.length_cons]; omega
theorem mulLin_length (r : F) (l : List F) : (mulLin r l).length = l.length + 1 := by
 unfold mulLin; rw [addL_length]; simp [smul]
def prodL : Nat → Nat → List F
 | 0, _ => [1]
 | n + 1, i => if n = i then prodL n i else mulLin (phi n) (prodL n i)
theorem hor_prodL (n i : Nat) (x : F) : hor (prodL n i) x = prodEx n i x := by
 induction n with
 | zero => show (1 : F) + x * 0 = 1; rw [mul_zero', add_zero']
 | succ n ih =>
  simp only [prodL, prodEx]; split
  ·exact ih
  ·rw [hor_mulLin, ih]; grind
theorem prodL_length (n i : Nat) : (prodL n i).length = if i < n then n else n + 1 := by
 induction n with
 | zero => rfl
 | succ n ih =>
  simp only [prodL]; split
  ·subst n; rw [ih, if_neg (by omega), if_pos (by omega)]
  ·rw [mulLin_length, ih]; split <;> split <;> omega
def lagL (v : List F) (n : Nat) : Nat → List F
 | 0 => []
 | m + 1 => addL (lagL v n m) (smul (atF v m * inv (prodEx n m (phi m))) (prodL n m))
theorem hor_lagL (v : List F) (n m : Nat) (x : F) : hor (lagL v n m) x = lagTo v n m x := by
 induction m with
 | zero => rfl
 | succ m ih => simp only [lagL, lagTo]; rw [hor_addL, hor_smul, ih, hor_prodL]; grind
theorem lagL_length (v : List F) (n : Nat) : ∀ m, m ≤ n → (lagL v n m).length ≤ n
 | 0, _ => by simp [lagL]
 | m + 1, h => by
  have := lagL_length v n m (by omega)
  simp only [lagL]; rw [addL_length]; simp only [smul, List.length_map]; rw [prodL_length, if_pos (by omega)]; omega
theorem phi_diff_ne {i k : Nat} (hi : i < 2305843009213693951) (hk : k < 2305843009213693951) (h : i ≠ k) : phi (i : Int) - phi (k : Int) ≠ 0 := by
 intro h0
 apply h; apply phi_nat_inj hi hk; grind
theorem prodEx_ne (n i : Nat) (hn : n < 2305843009213693951) (hi : i < 2305843009213693951) : prodEx n i (phi i) ≠ 0 := by
 induction n with
 | zero => exact fun h => zero_ne_one h.symm
 | succ n ih =>
  simp only [prodEx]; split
  ·exact ih (by omega)
  ·exact mul_ne_zero (ih (by omega)) (phi_diff_ne hi (by omega) (fun h => by omega))
theorem prodEx_zero (n i j : Nat) (hj : j < n) (hij : j ≠ i) : prodEx n i (phi j) = 0 := by
 induction n with
 | zero => omega
 | succ n ih =>
  simp only [prodEx]; split
  ·exact ih (by omega)
  ·by_cases e : j = n
   ·subst e
    have : phi (j : Int) - phi (j : Int) = 0 := by grind
    rw [this, mul_zero']
   ·rw [ih (by omega), zero_mul']
theorem lagTo_at (v : List F) (n : Nat) (hn : n < 2305843009213693951) (j : Nat) (hj : j < n) : ∀ m, m ≤ n → lagTo v n m (phi j) = if j < m then atF v j else 0
 | 0, _ => by simp [lagTo]
 | m + 1, h => by
  have ih := lagTo_at v n hn j hj m (by omega)
  simp only [lagTo]; rw [ih]
  by_cases e : j = m
  ·subst e
   rw [if_neg (by omega), if_pos (by omega)]
   have := mul_inv _ (prodEx_ne n j hn (by omega))
   generalize prodEx n j (phi j) = a at *; generalize inv a = b at *; generalize atF v j = c
   grind
  ·rw [prodEx_zero n m j hj e]
   by_cases h2 : j < m
   ·rw [if_pos h2, if_pos (by omega)]; grind
   ·rw [if_neg h2, if_neg (by omega), mul_zero', zero_mul', add_zero']
theorem lag_at (v : List F) (hv : v.length < 2305843009213693951) (j : Nat) (hj : j < v.length) : lag v (phi j) = atF v j := by
 unfold lag; rw [lagTo_at v _ hv j hj _ (Nat.le_refl _), if_pos hj]
theorem hor_lag (v l : List F) (hv : v.length < 2305843009213693951) (hl : l.length ≤ v.length) (h : ∀ i : Nat, i < v.length → hor l (phi i) = atF v i) (x : F) : hor l x = lag v x := by
 unfold lag; rw [← hor_lagL]
 refine same_everywhere v.length hv l _ hl (lagL_length v _ _ (Nat.le_refl _)) ?_ x
 intro i hi
 rw [h i hi, hor_lagL]
 exact (lag_at v hv i hi).symm
/-! NEWTON -/
def prodTo : Nat → F → F
 | 0, _ => 1
 | n + 1, x => prodTo n x * (x - phi n)
theorem prodTo_ne (n i : Nat) (hn : n ≤ i) (hi : i < 2305843009213693951) : prodTo n (phi i) ≠ 0 := by
 induction n with
 | zero => exact fun h => zero_ne_one h.symm
 | succ n ih => exact mul_ne_zero (ih (by omega)) (phi_diff_ne hi (by omega) (by omega))
theorem prodTo_zero (n j : Nat) (hj : j < n) : prodTo n (phi j) = 0 := by
 induction n with
 | zero => omega
 | succ n ih =>
  simp only [prodTo]
  by_cases e : j = n
  ·subst e
   have : phi (j : Int) - phi (j : Int) = 0 := by grind
   rw [this, mul_zero']
  ·rw [ih (by omega), zero_mul']
def horTo (f : Nat → F) : Nat → F → F
 | 0, _ => 0
 | n + 1, x => horTo f n x + x ^ n * f n
theorem hor_horTo (l : List F) (x : F) : hor l x = horTo (atF l) l.length x := by
 have : ∀ k, k ≤ l.length → hor (l.take k) x = horTo (atF l) k x := by
  intro k
  induction k with
  | zero => intro _; simp [hor_nil, horTo]
  | succ k ih =>
   intro hk
   have e : l.take (k + 1) = l.take k ++ [atF l k] := by
    rw [List.take_succ_eq_append_getElem (by omega), atF, List.getElem?_eq_getElem (by omega)]; rfl
   rw [e, hor_append, ih (by omega), List.length_take, Nat.min_eq_left (by omega)]
   simp only [horTo, hor_cons, hor_nil]; grind
 have := this l.length (Nat.le_refl _)
 rwa [List.take_of_length_le (Nat.le_refl _)] at this
theorem horTo_congr (f g : Nat → F) (n : Nat) (x : F) (h : ∀ k, k < n → f k = g k) : horTo f n x = horTo g n x := by
 induction n with
 | zero => rfl
 | succ n ih => simp only [horTo]; rw [ih (fun k hk => h k (by omega)), h n (by omega)]
theorem horTo_lin (f g : Nat → F) (c : F) (n : Nat) (x : F) : horTo (fun k => f k + c * g k) n x = horTo f n x + c * horTo g n x := by
 induction n with
 | zero => simp only [horTo]; rw [mul_zero', add_zero']
 | succ n ih => simp only [horTo]; rw [ih]; grind
theorem horTo_tail (f : Nat → F) (m n : Nat) (x : F) (hmn : m ≤ n) (h : ∀ k, m ≤ k → k < n → f k = 0) : horTo f n x = horTo f m x := by
 induction n with
 | zero => obtain rfl : m = 0 := by omega
           rfl
 | succ n ih =>
  by_cases e : m = n + 1
  ·subst e; rfl
  ·simp only [horTo]; rw [h n (by omega) (by omega), ih (by omega) (fun k h1 h2 => h k h1 (by omega))]; grind
theorem horTo_shift (f : Nat → F) (r : F) (n : Nat) (x : F) (h : f n = 0) :
  horTo (fun k => f k * (0 - r) + (if k = 0 then 0 else f (k - 1))) (n + 1) x = (x - r) * horTo f (n + 1) x := by
 have key : ∀ m, horTo (fun k => f k * (0 - r) + (if k = 0 then 0 else f (k - 1))) (m + 1) x = (x - r) * horTo f (m + 1) x - x ^ (m + 1) * f m := by
  intro m
  induction m with
  | zero => simp only [horTo, pow_succ', pow_zero']; grind
  | succ m ih =>
   rw [horTo, ih]
   simp only [horTo, pow_succ']
   rw [if_neg (by omega), Nat.add_sub_cancel]
   generalize horTo f m x = u; generalize x ^ m = y; generalize f m = a; generalize f (m + 1) = b
   grind
 rw [key n, h]; grind
end Tally
/- Plain law: the numbers of Eq; tables and what they are between; no program in sight, no condition. -/
namespace Tally
set_option maxRecDepth 100000
set_option linter.unusedVariables false
def eqR : List F → Nat → F
 | [], _ => 1
 | x :: r, b => (if b % 2 = 1 then x else 1 - x) * eqR r (b / 2)
def eqAt (p : List F) (b : Nat) : F := eqR p.reverse b
def eqStep (o : List F) (x : F) : List F := o.flatMap fun v => [v * (1 - x), v * x]
def eqs (p : List F) : List F := p.foldl eqStep [1]
theorem eqAt_nil (b : Nat) : eqAt [] b = 1 := rfl
theorem eqAt_snoc (p : List F) (x : F) (b : Nat) : eqAt (p ++ [x]) b = (if b % 2 = 1 then x else 1 - x) * eqAt p (b / 2) := by
 unfold eqAt; rw [List.reverse_append]; rfl
theorem eqs_snoc (p : List F) (x : F) : eqs (p ++ [x]) = eqStep (eqs p) x := by
 unfold eqs; rw [List.foldl_append]; rfl
theorem eqStep_length (o : List F) (x : F) : (eqStep o x).length = 2 * o.length := by
 unfold eqStep
 induction o with
 | nil => rfl
 | cons a o ih => simp only [List.flatMap_cons, List.length_append, List.length_cons, List.length_nil] at *; omega
theorem eqStep_get (o : List F) (x : F) (b : Nat) : (eqStep o x)[b]? = (o[b / 2]?).map (fun v => if b % 2 = 1 then v * x else v * (1 - x)) := by
 unfold eqStep
 induction o generalizing b with
 | nil => simp
 | cons a o ih =>
  match b with
  | 0 => simp
  | 1 => simp
  | b + 2 =>
   have e1 : (b + 2) / 2 = b / 2 + 1 := by omega
   have e2 : (b + 2) % 2 = b % 2 := by omega
   rw [e1, e2]
   simp only [List.flatMap_cons, List.cons_append, List.nil_append, List.getElem?_cons_succ]
   exact ih b
theorem snoc_ind {Q : List F → Prop} (h0 : Q []) (h1 : ∀ p x, Q p → Q (p ++ [x])) (p : List F) : Q p := by
 have : ∀ r : List F, Q r.reverse := by
  intro r
  induction r with
  | nil => exact h0
  | cons a r ih => rw [List.reverse_cons]; exact h1 _ _ ih
 have h := this p.reverse
 rwa [List.reverse_reverse] at h
theorem eqs_length (p : List F) : (eqs p).length = 2 ^ p.length := by
 refine snoc_ind (Q := fun p => (eqs p).length = 2 ^ p.length) rfl ?_ p
 intro p x ih
 rw [eqs_snoc, eqStep_length, ih, List.length_append, List.length_singleton, Nat.pow_succ]; omega
theorem eqs_get (p : List F) (b : Nat) (h : b < 2 ^ p.length) : (eqs p)[b]? = some (eqAt p b) := by
 revert b
 refine snoc_ind (Q := fun p => ∀ b, b < 2 ^ p.length → (eqs p)[b]? = some (eqAt p b)) ?_ ?_ p
 ·intro b hb
  have : b = 0 := by simpa using hb
  subst this; rfl
 ·intro p x ih b hb
  rw [List.length_append, List.length_singleton, Nat.pow_succ] at hb
  rw [eqs_snoc, eqStep_get, ih (b / 2) (by omega), eqAt_snoc]
  simp only [Option.map_some]
  split <;> (congr 1; grind)
theorem take_snoc {α : Type} (l : List α) (k : Nat) (d : α) (h : k < l.length) : l.take (k + 1) = l.take k ++ [l[k]?.getD d] := by
 rw [List.take_succ_eq_append_getElem h, List.getElem?_eq_getElem h]; rfl
end Tally
/- Plain law: tables fixed variable by variable are what they are between; sums of products; no program in sight, no condition. -/
namespace Tally
set_option maxRecDepth 100000
set_option linter.unusedVariables false
def btw (a b x : F) : F := a + x * (b - a)
def fixF (t : List F) (x : F) : List F := (List.range (t.length / 2)).map fun i => btw (atF t i) (atF t (i + t.length / 2)) x
def fixes (t p : List F) : List F := p.foldl fixF t
def evalF (t p : List F) : F := atF (fixes t p) 0
theorem one_mul' (a : F) : 1 * a = a := by grind
theorem mul_one' (a : F) : a * 1 = a := by grind
theorem sub_zero' (a : F) : a - 0 = a := by grind
theorem sub_self' (a : F) : a - a = 0 := by grind
theorem zero_add' (a : F) : 0 + a = a := by grind
def sumTo (f : Nat → F) : Nat → F
 | 0 => 0
 | n + 1 => sumTo f n + f n
theorem sumTo_congr {f g : Nat → F} {n : Nat} (h : ∀ k, k < n → f k = g k) : sumTo f n = sumTo g n := by
 induction n with
 | zero => rfl
 | succ n ih => simp only [sumTo]; rw [ih (fun k hk => h k (by omega)), h n (by omega)]
theorem sumTo_add (f g : Nat → F) (n : Nat) : sumTo (fun k => f k + g k) n = sumTo f n + sumTo g n := by
 induction n with
 | zero => simp only [sumTo]; exact (by decide : (0 : F) = 0 + 0)
 | succ n ih => simp only [sumTo]; rw [ih]; grind
theorem sumTo_mul (c : F) (f : Nat → F) (n : Nat) : sumTo (fun k => c * f k) n = c * sumTo f n := by
 induction n with
 | zero => simp only [sumTo]; rw [mul_zero']
 | succ n ih => simp only [sumTo]; rw [ih]; grind
theorem sumTo_zero (f : Nat → F) (n : Nat) (h : ∀ k, k < n → f k = 0) : sumTo f n = 0 := by
 induction n with
 | zero => rfl
 | succ n ih => simp only [sumTo]; rw [ih (fun k hk => h k (by omega)), h n (by omega)]; exact (by decide : (0 : F) + 0 = 0)
theorem sumTo_split (f : Nat → F) (m n : Nat) : sumTo f (m + n) = sumTo f m + sumTo (fun k => f (k + m)) n := by
 induction n with
 | zero => simp only [sumTo, Nat.add_zero]; rw [add_zero']
 | succ n ih => rw [← Nat.add_assoc]; simp only [sumTo]; rw [ih, Nat.add_comm n m]; grind
theorem sumTo_one (f : Nat → F) (n i : Nat) (hi : i < n) (h : ∀ k, k < n → k ≠ i → f k = 0) : sumTo f n = f i := by
 induction n with
 | zero => omega
 | succ n ih =>
  simp only [sumTo]
  by_cases e : i = n
  ·subst e
   rw [sumTo_zero f i (fun k hk => h k (by omega) (by omega))]; grind
  ·rw [ih (by omega) (fun k hk hne => h k (by omega) hne), h n (by omega) (by omega)]; grind
theorem sumTo_swap (f : Nat → Nat → F) (m n : Nat) : sumTo (fun a => sumTo (f a) n) m = sumTo (fun b => sumTo (fun a => f a b) m) n := by
 induction m with
 | zero => simp only [sumTo]; rw [sumTo_zero _ _ (fun k _ => rfl)]
 | succ m ih => simp only [sumTo]; rw [ih, ← sumTo_add]
theorem fixF_length (t : List F) (x : F) : (fixF t x).length = t.length / 2 := by simp [fixF]
theorem fixF_at (t : List F) (x : F) (i : Nat) (h : i < t.length / 2) : atF (fixF t x) i = btw (atF t i) (atF t (i + t.length / 2)) x := by
 simp [fixF, atF, h]
theorem fixes_nil (t : List F) : fixes t [] = t := rfl
theorem fixes_cons (t : List F) (x : F) (p : List F) : fixes t (x :: p) = fixes (fixF t x) p := rfl
theorem fixes_append (t p q : List F) : fixes t (p ++ q) = fixes (fixes t p) q := by unfold fixes; rw [List.foldl_append]
theorem fixes_snoc (t p : List F) (x : F) : fixes t (p ++ [x]) = fixF (fixes t p) x := fixes_append t p [x]
theorem fixes_length (t p : List F) (n : Nat) (h : t.length = 2 ^ (p.length + n)) : (fixes t p).length = 2 ^ n := by
 induction p generalizing t with
 | nil => rw [fixes_nil]; simpa using h
 | cons x p ih =>
  rw [fixes_cons]
  refine ih _ ?_
  rw [fixF_length, h, List.length_cons, show p.length + 1 + n = (p.length + n) + 1 by omega, Nat.pow_succ]; omega
theorem eqAt_cons (x : F) (p : List F) (b : Nat) (h : b < 2 ^ (p.length + 1)) : eqAt (x :: p) b = (if b < 2 ^ p.length then 1 - x else x) * eqAt p (b % 2 ^ p.length) := by
 revert b
 refine snoc_ind (Q := fun p => ∀ b, b < 2 ^ (p.length + 1) → eqAt (x :: p) b = (if b < 2 ^ p.length then 1 - x else x) * eqAt p (b % 2 ^ p.length)) ?_ ?_ p
 ·intro b hb
  have hb' : b = 0 ∨ b = 1 := by simp at hb; omega
  rcases hb' with rfl | rfl <;> simp [eqAt, eqR]
 ·intro p y ih b hb
  rw [List.length_append, List.length_singleton] at hb ⊢
  have hb2 : b < 2 ^ (p.length + 1) * 2 := by rw [Nat.pow_succ] at hb; exact hb
  rw [← List.cons_append, eqAt_snoc, eqAt_snoc, ih (b / 2) (by omega)]
  have e1 : b % 2 ^ (p.length + 1) % 2 = b % 2 := by
   rw [Nat.pow_succ, Nat.mul_comm, Nat.mod_mul_right_mod]
  have e2 : b % 2 ^ (p.length + 1) / 2 = b / 2 % 2 ^ p.length := by
   rw [Nat.pow_succ, Nat.mul_comm, Nat.mod_mul_right_div_self]
  have e3 : (b / 2 < 2 ^ p.length) ↔ (b < 2 ^ (p.length + 1)) := by rw [Nat.pow_succ]; omega
  rw [e1, e2]; simp only [e3]; split <;> grind
def dotEq (t p : List F) : F := sumTo (fun b => atF t b * eqAt p b) t.length
theorem dotEq_cons (t : List F) (x : F) (p : List F) (h : t.length = 2 ^ (p.length + 1)) : dotEq t (x :: p) = dotEq (fixF t x) p := by
 have hh : t.length / 2 = 2 ^ p.length := by rw [h, Nat.pow_succ]; omega
 unfold dotEq
 rw [fixF_length, hh, h, Nat.pow_succ, Nat.mul_two, sumTo_split, ← sumTo_add]
 refine sumTo_congr fun k hk => ?_
 rw [fixF_at t x k (by omega), hh, eqAt_cons x p k (by rw [Nat.pow_succ]; omega), eqAt_cons x p (k + 2 ^ p.length) (by rw [Nat.pow_succ]; omega)]
 rw [if_pos hk, if_neg (by omega), Nat.mod_eq_of_lt hk, Nat.add_mod_right, Nat.mod_eq_of_lt hk]
 unfold btw; grind
theorem eval_dot (t p : List F) (h : t.length = 2 ^ p.length) : evalF t p = dotEq t p := by
 induction p generalizing t with
 | nil =>
  have h1 : t.length = 1 := by simpa using h
  unfold evalF dotEq; rw [h1]; simp only [fixes_nil, sumTo, eqAt_nil]; grind
 | cons x p ih =>
  have h' : t.length = 2 ^ (p.length + 1) := by simpa using h
  rw [dotEq_cons t x p h', ← ih (fixF t x) (by rw [fixF_length, h', Nat.pow_succ]; omega)]; rfl
theorem sum_eqs (p : List F) : sumTo (eqAt p) (2 ^ p.length) = 1 := by
 induction p with
 | nil => show sumTo (eqAt []) 1 = 1; simp only [sumTo, eqAt_nil]; exact (by decide : (0 : F) + 1 = 1)
 | cons x p ih =>
  rw [List.length_cons, Nat.pow_succ, Nat.mul_two, sumTo_split]
  rw [sumTo_congr (f := eqAt (x :: p)) (g := fun b => (1 - x) * eqAt p b) (n := 2 ^ p.length) (fun k hk => by rw [eqAt_cons x p k (by rw [Nat.pow_succ]; omega), if_pos hk, Nat.mod_eq_of_lt hk])]
  rw [sumTo_congr (f := fun k => eqAt (x :: p) (k + 2 ^ p.length)) (g := fun b => x * eqAt p b) (n := 2 ^ p.length) (fun k hk => by rw [eqAt_cons x p _ (by rw [Nat.pow_succ]; omega), if_neg (by omega), Nat.add_mod_right, Nat.mod_eq_of_lt hk])]
  rw [sumTo_mul, sumTo_mul, ih]; grind
def bitsF (b : Nat) : Nat → List F
 | 0 => []
 | n + 1 => bitsF (b / 2) n ++ [if b % 2 = 1 then 1 else 0]
theorem bitsF_length (b n : Nat) : (bitsF b n).length = n := by
 induction n generalizing b with
 | zero => rfl
 | succ n ih => simp [bitsF, ih]
theorem eqAt_bits (b c n : Nat) (hb : b < 2 ^ n) (hc : c < 2 ^ n) : eqAt (bitsF b n) c = if b = c then 1 else 0 := by
 induction n generalizing b c with
 | zero => have : b = c := by simp at hb hc; omega
           rw [if_pos this]; rfl
 | succ n ih =>
  rw [Nat.pow_succ] at hb hc
  rw [bitsF, eqAt_snoc, ih (b / 2) (c / 2) (by omega) (by omega)]
  by_cases e : b = c
  ·subst e; rw [if_pos rfl, if_pos rfl]
   split
   ·exact one_mul' 1
   ·rw [sub_zero']; exact one_mul' 1
  ·rw [if_neg e]
   by_cases e2 : b / 2 = c / 2
   ·rw [if_pos e2]
    have : b % 2 ≠ c % 2 := by omega
    by_cases hc2 : c % 2 = 1
    ·rw [if_pos hc2, if_neg (by omega)]; exact zero_mul' _
    ·rw [if_neg hc2, if_pos (by omega), sub_self']; exact zero_mul' _
   ·rw [if_neg e2]; exact mul_zero' _
theorem eval_bits (t : List F) (b n : Nat) (h : t.length = 2 ^ n) (hb : b < 2 ^ n) : evalF t (bitsF b n) = atF t b := by
 rw [eval_dot t _ (by rw [bitsF_length]; exact h)]
 unfold dotEq
 rw [h, sumTo_one _ (2 ^ n) b hb]
 ·rw [eqAt_bits b b n hb hb, if_pos rfl]; exact mul_one' _
 ·intro k hk hne; rw [eqAt_bits b k n hb hk, if_neg (fun e => hne e.symm)]; exact mul_zero' _
theorem eval_ahead (t p : List F) (b n : Nat) (h : t.length = 2 ^ (p.length + n)) (hb : b < 2 ^ n) : evalF t (p ++ bitsF b n) = atF (fixes t p) b := by
 rw [← eval_bits (fixes t p) b n (fixes_length t p n h) hb]
 unfold evalF; rw [fixes_append]
def prodAt (l : List (List F)) (b : Nat) : F := l.foldl (fun p t => p * atF t b) 1
def claimF (l : List (List F)) (n : Nat) : F := sumTo (prodAt l) n
theorem prodAt_snoc (l : List (List F)) (t : List F) (b : Nat) : prodAt (l ++ [t]) b = prodAt l b * atF t b := by
 unfold prodAt; rw [List.foldl_append]; rfl
end Tally
/- Plain law: functions that are polynomials of a degree at most; tables along a line; four tables that are fixed together; no program in sight, no condition. -/
namespace Tally
set_option maxRecDepth 100000
set_option linter.unusedVariables false
def Deg (n : Nat) (f : F → F) : Prop := ∃ l : List F, l.length ≤ n + 1 ∧ ∀ x, f x = hor l x
theorem Deg.const (n : Nat) (c : F) : Deg n (fun _ => c) := ⟨[c], by simp, fun x => by rw [hor_cons, hor_nil]; grind⟩
theorem Deg.mono {m n : Nat} {f : F → F} (h : Deg m f) (hmn : m ≤ n) : Deg n f :=
 let ⟨l, h1, h2⟩ := h
 ⟨l, by omega, h2⟩
theorem Deg.congr {n : Nat} {f g : F → F} (h : Deg n f) (e : ∀ x, g x = f x) : Deg n g :=
 let ⟨l, h1, h2⟩ := h
 ⟨l, h1, fun x => by rw [e, h2]⟩
theorem Deg.add {n : Nat} {f g : F → F} (h : Deg n f) (k : Deg n g) : Deg n (fun x => f x + g x) := by
 obtain ⟨l, h1, h2⟩ := h
 obtain ⟨m, k1, k2⟩ := k
 exact ⟨addL l m, by rw [addL_length]; omega, fun x => by show f x + g x = _; rw [hor_addL, h2, k2]⟩
theorem Deg.scale {n : Nat} {f : F → F} (c : F) (h : Deg n f) : Deg n (fun x => c * f x) := by
 obtain ⟨l, h1, h2⟩ := h
 exact ⟨smul c l, by simpa [smul] using h1, fun x => by show c * f x = _; rw [hor_smul, h2]⟩
theorem Deg.lin {n : Nat} {f : F → F} (a c : F) (h : Deg n f) : Deg (n + 1) (fun x => (a + x * c) * f x) := by
 obtain ⟨l, h1, h2⟩ := h
 refine ⟨addL (smul a l) (0 :: smul c l), by rw [addL_length]; simp [smul]; omega, fun x => ?_⟩
 show (a + x * c) * f x = _
 rw [hor_addL, hor_cons, hor_smul, hor_smul, h2]; grind
theorem Deg.sum {n : Nat} (f : Nat → F → F) (m : Nat) (h : ∀ k, k < m → Deg n (f k)) : Deg n (fun x => sumTo (fun k => f k x) m) := by
 induction m with
 | zero => exact Deg.const n 0
 | succ m ih => exact (ih (fun k hk => h k (by omega))).add (h m (by omega))
theorem Deg.lag {n : Nat} {f : F → F} (h : Deg n f) (v : List F) (hv : v.length = n + 1) (hn : n < 1000) (he : ∀ i, i < n + 1 → atF v i = f (phi i)) (x : F) : lag v x = f x := by
 obtain ⟨l, h1, h2⟩ := h
 rw [h2, hor_lag v l (by omega) (by omega) (fun i hi => by rw [he i (by omega), h2])]
def lineF (x y : List F) (t : F) : List F := List.zipWith (fun a b => btw a b t) x y
theorem lineF_length (x y : List F) (t : F) (h : y.length = x.length) : (lineF x y t).length = x.length := by
 unfold lineF; rw [List.length_zipWith, h, Nat.min_self]
theorem lineF_at (x y : List F) (t : F) (i : Nat) (hx : i < x.length) (hy : i < y.length) : atF (lineF x y t) i = btw (atF x i) (atF y i) t := by
 simp [lineF, atF, List.getElem?_zipWith, List.getElem?_eq_getElem hx, List.getElem?_eq_getElem hy]
theorem btw_zero' (a b : F) : btw a b 0 = a := by unfold btw; grind
theorem btw_one' (a b : F) : btw a b 1 = b := by unfold btw; grind
theorem btw_same (a x : F) : btw a a x = a := by unfold btw; grind
theorem lineF_zero (x : List F) : ∀ y : List F, y.length = x.length → lineF x y 0 = x := by
 induction x with
 | nil => intro y _; rfl
 | cons a x ih =>
  intro y h
  match y, h with
  | b :: y, h => show btw a b 0 :: lineF x y 0 = _; rw [btw_zero', ih y (by simpa using h)]
theorem lineF_one (x : List F) : ∀ y : List F, y.length = x.length → lineF x y 1 = y := by
 induction x with
 | nil => intro y h; exact (List.eq_nil_of_length_eq_zero h).symm
 | cons a x ih =>
  intro y h
  match y, h with
  | b :: y, h => show btw a b 1 :: lineF x y 1 = _; rw [btw_one', ih y (by simpa using h)]
theorem Deg.btw {n : Nat} {f g : F → F} (a b : F) (hf : Deg n f) (hg : Deg n g) : Deg (n + 1) (fun t => Tally.btw (f t) (g t) (Tally.btw a b t)) := by
 have h1 := hf.mono (Nat.le_succ n)
 have h2 := Deg.lin a (b - a) (hg.add (hf.scale (-1)))
 refine (h1.add h2).congr fun t => ?_
 unfold Tally.btw; grind
theorem deg_eval (xs : List F) : ∀ (ys : List F) (n : Nat) (V : F → List F), ys.length = xs.length → (∀ t, (V t).length = 2 ^ xs.length) → (∀ i, Deg n (fun t => atF (V t) i)) → Deg (n + xs.length) (fun t => evalF (V t) (lineF xs ys t)) := by
 induction xs with
 | nil => intro ys n V _ _ h; exact h 0
 | cons x xs ih =>
  intro ys n V hl hV h
  match ys, hl with
  | y :: ys, hl =>
   have hh : ∀ t, (V t).length / 2 = 2 ^ xs.length := fun t => by rw [hV t, List.length_cons, Nat.pow_succ]; omega
   have h2 := ih ys (n + 1) (fun t => fixF (V t) (Tally.btw x y t)) (by simpa using hl) (fun t => by rw [fixF_length, hh]) (fun i => ?_)
   ·rw [List.length_cons, show n + (xs.length + 1) = n + 1 + xs.length by omega]
    exact h2
   ·by_cases hi : i < 2 ^ xs.length
    ·refine (Deg.btw x y (h i) (h (i + 2 ^ xs.length))).congr fun t => ?_
     rw [fixF_at _ _ _ (by rw [hh]; exact hi), hh]
    ·refine (Deg.const (n + 1) 0).congr fun t => ?_
     have : (fixF (V t) (Tally.btw x y t))[i]? = none := List.getElem?_eq_none (by rw [fixF_length, hh]; omega)
     simp [atF, this]
theorem deg_line (V xs ys : List F) (hl : ys.length = xs.length) (hV : V.length = 2 ^ xs.length) : Deg xs.length (fun t => evalF V (lineF xs ys t)) := by
 have := deg_eval xs ys 0 (fun _ => V) hl (fun _ => hV) (fun i => Deg.const 0 _)
 rwa [Nat.zero_add] at this
def partL (V x y : List F) : List F := (List.range (x.length + 1)).map fun (t : Nat) => evalF V (lineF x y (phi t))
theorem partL_length (V x y : List F) : (partL V x y).length = x.length + 1 := by simp [partL]
theorem partL_at (V x y : List F) (t : Nat) (h : t < x.length + 1) : atF (partL V x y) t = evalF V (lineF x y (phi t)) := by simp [partL, atF, h]
theorem lag_partL (V x y : List F) (hl : y.length = x.length) (hV : V.length = 2 ^ x.length) (hk : x.length < 1000) (t : F) : lag (partL V x y) t = evalF V (lineF x y t) :=
 (deg_line V x y hl hV).lag _ (partL_length V x y) hk (fun i hi => partL_at V x y i hi) t
structure Tb where
 a : List F
 m : List F
 x : List F
 y : List F
def Tb.fix (T : Tb) (u : F) : Tb := ⟨fixF T.a u, fixF T.m u, fixF T.x u, fixF T.y u⟩
def Tb.fixes (T : Tb) (p : List F) : Tb := p.foldl Tb.fix T
def Tb.term (T : Tb) (i : Nat) : F := atF T.a i * (atF T.x i + atF T.y i) + atF T.m i * (atF T.x i * atF T.y i)
def Tb.sum (T : Tb) : F := sumTo T.term T.a.length
structure Tb.Len (T : Tb) (N : Nat) : Prop where
 a : T.a.length = N
 m : T.m.length = N
 x : T.x.length = N
 y : T.y.length = N
theorem Tb.Len.fix {T : Tb} {N : Nat} (h : T.Len (2 * N)) (u : F) : (T.fix u).Len N :=
 ⟨by show (fixF _ _).length = _; rw [fixF_length, h.a]; omega, by show (fixF _ _).length = _; rw [fixF_length, h.m]; omega, by show (fixF _ _).length = _; rw [fixF_length, h.x]; omega, by show (fixF _ _).length = _; rw [fixF_length, h.y]; omega⟩
theorem Tb.fixes_eq (T : Tb) (p : List F) : T.fixes p = ⟨Tally.fixes T.a p, Tally.fixes T.m p, Tally.fixes T.x p, Tally.fixes T.y p⟩ := by
 induction p generalizing T with
 | nil => rfl
 | cons u p ih => exact ih (T.fix u)
theorem Tb.fixes_snoc (T : Tb) (p : List F) (u : F) : T.fixes (p ++ [u]) = (T.fixes p).fix u := by unfold Tb.fixes; rw [List.foldl_append]; rfl
theorem Tb.fixes_cons (T : Tb) (p : List F) (u : F) : T.fixes (u :: p) = (T.fix u).fixes p := rfl
theorem Tb.Len.fixes {T : Tb} {m : Nat} (p : List F) (h : T.Len (2 ^ (p.length + m))) : (T.fixes p).Len (2 ^ m) := by
 induction p generalizing T with
 | nil => rw [List.length_nil, Nat.zero_add] at h; exact h
 | cons u p ih =>
  rw [Tb.fixes_cons]
  refine ih (Tb.Len.fix ?_ u)
  rw [List.length_cons, show p.length + 1 + m = (p.length + m) + 1 by omega, Nat.pow_succ, Nat.mul_comm] at h
  exact h
theorem Tb.fix_term {T : Tb} {N : Nat} (h : T.Len (2 * N)) (u : F) (i : Nat) (hi : i < N) :
  (T.fix u).term i = btw (atF T.a i) (atF T.a (i + N)) u * (btw (atF T.x i) (atF T.x (i + N)) u + btw (atF T.y i) (atF T.y (i + N)) u) + btw (atF T.m i) (atF T.m (i + N)) u * (btw (atF T.x i) (atF T.x (i + N)) u * btw (atF T.y i) (atF T.y (i + N)) u) := by
 have e : ∀ l : List F, l.length = 2 * N → atF (fixF l u) i = btw (atF l i) (atF l (i + N)) u := fun l hl => by
  rw [fixF_at l u i (by omega), show l.length / 2 = N by omega]
 show atF (fixF T.a u) i * (atF (fixF T.x u) i + atF (fixF T.y u) i) + atF (fixF T.m u) i * (atF (fixF T.x u) i * atF (fixF T.y u) i) = _
 rw [e _ h.a, e _ h.m, e _ h.x, e _ h.y]
theorem Tb.sum_split {T : Tb} {N : Nat} (h : T.Len (2 * N)) : (T.fix 0).sum + (T.fix 1).sum = T.sum := by
 unfold Tb.sum
 rw [(h.fix 0).a, (h.fix 1).a, h.a, show 2 * N = N + N by omega, sumTo_split]
 congr 1
 ·refine sumTo_congr fun i hi => ?_
  rw [Tb.fix_term h 0 i hi]; simp only [btw_zero']; rfl
 ·refine sumTo_congr fun i hi => ?_
  rw [Tb.fix_term h 1 i hi]; simp only [btw_one']; rfl
def Tb.Half (T : Tb) (N : Nat) : Prop := ∀ i, i < N → atF T.x i = atF T.x (i + N) ∨ atF T.y i = atF T.y (i + N)
theorem deg_btw (a b : F) : Deg 1 (fun u => btw a b u) := by
 refine (Deg.lin a (b - a) (Deg.const 0 1)).congr fun u => ?_
 unfold btw; grind
theorem Deg.mulBtw {n : Nat} {f : F → F} (a b : F) (h : Deg n f) : Deg (n + 1) (fun u => Tally.btw a b u * f u) :=
 (Deg.lin a (b - a) h).congr fun _ => rfl
theorem Tb.deg {T : Tb} {N : Nat} (h : T.Len (2 * N)) (hh : T.Half N) : Deg 2 (fun u => (T.fix u).sum) := by
 refine (Deg.sum (fun i u => (T.fix u).term i) N (fun i hi => ?_)).congr fun u => by unfold Tb.sum; rw [(h.fix u).a]
 refine Deg.congr ?_ (fun u => Tb.fix_term h u i hi)
 refine (Deg.mulBtw _ _ ((deg_btw _ _).add (deg_btw _ _))).add (Deg.mulBtw _ _ ?_)
 rcases hh i hi with e | e
 ·refine ((deg_btw (atF T.y i) (atF T.y (i + N))).scale (atF T.x i)).congr fun u => ?_
  rw [← e, btw_same]
 ·refine ((deg_btw (atF T.x i) (atF T.x (i + N))).scale (atF T.y i)).congr fun u => ?_
  rw [← e, btw_same]; grind
def Tb.round (T : Tb) : List F := (List.range 3).map fun (v : Nat) => (T.fix (phi v)).sum
theorem Tb.round_length (T : Tb) : T.round.length = 3 := by simp [Tb.round]
theorem Tb.round_at (T : Tb) (v : Nat) (h : v < 3) : atF T.round v = (T.fix (phi v)).sum := by
 unfold Tb.round; simp [atF, h]
theorem Tb.lag_round {T : Tb} {N : Nat} (h : T.Len (2 * N)) (hh : T.Half N) (u : F) : lag T.round u = (T.fix u).sum :=
 (Tb.deg h hh).lag _ T.round_length (by omega) (fun i hi => T.round_at i (by omega)) u
end Tally
/- Several texts in one: Field2, Uni. What each says, and its conditions, stands at its head. -/
/- The walk of the reference's EUCLID: it answers the inverse; the argument is a number of 64 bits whose rest is not 0. -/
namespace Go.Proofs.YtlfneeobnihocaaGreatDoor
set_option maxRecDepth 100000
set_option linter.unusedVariables false
open Go.RowKit Tally
def NoCommon (r n : Int) : Prop := ∀ d : Int, d ∣ r → d ∣ n → d ∣ 1
theorem gcd_start (a : Int) (h : phi a ≠ 0) : NoCommon 2305843009213693951 (a % 2305843009213693951) := by
 have hm := mul_inv (phi a) h
 have h1 : phi (a % 2305843009213693951 * psi (inv (phi a))) = phi 1 := by rw [phi_mul, phi_emod', phi_psi, hm, phi_one]
 have h2 := phi_eq_iff.mp h1
 have e : P = 2305843009213693951 := rfl
 rw [e] at h2
 generalize a % 2305843009213693951 = b at *
 generalize psi (inv (phi a)) = i at *
 intro d hd1 hd2
 have hd3 : d ∣ b * i := Int.dvd_mul_of_dvd_left hd2
 have hd4 : (2305843009213693951 : Int) ∣ b * i - 1 := by
  have h3 : (b * i - 1) % 2305843009213693951 = 0 := by omega
  exact Int.dvd_of_emod_eq_zero h3
 have hd5 : d ∣ b * i - 1 := Int.dvd_trans hd1 hd4
 have := Int.dvd_sub hd3 hd5
 have e1 : b * i - (b * i - 1) = 1 := by omega
 rwa [e1] at this
theorem gcd_step (r n q : Int) (h : NoCommon r n) : NoCommon n (r - q * n) := by
 intro d h1 h2
 refine h d ?_ h1
 have : d ∣ (r - q * n) + q * n := Int.dvd_add h2 (Int.dvd_mul_of_dvd_right h1)
 have e : (r - q * n) + q * n = r := by omega
 rwa [e] at this
theorem gcd_end (r : Int) (h0 : 0 ≤ r) (h : NoCommon r 0) : r = 1 := by
 have h1 := h r (Int.dvd_refl r) (Int.dvd_zero r)
 have := Int.le_of_dvd (by decide) h1
 by_cases hz : r = 0
 ·subst hz; have := Int.zero_dvd.mp h1; omega
 ·omega
theorem quot_bounds (r n : Int) (h0 : 0 < n) (h1 : n < r) : 0 ≤ r / n ∧ r / n ≤ r ∧ 0 ≤ r / n * n ∧ r / n * n ≤ r ∧ 0 ≤ r - r / n * n ∧ r - r / n * n < n := by
 have e := Int.emod_add_mul_ediv r n
 have a1 := Int.emod_nonneg r (Int.ne_of_gt h0)
 have a2 := Int.emod_lt_of_pos r h0
 have a3 : 0 ≤ r / n := Int.ediv_nonneg (by omega) (by omega)
 have a4 : r / n ≤ r := Int.ediv_le_self _ (by omega)
 have a5 : 0 ≤ r / n * n := Int.mul_nonneg a3 (by omega)
 have a6 : n * (r / n) = r / n * n := Int.mul_comm _ _
 exact ⟨a3, a4, a5, by omega, by omega, by omega⟩
theorem inv_start (a : Int) (hg : NoCommon 2305843009213693951 (a % 2305843009213693951)) : phi 0 * phi a = phi 2305843009213693951 ∧ phi 1 * phi a = phi (a % 2305843009213693951) ∧ NoCommon 2305843009213693951 (a % 2305843009213693951) := by
 have h := phi_P
 have e : P = 2305843009213693951 := rfl
 rw [e] at h
 refine ⟨?_, ?_, hg⟩
 ·rw [h, phi_zero]; grind
 ·rw [phi_one, phi_emod']; grind
theorem inv_step (a : F) (i j X T : Int) (h : phi X * a = phi i ∧ phi T * a = phi j ∧ NoCommon i j) :
  phi T * a = phi j ∧ phi (psi (phi X - phi (psi (phi (i / j) * phi T)))) * a = phi (i - i / j * j) ∧ NoCommon j (i - i / j * j) := by
 obtain ⟨h1, h2, h3⟩ := h
 refine ⟨h2, ?_, gcd_step i j _ h3⟩
 rw [phi_psi, phi_psi, phi_sub, phi_mul, ← h1, ← h2]; grind
theorem inv_end (a : F) (i X T : Int) (h0 : 0 ≤ i) (hX : U64 X) (hlt : X < P) (h : phi X * a = phi i ∧ phi T * a = phi 0 ∧ NoCommon i 0) : X = psi (inv a) := by
 obtain ⟨h1, _, h3⟩ := h
 rw [gcd_end i h0 h3, phi_one] at h1
 exact eq_psi (inv_unique (by rw [← h1]; grind)) hX.1 hlt
set_option maxHeartbeats 400000 in
theorem ref_Inv (a : Int) (w : World) (ha : U64 a) (h : phi a ≠ 0) :
  Calls Tryz.prog 48 #[.int .u64 a] w fun e w' => e = .returned (.int .u64 (psi (inv (phi a)))) ∧ w = w' := by
 have h0 := ha.1
 have hg := gcd_start a h
 have hr0 : 0 ≤ a % 2305843009213693951 := by omega
 have hlt : a % 2305843009213693951 < 2305843009213693951 := by omega
 go_enter Tryz.func48, Tryz.ntmps48
 go_wp2
 go_loop [3, 4, 5, 6] (fun r n x t => ∃ (i j : Int) (X T : Int), 0 ≤ j ∧ j < i ∧ i ≤ 2305843009213693951 ∧ U64 X ∧ U64 T ∧ X < P ∧ T < P ∧ r = .int .u64 i ∧ n = .int .u64 j ∧ x = .int .u64 X ∧ t = .int .u64 T ∧ Hid (phi X * phi a = phi i ∧ phi T * phi a = phi j ∧ NoCommon i j)) (fun _ n _ _ => (intOf n).toNat)
 case atStart => exact ⟨_, _, _, _, hr0, hlt, by omega, U64.zero, U64.one, by decide, by decide, rfl, rfl, rfl, rfl, inv_start a hg⟩
 case round =>
  obtain ⟨i, j, X, T, hj0, hji, hi, hX, hT, hXlt, hTlt, rfl, rfl, rfl, rfl, H⟩ := hrel
  by_cases hz : 0 < j
  ·obtain ⟨q1, q2, q3, q4, q5, q6⟩ := quot_bounds i j hz hji
   have hq : U64 (i / j) := ⟨q1, by omega⟩
   go_wp2_with (first | (go_at_call 45; (with_reducible refine (ref_Mul _ _ _ (by first | assumption | exact U64.psi _ | exact U64.zero | exact U64.one | exact U64.mk (by decide) (by decide)) (by first | assumption | exact U64.psi _ | exact U64.zero | exact U64.one | exact U64.mk (by decide) (by decide))).mono ?_); rintro e w' ⟨rfl, rfl⟩) | (go_at_call 44; (with_reducible refine (ref_Sub _ _ _ (by first | assumption | exact U64.psi _ | exact U64.zero | exact U64.one | exact U64.mk (by decide) (by decide)) (by first | assumption | exact U64.psi _ | exact U64.zero | exact U64.one | exact U64.mk (by decide) (by decide))).mono ?_); rintro e w' ⟨rfl, rfl⟩))
   go_round
   case rel => exact ⟨_, _, _, _, q5, q6, by omega, hT, U64.psi _, hTlt, psi_lt _, rfl, rfl, rfl, rfl, inv_step _ _ _ _ _ H.out⟩
   case measure => simp [intOf]; omega
  ·obtain rfl : j = 0 := by omega
   go_wp2
   go_ret
   exact ⟨ret_u64 (inv_end _ i X T (by omega) hX hXlt H.out), rfl⟩
end Go.Proofs.YtlfneeobnihocaaGreatDoor
/- The walks of package uni, and of the reference's LAGRANGE: values of polynomials. The lists are slices of 64-bit numbers. -/
namespace Go.Proofs.YtlfneeobnihocaaGreatDoor
set_option maxRecDepth 100000
set_option linter.unusedVariables false
open Go.RowKit Tally
def Drawn (w w' : World) : Prop := ∃ n, w' = w.drewN n
theorem Drawn.refl (w : World) : Drawn w w := ⟨0, rfl⟩
theorem Drawn.more {w w' : World} (h : Drawn w w') (m : Nat) : Drawn w (w'.drewN m) := by
 obtain ⟨n, rfl⟩ := h; exact ⟨n + m, by rw [World.drewN_drewN]⟩
theorem Drawn.trans {a b c : World} (h : Drawn a b) (k : Drawn b c) : Drawn a c := by
 obtain ⟨n, rfl⟩ := k; exact h.more n
theorem Drawn.below {w w' : World} (h : Drawn w w') : Below w.heap.size w w' := by
 obtain ⟨n, rfl⟩ := h; exact below_drewN (Below.refl _ _) n
theorem flipD {Pr : Program} {f : FuncId} {args : Array Value} {w : World} {n : Nat} {v : Value} (h : Calls Pr f args (w.drewN n) fun e w' => e = .returned v ∧ Drawn (w.drewN n) w') :
  Calls Pr f args (w.drewN n) fun e w'' => e = .returned v ∧ ∃ m, w'' = w.drewN m := Calls.quiet_of h
theorem hor_step (a : List Int) (k : Nat) (h0 : 0 < k) (hk : k ≤ a.length) {c : Int} {y : F} (H : phi c = hor ((a.map phi).drop k) y) :
  phi (psi (phi (psi (phi c * y)) + phi (at0 a (k - 1)))) = hor ((a.map phi).drop (k - 1)) y := by
 have e : (a.map phi).drop (k - 1) = phi (at0 a (k - 1)) :: (a.map phi).drop k := by
  rw [List.drop_eq_getElem_cons (by simp; omega)]
  have e1 : k - 1 + 1 = k := by omega
  rw [e1, List.getElem_map]; congr 2
  simp [at0, List.getElem?_eq_getElem (show k - 1 < a.length by omega)]
 rw [e, hor_cons, phi_psi, phi_psi, H]; grind
theorem atF_map (a : List Int) (k : Nat) (h : k < a.length) : atF (a.map phi) k = phi (at0 a k) := by
 simp [atF, at0, h]
set_option maxHeartbeats 400000 in
theorem uni_eval (a : List Int) (v : Value) (x : Int) (w : World) (hp : RowU w v a) (hx : U64 x) :
  Calls Tryz.prog 173 #[v, .int .u64 x] w fun e w' => e = .returned (.int .u64 (psi (hor (a.map phi) (phi x)))) ∧ Drawn w w' := by
 have hl := hp.len
 have hat := zH (fun j => @RowU.at _ _ _ hp j)
 obtain ⟨h1, h2, ad, cap, rfl, hr⟩ := hp
 have Hr := zH hr
 clear hr h1
 go_enter Tryz.func173, Tryz.ntmps173
 go_wp2
 go_loopw [5, 6] (fun o i wr => ∃ (k : Nat) (c : Int), k ≤ a.length ∧ U64 c ∧ c < P ∧ i = .int .i64 ((k : Int) - 1) ∧ o = .int .u64 c ∧ Hid (phi c = hor ((a.map phi).drop k) (phi x)) ∧ Drawn w wr) (fun _ i _ => (intOf i + 1).toNat)
 case atStart => exact ⟨a.length, 0, by omega, U64.zero, by decide, rfl, rfl, (by rw [List.drop_of_length_le (by simp), phi_zero]; rfl), Drawn.refl _⟩
 case round =>
  obtain ⟨k, c, hk, hc, hlt, rfl, rfl, H, hd⟩ := hrel
  by_cases hz : 0 < k
  ·obtain ⟨b, off, rfl, hblt, hcell⟩ := Hr.out (by omega)
   have hcj := (hd.below.cell (p := ⟨b, off + (k - 1), none⟩) hblt).trans (hcell (k - 1) (by omega))
   have hu := hat.out (k - 1) (by omega)
   clear hcell
   go_wp2
   go_quiet (first | (go_at_call 112; exact flip (field_Mul _ _ _ (by first | assumption | exact U64.psi _ | exact U64.zero | exact U64.one | exact U64.mk (by decide) (by decide)) (by first | assumption | exact U64.psi _ | exact U64.zero | exact U64.one | exact U64.mk (by decide) (by decide)))) | (go_at_call 108; exact flip (field_Add _ _ _ (by first | assumption | exact U64.psi _ | exact U64.zero | exact U64.one | exact U64.mk (by decide) (by decide)) (by first | assumption | exact U64.psi _ | exact U64.zero | exact U64.one | exact U64.mk (by decide) (by decide)))))
   go_wp2
   go_roundw
   case rel => exact ⟨k - 1, _, by omega, U64.psi _, psi_lt _, by congr 1; omega, rfl, hor_step a k hz hk H.out, hd.more _⟩
   case measure => simp [intOf]; omega
  ·obtain rfl : k = 0 := by omega
   go_wp2
   go_ret
   exact ⟨ret_u64 (eq_psi H.out hc.1 hlt), hd⟩
theorem lagp_step (a : List Int) (j k : Nat) (hjk : ¬ j = k) {y z : Int} {x : F} (H : phi y = phi (at0 a k) * prodEx j k x ∧ phi z = prodEx j k (phi k)) :
  phi (psi (phi y * phi (psi (x - phi j)))) = phi (at0 a k) * prodEx (j + 1) k x ∧ phi (psi (phi z * phi (psi (phi k - phi j)))) = prodEx (j + 1) k (phi k) := by
 rw [phi_psi, phi_psi, phi_psi, phi_psi, H.1, H.2]
 simp only [prodEx, if_neg hjk, and_true]
 generalize prodEx j k x = u; generalize phi (at0 a k) = t; grind
theorem lag_step (a : List Int) (k : Nat) (hk : k < a.length) {c y z : Int} {x : F} (H : phi c = lagTo (a.map phi) a.length k x) (H2 : phi y = phi (at0 a k) * prodEx a.length k x ∧ phi z = prodEx a.length k (phi k)) :
  phi (psi (phi c + phi (psi (phi y * phi (psi (inv (phi z))))))) = lagTo (a.map phi) a.length (k + 1) x := by
 simp only [phi_psi, lagTo, H, H2.1, H2.2, atF_map a k hk]
set_option maxHeartbeats 400000 in
theorem ref_At (a : List Int) (v : Value) (x : Int) (w : World) (hp : RowU w v a) (hx : U64 x) (hlen : a.length ≤ 1000000) :
  Calls Tryz.prog 124 #[v, .int .u64 x] w fun e w' => e = .returned (.int .u64 (psi (lag (a.map phi) (phi x)))) ∧ w = w' := by
 have hl := hp.len
 have hat := zH (fun j => @RowU.at _ _ _ hp j)
 obtain ⟨h1, h2, ad, cap, rfl, hr⟩ := hp
 have Hr := zH hr
 clear hr h1
 go_enter Tryz.func124, Tryz.ntmps124
 go_wp2
 go_loop [5, 6] (fun o i => ∃ (k : Nat) (c : Int), k ≤ a.length ∧ U64 c ∧ c < P ∧ i = .int .i64 (k : Int) ∧ o = .int .u64 c ∧ Hid (phi c = lagTo (a.map phi) a.length k (phi x))) (fun _ i => a.length - (intOf i).toNat)
 case atStart => exact ⟨0, 0, by omega, U64.zero, by decide, rfl, rfl, phi_zero⟩
 case round =>
  obtain ⟨k, c, hk, hc, hlt, rfl, rfl, H⟩ := hrel
  by_cases hz : k < a.length
  ·obtain ⟨b, off, rfl, hblt, hcell⟩ := Hr.out (by omega)
   have hcj := hcell k (by omega)
   have hu := hat.out k (by omega)
   clear hcell
   have uk : U64 (k : Int) := ⟨by omega, by omega⟩
   go_wp2
   go_loop [7, 8, 9] (fun up un i => ∃ (j : Nat) (y z : Int), j ≤ a.length ∧ U64 y ∧ U64 z ∧ i = .int .i64 (j : Int) ∧ up = .int .u64 y ∧ un = .int .u64 z ∧ Hid (phi y = phi (at0 a k) * prodEx j k (phi x) ∧ phi z = prodEx j k (phi k))) (fun _ _ i => a.length - (intOf i).toNat)
   case atStart => exact ⟨0, _, 1, by omega, hu, U64.one, rfl, rfl, rfl, (by show _ = phi (at0 a k) * 1; grind), phi_one⟩
   case round =>
    obtain ⟨j, y, z, hj, hy, hz', rfl, rfl, rfl, H2⟩ := hrel
    by_cases hzj : j < a.length
    ·have uj : U64 (j : Int) := ⟨by omega, by omega⟩
     by_cases hjk : j = k
     ·subst hjk
      go_wp2
      go_round
      case rel => exact ⟨j + 1, y, z, by omega, hy, hz', by go_num, rfl, rfl, by simp only [prodEx, if_true]; exact H2.out⟩
      case measure => simp [intOf]; omega
     ·have hjk' : ((j : Int) == (k : Int)) = false := by simp; omega
      have hjk2 : ((j : Int) != (k : Int)) = true := by simp; omega
      go_wp2_with (first | (go_at_call 45; (with_reducible refine (ref_Mul _ _ _ (by first | assumption | exact U64.psi _ | exact U64.zero | exact U64.one | exact U64.mk (by decide) (by decide)) (by first | assumption | exact U64.psi _ | exact U64.zero | exact U64.one | exact U64.mk (by decide) (by decide))).mono ?_); rintro e w' ⟨rfl, rfl⟩) | (go_at_call 44; (with_reducible refine (ref_Sub _ _ _ (by first | assumption | exact U64.psi _ | exact U64.zero | exact U64.one | exact U64.mk (by decide) (by decide)) (by first | assumption | exact U64.psi _ | exact U64.zero | exact U64.one | exact U64.mk (by decide) (by decide))).mono ?_); rintro e w' ⟨rfl, rfl⟩))
      go_round
      case rel => exact ⟨j + 1, _, _, by omega, U64.psi _, U64.psi _, by go_num, rfl, rfl, lagp_step a j k hjk H2.out⟩
      case measure => simp [intOf]; omega
    ·obtain rfl : j = a.length := by omega
     have hne : phi z ≠ 0 := by rw [H2.out.2]; exact prodEx_ne _ _ (by omega) (by omega)
     have Hne := zH hne
     clear hne
     go_wp2_with (first | (go_at_call 45; (with_reducible refine (ref_Mul _ _ _ (by first | assumption | exact U64.psi _ | exact U64.zero | exact U64.one | exact U64.mk (by decide) (by decide)) (by first | assumption | exact U64.psi _ | exact U64.zero | exact U64.one | exact U64.mk (by decide) (by decide))).mono ?_); rintro e w' ⟨rfl, rfl⟩) | (go_at_call 43; (with_reducible refine (ref_Add _ _ _ (by first | assumption | exact U64.psi _ | exact U64.zero | exact U64.one | exact U64.mk (by decide) (by decide)) (by first | assumption | exact U64.psi _ | exact U64.zero | exact U64.one | exact U64.mk (by decide) (by decide))).mono ?_); rintro e w' ⟨rfl, rfl⟩))
     refine (ref_Inv _ _ hz' Hne.out).mono ?_
     rintro e w' ⟨rfl, rfl⟩
     go_wp2_with (first | (go_at_call 45; (with_reducible refine (ref_Mul _ _ _ (by first | assumption | exact U64.psi _ | exact U64.zero | exact U64.one | exact U64.mk (by decide) (by decide)) (by first | assumption | exact U64.psi _ | exact U64.zero | exact U64.one | exact U64.mk (by decide) (by decide))).mono ?_); rintro e w' ⟨rfl, rfl⟩) | (go_at_call 43; (with_reducible refine (ref_Add _ _ _ (by first | assumption | exact U64.psi _ | exact U64.zero | exact U64.one | exact U64.mk (by decide) (by decide)) (by first | assumption | exact U64.psi _ | exact U64.zero | exact U64.one | exact U64.mk (by decide) (by decide))).mono ?_); rintro e w' ⟨rfl, rfl⟩))
     go_round
     case rel => exact ⟨k + 1, _, by omega, U64.psi _, psi_lt _, by go_num, rfl, lag_step a k hz H.out H2.out⟩
     case measure => simp [intOf]; omega
  ·obtain rfl : k = a.length := by omega
   go_wp2
   go_ret
   exact ⟨ret_u64 (eq_psi (by rw [H.out]; unfold lag; simp) hc.1 hlt), rfl⟩
end Go.Proofs.YtlfneeobnihocaaGreatDoor
