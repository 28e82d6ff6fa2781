/- Plain arithmetic: the numbers by the prime 2^61 - 1 as a field; Fermat; no condition. -/
namespace Tally
set_option maxRecDepth 100000
set_option linter.unusedVariables false

/-- the prime, as a natural number -/
def pN : Nat := 2305843009213693951
instance : NeZero pN := ⟨by decide⟩
/-- the field -/
abbrev F := Fin pN
/-- the prime, as an integer -/
def P : Int := 2305843009213693951

/-- an integer as a number of the field -/
def phi (x : Int) : F := Fin.ofNat pN (x % P).toNat
/-- a number of the field as an integer -/
def psi (a : F) : Int := (a.val : Int)

theorem P_pos : 0 < P := by decide
theorem P_eq : P = (pN : Int) := by decide
theorem psi_nonneg (a : F) : 0 ≤ psi a := by unfold psi; omega
theorem psi_lt (a : F) : psi a < P := by have := a.isLt; rw [P_eq]; unfold psi; omega

theorem phi_val (x : Int) : ((phi x).val : Int) = x % P := by
  have h0 : 0 ≤ x % P := Int.emod_nonneg _ (by decide)
  have h1 : x % P < P := Int.emod_lt_of_pos _ P_pos
  unfold phi
  simp only [Fin.ofNat]
  have hp : x % P < (pN : Int) := by rw [P_eq]; rw [P_eq] at h1; exact h1
  rw [Nat.mod_eq_of_lt (by omega)]
  omega
theorem psi_phi (x : Int) : psi (phi x) = x % P := phi_val x
theorem phi_eq {x y : Int} (h : x % P = y % P) : phi x = phi y := by
  unfold phi; rw [h]
theorem phi_eq_iff {x y : Int} : phi x = phi y ↔ x % P = y % P :=
  ⟨fun h => by rw [← phi_val, ← phi_val, h], phi_eq⟩
theorem phi_psi (a : F) : phi (psi a) = a := by
  apply Fin.ext
  have h := phi_val (psi a)
  rw [Int.emod_eq_of_lt (psi_nonneg a) (psi_lt a)] at h
  unfold psi at h ⊢
  omega
theorem psi_inj {a b : F} (h : psi a = psi b) : a = b := by
  rw [← phi_psi a, ← phi_psi b, h]
theorem psi_emod (a : F) : psi a % P = psi a := Int.emod_eq_of_lt (psi_nonneg a) (psi_lt a)
theorem phi_emod (x : Int) : phi (x % P) = phi x := phi_eq (by simp)
theorem eq_psi {x : Int} {a : F} (h : phi x = a) (h0 : 0 ≤ x) (h1 : x < P) : x = psi a := by
  rw [← h, psi_phi, Int.emod_eq_of_lt h0 h1]
theorem emod_psi {x : Int} {a : F} (h : phi x = a) : x % P = psi a := by rw [← h, psi_phi]

theorem phi_nat (n : Nat) : phi (n : Int) = Fin.ofNat pN n := by
  apply Fin.ext
  have h := phi_val (n : Int)
  rw [P_eq] at h
  simp only [Fin.ofNat]
  omega
theorem phi_zero : phi 0 = 0 := by decide
theorem phi_one : phi 1 = 1 := by decide
theorem psi_zero : psi 0 = 0 := by decide
theorem psi_one : psi 1 = 1 := by decide
theorem phi_add (x y : Int) : phi (x + y) = phi x + phi y := by
  apply Fin.ext
  have hx := phi_val x
  have hy := phi_val y
  have h := phi_val (x + y)
  rw [Fin.val_add]
  rw [Int.add_emod, ← hx, ← hy, P_eq, ← Int.natCast_add, ← Int.natCast_emod] at h
  omega
theorem phi_mul (x y : Int) : phi (x * y) = phi x * phi y := by
  apply Fin.ext
  have hx := phi_val x
  have hy := phi_val y
  have h := phi_val (x * y)
  rw [Fin.val_mul]
  rw [Int.mul_emod, ← hx, ← hy, P_eq, ← Int.natCast_mul, ← Int.natCast_emod] at h
  omega
theorem phi_neg (x : Int) : phi (-x) = - phi x := by
  have h : phi (-x) + phi x = 0 := by rw [← phi_add, Int.add_left_neg, phi_zero]
  grind
theorem phi_sub (x y : Int) : phi (x - y) = phi x - phi y := by
  rw [Int.sub_eq_add_neg, phi_add, phi_neg]; grind
theorem phi_P : phi P = 0 := by decide
theorem phi_two : phi 2 = 1 + 1 := by decide
theorem phi_succ (k : Nat) : phi ((k : Int) + 1) = phi k + 1 := by rw [phi_add, phi_one]

theorem zero_ne_one : (0 : F) ≠ 1 := by decide
theorem pow_zero' (a : F) : a ^ 0 = 1 := rfl
theorem pow_succ' (a : F) (n : Nat) : a ^ (n + 1) = a ^ n * a := rfl
theorem pow_add' (a : F) (m n : Nat) : a ^ (m + n) = a ^ m * a ^ n := by
  induction n with
  | zero => rw [Nat.add_zero, pow_zero']; grind
  | succ n ih => rw [← Nat.add_assoc, pow_succ', pow_succ', ih]; grind
theorem one_pow' (n : Nat) : (1 : F) ^ n = 1 := by
  induction n with
  | zero => rfl
  | succ n ih => rw [pow_succ', ih]; grind
theorem pow_mul' (a : F) (m n : Nat) : a ^ (m * n) = (a ^ m) ^ n := by
  induction n with
  | zero => rfl
  | succ n ih => rw [Nat.mul_succ, pow_add', ih, pow_succ']
theorem mul_pow' (a b : F) (n : Nat) : (a * b) ^ n = a ^ n * b ^ n := by
  induction n with
  | zero => rw [pow_zero', pow_zero', pow_zero']; grind
  | succ n ih => rw [pow_succ', pow_succ', pow_succ', ih]; grind

/-! the pigeonhole -/
theorem pigeon (n : Nat) : ∀ (f : Nat → Nat), (∀ i, i < n → f i < n) → (∀ i j, i < n → j < n → f i = f j → i = j) → ∀ y, y < n → ∃ i, i < n ∧ f i = y := by
  induction n with
  | zero => intro f _ _ y hy; omega
  | succ n ih =>
    intro f hlt hinj y hy
    have hv := hlt n (by omega)
    have key := ih (fun i => if f i = n then f n else f i)
      (by
        intro i hi
        have h1 := hlt i (by omega)
        have h2 : f i = f n → i = n := hinj i n (by omega) (by omega)
        show (if f i = n then f n else f i) < n
        split
        · rename_i h; by_cases hvn : f n = n
          · exfalso; have := h2 (by omega); omega
          · omega
        · omega)
      (by
        intro i j hi hj h
        have h1 : f i = f n → i = n := hinj i n (by omega) (by omega)
        have h2 : f j = f n → j = n := hinj j n (by omega) (by omega)
        have h3 : f i = f j → i = j := hinj i j (by omega) (by omega)
        change (if f i = n then f n else f i) = (if f j = n then f n else f j) at h
        split at h <;> split at h <;> omega)
    by_cases e1 : y = f n
    · exact ⟨n, by omega, e1.symm⟩
    · by_cases e2 : y = n
      · obtain ⟨i, hi, h⟩ := key (f n) (by omega)
        split at h
        · exact ⟨i, by omega, by omega⟩
        · have := hinj i n (by omega) (by omega) h; omega
      · obtain ⟨i, hi, h⟩ := key y (by omega)
        split at h
        · omega
        · exact ⟨i, by omega, h⟩

/-! powers, reckoned -/
/-- b^n by m, by squares -/
def powmod (m : Nat) : Nat → Nat → Nat → Nat
  | 0, _, _ => 1 % m
  | k + 1, b, n => if n % 2 = 1 then (powmod m k (b * b % m) (n / 2)) * b % m else powmod m k (b * b % m) (n / 2)
theorem powmod_eq (m : Nat) : ∀ (k b n : Nat), n < 2 ^ k → powmod m k b n = b ^ n % m := by
  intro k
  induction k with
  | zero => intro b n h; have : n = 0 := by simp at h; exact h
            subst this; simp [powmod]
  | succ k ih =>
    intro b n h
    have h2 : n / 2 < 2 ^ k := by rw [Nat.pow_succ] at h; omega
    have hs : (b * b % m) ^ (n / 2) % m = b ^ (2 * (n / 2)) % m := by
      rw [Nat.pow_mul, Nat.pow_two]; exact (Nat.pow_mod _ _ _).symm
    simp only [powmod]
    rw [ih _ _ h2, hs]
    split
    · rw [Nat.mod_mul_mod, ← Nat.pow_succ]; congr 2; omega
    · congr 2; omega
theorem val_pow (a : F) (n : Nat) : (a ^ n).val = a.val ^ n % pN := by
  induction n with
  | zero => rfl
  | succ n ih => rw [pow_succ', Fin.val_mul, ih, Nat.mod_mul_mod, Nat.pow_succ]
theorem pow_val (a : F) (n : Nat) (h : n < 2 ^ 64) : (a ^ n).val = powmod pN 64 a.val n := by
  rw [val_pow, powmod_eq _ _ _ _ h]

/-- a number whose powers are all others -/
def gen : F := ⟨37, by decide⟩
def ord : Nat := 2305843009213693950
theorem ord_eq : pN = ord + 1 := by decide
theorem gen_ord : gen ^ ord = 1 := by
  apply Fin.ext; rw [pow_val _ _ (by decide)]; decide +kernel
/-- the primes that divide the order -/
def qs : List Nat := [2, 3, 5, 7, 11, 13, 31, 41, 61, 151, 331, 1321]
theorem gen_not : ∀ q, q ∈ qs → gen ^ (ord / q) ≠ 1 := by
  intro q hq h
  have h1 : powmod pN 64 37 (ord / q) = 1 := by
    have := congrArg Fin.val h
    rw [pow_val _ _ (Nat.lt_of_le_of_lt (Nat.div_le_self _ _) (by decide))] at this
    exact this
  revert h1 hq
  have : ∀ q ∈ qs, powmod pN 64 37 (ord / q) ≠ 1 := by decide +kernel
  intro hq h1; exact this q hq h1
theorem qs_prime : ∀ q ∈ qs, ∀ d, d ∣ q → d = 1 ∨ d = q := by
  have h : ∀ q ∈ qs, 0 < q ∧ ∀ d < q + 1, d ∣ q → d = 1 ∨ d = q := by decide +kernel
  intro q hq d hd
  obtain ⟨h0, h1⟩ := h q hq
  exact h1 d (Nat.lt_succ_of_le (Nat.le_of_dvd h0 hd)) hd
theorem qs_dvd : ∀ q ∈ qs, q ∣ ord := by decide +kernel
theorem ord_prod : ord = 2 * (3 * (3 * (5 * (5 * (7 * (11 * (13 * (31 * (41 * (61 * (151 * (331 * 1321)))))))))))) := by decide

/-- what divides the order, and isn't 1, is divided by one of the primes -/
theorem some_q (m : Nat) (hm : m ∣ ord) (h1 : m ≠ 1) : ∃ q, q ∈ qs ∧ q ∣ m := by
  apply Classical.byContradiction
  intro hno
  have hc : ∀ q, q ∈ qs → Nat.Coprime m q := by
    intro q hq
    rcases qs_prime q hq _ (Nat.gcd_dvd_right m q) with h | h
    · exact h
    · exact absurd ⟨q, hq, h ▸ Nat.gcd_dvd_left m q⟩ hno
  have hall : Nat.Coprime m ord := by
    rw [ord_prod]
    have g := fun q hq => hc q hq
    have i2 := g 2 (by decide); have i3 := g 3 (by decide); have i5 := g 5 (by decide); have i7 := g 7 (by decide)
    have i11 := g 11 (by decide); have i13 := g 13 (by decide); have i31 := g 31 (by decide); have i41 := g 41 (by decide)
    have i61 := g 61 (by decide); have i151 := g 151 (by decide); have i331 := g 331 (by decide); have i1321 := g 1321 (by decide)
    exact i2.mul_right (i3.mul_right (i3.mul_right (i5.mul_right (i5.mul_right (i7.mul_right (i11.mul_right (i13.mul_right (i31.mul_right (i41.mul_right (i61.mul_right (i151.mul_right (i331.mul_right i1321))))))))))))
  apply h1
  have : m ∣ Nat.gcd m ord := Nat.dvd_gcd (Nat.dvd_refl m) hm
  rw [hall] at this
  exact Nat.dvd_one.mp this

theorem pow_gcd (a : F) (m : Nat) : ∀ n, a ^ m = 1 → a ^ n = 1 → a ^ (Nat.gcd m n) = 1 := by
  induction m using Nat.strongRecOn with
  | ind m ih =>
    intro n hm hn
    by_cases h0 : m = 0
    · subst h0; rw [Nat.gcd_zero_left]; exact hn
    · have hr : a ^ (n % m) = 1 := by
        have h := Nat.div_add_mod n m
        have h2 : a ^ n = a ^ (m * (n / m)) * a ^ (n % m) := by rw [← pow_add', h]
        rw [hn, pow_mul', hm, one_pow'] at h2
        grind
      rw [Nat.gcd_rec]
      exact ih (n % m) (Nat.mod_lt _ (by omega)) m hr hm

theorem gen_least (d : Nat) (h0 : 0 < d) (hd : d < ord) : gen ^ d ≠ 1 := by
  intro h
  have hg := pow_gcd gen d ord h gen_ord
  have hdv : Nat.gcd d ord ∣ ord := Nat.gcd_dvd_right _ _
  have hle : Nat.gcd d ord ≤ d := Nat.gcd_le_left _ h0
  have hpos : 0 < Nat.gcd d ord := Nat.gcd_pos_of_pos_left _ h0
  generalize Nat.gcd d ord = e at *
  obtain ⟨m, hm⟩ := hdv
  have hm1 : m ≠ 1 := by intro h1; subst h1; omega
  obtain ⟨q, hq, hqm⟩ := some_q m ⟨e, by rw [hm, Nat.mul_comm]⟩ hm1
  obtain ⟨t, ht⟩ := hqm
  have hq0 : 0 < q := by have : ∀ q ∈ qs, 0 < q := by decide
                         exact this q hq
  have hdiv : ord / q = e * t := by
    rw [hm, ht, Nat.mul_left_comm, Nat.mul_div_cancel_left _ hq0]
  apply gen_not q hq
  rw [hdiv, pow_mul', hg, one_pow']

theorem gen_unit (k : Nat) (hk : k ≤ ord) : gen ^ k * gen ^ (ord - k) = 1 := by
  rw [← pow_add', Nat.add_sub_cancel' hk, gen_ord]
theorem gen_inj (i j : Nat) (hi : i < ord) (hj : j < ord) (h : gen ^ i = gen ^ j) : i = j := by
  have aux : ∀ i j, i < j → j < ord → gen ^ i = gen ^ j → False := by
    intro i j hij hj h
    have h1 := gen_unit i (by omega)
    have h2 : gen ^ j = gen ^ i * gen ^ (j - i) := by rw [← pow_add']; congr 1; omega
    apply gen_least (j - i) (by omega) (by omega)
    rw [← h] at h2
    grind
  rcases Nat.lt_trichotomy i j with hij | hij | hij
  · exact (aux i j hij hj h).elim
  · exact hij
  · exact (aux j i hij hi h.symm).elim

theorem gen_all (a : F) (ha : a ≠ 0) : ∃ k : Nat, a = gen ^ k := by
  have hnz : ∀ i, i < ord → (gen ^ i).val ≠ 0 := by
    intro i hi h
    have h0 : gen ^ i = 0 := Fin.ext h
    have h1 := gen_unit i (by omega)
    rw [h0] at h1
    have : (0 : F) = 1 := by grind
    exact zero_ne_one this
  have hb : ∀ b : F, b.val < ord + 1 := fun b => ord_eq ▸ b.isLt
  have hav : a.val ≠ 0 := fun h => ha (Fin.ext h)
  obtain ⟨i, hi, h⟩ := pigeon ord (fun i => (gen ^ i).val - 1)
    (by intro i hi; have := hnz i hi; have := hb (gen ^ i); omega)
    (by
      intro i j hi hj h
      have h1 := hnz i hi
      have h2 := hnz j hj
      exact gen_inj i j hi hj (Fin.ext (by omega)))
    (a.val - 1) (by have := hb a; omega)
  refine ⟨i, Fin.ext ?_⟩
  have h1 := hnz i hi
  omega

theorem fermat (a : F) (ha : a ≠ 0) : a ^ ord = 1 := by
  obtain ⟨k, rfl⟩ := gen_all a ha
  rw [← pow_mul', Nat.mul_comm, pow_mul', gen_ord, one_pow']
theorem fermat_p (a : F) : a ^ pN = a := by
  have e : a ^ pN = a ^ ord * a := pow_succ' a ord
  rw [e]
  by_cases ha : a = 0
  · subst ha; grind
  · rw [fermat a ha]; grind
/-- the inverse (0 of 0) -/
def inv (a : F) : F := a ^ (ord - 1)
theorem mul_inv (a : F) (ha : a ≠ 0) : a * inv a = 1 := by
  have h := fermat a ha
  have e : ord = (ord - 1) + 1 := by decide
  rw [e, pow_succ'] at h
  unfold inv; grind
theorem mul_eq_zero {a b : F} (h : a * b = 0) : a = 0 ∨ b = 0 := by
  by_cases ha : a = 0
  · exact Or.inl ha
  · right
    have := mul_inv a ha
    grind
theorem mul_ne_zero {a b : F} (ha : a ≠ 0) (hb : b ≠ 0) : a * b ≠ 0 := fun h => by
  rcases mul_eq_zero h with h | h
  · exact ha h
  · exact hb h
theorem inv_unique {a x : F} (h : a * x = 1) : x = inv a := by
  have ha : a ≠ 0 := by intro h0; subst h0; apply zero_ne_one; grind
  have := mul_inv a ha
  grind
end Tally
