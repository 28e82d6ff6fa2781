/- The walks of package field and of the reference's numbers: each computes the field's operation; the arguments are numbers of 64 bits. -/
import Derived.Test.YtlfneeobnihocaaGreatDoorProg
import Derived.Test.YtlfneeobnihocaaGreatDoorNum
import Derived.WalkKit
import Derived.Outline
import Derived.Laws.Bits64b
import Derived.Lib.Mul64
namespace Go.Proofs.YtlfneeobnihocaaGreatDoor
set_option maxRecDepth 100000
set_option linter.unusedVariables false
open Go.RowKit Tally

/-- a number of 64 bits -/
def U64 (a : Int) : Prop := 0 ≤ a ∧ a < 18446744073709551616
theorem U64.mk {a : Int} (h0 : 0 ≤ a) (h1 : a < 18446744073709551616) : U64 a := ⟨h0, h1⟩
theorem U64.psi (a : F) : U64 (psi a) := ⟨psi_nonneg a, Int.lt_trans (psi_lt a) (by decide)⟩
theorem U64.nat {n : Nat} (h : n < 18446744073709551616) : U64 (n : Int) := ⟨by omega, by omega⟩
theorem U64.zero : U64 0 := ⟨by decide, by decide⟩
theorem U64.one : U64 1 := ⟨by decide, by decide⟩

theorem mask61 (a : Int) (h0 : 0 ≤ a) (h1 : a < 18446744073709551616) : bits .and .u64 a 2305843009213693951 = a % 2305843009213693952 := by
  rw [u64_and a _ h0 h1 (by decide) (by decide)]
  have e : a.toNat &&& (2305843009213693951 : Int).toNat = a.toNat % 2305843009213693952 := Nat.and_two_pow_sub_one_eq_mod a.toNat 61
  rw [e]; omega
theorem psi_phi' (a : Int) : a % 2305843009213693951 = psi (phi a) := (psi_phi a).symm
theorem ret_u64 {a b : Int} (h : a = b) : Ending.returned (.int .u64 a) = .returned (.int .u64 b) := by rw [h]

theorem wrap_small (a : Int) (h0 : 0 ≤ a) (h1 : a < 18446744073709551616) : (a % 2305843009213693952 + a / 2305843009213693952) % 18446744073709551616 = a % 2305843009213693952 + a / 2305843009213693952 := by
  have : a / 2305843009213693952 < 8 := by omega
  omega
theorem norm_lt (a : Int) (h0 : 0 ≤ a) (h1 : a < 18446744073709551616) (h : a % 2305843009213693952 + a / 2305843009213693952 < 2305843009213693951) :
    a % 2305843009213693952 + a / 2305843009213693952 = a % 2305843009213693951 := by
  have hq : a / 2305843009213693952 < 8 := by omega
  have hq0 : 0 ≤ a / 2305843009213693952 := by omega
  have e := Int.emod_add_mul_ediv a 2305843009213693952
  generalize a / 2305843009213693952 = q at *
  have : q = 0 ∨ q = 1 ∨ q = 2 ∨ q = 3 ∨ q = 4 ∨ q = 5 ∨ q = 6 ∨ q = 7 := by omega
  rcases this with h | h | h | h | h | h | h | h <;> subst h <;> omega
theorem norm_sub (a : Int) (h0 : 0 ≤ a) (h1 : a < 18446744073709551616) (h : 2305843009213693951 ≤ a % 2305843009213693952 + a / 2305843009213693952) :
    (a % 2305843009213693952 + a / 2305843009213693952 - 2305843009213693951) % 18446744073709551616 = a % 2305843009213693951 := by
  have hq : a / 2305843009213693952 < 8 := by omega
  have hq0 : 0 ≤ a / 2305843009213693952 := by omega
  have e := Int.emod_add_mul_ediv a 2305843009213693952
  generalize a / 2305843009213693952 = q at *
  have : q = 0 ∨ q = 1 ∨ q = 2 ∨ q = 3 ∨ q = 4 ∨ q = 5 ∨ q = 6 ∨ q = 7 := by omega
  rcases this with h | h | h | h | h | h | h | h <;> subst h <;> omega

theorem norm_wrap (a : Int) (h0 : 0 ≤ a) (h1 : a < 18446744073709551616) : IntKind.u64.wrap (bits BinOp.and IntKind.u64 a 2305843009213693951 + a / 2305843009213693952) = a % 2305843009213693952 + a / 2305843009213693952 := by
  rw [mask61 a h0 h1, IntKind.wrap_u64, wrap_small a h0 h1]
theorem norm_one (a : Int) (h0 : 0 ≤ a) (h1 : a < 18446744073709551616) (h : IntKind.u64.wrap (bits BinOp.and IntKind.u64 a 2305843009213693951 + a / 2305843009213693952) < 2305843009213693951) :
    IntKind.u64.wrap (bits BinOp.and IntKind.u64 a 2305843009213693951 + a / 2305843009213693952) = psi (phi a) := by
  rw [norm_wrap a h0 h1] at *
  rw [← psi_phi']; exact norm_lt a h0 h1 h
theorem norm_two (a : Int) (h0 : 0 ≤ a) (h1 : a < 18446744073709551616) (h : 2305843009213693951 ≤ IntKind.u64.wrap (bits BinOp.and IntKind.u64 a 2305843009213693951 + a / 2305843009213693952)) :
    IntKind.u64.wrap (IntKind.u64.wrap (bits BinOp.and IntKind.u64 a 2305843009213693951 + a / 2305843009213693952) - 2305843009213693951) = psi (phi a) := by
  rw [norm_wrap a h0 h1] at *
  rw [← psi_phi', IntKind.wrap_u64]; exact norm_sub a h0 h1 h

set_option maxHeartbeats 400000 in
theorem norm_raw (a : Int) (w : World) (h0 : 0 ≤ a) (h1 : a < 18446744073709551616) :
    Calls Tryz.prog 64 #[.int .u64 a] w fun e w' => e = .returned (.int .u64 (psi (phi a))) ∧ w = w' := by
  go_enter Tryz.func64, Tryz.ntmps64
  go_wp2
  all_goals
    go_ret
    refine ⟨ret_u64 ?_, rfl⟩
    first | exact norm_one a h0 h1 ‹_› | exact norm_two a h0 h1 ‹_›
theorem field_Norm (a : Int) (w : World) (h : U64 a) :
    Calls Tryz.prog 64 #[.int .u64 a] w fun e w' => e = .returned (.int .u64 (psi (phi a))) ∧ w = w' := norm_raw a w h.1 h.2

theorem sum_lt (a b : F) : 0 ≤ psi a + psi b ∧ psi a + psi b < 18446744073709551616 := by
  have := psi_nonneg a; have := psi_nonneg b; have := psi_lt a; have := psi_lt b
  have : P = 2305843009213693951 := rfl
  omega
theorem wrap_id {a : Int} (h : 0 ≤ a ∧ a < 18446744073709551616) : IntKind.u64.wrap a = a := by rw [IntKind.wrap_u64]; omega
theorem phi_sum (a b : F) : phi (psi a + psi b) = a + b := by rw [phi_add, phi_psi, phi_psi]
theorem diff_lt (a b : F) : 0 ≤ psi a + 2305843009213693951 - psi b ∧ psi a + 2305843009213693951 - psi b < 18446744073709551616 := by
  have := psi_nonneg a; have := psi_nonneg b; have := psi_lt a; have := psi_lt b
  have : P = 2305843009213693951 := rfl
  omega
theorem diff_lt0 (a : F) : 0 ≤ psi a + 2305843009213693951 ∧ psi a + 2305843009213693951 < 18446744073709551616 := by
  have := psi_nonneg a; have := psi_lt a
  have : P = 2305843009213693951 := rfl
  omega
theorem phi_diff (a b : F) : phi (psi a + 2305843009213693951 - psi b) = a - b := by
  have h := phi_P
  have e : P = 2305843009213693951 := rfl
  rw [e] at h
  rw [phi_sub, phi_add, phi_psi, phi_psi, h]; grind

set_option maxHeartbeats 400000 in
theorem field_Add (a b : Int) (w : World) (ha : U64 a) (hb : U64 b) :
    Calls Tryz.prog 108 #[.int .u64 a, .int .u64 b] w fun e w' => e = .returned (.int .u64 (psi (phi a + phi b))) ∧ w = w' := by
  have hs := sum_lt (phi a) (phi b)
  have hw := wrap_id hs
  go_enter Tryz.func108, Tryz.ntmps108
  go_wp2_with (go_at_call 64; refine (field_Norm _ _ (by first | assumption | exact hs)).mono ?_; rintro e w' ⟨rfl, rfl⟩)
  go_ret
  exact ⟨ret_u64 (by rw [phi_sum]), rfl⟩

set_option maxHeartbeats 400000 in
theorem field_Sub (a b : Int) (w : World) (ha : U64 a) (hb : U64 b) :
    Calls Tryz.prog 111 #[.int .u64 a, .int .u64 b] w fun e w' => e = .returned (.int .u64 (psi (phi a - phi b))) ∧ w = w' := by
  have hs := diff_lt (phi a) (phi b)
  have hw := wrap_id hs
  have hw0 := wrap_id (diff_lt0 (phi a))
  go_enter Tryz.func111, Tryz.ntmps111
  go_wp2_with (go_at_call 64; refine (field_Norm _ _ (by first | assumption | exact hs)).mono ?_; rintro e w' ⟨rfl, rfl⟩)
  go_ret
  exact ⟨ret_u64 (by rw [phi_diff]), rfl⟩

/-! the product of two words: the library's own text, as the guide's shelf walks it -/
theorem maskN (a : Nat) (ha : a < 18446744073709551616) : bits .and .u64 (a : Int) 4294967295 = ((a % 4294967296 : Nat) : Int) := by
  have h := bits_and_u64_nat a 4294967295 ha (by omega)
  have e : a &&& 4294967295 = a % 4294967296 := Nat.and_two_pow_sub_one_eq_mod a 32
  rw [e] at h
  exact h
theorem divN (a : Nat) : (a : Int) / 4294967296 = ((a / 4294967296 : Nat) : Int) := by omega
theorem mulN (a b : Nat) : (a : Int) * (b : Int) = ((a * b : Nat) : Int) := (Int.natCast_mul a b).symm
theorem addN (a b : Nat) : (a : Int) + (b : Int) = ((a + b : Nat) : Int) := (Int.natCast_add a b).symm
theorem wrapN (a : Nat) (ha : a < 18446744073709551616) : IntKind.u64.wrap (a : Int) = (a : Int) := by rw [IntKind.wrap_u64]; omega
theorem wrapM (a : Nat) : IntKind.u64.wrap (a : Int) = ((a % 18446744073709551616 : Nat) : Int) := by rw [IntKind.wrap_u64]; omega

set_option maxHeartbeats 1000000 in
theorem bits_Mul64 (x y : Nat) (hx : x < 18446744073709551616) (hy : y < 18446744073709551616) (w : World) :
    Calls Tryz.prog 151 #[.int .u64 x, .int .u64 y] w fun e w' => e = .returned (.tuple #[.int .u64 ((x * y / 18446744073709551616 : Nat) : Int), .int .u64 ((x * y % 18446744073709551616 : Nat) : Int)]) ∧ w = w' := by
  obtain ⟨bd, bt, bw, hhi⟩ := Lib.mul64_hi x y hx hy
  have ba := Lib.half_mul_le (a := x / 4294967296) (b := y / 4294967296) (by omega) (by omega)
  have bb := Lib.half_mul_le (a := x / 4294967296) (b := y % 4294967296) (by omega) (by omega)
  have bc := Lib.half_mul_le (a := x % 4294967296) (b := y / 4294967296) (by omega) (by omega)
  have ba' : x / 4294967296 * (y / 4294967296) < 18446744073709551616 := by omega
  have bb' : x / 4294967296 * (y % 4294967296) < 18446744073709551616 := by omega
  have bc' : x % 4294967296 * (y / 4294967296) < 18446744073709551616 := by omega
  have bh1 : x / 4294967296 * (y / 4294967296) + (x / 4294967296 * (y % 4294967296) + x % 4294967296 * (y % 4294967296) / 4294967296) / 4294967296 < 18446744073709551616 := by omega
  have bh : x / 4294967296 * (y / 4294967296) + (x / 4294967296 * (y % 4294967296) + x % 4294967296 * (y % 4294967296) / 4294967296) / 4294967296 + ((x / 4294967296 * (y % 4294967296) + x % 4294967296 * (y % 4294967296) / 4294967296) % 4294967296 + x % 4294967296 * (y / 4294967296)) / 4294967296 < 18446744073709551616 := by omega
  go_enter Tryz.func151, Tryz.ntmps151
  go_wp2
  simp only [maskN x hx, maskN y hy, divN, mulN, addN, wrapN _ bd, wrapN _ bb', wrapN _ bt, maskN _ bt, wrapN _ bc', wrapN _ bw, wrapN _ ba', wrapN _ bh1, wrapN _ bh, wrapM (x * y)]
  rw [hhi]
  go_ret2
  exact ⟨rfl, rfl⟩

def hiOf (a b : F) : Int := ((a.val * b.val / 18446744073709551616 : Nat) : Int)
def loOf (a b : F) : Int := ((a.val * b.val % 18446744073709551616 : Nat) : Int)
theorem bits_Mul64_psi (a b : F) (w : World) :
    Calls Tryz.prog 151 #[.int .u64 (psi a), .int .u64 (psi b)] w fun e w' => e = .returned (.tuple #[.int .u64 (hiOf a b), .int .u64 (loOf a b)]) ∧ w = w' :=
  bits_Mul64 a.val b.val (Nat.lt_trans a.isLt (by decide)) (Nat.lt_trans b.isLt (by decide)) w
theorem prod_lt (a b : F) : a.val * b.val < 5316911983139663487003542222693990401 := by
  have ha : a.val ≤ 2305843009213693950 := Nat.le_of_lt_succ a.isLt
  have hb : b.val ≤ 2305843009213693950 := Nat.le_of_lt_succ b.isLt
  exact Nat.lt_of_le_of_lt (Nat.mul_le_mul ha hb) (by decide)
theorem lo_and (a b : F) : bits BinOp.and IntKind.u64 (loOf a b) 2305843009213693951 = ((a.val * b.val % 2305843009213693952 : Nat) : Int) := by
  rw [mask61 _ (by unfold loOf; omega) (by unfold loOf; omega)]
  unfold loOf; omega
theorem hi_or (a b : F) : bits BinOp.or IntKind.u64 (IntKind.u64.wrap (hiOf a b * 8)) (loOf a b / 2305843009213693952) = ((a.val * b.val / 2305843009213693952 : Nat) : Int) := by
  have hp := prod_lt a b
  unfold hiOf loOf
  generalize a.val * b.val = n at *
  have h1 : n / 18446744073709551616 < 288230376151711744 := by omega
  have e1 : ((n / 18446744073709551616 : Nat) : Int) * 8 = ((n / 18446744073709551616 * 8 : Nat) : Int) := by omega
  have e2 : ((n % 18446744073709551616 : Nat) : Int) / 2305843009213693952 = ((n % 18446744073709551616 / 2305843009213693952 : Nat) : Int) := by omega
  rw [e1, e2, wrapN _ (by omega), u64_or_nat _ _ (by omega) (by omega), nat_join 3 _ _ (by omega) (by omega)]
  omega
theorem mul_U1 (a b : F) : U64 (bits BinOp.and IntKind.u64 (loOf a b) 2305843009213693951) := by
  rw [lo_and]; exact ⟨by omega, by omega⟩
theorem mul_U2 (a b : F) : U64 (bits BinOp.or IntKind.u64 (IntKind.u64.wrap (hiOf a b * 8)) (loOf a b / 2305843009213693952)) := by
  rw [hi_or]; have := prod_lt a b; exact ⟨by omega, by omega⟩
theorem phi_mul_val (a b : F) : phi ((a.val * b.val : Nat) : Int) = a * b := by
  rw [Int.natCast_mul, phi_mul]
  have h := phi_psi a; have h' := phi_psi b
  unfold psi at h h'
  rw [h, h']
theorem mul_fold (a b : F) : phi (bits BinOp.and IntKind.u64 (loOf a b) 2305843009213693951) + phi (bits BinOp.or IntKind.u64 (IntKind.u64.wrap (hiOf a b * 8)) (loOf a b / 2305843009213693952)) = a * b := by
  rw [lo_and, hi_or, ← phi_mul_val]
  generalize a.val * b.val = n
  have e : (n : Int) = 2305843009213693952 * ((n / 2305843009213693952 : Nat) : Int) + ((n % 2305843009213693952 : Nat) : Int) := by omega
  have h1 : phi 2305843009213693952 = 1 := by decide
  rw [e, phi_add, phi_mul, h1]
  generalize phi ((n % 2305843009213693952 : Nat) : Int) = x
  generalize phi ((n / 2305843009213693952 : Nat) : Int) = y
  grind
set_option maxHeartbeats 400000 in
theorem field_Mul (a b : Int) (w : World) (ha : U64 a) (hb : U64 b) :
    Calls Tryz.prog 112 #[.int .u64 a, .int .u64 b] w fun e w' => e = .returned (.int .u64 (psi (phi a * phi b))) ∧ w = w' := by
  go_enter Tryz.func112, Tryz.ntmps112
  go_wp2_with (first | (go_at_call 64; (with_reducible refine (field_Norm _ _ (by first | assumption | exact U64.psi _ | exact U64.zero | exact U64.one | exact U64.mk (by decide) (by decide))).mono ?_); rintro e w' ⟨rfl, rfl⟩) | (go_at_call 151; refine (bits_Mul64_psi _ _ _).mono ?_; rintro e w' ⟨rfl, rfl⟩) | (go_at_call 108; refine (field_Add _ _ _ (mul_U1 _ _) (mul_U2 _ _)).mono ?_; rintro e w' ⟨rfl, rfl⟩))
  go_ret
  exact ⟨ret_u64 (by rw [mul_fold]), rfl⟩

/-! powers -/
theorem and_one {n : Int} (h : U64 n) : bits BinOp.and IntKind.u64 n 1 = n % 2 := by
  rw [u64_and n 1 h.1 h.2 (by decide) (by decide)]
  have e : n.toNat &&& (1 : Int).toNat = n.toNat % 2 := nat_mask1 n.toNat
  rw [e]; have := h.1; omega
theorem U64.half {n : Int} (h : U64 n) : U64 (n / 2) := by have := h.1; have := h.2; exact ⟨by omega, by omega⟩
theorem pow_even (a : F) (n : Int) (h0 : 0 ≤ n) (h : n % 2 = 0) : (a * a) ^ (n / 2).toNat = a ^ n.toNat := by
  have e : n.toNat = 2 * (n / 2).toNat := by omega
  rw [e, pow_mul']; congr 1
  show a * a = a ^ (1 + 1)
  rw [pow_add']; grind
theorem pow_odd (a : F) (n : Int) (h0 : 0 ≤ n) (h : n % 2 = 1) : a * (a * a) ^ (n / 2).toNat = a ^ n.toNat := by
  have e : n.toNat = 2 * (n / 2).toNat + 1 := by omega
  have h2 : a ^ 2 = a * a := by show a ^ (1 + 1) = _; rw [pow_add']; grind
  rw [e, pow_succ', pow_mul', h2]; grind


theorem pow_done (c : Int) (x r : F) (hc : U64 c) (hlt : c < P) (h : phi c * x ^ (0 : Int).toNat = r) : c = psi r := by
  have e : x ^ (0 : Int).toNat = 1 := pow_zero' x
  rw [e] at h
  refine eq_psi ?_ hc.1 hlt
  rw [← h]; grind
theorem pow_odd_step (c : Int) (x r : F) (m : Int) (hm : U64 m) (h : (m % 2 == 1) = true) (H : phi c * x ^ m.toNat = r) :
    phi (psi (phi c * phi (psi x))) * (phi (psi x) * phi (psi x)) ^ (m / 2).toNat = r := by
  rw [phi_psi, phi_psi]
  have := pow_odd x m hm.1 (by simpa using h)
  rw [← this] at H
  grind
theorem pow_even_step (c : Int) (x r : F) (m : Int) (hm : U64 m) (h : (m % 2 == 1) = false) (H : phi c * x ^ m.toNat = r) :
    phi c * (phi (psi x) * phi (psi x)) ^ (m / 2).toNat = r := by
  rw [phi_psi]
  have := pow_even x m hm.1 (by have h' := beq_eq_false_iff_ne.mp h; omega)
  rw [this]; exact H
set_option maxHeartbeats 400000 in
theorem field_Pow (a n : Int) (w : World) (ha : U64 a) (hn : U64 n) :
    Calls Tryz.prog 110 #[.int .u64 a, .int .u64 n] w fun e w' => e = .returned (.int .u64 (psi (phi a ^ n.toNat))) ∧ w = w' := by
  go_enter Tryz.func110, Tryz.ntmps110
  go_wp2_with (first | (go_at_call 64; (with_reducible refine (field_Norm _ _ (by first | assumption | exact U64.psi _ | exact U64.zero | exact U64.one | exact U64.mk (by decide) (by decide))).mono ?_); rintro e w' ⟨rfl, rfl⟩) | (go_at_call 112; (with_reducible refine (field_Mul _ _ _ (by first | assumption | exact U64.psi _ | exact U64.zero | exact U64.one | exact U64.mk (by decide) (by decide)) (by first | assumption | exact U64.psi _ | exact U64.zero | exact U64.one | exact U64.mk (by decide) (by decide))).mono ?_); rintro e w' ⟨rfl, rfl⟩))
  go_loop [0, 1, 5] (fun s t o => ∃ (x : F) (m c : Int), U64 m ∧ U64 c ∧ c < P ∧ s = .int .u64 (psi x) ∧ t = .int .u64 m ∧ o = .int .u64 c ∧ Hid (phi c * x ^ m.toNat = phi a ^ n.toNat)) (fun _ t _ => (intOf t).toNat)
  case atStart => exact ⟨phi a, n, 1, hn, U64.one, by decide, rfl, rfl, rfl, (by rw [phi_one]; show 1 * phi a ^ n.toNat = _; grind)⟩
  case round =>
    obtain ⟨x, m, c, hm, hc, hlt, rfl, rfl, rfl, H⟩ := hrel
    have h0 := hm.1
    have hm2 := hm.half
    by_cases hz : 0 < m
    · have ho := and_one hm
      go_wp2_with (first | (go_at_call 64; (with_reducible refine (field_Norm _ _ (by first | assumption | exact U64.psi _ | exact U64.zero | exact U64.one | exact U64.mk (by decide) (by decide))).mono ?_); rintro e w' ⟨rfl, rfl⟩) | (go_at_call 112; (with_reducible refine (field_Mul _ _ _ (by first | assumption | exact U64.psi _ | exact U64.zero | exact U64.one | exact U64.mk (by decide) (by decide)) (by first | assumption | exact U64.psi _ | exact U64.zero | exact U64.one | exact U64.mk (by decide) (by decide))).mono ?_); rintro e w' ⟨rfl, rfl⟩))
      all_goals go_round
      case rel => exact ⟨_, _, _, hm2, U64.psi _, psi_lt _, rfl, rfl, rfl, pow_odd_step c x _ m hm ‹_› H.out⟩
      case measure => simp [intOf]; omega
      case rel => exact ⟨_, _, _, hm2, hc, hlt, rfl, rfl, rfl, pow_even_step c x _ m hm ‹_› H.out⟩
      case measure => simp [intOf]; omega
    · obtain rfl : m = 0 := by omega
      go_wp2
      go_ret
      exact ⟨ret_u64 (pow_done c x _ hc hlt H.out), rfl⟩

theorem field_Pow_inv (a : Int) (w : World) (ha : U64 a) :
    Calls Tryz.prog 110 #[.int .u64 a, .int .u64 2305843009213693949] w fun e w' => e = .returned (.int .u64 (psi (inv (phi a)))) ∧ w = w' :=
  field_Pow a 2305843009213693949 w ha ⟨by decide, by decide⟩
set_option maxHeartbeats 400000 in
theorem field_Inv (a : Int) (w : World) (ha : U64 a) (h : phi a ≠ 0) :
    Calls Tryz.prog 72 #[.int .u64 a] w fun e w' => e = .returned (.tuple #[.int .u64 (psi (inv (phi a))), .int .i64 0]) ∧ w = w' := by
  have hz : (psi (phi a) == 0) = false := by
    rw [beq_eq_false_iff_ne]; intro h0; apply h; rw [← psi_zero] at h0; exact psi_inj h0
  go_enter Tryz.func72, Tryz.ntmps72
  go_wp2_with (first | (go_at_call 64; (with_reducible refine (field_Norm _ _ (by first | assumption | exact U64.psi _ | exact U64.zero | exact U64.one | exact U64.mk (by decide) (by decide))).mono ?_); rintro e w' ⟨rfl, rfl⟩) | (go_at_call 110; refine (field_Pow_inv _ _ ha).mono ?_; rintro e w' ⟨rfl, rfl⟩))
  go_ret2
  exact ⟨rfl, rfl⟩
set_option maxHeartbeats 400000 in
theorem field_Inv_zero (a : Int) (w : World) (ha : U64 a) (h : phi a = 0) :
    Calls Tryz.prog 72 #[.int .u64 a] w fun e w' => e = .returned (.tuple #[.int .u64 0, .int .i64 1]) ∧ w = w' := by
  have hz : (psi (phi a) == 0) = true := by rw [h]; decide
  go_enter Tryz.func72, Tryz.ntmps72
  go_wp2_with (first | (go_at_call 64; (with_reducible refine (field_Norm _ _ (by first | assumption | exact U64.psi _ | exact U64.zero | exact U64.one | exact U64.mk (by decide) (by decide))).mono ?_); rintro e w' ⟨rfl, rfl⟩))
  go_ret2
  exact ⟨rfl, rfl⟩

/-! the reference's numbers -/
theorem psi_emod' (a : F) : psi a % 2305843009213693951 = psi a := psi_emod a
theorem phi_emod' (a : Int) : phi (a % 2305843009213693951) = phi a := phi_emod a
set_option maxHeartbeats 400000 in
theorem ref_Norm (a : Int) (w : World) (ha : U64 a) :
    Calls Tryz.prog 47 #[.int .u64 a] w fun e w' => e = .returned (.int .u64 (psi (phi a))) ∧ w = w' := by
  have h0 := ha.1
  go_enter Tryz.func47, Tryz.ntmps47
  go_wp2
  go_ret
  exact ⟨ret_u64 (psi_phi' a), rfl⟩
set_option maxHeartbeats 400000 in
theorem ref_Add (a b : Int) (w : World) (ha : U64 a) (hb : U64 b) :
    Calls Tryz.prog 43 #[.int .u64 a, .int .u64 b] w fun e w' => e = .returned (.int .u64 (psi (phi a + phi b))) ∧ w = w' := by
  have h0 := ha.1
  have h1 := hb.1
  go_enter Tryz.func43, Tryz.ntmps43
  go_wp2
  go_ret
  refine ⟨ret_u64 ?_, rfl⟩
  rw [psi_phi', phi_add, phi_emod', phi_emod']
set_option maxHeartbeats 400000 in
theorem ref_Sub (a b : Int) (w : World) (ha : U64 a) (hb : U64 b) :
    Calls Tryz.prog 44 #[.int .u64 a, .int .u64 b] w fun e w' => e = .returned (.int .u64 (psi (phi a - phi b))) ∧ w = w' := by
  have h0 := ha.1
  have h1 := hb.1
  go_enter Tryz.func44, Tryz.ntmps44
  go_wp2
  go_ret
  refine ⟨ret_u64 ?_, rfl⟩
  have h := phi_P
  have e : P = 2305843009213693951 := rfl
  rw [e] at h
  rw [psi_phi', phi_sub, phi_add, phi_emod', phi_emod', h]; congr 1; grind
theorem wadd (x y : F) : (IntKind.u64.wrap (psi x + psi y)).tmod 2305843009213693951 = psi (x + y) := by
  rw [wrap_id (sum_lt x y), Int.tmod_eq_emod_of_nonneg (sum_lt x y).1, psi_phi', phi_sum]
theorem bit_one (b : F) (k : Nat) (hk : 0 < k) (h : ((psi b / 2 ^ (k - 1)).tmod 2 == 1) = true) : psi b / 2 ^ (k - 1) = psi b / 2 ^ k + psi b / 2 ^ k + 1 := by
  obtain ⟨j, rfl⟩ : ∃ j, k = j + 1 := ⟨k - 1, by omega⟩
  simp only [Nat.add_sub_cancel] at *
  have h2 : (0 : Int) ≤ psi b / 2 ^ j := Int.ediv_nonneg (psi_nonneg b) (by exact Int.le_of_lt (Int.pow_pos (by decide)))
  rw [Int.tmod_eq_emod_of_nonneg h2] at h
  have e : psi b / 2 ^ (j + 1) = psi b / 2 ^ j / 2 := by rw [Int.pow_succ, Int.ediv_ediv_of_nonneg (Int.le_of_lt (Int.pow_pos (by decide)))]
  rw [e]
  have := of_decide_eq_true h
  omega
theorem bit_zero (b : F) (k : Nat) (hk : 0 < k) (h : ((psi b / 2 ^ (k - 1)).tmod 2 == 1) = false) : psi b / 2 ^ (k - 1) = psi b / 2 ^ k + psi b / 2 ^ k := by
  obtain ⟨j, rfl⟩ : ∃ j, k = j + 1 := ⟨k - 1, by omega⟩
  simp only [Nat.add_sub_cancel] at *
  have h2 : (0 : Int) ≤ psi b / 2 ^ j := Int.ediv_nonneg (psi_nonneg b) (by exact Int.le_of_lt (Int.pow_pos (by decide)))
  rw [Int.tmod_eq_emod_of_nonneg h2] at h
  have e : psi b / 2 ^ (j + 1) = psi b / 2 ^ j / 2 := by rw [Int.pow_succ, Int.ediv_ediv_of_nonneg (Int.le_of_lt (Int.pow_pos (by decide)))]
  rw [e]
  have := beq_eq_false_iff_ne.mp h
  omega
theorem mul_bit_one (a b : F) (k : Nat) (hk : 0 < k) (h : ((psi b / 2 ^ (k - 1)).tmod 2 == 1) = true) :
    (IntKind.u64.wrap ((IntKind.u64.wrap (psi (a * phi (psi b / 2 ^ k)) + psi (a * phi (psi b / 2 ^ k)))).tmod 2305843009213693951 + psi a)).tmod 2305843009213693951 = psi (a * phi (psi b / 2 ^ (k - 1))) := by
  rw [wadd, wadd, bit_one b k hk h, phi_add, phi_add, phi_one]
  congr 1; grind
theorem mul_bit_zero (a b : F) (k : Nat) (hk : 0 < k) (h : ((psi b / 2 ^ (k - 1)).tmod 2 == 1) = false) :
    (IntKind.u64.wrap (psi (a * phi (psi b / 2 ^ k)) + psi (a * phi (psi b / 2 ^ k)))).tmod 2305843009213693951 = psi (a * phi (psi b / 2 ^ (k - 1))) := by
  rw [wadd, bit_zero b k hk h, phi_add]
  congr 1; grind
theorem mul_start (a b : F) : (0 : Int) = psi (a * phi (psi b / 2 ^ 61)) := by
  have h0 := psi_nonneg b
  have h1 := psi_lt b
  have e : P = 2305843009213693951 := rfl
  rw [e] at h1
  have : psi b / 2 ^ 61 = 0 := Int.ediv_eq_zero_of_lt h0 (by omega)
  rw [this, phi_zero]
  have e0 : a * 0 = 0 := by grind
  rw [e0, psi_zero]
set_option maxHeartbeats 400000 in
theorem ref_Mul (a b : Int) (w : World) (ha : U64 a) (hb : U64 b) :
    Calls Tryz.prog 45 #[.int .u64 a, .int .u64 b] w fun e w' => e = .returned (.int .u64 (psi (phi a * phi b))) ∧ w = w' := by
  have h0 := ha.1
  have h1 := hb.1
  have e2 := psi_phi' b
  have e1 := psi_phi' a
  go_enter Tryz.func45, Tryz.ntmps45
  go_wp2
  go_loop [5, 6] (fun o i => ∃ (k : Nat), k ≤ 61 ∧ i = .int .i64 ((k : Int) - 1) ∧ o = .int .u64 (psi (phi a * phi (psi (phi b) / 2 ^ k)))) (fun _ i => (intOf i + 1).toNat)
  case atStart => exact ⟨61, by omega, rfl, by rw [← mul_start]⟩
  case round =>
    obtain ⟨k, hk, rfl, rfl⟩ := hrel
    by_cases hz : 0 < k
    · go_wp2
      all_goals go_round
      case rel => exact ⟨k - 1, by omega, by congr 1; omega, by rw [mul_bit_one _ _ k hz ‹_›]⟩
      case measure => simp [intOf]; omega
      case rel => exact ⟨k - 1, by omega, by congr 1; omega, by rw [mul_bit_zero _ _ k hz ‹_›]⟩
      case measure => simp [intOf]; omega
    · obtain rfl : k = 0 := by omega
      go_wp2
      go_ret
      exact ⟨ret_u64 (by rw [phi_psi]), rfl⟩

theorem bitI_one (n : Int) (hn : 0 ≤ n) (k : Nat) (hk : 0 < k) (h : ((n / 2 ^ (k - 1)).tmod 2 == 1) = true) : (n / 2 ^ (k - 1)).toNat = (n / 2 ^ k).toNat + (n / 2 ^ k).toNat + 1 := by
  obtain ⟨j, rfl⟩ : ∃ j, k = j + 1 := ⟨k - 1, by omega⟩
  simp only [Nat.add_sub_cancel] at *
  have h2 : (0 : Int) ≤ n / 2 ^ j := Int.ediv_nonneg hn (by exact Int.le_of_lt (Int.pow_pos (by decide)))
  rw [Int.tmod_eq_emod_of_nonneg h2] at h
  have e : n / 2 ^ (j + 1) = n / 2 ^ j / 2 := by rw [Int.pow_succ, Int.ediv_ediv_of_nonneg (Int.le_of_lt (Int.pow_pos (by decide)))]
  rw [e]
  have := of_decide_eq_true h
  omega
theorem bitI_zero (n : Int) (hn : 0 ≤ n) (k : Nat) (hk : 0 < k) (h : ((n / 2 ^ (k - 1)).tmod 2 == 1) = false) : (n / 2 ^ (k - 1)).toNat = (n / 2 ^ k).toNat + (n / 2 ^ k).toNat := by
  obtain ⟨j, rfl⟩ : ∃ j, k = j + 1 := ⟨k - 1, by omega⟩
  simp only [Nat.add_sub_cancel] at *
  have h2 : (0 : Int) ≤ n / 2 ^ j := Int.ediv_nonneg hn (by exact Int.le_of_lt (Int.pow_pos (by decide)))
  rw [Int.tmod_eq_emod_of_nonneg h2] at h
  have e : n / 2 ^ (j + 1) = n / 2 ^ j / 2 := by rw [Int.pow_succ, Int.ediv_ediv_of_nonneg (Int.le_of_lt (Int.pow_pos (by decide)))]
  rw [e]
  have := beq_eq_false_iff_ne.mp h
  omega
theorem rpow_one (a c : F) (n : Int) (hn : U64 n) (k : Nat) (hk : 0 < k) (h : ((n / 2 ^ (k - 1)).tmod 2 == 1) = true) (H : c = a ^ (n / 2 ^ k).toNat) :
    phi (psi (phi (psi (c * c)) * a)) = a ^ (n / 2 ^ (k - 1)).toNat := by
  rw [phi_psi, phi_psi, bitI_one n hn.1 k hk h, pow_succ', pow_add', ← H]
theorem rpow_zero (a c : F) (n : Int) (hn : U64 n) (k : Nat) (hk : 0 < k) (h : ((n / 2 ^ (k - 1)).tmod 2 == 1) = false) (H : c = a ^ (n / 2 ^ k).toNat) :
    phi (psi (c * c)) = a ^ (n / 2 ^ (k - 1)).toNat := by
  rw [phi_psi, bitI_zero n hn.1 k hk h, pow_add', ← H]
theorem rpow_start (a : F) (n : Int) (hn : U64 n) : phi 1 = a ^ (n / 2 ^ 64).toNat := by
  have h0 := hn.1
  have h1 := hn.2
  have : n / 2 ^ 64 = 0 := Int.ediv_eq_zero_of_lt h0 (by omega)
  rw [this, phi_one]; rfl
theorem rpow_end (a : F) (n c : Int) (hc : U64 c) (hlt : c < P) (H : phi c = a ^ (n / 2 ^ 0).toNat) : c = psi (a ^ n.toNat) := by
  rw [Int.pow_zero, Int.ediv_one] at H
  exact eq_psi H hc.1 hlt
set_option maxHeartbeats 400000 in
theorem ref_Pow (a n : Int) (w : World) (ha : U64 a) (hn : U64 n) :
    Calls Tryz.prog 46 #[.int .u64 a, .int .u64 n] w fun e w' => e = .returned (.int .u64 (psi (phi a ^ n.toNat))) ∧ w = w' := by
  go_enter Tryz.func46, Tryz.ntmps46
  go_wp2
  go_loop [5, 6] (fun o i => ∃ (k : Nat) (c : Int), k ≤ 64 ∧ U64 c ∧ c < P ∧ i = .int .i64 ((k : Int) - 1) ∧ o = .int .u64 c ∧ Hid (phi c = phi a ^ (n / 2 ^ k).toNat)) (fun _ i => (intOf i + 1).toNat)
  case atStart => exact ⟨64, 1, by omega, U64.one, by decide, rfl, rfl, rpow_start _ _ hn⟩
  case round =>
    obtain ⟨k, c, hk, hc, hlt, rfl, rfl, H⟩ := hrel
    by_cases hz : 0 < k
    · go_wp2_with (first | (go_at_call 45; (with_reducible refine (ref_Mul _ _ _ (by first | assumption | exact U64.psi _ | exact U64.zero | exact U64.one | exact U64.mk (by decide) (by decide)) (by first | assumption | exact U64.psi _ | exact U64.zero | exact U64.one | exact U64.mk (by decide) (by decide))).mono ?_); rintro e w' ⟨rfl, rfl⟩))
      all_goals go_round
      case rel => exact ⟨k - 1, _, by omega, U64.psi _, psi_lt _, by congr 1; omega, rfl, rpow_one _ _ n hn k hz ‹_› H.out⟩
      case measure => simp [intOf]; omega
      case rel => exact ⟨k - 1, _, by omega, U64.psi _, psi_lt _, by congr 1; omega, rfl, rpow_zero _ _ n hn k hz ‹_› H.out⟩
      case measure => simp [intOf]; omega
    · obtain rfl : k = 0 := by omega
      go_wp2
      go_ret
      exact ⟨ret_u64 (rpow_end _ n c hc hlt H.out), rfl⟩

end Go.Proofs.YtlfneeobnihocaaGreatDoor
