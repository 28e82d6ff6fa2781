/- The walks of circuit.number and of the reference's small: numerals of one or two digits. -/
import Derived.Test.YtlfneeobnihocaaGreatDoorCutW
namespace Go.Proofs.YtlfneeobnihocaaGreatDoor
set_option maxRecDepth 100000
set_option linter.unusedVariables false
open Go.RowKit Tally
/-- a digit -/
def digB (b : UInt8) : Bool := decide (48 ≤ (b.toNat : Int) ∧ (b.toNat : Int) ≤ 57)
/-- a numeral of one or two digits; -1: none -/
def numP : List UInt8 → Int
  | [a] => if digB a then (a.toNat : Int) - 48 else -1
  | [a, b] => if (a.toNat : Int) = 48 then -1 else if digB a && digB b then 10 * ((a.toNat : Int) - 48) + ((b.toNat : Int) - 48) else -1
  | _ => -1
theorem u8_sub {x : Int} (h1 : 48 ≤ x) (h2 : x ≤ 57) : IntKind.u8.wrap (x - 48) = x - 48 := by rw [IntKind.wrap_u8]; omega
set_option maxRecDepth 100000 in
set_option maxHeartbeats 2000000 in
theorem c_number0 (s : ByteArray) (w : World) (h : s.size < 1 ∨ 2 < s.size) :
    Calls Tryz.prog 132 #[.string s] w fun e w' => e = .returned (.int .i64 (-1)) ∧ w = w' := by
  rcases h with h | h
  · have h1 : decide ((s.size : Int) < 1) = true := decide_eq_true (by omega)
    go_enter Tryz.func132, Tryz.ntmps132
    go_wp2
    go_ret
    exact ⟨rfl, rfl⟩
  · have h1 : decide ((s.size : Int) < 1) = false := decide_eq_false (by omega)
    have h2 : decide (2 < (s.size : Int)) = true := decide_eq_true (by omega)
    go_enter Tryz.func132, Tryz.ntmps132
    go_wp2
    go_ret
    exact ⟨rfl, rfl⟩
set_option maxRecDepth 100000 in
set_option maxHeartbeats 2000000 in
theorem c_num1_d0 (a : UInt8) (w : World) (ha48 : (a.toNat : Int) = 48) (ha1 : 48 ≤ (a.toNat : Int)) (ha2 : (a.toNat : Int) ≤ 57) :
    Calls Tryz.prog 132 #[.string ⟨#[a]⟩] w fun e w' => e = .returned (.int .i64 ((a.toNat : Int) - 48)) ∧ w = w' := by
  have wa := u8_sub ha1 ha2
  have hv := IntWalk.i64_in ((a.toNat : Int) - 48) (by omega)
  have e0 : ((⟨#[a]⟩ : ByteArray)[0]'(Nat.zero_lt_succ 0)) = a := rfl
  go_enter Tryz.func132, Tryz.ntmps132
  go_wp2_with (fail)
  refine wp_loop_rounds 2 ?_
  rw [rounds_succ]
  go_wp2
  rw [rounds_succ]
  go_wp2
  go_ret
  exact ⟨by rw [show (a.toNat : Int) - 48 = 0 by omega]; rfl, rfl⟩
set_option maxRecDepth 100000 in
set_option maxHeartbeats 2000000 in
theorem c_num1_d (a : UInt8) (w : World) (ha48 : ¬ (a.toNat : Int) = 48) (ha1 : 48 ≤ (a.toNat : Int)) (ha2 : (a.toNat : Int) ≤ 57) :
    Calls Tryz.prog 132 #[.string ⟨#[a]⟩] w fun e w' => e = .returned (.int .i64 ((a.toNat : Int) - 48)) ∧ w = w' := by
  have wa := u8_sub ha1 ha2
  have hv := IntWalk.i64_in ((a.toNat : Int) - 48) (by omega)
  have e0 : ((⟨#[a]⟩ : ByteArray)[0]'(Nat.zero_lt_succ 0)) = a := rfl
  go_enter Tryz.func132, Tryz.ntmps132
  go_wp2_with (fail)
  refine wp_loop_rounds 2 ?_
  rw [rounds_succ]
  go_wp2
  rw [rounds_succ]
  go_wp2
  go_ret
  exact ⟨rfl, rfl⟩
set_option maxRecDepth 100000 in
set_option maxHeartbeats 2000000 in
theorem c_num1_lo (a : UInt8) (w : World) (ha48 : ¬ (a.toNat : Int) = 48) (ha : (a.toNat : Int) < 48) :
    Calls Tryz.prog 132 #[.string ⟨#[a]⟩] w fun e w' => e = .returned (.int .i64 (-1)) ∧ w = w' := by
  have e0 : ((⟨#[a]⟩ : ByteArray)[0]'(Nat.zero_lt_succ 0)) = a := rfl
  go_enter Tryz.func132, Tryz.ntmps132
  go_wp2_with (fail)
  refine wp_loop_rounds 2 ?_
  rw [rounds_succ]
  go_wp2
  go_ret
  exact ⟨rfl, rfl⟩
set_option maxRecDepth 100000 in
set_option maxHeartbeats 2000000 in
theorem c_num1_hi (a : UInt8) (w : World) (ha48 : ¬ (a.toNat : Int) = 48) (ha : 57 < (a.toNat : Int)) :
    Calls Tryz.prog 132 #[.string ⟨#[a]⟩] w fun e w' => e = .returned (.int .i64 (-1)) ∧ w = w' := by
  have e0 : ((⟨#[a]⟩ : ByteArray)[0]'(Nat.zero_lt_succ 0)) = a := rfl
  go_enter Tryz.func132, Tryz.ntmps132
  go_wp2_with (fail)
  refine wp_loop_rounds 2 ?_
  rw [rounds_succ]
  go_wp2
  go_ret
  exact ⟨rfl, rfl⟩
set_option maxRecDepth 100000 in
set_option maxHeartbeats 2000000 in
theorem c_num2_z (a b : UInt8) (w : World) (ha48 : (a.toNat : Int) = 48) :
    Calls Tryz.prog 132 #[.string ⟨#[a, b]⟩] w fun e w' => e = .returned (.int .i64 (-1)) ∧ w = w' := by
  have e0 : ((⟨#[a, b]⟩ : ByteArray)[0]'(by show 0 < 2; omega)) = a := rfl
  have e1 : ((⟨#[a, b]⟩ : ByteArray)[1]'(by show 1 < 2; omega)) = b := rfl
  go_enter Tryz.func132, Tryz.ntmps132
  go_wp2_with (fail)
  go_ret
  exact ⟨rfl, rfl⟩
set_option maxRecDepth 100000 in
set_option maxHeartbeats 2000000 in
theorem c_num2_lo (a b : UInt8) (w : World) (ha48 : ¬ (a.toNat : Int) = 48) (ha : (a.toNat : Int) < 48) :
    Calls Tryz.prog 132 #[.string ⟨#[a, b]⟩] w fun e w' => e = .returned (.int .i64 (-1)) ∧ w = w' := by
  have e0 : ((⟨#[a, b]⟩ : ByteArray)[0]'(by show 0 < 2; omega)) = a := rfl
  have e1 : ((⟨#[a, b]⟩ : ByteArray)[1]'(by show 1 < 2; omega)) = b := rfl
  go_enter Tryz.func132, Tryz.ntmps132
  go_wp2_with (fail)
  refine wp_loop_rounds 4 ?_
  rw [rounds_succ]
  go_wp2
  go_ret
  exact ⟨rfl, rfl⟩
set_option maxRecDepth 100000 in
set_option maxHeartbeats 2000000 in
theorem c_num2_hi (a b : UInt8) (w : World) (ha48 : ¬ (a.toNat : Int) = 48) (ha : 57 < (a.toNat : Int)) :
    Calls Tryz.prog 132 #[.string ⟨#[a, b]⟩] w fun e w' => e = .returned (.int .i64 (-1)) ∧ w = w' := by
  have e0 : ((⟨#[a, b]⟩ : ByteArray)[0]'(by show 0 < 2; omega)) = a := rfl
  have e1 : ((⟨#[a, b]⟩ : ByteArray)[1]'(by show 1 < 2; omega)) = b := rfl
  go_enter Tryz.func132, Tryz.ntmps132
  go_wp2_with (fail)
  refine wp_loop_rounds 4 ?_
  rw [rounds_succ]
  go_wp2
  go_ret
  exact ⟨rfl, rfl⟩
set_option maxRecDepth 100000 in
set_option maxHeartbeats 2000000 in
theorem c_num2_d_lo (a b : UInt8) (w : World) (ha48 : ¬ (a.toNat : Int) = 48) (ha1 : 48 ≤ (a.toNat : Int)) (ha2 : (a.toNat : Int) ≤ 57) (hb : (b.toNat : Int) < 48) :
    Calls Tryz.prog 132 #[.string ⟨#[a, b]⟩] w fun e w' => e = .returned (.int .i64 (-1)) ∧ w = w' := by
  have wa := u8_sub ha1 ha2
  have hv := IntWalk.i64_in ((a.toNat : Int) - 48) (by omega)
  have e0 : ((⟨#[a, b]⟩ : ByteArray)[0]'(by show 0 < 2; omega)) = a := rfl
  have e1 : ((⟨#[a, b]⟩ : ByteArray)[1]'(by show 1 < 2; omega)) = b := rfl
  go_enter Tryz.func132, Tryz.ntmps132
  go_wp2_with (fail)
  refine wp_loop_rounds 4 ?_
  rw [rounds_succ]
  go_wp2
  rw [rounds_succ]
  go_wp2
  go_ret
  exact ⟨rfl, rfl⟩
set_option maxRecDepth 100000 in
set_option maxHeartbeats 2000000 in
theorem c_num2_d_hi (a b : UInt8) (w : World) (ha48 : ¬ (a.toNat : Int) = 48) (ha1 : 48 ≤ (a.toNat : Int)) (ha2 : (a.toNat : Int) ≤ 57) (hb : 57 < (b.toNat : Int)) :
    Calls Tryz.prog 132 #[.string ⟨#[a, b]⟩] w fun e w' => e = .returned (.int .i64 (-1)) ∧ w = w' := by
  have wa := u8_sub ha1 ha2
  have hv := IntWalk.i64_in ((a.toNat : Int) - 48) (by omega)
  have e0 : ((⟨#[a, b]⟩ : ByteArray)[0]'(by show 0 < 2; omega)) = a := rfl
  have e1 : ((⟨#[a, b]⟩ : ByteArray)[1]'(by show 1 < 2; omega)) = b := rfl
  go_enter Tryz.func132, Tryz.ntmps132
  go_wp2_with (fail)
  refine wp_loop_rounds 4 ?_
  rw [rounds_succ]
  go_wp2
  rw [rounds_succ]
  go_wp2
  go_ret
  exact ⟨rfl, rfl⟩
set_option maxRecDepth 100000 in
set_option maxHeartbeats 2000000 in
theorem c_num2_d (a b : UInt8) (w : World) (ha48 : ¬ (a.toNat : Int) = 48) (ha1 : 48 ≤ (a.toNat : Int)) (ha2 : (a.toNat : Int) ≤ 57) (hb1 : 48 ≤ (b.toNat : Int)) (hb2 : (b.toNat : Int) ≤ 57) :
    Calls Tryz.prog 132 #[.string ⟨#[a, b]⟩] w fun e w' => e = .returned (.int .i64 (10 * ((a.toNat : Int) - 48) + ((b.toNat : Int) - 48))) ∧ w = w' := by
  have wa := u8_sub ha1 ha2
  have wb := u8_sub hb1 hb2
  have hv := IntWalk.i64_in ((a.toNat : Int) - 48) (by omega)
  have hv2 := IntWalk.i64_in ((b.toNat : Int) - 48) (by omega)
  have hv3 := IntWalk.i64_in (10 * ((a.toNat : Int) - 48)) (by omega)
  have hv4 := IntWalk.i64_in (10 * ((a.toNat : Int) - 48) + ((b.toNat : Int) - 48)) (by omega)
  have e0 : ((⟨#[a, b]⟩ : ByteArray)[0]'(by show 0 < 2; omega)) = a := rfl
  have e1 : ((⟨#[a, b]⟩ : ByteArray)[1]'(by show 1 < 2; omega)) = b := rfl
  go_enter Tryz.func132, Tryz.ntmps132
  go_wp2_with (fail)
  refine wp_loop_rounds 4 ?_
  rw [rounds_succ]
  go_wp2
  rw [rounds_succ]
  go_wp2
  rw [rounds_succ]
  go_wp2
  go_ret
  exact ⟨rfl, rfl⟩
set_option maxRecDepth 100000 in
set_option maxHeartbeats 2000000 in
theorem r_small0 (w : World) :
    Calls Tryz.prog 117 #[.string ⟨#[]⟩] w fun e w' => e = .returned (.int .i64 (-1)) ∧ w = w' := by
  go_enter Tryz.func117, Tryz.ntmps117
  go_wp2_with (fail)
  refine wp_loop_rounds 1 ?_
  rw [rounds_succ]
  go_wp2_with ((go_at_call 153; (with_reducible refine (rc_In_n _ _ _ _ (by omega)).mono ?_); rintro e w' ⟨rfl, rfl⟩))
  go_ret
  exact ⟨rfl, rfl⟩
set_option maxRecDepth 100000 in
set_option maxHeartbeats 2000000 in
theorem r_small1_lo (a : UInt8) (w : World) (ha : (a.toNat : Int) < 48) :
    Calls Tryz.prog 117 #[.string ⟨#[a]⟩] w fun e w' => e = .returned (.int .i64 (-1)) ∧ w = w' := by
  have e0 : ((⟨#[a]⟩ : ByteArray)[0]'(by show 0 < 1; omega)) = a := rfl
  go_enter Tryz.func117, Tryz.ntmps117
  go_wp2_with ((go_at_call 153; (with_reducible refine (rc_In_y _ _ _ _ (by omega) (by omega)).mono ?_); rintro e w' ⟨rfl, rfl⟩))
  refine wp_loop_rounds 4 ?_
  rw [rounds_succ]
  go_wp2_with ((go_at_call 153; (with_reducible refine (rc_In_y _ _ _ _ (by omega) (by omega)).mono ?_); rintro e w' ⟨rfl, rfl⟩))
  go_ret
  exact ⟨rfl, rfl⟩
set_option maxRecDepth 100000 in
set_option maxHeartbeats 2000000 in
theorem r_small1_hi (a : UInt8) (w : World) (ha : 57 < (a.toNat : Int)) :
    Calls Tryz.prog 117 #[.string ⟨#[a]⟩] w fun e w' => e = .returned (.int .i64 (-1)) ∧ w = w' := by
  have e0 : ((⟨#[a]⟩ : ByteArray)[0]'(by show 0 < 1; omega)) = a := rfl
  go_enter Tryz.func117, Tryz.ntmps117
  go_wp2_with ((go_at_call 153; (with_reducible refine (rc_In_y _ _ _ _ (by omega) (by omega)).mono ?_); rintro e w' ⟨rfl, rfl⟩))
  refine wp_loop_rounds 4 ?_
  rw [rounds_succ]
  go_wp2_with ((go_at_call 153; (with_reducible refine (rc_In_y _ _ _ _ (by omega) (by omega)).mono ?_); rintro e w' ⟨rfl, rfl⟩))
  go_ret
  exact ⟨rfl, rfl⟩
set_option maxRecDepth 100000 in
set_option maxHeartbeats 2000000 in
theorem r_small1_d0 (a : UInt8) (w : World) (ha48 : (a.toNat : Int) = 48) (ha1 : 48 ≤ (a.toNat : Int)) (ha2 : (a.toNat : Int) ≤ 57) :
    Calls Tryz.prog 117 #[.string ⟨#[a]⟩] w fun e w' => e = .returned (.int .i64 ((a.toNat : Int) - 48)) ∧ w = w' := by
  have hva := IntWalk.i64_in ((a.toNat : Int) - 48) (by omega)
  have hna := IntWalk.i64_in ((a.toNat : Int)) (by omega)
  have e0 : ((⟨#[a]⟩ : ByteArray)[0]'(by show 0 < 1; omega)) = a := rfl
  go_enter Tryz.func117, Tryz.ntmps117
  go_wp2_with ((go_at_call 153; (with_reducible refine (rc_In_y _ _ _ _ (by omega) (by omega)).mono ?_); rintro e w' ⟨rfl, rfl⟩))
  refine wp_loop_rounds 4 ?_
  rw [rounds_succ]
  go_wp2_with ((go_at_call 153; (with_reducible refine (rc_In_y _ _ _ _ (by omega) (by omega)).mono ?_); rintro e w' ⟨rfl, rfl⟩))
  rw [rounds_succ]
  go_wp2_with ((go_at_call 153; (with_reducible refine (rc_In_y _ _ _ _ (by omega) (by omega)).mono ?_); rintro e w' ⟨rfl, rfl⟩))
  go_ret
  exact ⟨by rw [show (a.toNat : Int) - 48 = 0 by omega]; rfl, rfl⟩
set_option maxRecDepth 100000 in
set_option maxHeartbeats 2000000 in
theorem r_small1_d (a : UInt8) (w : World) (ha48 : ¬ (a.toNat : Int) = 48) (ha1 : 48 ≤ (a.toNat : Int)) (ha2 : (a.toNat : Int) ≤ 57) :
    Calls Tryz.prog 117 #[.string ⟨#[a]⟩] w fun e w' => e = .returned (.int .i64 ((a.toNat : Int) - 48)) ∧ w = w' := by
  have hva := IntWalk.i64_in ((a.toNat : Int) - 48) (by omega)
  have hna := IntWalk.i64_in ((a.toNat : Int)) (by omega)
  have e0 : ((⟨#[a]⟩ : ByteArray)[0]'(by show 0 < 1; omega)) = a := rfl
  go_enter Tryz.func117, Tryz.ntmps117
  go_wp2_with ((go_at_call 153; (with_reducible refine (rc_In_y _ _ _ _ (by omega) (by omega)).mono ?_); rintro e w' ⟨rfl, rfl⟩))
  refine wp_loop_rounds 4 ?_
  rw [rounds_succ]
  go_wp2_with ((go_at_call 153; (with_reducible refine (rc_In_y _ _ _ _ (by omega) (by omega)).mono ?_); rintro e w' ⟨rfl, rfl⟩))
  rw [rounds_succ]
  go_wp2_with ((go_at_call 153; (with_reducible refine (rc_In_y _ _ _ _ (by omega) (by omega)).mono ?_); rintro e w' ⟨rfl, rfl⟩))
  go_ret
  exact ⟨rfl, rfl⟩
set_option maxRecDepth 100000 in
set_option maxHeartbeats 2000000 in
theorem r_small2_lo (a b : UInt8) (w : World) (ha : (a.toNat : Int) < 48) :
    Calls Tryz.prog 117 #[.string ⟨#[a, b]⟩] w fun e w' => e = .returned (.int .i64 (-1)) ∧ w = w' := by
  have e0 : ((⟨#[a, b]⟩ : ByteArray)[0]'(by show 0 < 2; omega)) = a := rfl
  have e1 : ((⟨#[a, b]⟩ : ByteArray)[1]'(by show 1 < 2; omega)) = b := rfl
  go_enter Tryz.func117, Tryz.ntmps117
  go_wp2_with ((go_at_call 153; (with_reducible refine (rc_In_y _ _ _ _ (by omega) (by omega)).mono ?_); rintro e w' ⟨rfl, rfl⟩))
  refine wp_loop_rounds 4 ?_
  rw [rounds_succ]
  go_wp2_with ((go_at_call 153; (with_reducible refine (rc_In_y _ _ _ _ (by omega) (by omega)).mono ?_); rintro e w' ⟨rfl, rfl⟩))
  go_ret
  exact ⟨rfl, rfl⟩
set_option maxRecDepth 100000 in
set_option maxHeartbeats 2000000 in
theorem r_small2_hi (a b : UInt8) (w : World) (ha : 57 < (a.toNat : Int)) :
    Calls Tryz.prog 117 #[.string ⟨#[a, b]⟩] w fun e w' => e = .returned (.int .i64 (-1)) ∧ w = w' := by
  have e0 : ((⟨#[a, b]⟩ : ByteArray)[0]'(by show 0 < 2; omega)) = a := rfl
  have e1 : ((⟨#[a, b]⟩ : ByteArray)[1]'(by show 1 < 2; omega)) = b := rfl
  go_enter Tryz.func117, Tryz.ntmps117
  go_wp2_with ((go_at_call 153; (with_reducible refine (rc_In_y _ _ _ _ (by omega) (by omega)).mono ?_); rintro e w' ⟨rfl, rfl⟩))
  refine wp_loop_rounds 4 ?_
  rw [rounds_succ]
  go_wp2_with ((go_at_call 153; (with_reducible refine (rc_In_y _ _ _ _ (by omega) (by omega)).mono ?_); rintro e w' ⟨rfl, rfl⟩))
  go_ret
  exact ⟨rfl, rfl⟩
set_option maxRecDepth 100000 in
set_option maxHeartbeats 2000000 in
theorem r_small2_d_lo (a b : UInt8) (w : World) (ha1 : 48 ≤ (a.toNat : Int)) (ha2 : (a.toNat : Int) ≤ 57) (hb : (b.toNat : Int) < 48) :
    Calls Tryz.prog 117 #[.string ⟨#[a, b]⟩] w fun e w' => e = .returned (.int .i64 (-1)) ∧ w = w' := by
  have hva := IntWalk.i64_in ((a.toNat : Int) - 48) (by omega)
  have hna := IntWalk.i64_in ((a.toNat : Int)) (by omega)
  have e0 : ((⟨#[a, b]⟩ : ByteArray)[0]'(by show 0 < 2; omega)) = a := rfl
  have e1 : ((⟨#[a, b]⟩ : ByteArray)[1]'(by show 1 < 2; omega)) = b := rfl
  go_enter Tryz.func117, Tryz.ntmps117
  go_wp2_with ((go_at_call 153; (with_reducible refine (rc_In_y _ _ _ _ (by omega) (by omega)).mono ?_); rintro e w' ⟨rfl, rfl⟩))
  refine wp_loop_rounds 4 ?_
  rw [rounds_succ]
  go_wp2_with ((go_at_call 153; (with_reducible refine (rc_In_y _ _ _ _ (by omega) (by omega)).mono ?_); rintro e w' ⟨rfl, rfl⟩))
  rw [rounds_succ]
  go_wp2_with ((go_at_call 153; (with_reducible refine (rc_In_y _ _ _ _ (by omega) (by omega)).mono ?_); rintro e w' ⟨rfl, rfl⟩))
  go_ret
  exact ⟨rfl, rfl⟩
set_option maxRecDepth 100000 in
set_option maxHeartbeats 2000000 in
theorem r_small2_d_hi (a b : UInt8) (w : World) (ha1 : 48 ≤ (a.toNat : Int)) (ha2 : (a.toNat : Int) ≤ 57) (hb : 57 < (b.toNat : Int)) :
    Calls Tryz.prog 117 #[.string ⟨#[a, b]⟩] w fun e w' => e = .returned (.int .i64 (-1)) ∧ w = w' := by
  have hva := IntWalk.i64_in ((a.toNat : Int) - 48) (by omega)
  have hna := IntWalk.i64_in ((a.toNat : Int)) (by omega)
  have e0 : ((⟨#[a, b]⟩ : ByteArray)[0]'(by show 0 < 2; omega)) = a := rfl
  have e1 : ((⟨#[a, b]⟩ : ByteArray)[1]'(by show 1 < 2; omega)) = b := rfl
  go_enter Tryz.func117, Tryz.ntmps117
  go_wp2_with ((go_at_call 153; (with_reducible refine (rc_In_y _ _ _ _ (by omega) (by omega)).mono ?_); rintro e w' ⟨rfl, rfl⟩))
  refine wp_loop_rounds 4 ?_
  rw [rounds_succ]
  go_wp2_with ((go_at_call 153; (with_reducible refine (rc_In_y _ _ _ _ (by omega) (by omega)).mono ?_); rintro e w' ⟨rfl, rfl⟩))
  rw [rounds_succ]
  go_wp2_with ((go_at_call 153; (with_reducible refine (rc_In_y _ _ _ _ (by omega) (by omega)).mono ?_); rintro e w' ⟨rfl, rfl⟩))
  go_ret
  exact ⟨rfl, rfl⟩
set_option maxRecDepth 100000 in
set_option maxHeartbeats 2000000 in
theorem r_small2_z (a b : UInt8) (w : World) (ha48 : (a.toNat : Int) = 48) (ha1 : 48 ≤ (a.toNat : Int)) (ha2 : (a.toNat : Int) ≤ 57) (hb1 : 48 ≤ (b.toNat : Int)) (hb2 : (b.toNat : Int) ≤ 57) :
    Calls Tryz.prog 117 #[.string ⟨#[a, b]⟩] w fun e w' => e = .returned (.int .i64 (-1)) ∧ w = w' := by
  have hva := IntWalk.i64_in ((a.toNat : Int) - 48) (by omega)
  have hna := IntWalk.i64_in ((a.toNat : Int)) (by omega)
  have hvb := IntWalk.i64_in ((b.toNat : Int) - 48) (by omega)
  have hnb := IntWalk.i64_in ((b.toNat : Int)) (by omega)
  have e0 : ((⟨#[a, b]⟩ : ByteArray)[0]'(by show 0 < 2; omega)) = a := rfl
  have e1 : ((⟨#[a, b]⟩ : ByteArray)[1]'(by show 1 < 2; omega)) = b := rfl
  go_enter Tryz.func117, Tryz.ntmps117
  go_wp2_with ((go_at_call 153; (with_reducible refine (rc_In_y _ _ _ _ (by omega) (by omega)).mono ?_); rintro e w' ⟨rfl, rfl⟩))
  refine wp_loop_rounds 4 ?_
  rw [rounds_succ]
  go_wp2_with ((go_at_call 153; (with_reducible refine (rc_In_y _ _ _ _ (by omega) (by omega)).mono ?_); rintro e w' ⟨rfl, rfl⟩))
  rw [rounds_succ]
  go_wp2_with ((go_at_call 153; (with_reducible refine (rc_In_y _ _ _ _ (by omega) (by omega)).mono ?_); rintro e w' ⟨rfl, rfl⟩))
  rw [rounds_succ]
  go_wp2_with ((go_at_call 153; (with_reducible refine (rc_In_y _ _ _ _ (by omega) (by omega)).mono ?_); rintro e w' ⟨rfl, rfl⟩))
  go_ret
  exact ⟨rfl, rfl⟩
set_option maxRecDepth 100000 in
set_option maxHeartbeats 2000000 in
theorem r_small2_d (a b : UInt8) (w : World) (ha48 : ¬ (a.toNat : Int) = 48) (ha1 : 48 ≤ (a.toNat : Int)) (ha2 : (a.toNat : Int) ≤ 57) (hb1 : 48 ≤ (b.toNat : Int)) (hb2 : (b.toNat : Int) ≤ 57) :
    Calls Tryz.prog 117 #[.string ⟨#[a, b]⟩] w fun e w' => e = .returned (.int .i64 (((a.toNat : Int) - 48) * 10 + (b.toNat : Int) - 48)) ∧ w = w' := by
  have hva := IntWalk.i64_in ((a.toNat : Int) - 48) (by omega)
  have hna := IntWalk.i64_in ((a.toNat : Int)) (by omega)
  have hvb := IntWalk.i64_in ((b.toNat : Int) - 48) (by omega)
  have hnb := IntWalk.i64_in ((b.toNat : Int)) (by omega)
  have hm := IntWalk.i64_in (((a.toNat : Int) - 48) * 10) (by omega)
  have hs := IntWalk.i64_in (((a.toNat : Int) - 48) * 10 + (b.toNat : Int)) (by omega)
  have ht := IntWalk.i64_in (((a.toNat : Int) - 48) * 10 + (b.toNat : Int) - 48) (by omega)
  have e0 : ((⟨#[a, b]⟩ : ByteArray)[0]'(by show 0 < 2; omega)) = a := rfl
  have e1 : ((⟨#[a, b]⟩ : ByteArray)[1]'(by show 1 < 2; omega)) = b := rfl
  go_enter Tryz.func117, Tryz.ntmps117
  go_wp2_with ((go_at_call 153; (with_reducible refine (rc_In_y _ _ _ _ (by omega) (by omega)).mono ?_); rintro e w' ⟨rfl, rfl⟩))
  refine wp_loop_rounds 4 ?_
  rw [rounds_succ]
  go_wp2_with ((go_at_call 153; (with_reducible refine (rc_In_y _ _ _ _ (by omega) (by omega)).mono ?_); rintro e w' ⟨rfl, rfl⟩))
  rw [rounds_succ]
  go_wp2_with ((go_at_call 153; (with_reducible refine (rc_In_y _ _ _ _ (by omega) (by omega)).mono ?_); rintro e w' ⟨rfl, rfl⟩))
  rw [rounds_succ]
  go_wp2_with ((go_at_call 153; (with_reducible refine (rc_In_y _ _ _ _ (by omega) (by omega)).mono ?_); rintro e w' ⟨rfl, rfl⟩))
  go_ret
  exact ⟨rfl, rfl⟩
set_option maxRecDepth 100000 in
set_option maxHeartbeats 2000000 in
theorem r_small3_lo (s : ByteArray) (a b c : UInt8) (w : World) (h3 : 3 ≤ s.size) (e0 : s[0]'(by omega) = a) (e1 : s[1]'(by omega) = b) (e2 : s[2]'(by omega) = c) (ha : (a.toNat : Int) < 48) :
    Calls Tryz.prog 117 #[.string s] w fun e w' => e = .returned (.int .i64 (-1)) ∧ w = w' := by
  have l0 : (0 : Int) < (s.size : Int) := by omega
  have l1 : (1 : Int) < (s.size : Int) := by omega
  have l2 : (2 : Int) < (s.size : Int) := by omega
  go_enter Tryz.func117, Tryz.ntmps117
  go_wp2_with (fail)
  refine wp_loop_rounds 4 ?_
  rw [rounds_succ]
  go_wp2_with ((go_at_call 153; (with_reducible refine (rc_In_n _ _ _ _ (by omega)).mono ?_); rintro e w' ⟨rfl, rfl⟩))
  all_goals (go_ret; exact ⟨rfl, rfl⟩)
set_option maxRecDepth 100000 in
set_option maxHeartbeats 2000000 in
theorem r_small3_hi (s : ByteArray) (a b c : UInt8) (w : World) (h3 : 3 ≤ s.size) (e0 : s[0]'(by omega) = a) (e1 : s[1]'(by omega) = b) (e2 : s[2]'(by omega) = c) (ha : 57 < (a.toNat : Int)) :
    Calls Tryz.prog 117 #[.string s] w fun e w' => e = .returned (.int .i64 (-1)) ∧ w = w' := by
  have l0 : (0 : Int) < (s.size : Int) := by omega
  have l1 : (1 : Int) < (s.size : Int) := by omega
  have l2 : (2 : Int) < (s.size : Int) := by omega
  go_enter Tryz.func117, Tryz.ntmps117
  go_wp2_with (fail)
  refine wp_loop_rounds 4 ?_
  rw [rounds_succ]
  go_wp2_with ((go_at_call 153; (with_reducible refine (rc_In_n _ _ _ _ (by omega)).mono ?_); rintro e w' ⟨rfl, rfl⟩))
  all_goals (go_ret; exact ⟨rfl, rfl⟩)
set_option maxRecDepth 100000 in
set_option maxHeartbeats 2000000 in
theorem r_small3_d_lo (s : ByteArray) (a b c : UInt8) (w : World) (h3 : 3 ≤ s.size) (e0 : s[0]'(by omega) = a) (e1 : s[1]'(by omega) = b) (e2 : s[2]'(by omega) = c) (ha1 : 48 ≤ (a.toNat : Int)) (ha2 : (a.toNat : Int) ≤ 57) (hb : (b.toNat : Int) < 48) :
    Calls Tryz.prog 117 #[.string s] w fun e w' => e = .returned (.int .i64 (-1)) ∧ w = w' := by
  have hva := IntWalk.i64_in ((a.toNat : Int) - 48) (by omega)
  have hna := IntWalk.i64_in ((a.toNat : Int)) (by omega)
  have l0 : (0 : Int) < (s.size : Int) := by omega
  have l1 : (1 : Int) < (s.size : Int) := by omega
  have l2 : (2 : Int) < (s.size : Int) := by omega
  go_enter Tryz.func117, Tryz.ntmps117
  go_wp2_with (fail)
  refine wp_loop_rounds 4 ?_
  rw [rounds_succ]
  go_wp2_with ((go_at_call 153; (with_reducible refine (rc_In_n _ _ _ _ (by omega)).mono ?_); rintro e w' ⟨rfl, rfl⟩))
  rw [rounds_succ]
  go_wp2_with ((go_at_call 153; (with_reducible refine (rc_In_n _ _ _ _ (by omega)).mono ?_); rintro e w' ⟨rfl, rfl⟩))
  all_goals (go_ret; exact ⟨rfl, rfl⟩)
set_option maxRecDepth 100000 in
set_option maxHeartbeats 2000000 in
theorem r_small3_d_hi (s : ByteArray) (a b c : UInt8) (w : World) (h3 : 3 ≤ s.size) (e0 : s[0]'(by omega) = a) (e1 : s[1]'(by omega) = b) (e2 : s[2]'(by omega) = c) (ha1 : 48 ≤ (a.toNat : Int)) (ha2 : (a.toNat : Int) ≤ 57) (hb : 57 < (b.toNat : Int)) :
    Calls Tryz.prog 117 #[.string s] w fun e w' => e = .returned (.int .i64 (-1)) ∧ w = w' := by
  have hva := IntWalk.i64_in ((a.toNat : Int) - 48) (by omega)
  have hna := IntWalk.i64_in ((a.toNat : Int)) (by omega)
  have l0 : (0 : Int) < (s.size : Int) := by omega
  have l1 : (1 : Int) < (s.size : Int) := by omega
  have l2 : (2 : Int) < (s.size : Int) := by omega
  go_enter Tryz.func117, Tryz.ntmps117
  go_wp2_with (fail)
  refine wp_loop_rounds 4 ?_
  rw [rounds_succ]
  go_wp2_with ((go_at_call 153; (with_reducible refine (rc_In_n _ _ _ _ (by omega)).mono ?_); rintro e w' ⟨rfl, rfl⟩))
  rw [rounds_succ]
  go_wp2_with ((go_at_call 153; (with_reducible refine (rc_In_n _ _ _ _ (by omega)).mono ?_); rintro e w' ⟨rfl, rfl⟩))
  all_goals (go_ret; exact ⟨rfl, rfl⟩)
set_option maxRecDepth 100000 in
set_option maxHeartbeats 2000000 in
theorem r_small3_dd_lo (s : ByteArray) (a b c : UInt8) (w : World) (h3 : 3 ≤ s.size) (e0 : s[0]'(by omega) = a) (e1 : s[1]'(by omega) = b) (e2 : s[2]'(by omega) = c) (ha1 : 48 ≤ (a.toNat : Int)) (ha2 : (a.toNat : Int) ≤ 57) (hb1 : 48 ≤ (b.toNat : Int)) (hb2 : (b.toNat : Int) ≤ 57) (hc : (c.toNat : Int) < 48) :
    Calls Tryz.prog 117 #[.string s] w fun e w' => e = .returned (.int .i64 (-1)) ∧ w = w' := by
  have hva := IntWalk.i64_in ((a.toNat : Int) - 48) (by omega)
  have hna := IntWalk.i64_in ((a.toNat : Int)) (by omega)
  have hvb := IntWalk.i64_in ((b.toNat : Int) - 48) (by omega)
  have hnb := IntWalk.i64_in ((b.toNat : Int)) (by omega)
  have hm := IntWalk.i64_in (((a.toNat : Int) - 48) * 10) (by omega)
  have hs := IntWalk.i64_in (((a.toNat : Int) - 48) * 10 + (b.toNat : Int)) (by omega)
  have ht := IntWalk.i64_in (((a.toNat : Int) - 48) * 10 + (b.toNat : Int) - 48) (by omega)
  have l0 : (0 : Int) < (s.size : Int) := by omega
  have l1 : (1 : Int) < (s.size : Int) := by omega
  have l2 : (2 : Int) < (s.size : Int) := by omega
  go_enter Tryz.func117, Tryz.ntmps117
  go_wp2_with (fail)
  refine wp_loop_rounds 4 ?_
  rw [rounds_succ]
  go_wp2_with ((go_at_call 153; (with_reducible refine (rc_In_n _ _ _ _ (by omega)).mono ?_); rintro e w' ⟨rfl, rfl⟩))
  rw [rounds_succ]
  go_wp2_with ((go_at_call 153; (with_reducible refine (rc_In_n _ _ _ _ (by omega)).mono ?_); rintro e w' ⟨rfl, rfl⟩))
  rw [rounds_succ]
  go_wp2_with ((go_at_call 153; (with_reducible refine (rc_In_n _ _ _ _ (by omega)).mono ?_); rintro e w' ⟨rfl, rfl⟩))
  all_goals (go_ret; exact ⟨rfl, rfl⟩)
set_option maxRecDepth 100000 in
set_option maxHeartbeats 2000000 in
theorem r_small3_dd_hi (s : ByteArray) (a b c : UInt8) (w : World) (h3 : 3 ≤ s.size) (e0 : s[0]'(by omega) = a) (e1 : s[1]'(by omega) = b) (e2 : s[2]'(by omega) = c) (ha1 : 48 ≤ (a.toNat : Int)) (ha2 : (a.toNat : Int) ≤ 57) (hb1 : 48 ≤ (b.toNat : Int)) (hb2 : (b.toNat : Int) ≤ 57) (hc : 57 < (c.toNat : Int)) :
    Calls Tryz.prog 117 #[.string s] w fun e w' => e = .returned (.int .i64 (-1)) ∧ w = w' := by
  have hva := IntWalk.i64_in ((a.toNat : Int) - 48) (by omega)
  have hna := IntWalk.i64_in ((a.toNat : Int)) (by omega)
  have hvb := IntWalk.i64_in ((b.toNat : Int) - 48) (by omega)
  have hnb := IntWalk.i64_in ((b.toNat : Int)) (by omega)
  have hm := IntWalk.i64_in (((a.toNat : Int) - 48) * 10) (by omega)
  have hs := IntWalk.i64_in (((a.toNat : Int) - 48) * 10 + (b.toNat : Int)) (by omega)
  have ht := IntWalk.i64_in (((a.toNat : Int) - 48) * 10 + (b.toNat : Int) - 48) (by omega)
  have l0 : (0 : Int) < (s.size : Int) := by omega
  have l1 : (1 : Int) < (s.size : Int) := by omega
  have l2 : (2 : Int) < (s.size : Int) := by omega
  go_enter Tryz.func117, Tryz.ntmps117
  go_wp2_with (fail)
  refine wp_loop_rounds 4 ?_
  rw [rounds_succ]
  go_wp2_with ((go_at_call 153; (with_reducible refine (rc_In_n _ _ _ _ (by omega)).mono ?_); rintro e w' ⟨rfl, rfl⟩))
  rw [rounds_succ]
  go_wp2_with ((go_at_call 153; (with_reducible refine (rc_In_n _ _ _ _ (by omega)).mono ?_); rintro e w' ⟨rfl, rfl⟩))
  rw [rounds_succ]
  go_wp2_with ((go_at_call 153; (with_reducible refine (rc_In_n _ _ _ _ (by omega)).mono ?_); rintro e w' ⟨rfl, rfl⟩))
  all_goals (go_ret; exact ⟨rfl, rfl⟩)
set_option maxRecDepth 100000 in
set_option maxHeartbeats 2000000 in
theorem r_small3_d (s : ByteArray) (a b c : UInt8) (w : World) (h3 : 3 ≤ s.size) (e0 : s[0]'(by omega) = a) (e1 : s[1]'(by omega) = b) (e2 : s[2]'(by omega) = c) (ha1 : 48 ≤ (a.toNat : Int)) (ha2 : (a.toNat : Int) ≤ 57) (hb1 : 48 ≤ (b.toNat : Int)) (hb2 : (b.toNat : Int) ≤ 57) (hc1 : 48 ≤ (c.toNat : Int)) (hc2 : (c.toNat : Int) ≤ 57) :
    Calls Tryz.prog 117 #[.string s] w fun e w' => e = .returned (.int .i64 (-1)) ∧ w = w' := by
  have hva := IntWalk.i64_in ((a.toNat : Int) - 48) (by omega)
  have hna := IntWalk.i64_in ((a.toNat : Int)) (by omega)
  have hvb := IntWalk.i64_in ((b.toNat : Int) - 48) (by omega)
  have hnb := IntWalk.i64_in ((b.toNat : Int)) (by omega)
  have hm := IntWalk.i64_in (((a.toNat : Int) - 48) * 10) (by omega)
  have hs := IntWalk.i64_in (((a.toNat : Int) - 48) * 10 + (b.toNat : Int)) (by omega)
  have ht := IntWalk.i64_in (((a.toNat : Int) - 48) * 10 + (b.toNat : Int) - 48) (by omega)
  have l0 : (0 : Int) < (s.size : Int) := by omega
  have l1 : (1 : Int) < (s.size : Int) := by omega
  have l2 : (2 : Int) < (s.size : Int) := by omega
  go_enter Tryz.func117, Tryz.ntmps117
  go_wp2_with (fail)
  refine wp_loop_rounds 4 ?_
  rw [rounds_succ]
  go_wp2_with ((go_at_call 153; (with_reducible refine (rc_In_n _ _ _ _ (by omega)).mono ?_); rintro e w' ⟨rfl, rfl⟩))
  rw [rounds_succ]
  go_wp2_with ((go_at_call 153; (with_reducible refine (rc_In_n _ _ _ _ (by omega)).mono ?_); rintro e w' ⟨rfl, rfl⟩))
  rw [rounds_succ]
  go_wp2_with ((go_at_call 153; (with_reducible refine (rc_In_n _ _ _ _ (by omega)).mono ?_); rintro e w' ⟨rfl, rfl⟩))
  rw [rounds_succ]
  go_wp2_with ((go_at_call 153; (with_reducible refine (rc_In_n _ _ _ _ (by omega)).mono ?_); rintro e w' ⟨rfl, rfl⟩))
  all_goals (go_ret; exact ⟨rfl, rfl⟩)
theorem dig_yes {b : UInt8} (h1 : 48 ≤ (b.toNat : Int)) (h2 : (b.toNat : Int) ≤ 57) : digB b = true := decide_eq_true ⟨h1, h2⟩
theorem dig_no {b : UInt8} (h : (b.toNat : Int) < 48 ∨ 57 < (b.toNat : Int)) : digB b = false := decide_eq_false (by omega)
theorem numP1_d {a : UInt8} (h : digB a = true) : numP [a] = (a.toNat : Int) - 48 := by show (if digB a then _ else _) = _; rw [h]; rfl
theorem numP1_n {a : UInt8} (h : digB a = false) : numP [a] = -1 := by show (if digB a then _ else _) = _; rw [h]; rfl
theorem numP2_z {a b : UInt8} (h : (a.toNat : Int) = 48) : numP [a, b] = -1 := by show (if (a.toNat : Int) = 48 then _ else _) = _; rw [if_pos h]
theorem numP2_n {a b : UInt8} (h : (digB a && digB b) = false) : numP [a, b] = -1 := by show (if (a.toNat : Int) = 48 then _ else if digB a && digB b then _ else _) = _; rw [h]; split <;> rfl
theorem numP2_d {a b : UInt8} (h0 : ¬ (a.toNat : Int) = 48) (ha : digB a = true) (hb : digB b = true) : numP [a, b] = 10 * ((a.toNat : Int) - 48) + ((b.toNat : Int) - 48) := by show (if (a.toNat : Int) = 48 then _ else if digB a && digB b then _ else _) = _; rw [if_neg h0, ha, hb]; rfl
theorem three (b : UInt8) : ((b.toNat : Int) < 48 ∨ 57 < (b.toNat : Int)) ∨ (48 ≤ (b.toNat : Int) ∧ (b.toNat : Int) ≤ 57) := by omega
theorem c_number (s : ByteArray) (w : World) : Calls Tryz.prog 132 #[.string s] w fun e w' => e = .returned (.int .i64 (numP s.data.toList)) ∧ w = w' := by
  obtain ⟨⟨l⟩⟩ := s
  show Calls _ _ _ _ fun e w' => e = .returned (.int .i64 (numP l)) ∧ w = w'
  match l with
  | [] => exact c_number0 ⟨#[]⟩ w (Or.inl (by decide))
  | [a] =>
    rcases three a with (h | h) | ⟨h1, h2⟩
    · rw [numP1_n (dig_no (Or.inl h))]; exact c_num1_lo a w (by omega) h
    · rw [numP1_n (dig_no (Or.inr h))]; exact c_num1_hi a w (by omega) h
    · rw [numP1_d (dig_yes h1 h2)]
      by_cases e : (a.toNat : Int) = 48
      · exact c_num1_d0 a w e h1 h2
      · exact c_num1_d a w e h1 h2
  | [a, b] =>
    by_cases e : (a.toNat : Int) = 48
    · rw [numP2_z e]; exact c_num2_z a b w e
    · rcases three a with (h | h) | ⟨h1, h2⟩
      · rw [numP2_n (by rw [dig_no (Or.inl h)]; rfl)]; exact c_num2_lo a b w e h
      · rw [numP2_n (by rw [dig_no (Or.inr h)]; rfl)]; exact c_num2_hi a b w e h
      · rcases three b with (h | h) | ⟨g1, g2⟩
        · rw [numP2_n (by rw [dig_no (b := b) (Or.inl h), Bool.and_false])]; exact c_num2_d_lo a b w e h1 h2 h
        · rw [numP2_n (by rw [dig_no (b := b) (Or.inr h), Bool.and_false])]; exact c_num2_d_hi a b w e h1 h2 h
        · rw [numP2_d e (dig_yes h1 h2) (dig_yes g1 g2)]; exact c_num2_d a b w e h1 h2 g1 g2
  | a :: b :: c :: r => exact c_number0 ⟨⟨a :: b :: c :: r⟩⟩ w (Or.inr (by show 2 < (a :: b :: c :: r).length; simp))
theorem r_small (s : ByteArray) (w : World) : Calls Tryz.prog 117 #[.string s] w fun e w' => e = .returned (.int .i64 (numP s.data.toList)) ∧ w = w' := by
  obtain ⟨⟨l⟩⟩ := s
  show Calls _ _ _ _ fun e w' => e = .returned (.int .i64 (numP l)) ∧ w = w'
  match l with
  | [] => exact r_small0 w
  | [a] =>
    rcases three a with (h | h) | ⟨h1, h2⟩
    · rw [numP1_n (dig_no (Or.inl h))]; exact r_small1_lo a w h
    · rw [numP1_n (dig_no (Or.inr h))]; exact r_small1_hi a w h
    · rw [numP1_d (dig_yes h1 h2)]
      by_cases e : (a.toNat : Int) = 48
      · exact r_small1_d0 a w e h1 h2
      · exact r_small1_d a w e h1 h2
  | [a, b] =>
    rcases three a with (h | h) | ⟨h1, h2⟩
    · rw [numP2_n (by rw [dig_no (Or.inl h)]; rfl)]; exact r_small2_lo a b w h
    · rw [numP2_n (by rw [dig_no (Or.inr h)]; rfl)]; exact r_small2_hi a b w h
    · rcases three b with (h | h) | ⟨g1, g2⟩
      · rw [numP2_n (by rw [dig_no (b := b) (Or.inl h), Bool.and_false])]; exact r_small2_d_lo a b w h1 h2 h
      · rw [numP2_n (by rw [dig_no (b := b) (Or.inr h), Bool.and_false])]; exact r_small2_d_hi a b w h1 h2 h
      · by_cases e : (a.toNat : Int) = 48
        · rw [numP2_z e]; exact r_small2_z a b w e h1 h2 g1 g2
        · rw [numP2_d e (dig_yes h1 h2) (dig_yes g1 g2), show 10 * ((a.toNat : Int) - 48) + ((b.toNat : Int) - 48) = ((a.toNat : Int) - 48) * 10 + (b.toNat : Int) - 48 by omega]; exact r_small2_d a b w e h1 h2 g1 g2
  | a :: b :: c :: r =>
    have h3 : 3 ≤ (⟨⟨a :: b :: c :: r⟩⟩ : ByteArray).size := by show 3 ≤ (a :: b :: c :: r).length; simp
    rcases three a with (h | h) | ⟨h1, h2⟩
    · exact r_small3_lo _ a b c w h3 rfl rfl rfl h
    · exact r_small3_hi _ a b c w h3 rfl rfl rfl h
    · rcases three b with (h | h) | ⟨g1, g2⟩
      · exact r_small3_d_lo _ a b c w h3 rfl rfl rfl h1 h2 h
      · exact r_small3_d_hi _ a b c w h3 rfl rfl rfl h1 h2 h
      · rcases three c with (h | h) | ⟨k1, k2⟩
        · exact r_small3_dd_lo _ a b c w h3 rfl rfl rfl h1 h2 g1 g2 h
        · exact r_small3_dd_hi _ a b c w h3 rfl rfl rfl h1 h2 g1 g2 h
        · exact r_small3_d _ a b c w h3 rfl rfl rfl h1 h2 g1 g2 k1 k2
theorem numP_range (l : List UInt8) : -1 ≤ numP l ∧ numP l < 100 := by
  match l with
  | [] => exact ⟨by decide, by decide⟩
  | [a] => show -1 ≤ (if digB a then _ else _) ∧ (if digB a then _ else _) < (100 : Int); split <;> (unfold digB at *; rename_i h; simp at h; omega)
  | [a, b] => show -1 ≤ (if (a.toNat : Int) = 48 then _ else if digB a && digB b then _ else _) ∧ (if (a.toNat : Int) = 48 then _ else if digB a && digB b then _ else _) < (100 : Int); unfold digB; split; omega; split <;> (rename_i h; simp at h; omega)
  | _ :: _ :: _ :: _ => exact ⟨by show -1 ≤ (-1 : Int); omega, by show (-1 : Int) < 100; omega⟩
end Go.Proofs.YtlfneeobnihocaaGreatDoor
