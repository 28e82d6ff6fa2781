/- The walks of the reference's In and Places. No condition but that there are 1 to 8 variables. -/
import Derived.Test.YtokggifjcbkmnaaDoorOpenW1
namespace Go.Proofs.YtokggifjcbkmnaaDoor
set_option maxRecDepth 100000
set_option linter.unusedVariables false
open Go.RowKit Tally
set_option maxHeartbeats 1000000 in
theorem ref_InO (n lo hi : Int) (w : World) :
    Calls Tryd.prog 35 #[.int .i64 n, .int .i64 lo, .int .i64 hi] w fun e w' => e = .returned (.bool (decide (lo ≤ n) && decide (n ≤ hi))) ∧ w = w' := by
  by_cases h1 : lo ≤ n
  · have hb : decide (lo ≤ n) = true := decide_eq_true h1
    by_cases h2 : n ≤ hi
    · have hb2 : decide (n ≤ hi) = true := decide_eq_true h2
      have hR : Hid ((decide (lo ≤ n) && decide (n ≤ hi)) = true) := by unfold Hid; rw [hb, hb2]; rfl
      clear h1 h2
      go_enter Tryd.func35, Tryd.ntmps35
      go_wp2
      go_ret
      exact ⟨ret_bool hR.out.symm, rfl⟩
    · have hb2 : decide (n ≤ hi) = false := decide_eq_false h2
      have hR : Hid ((decide (lo ≤ n) && decide (n ≤ hi)) = false) := by unfold Hid; rw [hb, hb2]; rfl
      clear h1 h2
      go_enter Tryd.func35, Tryd.ntmps35
      go_wp2
      go_ret
      exact ⟨ret_bool hR.out.symm, rfl⟩
  · have hb : decide (lo ≤ n) = false := decide_eq_false h1
    have hR : Hid ((decide (lo ≤ n) && decide (n ≤ hi)) = false) := by unfold Hid; rw [hb]; rfl
    clear h1
    go_enter Tryd.func35, Tryd.ntmps35
    go_wp2
    go_ret
    exact ⟨ret_bool hR.out.symm, rfl⟩
set_option maxHeartbeats 2000000 in
theorem ref_Places (places : List Int) (m : Nat) (h7 : m ≤ 7) (v : Value) (w : World) (hp : RowI w v places) :
    Calls Tryd.prog 23 #[v, .int .i64 ((m + 1 : Nat) : Int)] w fun e w' => e = .returned (.bool (!wrongB places ((2 ^ m : Nat) : Int))) ∧ Drawn w w' := by
  have Hpw := Lib.hid (pow_wrap8 (n := m) (by omega))
  obtain ⟨q1, q2⟩ := pow_le8 (n := m) (by omega)
  have s1 : IntKind.i64.wrap (((m + 1 : Nat) : Int) - 1) = (m : Int) := by rw [IntWalk.i64_in _ (by omega)]; omega
  obtain ⟨h, hh⟩ : ∃ h, h = 2 ^ m := ⟨_, rfl⟩
  rw [← hh] at Hpw q1 q2 ⊢
  have s3 : IntKind.i64.wrap ((h : Int) - 1) = (h : Int) - 1 := IntWalk.i64_in _ (by omega)
  obtain ⟨_, h2, ad, cap, rfl, hr⟩ := hp
  have Hr := Lib.hid hr
  clear hr hh
  generalize ((m + 1 : Nat) : Int) = M at *
  go_enter Tryd.func23, Tryd.ntmps23
  go_wp2
  go_loopw [5, 6] (fun ov iv wr => ∃ (k : Nat) (b : Bool), k ≤ places.length ∧ iv = .int .i64 (k : Int) ∧ ov = .bool b ∧ Hid (b = (decide ((places.length : Int) ≤ 32) && placesB places h k)) ∧ Drawn w wr) (fun _ iv _ => places.length - (intOf iv).toNat)
  case atStart => exact ⟨0, _, by omega, rfl, rfl, by simp [Hid, placesB], Drawn.refl _⟩
  case round =>
    obtain ⟨k, b, hk, rfl, rfl, Hb, hd⟩ := hrel
    by_cases hz : k < places.length
    · obtain ⟨b2, off, rfl, hblt, hcell⟩ := Hr.out (by omega)
      have c1 := (hd.below.cell (p := ⟨b2, off + k, none⟩) hblt).trans (hcell k hz)
      have hk1 : (k : Int) < (places.length : Int) := by omega
      clear hcell
      cases b with
      | true =>
        have hpw := Hpw.out
        have Hn := Lib.hid (show (decide (0 ≤ at0 places k) && decide (at0 places k ≤ (h : Int) - 1)) = (decide ((places.length : Int) ≤ 32) && placesB places h (k + 1)) by
          have := Hb.out
          rw [placesB_succ, ← Bool.and_assoc, ← this, Bool.true_and]
          rw [← Bool.decide_and]
          exact decide_eq_decide.mpr ⟨fun e => ⟨e.1, by omega⟩, fun e => ⟨e.1, by omega⟩⟩)
        go_wp2
        go_quiet ((go_at_call 35; exact flip (ref_InO _ _ _ _)))
        clear hpw
        go_wp2
        go_roundw
        case rel => exact ⟨k + 1, _, by omega, by go_num, rfl, Hn.out, hd.more _⟩
        case measure => simp [intOf]; omega
      | false =>
        have Hn := Lib.hid (show false = (decide ((places.length : Int) ≤ 32) && placesB places h (k + 1)) by
          have := Hb.out
          rw [placesB_succ, ← Bool.and_assoc, ← this, Bool.false_and])
        go_wp2
        go_quiet (fail)
        go_wp2
        go_roundw
        case rel => exact ⟨k + 1, _, by omega, by go_num, rfl, Hn.out, hd.more _⟩
        case measure => simp [intOf]; omega
    · obtain rfl : k = places.length := by omega
      have HF := Lib.hid (show b = !wrongB places h by
        rw [Hb.out]; unfold wrongB
        rw [Bool.not_or, Bool.not_not]
        congr 1
        rw [← decide_not]
        exact decide_eq_decide.mpr (by omega))
      go_wp2
      go_ret
      exact ⟨ret_bool HF.out, hd⟩
end Go.Proofs.YtokggifjcbkmnaaDoor
