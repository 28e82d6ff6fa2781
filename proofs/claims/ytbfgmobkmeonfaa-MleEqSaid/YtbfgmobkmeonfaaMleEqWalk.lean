/- The walk of the law MleEq: it returns true, whatever point is handed in. -/
import Derived.Test.YtbfgmobkmeonfaaEq
namespace Go.Proofs.Ytbfgmobkmeonfaa
open Go.RowKit Tally
theorem pow_wrap (n : Nat) (h : n ≤ 8) : wrap64 (2 ^ n) = ((2 ^ n : Nat) : Int) := by
  have h1 : (2 : Nat) ^ n ≤ 2 ^ 8 := Nat.pow_le_pow_right (by decide) h
  have e : ((2 : Int) ^ n) = ((2 ^ n : Nat) : Int) := by simp
  rw [e]; generalize 2 ^ n = m at *; exact IntWalk.wrap64_in _ ⟨by omega, by omega⟩
set_option maxHeartbeats 400000 in
theorem mle_Eq_long (p : List Int) (v : Value) (w : World) (hp : RowU w v p) (hb : 8 < p.length) :
    Calls Try.prog 14 #[v] w fun e w' => e = .returned (.tuple #[.slice none 0 0, .int .i64 1]) ∧ w = w' := by
  have hl := hp.len
  obtain ⟨h1, h2, a, cap, rfl, hr⟩ := hp
  clear hr h1
  have hb' : (8 : Int) < (p.length : Int) := by omega
  go_enter Try.func14, Try.ntmps14
  go_wp2
  go_ret2
  exact ⟨rfl, rfl⟩
set_option maxHeartbeats 400000 in
theorem mleEq_walk (w : World) (v : Value) (p : List Int) (hp : RowU w v p) :
    Calls Try.prog 4 #[v] w fun e w' => e = .returned (.bool true) ∧ Below w.heap.size w w' := by
  have hl := hp.len
  by_cases h8 : p.length ≤ 8
  · have Hp := Lib.hid hp
    obtain ⟨h1, h2, a, cap, rfl, hr⟩ := hp
    have hb' : ¬ (8 : Int) < (p.length : Int) := by omega
    clear hr h1
    go_enter Try.func4, Try.ntmps4
    go_wp2_with (fail)
    refine (mle_Eq _ _ _ Hp.out h8).mono ?_
    rintro e w1 ⟨v1, rfl, hn, hb1⟩
    have hLen : ((eqs (p.map phi)).map psi).length = 2 ^ p.length := by rw [List.length_map, eqs_length, List.length_map]
    have hget : ∀ b : Nat, b < 2 ^ p.length → at0 ((eqs (p.map phi)).map psi) b = psi (eqAt (p.map phi) b) := by
      intro b hb; simp only [at0, List.getElem?_map]; rw [eqs_get _ b (by simpa using hb)]; rfl
    have h256 : ((eqs (p.map phi)).map psi).length ≤ 256 := by rw [hLen]; exact Nat.pow_le_pow_right (by decide) h8
    generalize (eqs (p.map phi)).map psi = L at *
    rw [← hLen] at hget
    have hw : wrap64 (2 ^ p.length) = (L.length : Int) := by rw [pow_wrap _ h8, hLen]
    have Hget := Lib.hid hget
    obtain ⟨a1, c1, hv1, hr1⟩ := hn.row.2.2
    subst hv1
    have Hr1 := Lib.hid hr1
    have HP := Lib.hid (Hp.out.below hb1 (Nat.le_refl _))
    clear hr1 hn hget hLen
    go_wp2
    go_loopw [33] (fun i wr => ∃ (k : Nat), k ≤ L.length ∧ i = .int .i64 (k : Int) ∧ Below w1.heap.size w1 wr) (fun i _ => L.length - (intOf i).toNat)
    case atStart => exact ⟨0, by omega, rfl, Below.refl _ _⟩
    case round =>
      obtain ⟨k, hk, rfl, hbr⟩ := hrel
      by_cases hz : k < L.length
      · obtain ⟨bl, off, rfl, hblt, hcell⟩ := Hr1.out (by omega)
        have hcj := (hbr.cell (p := ⟨bl, off + k, none⟩) hblt).trans (hcell k hz)
        have HPr := Lib.hid (HP.out.below hbr (Nat.le_refl _))
        have hg := Hget.out k hz
        clear hcell
        go_wp2
        go_quiet ((go_at_call 15; exact flip (ref_Eq p _ (k : Int) _ (RowU.drewN HPr.out _) (by omega) (by omega))))
        go_wp2
        go_roundw
        case rel => exact ⟨k + 1, by omega, by go_num, below_drewN hbr _⟩
        case measure => simp [intOf]; omega
      · obtain rfl : k = L.length := by omega
        go_wp2
        go_ret
        exact ⟨rfl, hb1.trans (hbr.mono hb1.size)⟩
  · have hb' : (8 : Int) < (p.length : Int) := by omega
    have Hp := Lib.hid hp
    obtain ⟨h1, h2, a, cap, rfl, hr⟩ := hp
    clear hr h1
    go_enter Try.func4, Try.ntmps4
    go_wp2_with (go_at_call 14; (with_reducible refine (mle_Eq_long _ _ _ Hp.out (Nat.lt_of_not_le h8)).mono ?_); rintro e w1 ⟨rfl, rfl⟩)
    go_ret
    exact ⟨rfl, Below.refl _ _⟩
end Go.Proofs.Ytbfgmobkmeonfaa
