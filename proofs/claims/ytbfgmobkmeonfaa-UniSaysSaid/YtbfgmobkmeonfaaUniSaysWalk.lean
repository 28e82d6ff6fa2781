/- The walk of the law UniSays: it returns true, whatever is handed in. -/
import Derived.Test.YtbfgmobkmeonfaaCoefs
namespace Go.Proofs.Ytbfgmobkmeonfaa
open Go.RowKit Tally
set_option maxHeartbeats 1000000 in
theorem uniSays_walk (w : World) (v : Value) (a : List Int) (hp : RowU w v a) (x : Int) (hx : U64 x) :
    Calls Try.prog 9 #[v, .int .u64 x] w fun e w' => e = .returned (.bool true) ∧ Below w.heap.size w w' := by
  have Hp := Lib.hid hp
  have hat := Lib.hid (fun j => @RowU.at _ _ _ hp j)
  obtain ⟨_, h2, ad, cap, rfl, hr⟩ := hp
  have Hr := Lib.hid hr
  clear hr
  by_cases h1 : a.length < 1
  · have hno := Lib.hid (Or.inl h1 : a.length < 1 ∨ 8 < a.length)
    go_enter Try.func9, Try.ntmps9
    go_wp2_with (first
      | (go_at_call 36; (with_reducible refine (uni_At_no _ _ _ _ Hp.out hno.out).mono ?_); rintro e w' ⟨rfl, rfl⟩)
      | (go_at_call 37; (with_reducible refine (uni_Coefs_no _ _ _ Hp.out hno.out).mono ?_); rintro e w' ⟨rfl, rfl⟩)
      | (go_at_call 38; (with_reducible refine (uni_Check_no _ _ _ Hp.out hno.out).mono ?_); rintro e w' ⟨rfl, rfl⟩))
    go_ret
    exact ⟨rfl, Below.refl _ _⟩
  · by_cases h8 : 8 < a.length
    · have hno := Lib.hid (Or.inr h8 : a.length < 1 ∨ 8 < a.length)
      go_enter Try.func9, Try.ntmps9
      go_wp2_with (first
        | (go_at_call 36; (with_reducible refine (uni_At_no _ _ _ _ Hp.out hno.out).mono ?_); rintro e w' ⟨rfl, rfl⟩)
        | (go_at_call 37; (with_reducible refine (uni_Coefs_no _ _ _ Hp.out hno.out).mono ?_); rintro e w' ⟨rfl, rfl⟩)
        | (go_at_call 38; (with_reducible refine (uni_Check_no _ _ _ Hp.out hno.out).mono ?_); rintro e w' ⟨rfl, rfl⟩))
      go_ret
      exact ⟨rfl, Below.refl _ _⟩
    · have h1' : 1 ≤ a.length := by omega
      have h8' : a.length ≤ 8 := by omega
      go_enter Try.func9, Try.ntmps9
      go_wp2_with (fail)
      refine (uni_At _ _ _ _ Hp.out h1' h8' hx).mono ?_
      rintro e w1 ⟨rfl, hb1⟩
      have Hp1 := Lib.hid (Hp.out.below hb1 (Nat.le_refl _))
      go_wp2_with (fail)
      refine (uni_Coefs _ _ _ Hp1.out h1' h8').mono ?_
      rintro e w2 ⟨v2, l, rfl, hn, hl, hv, hb2⟩
      have hb := hb1.trans (hb2.mono hb1.size)
      have Hp2 := Lib.hid (Hp.out.below hb (Nat.le_refl _))
      have HR := Lib.hid hn.row
      have Hv := Lib.hid hv
      obtain ⟨a2, c2, rfl, _⟩ := hn.row.2.2
      clear hn hv
      have HL := Lib.hid hl
      rw [hl] at HR ⊢
      clear hl
      go_wp2_with (go_at_call 38; (with_reducible refine (uni_Check _ _ _ Hp2.out h1' h8').mono ?_); rintro e w' ⟨rfl, rfl⟩)
      go_loopw [55] (fun i wr => ∃ (k : Nat), k ≤ a.length ∧ i = .int .i64 (k : Int) ∧ Drawn w2 wr) (fun i _ => a.length - (intOf i).toNat)
      case atStart => exact ⟨0, by omega, rfl, Drawn.refl _⟩
      case round =>
        obtain ⟨k, hk, rfl, hd⟩ := hrel
        by_cases hz : k < a.length
        · obtain ⟨b, off, rfl, hblt, hcell⟩ := Hr.out (by omega)
          have hcj := ((hb.trans (hd.below.mono hb.size)).cell (p := ⟨b, off + k, none⟩) hblt).trans (hcell k hz)
          have hu := hat.out k hz
          have uk : U64 (k : Int) := ⟨by omega, by omega⟩
          have he : psi (hor (l.map phi) (phi k)) = psi (phi (at0 a k)) := by rw [Hv.out k hz]
          have HRr := Lib.hid (HR.out.below hd.below (Nat.le_refl _))
          clear hcell
          go_wp2
          go_quiet (first | (go_at_call 39; exact flip (ref_Coef _ _ _ _ (RowU.drewN HRr.out _) uk)) | (go_at_call 17; exact flip (ref_Norm _ _ hu)))
          go_wp2
          go_roundw
          case rel => exact ⟨k + 1, by omega, by go_num, hd.more _⟩
          case measure => simp [intOf]; omega
        · obtain rfl : k = a.length := by omega
          have Hpr := Lib.hid (Hp2.out.below hd.below (Nat.le_refl _))
          go_wp2_with (go_at_call 40; (with_reducible refine (ref_At _ _ _ _ Hpr.out hx (Nat.le_trans h8' (by decide))).mono ?_); rintro e w' ⟨rfl, rfl⟩)
          go_ret
          exact ⟨rfl, hb.trans (hd.below.mono hb.size)⟩
end Go.Proofs.Ytbfgmobkmeonfaa
