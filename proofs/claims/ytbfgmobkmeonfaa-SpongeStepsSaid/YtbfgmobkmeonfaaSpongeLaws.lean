/- The walks of the laws SpongePlays and SpongeSteps: each returns true, whatever is handed in. -/
import Derived.Test.YtbfgmobkmeonfaaRSponge
import Derived.Test.YtbfgmobkmeonfaaOpen
namespace Go.Proofs.Ytbfgmobkmeonfaa
open Go.RowKit Tally
theorem SpAt.keep {w w' : World} {b c : Nat} {s : St} (h : SpAt w b s) (hg : w.grownBy w' (some c)) (hne : b ≠ c) : SpAt w' b s :=
  (hg.block b h.lt (fun e => hne (by cases e; rfl))).trans h
theorem RSpAt.keep {w w' : World} {b c : Nat} {s : St} (h : RSpAt w b s) (hg : w.grownBy w' (some c)) (hne : b ≠ c) : RSpAt w' b s :=
  (hg.block b h.lt (fun e => hne (by cases e; rfl))).trans h
set_option maxHeartbeats 1000000 in
theorem spongePlays_walk (w : World) (n : Int) (hn : U64 n) (v : Value) (ll : List (List Int)) (hp : RowUU w v ll) :
    Calls Try.prog 7 #[.int .u64 n, v] w fun e w' => e = .returned (.bool true) ∧ Below w.heap.size w w' := by
  obtain ⟨h2, a, cap, rfl, hr⟩ := hp
  have Hr := Lib.hid hr
  clear hr
  by_cases h10 : (10 : Int) < (ll.length : Int)
  · go_enter Try.func7, Try.ntmps7
    go_wp2
    go_ret
    exact ⟨rfl, Below.refl _ _⟩
  · go_enter Try.func7, Try.ntmps7
    go_wp2_with (first
      | (go_at_call 28; (with_reducible refine (sponge_New _ _ (by first | assumption | exact U64.psi _ | exact U64.zero | exact U64.one | exact U64.mk (by decide) (by decide))).mono ?_); rintro e w1 ⟨g, rfl, hg, hS, hb1⟩)
      | (go_at_call 29; (with_reducible refine (rsponge_New _ _ (by first | assumption | exact U64.psi _ | exact U64.zero | exact U64.one | exact U64.mk (by decide) (by decide))).mono ?_); rintro e w2 ⟨g2, rfl, hg2, hS2, hb2⟩))
    have hlt := hS.lt
    have hne : g ≠ g2 := by omega
    have hS1 := hS.shift hb2
    go_loopw [21] (fun i wr => ∃ (k : Nat) (S : St), k ≤ ll.length ∧ i = .int .i64 (k : Int) ∧ SpAt wr g S ∧ RSpAt wr g2 S ∧ Below w.heap.size w wr) (fun i _ => ll.length - (intOf i).toNat)
    case atStart => exact ⟨0, _, by omega, rfl, hS1, hS2, hb1.trans (hb2.mono hb1.size)⟩
    case round =>
      obtain ⟨k, S, hk, rfl, hP, hR, hbr⟩ := hrel
      by_cases hz : k < ll.length
      · obtain ⟨bl, off, rfl, hblt, hcell⟩ := Hr.out (by omega)
        obtain ⟨u, hu, hrow⟩ := hcell k hz
        have hcj := (hbr.cell (p := ⟨bl, off + k, none⟩) hblt).trans hu
        have hsz := hbr.size
        have Hrow := Lib.hid (hrow.below hbr (Nat.le_refl _))
        have HsepP := Lib.hid (hrow.sep hg)
        have HsepR := Lib.hid (hrow.sep (Nat.le_trans hb1.size hg2))
        obtain ⟨_, _, au, cu, rfl, _⟩ := hrow
        clear hcell hu
        generalize atl ll k = L at *
        by_cases hlen : L.length ≤ 1000
        · have hlen' : ¬ (1000 : Int) < (L.length : Int) := by omega
          go_wp2_with (fail)
          refine (sponge_Take _ _ _ _ _ hP Hrow.out HsepP.out hlen).mono ?_
          rintro e wa ⟨rfl, ha, hga⟩
          have ha2 := hR.keep hga (Ne.symm hne)
          have hwa := below_of_grownBy hga hg (by omega)
          have HrowA := Lib.hid (RowU.grown Hrow.out hga fun x n c hv hn => HsepP.out x n c hv hn)
          go_wp2_with (fail)
          refine (rsponge_Take _ _ _ _ _ ha2 HrowA.out HsepR.out hlen).mono ?_
          rintro e wb ⟨rfl, hb, hgb⟩
          have hb2' := ha.keep hgb hne
          have hwb := below_of_grownBy hgb (Nat.le_trans hb1.size hg2) (Nat.le_trans hsz hga.size)
          go_wp2_with (fail)
          refine (sponge_Give _ _ _ hb2').mono ?_
          rintro e wc ⟨rfl, hc, hgc⟩
          have hc2 := hb.keep hgc (Ne.symm hne)
          have hwc := below_of_grownBy hgc hg (Nat.le_trans hsz (Nat.le_trans hga.size hgb.size))
          go_wp2_with (fail)
          refine (rsponge_Give _ _ _ hc2).mono ?_
          rintro e wd ⟨rfl, hd, hgd⟩
          have hd2 := hc.keep hgd hne
          have hwd := below_of_grownBy hgd (Nat.le_trans hb1.size hg2) (Nat.le_trans hsz (Nat.le_trans hga.size (Nat.le_trans hgb.size hgc.size)))
          go_wp2
          go_roundw
          case rel => exact ⟨k + 1, _, by omega, by go_num, hd2, hd, (((hbr.trans hwa).trans hwb).trans hwc).trans hwd⟩
          case measure => simp [intOf]; omega
        · have hlen' : (1000 : Int) < (L.length : Int) := by omega
          go_wp2_with (fail)
          refine (sponge_Take_long _ _ _ _ Hrow.out (by omega)).mono ?_
          rintro e wa ⟨rfl, rfl⟩
          go_wp2_with (fail)
          refine (sponge_Give _ _ _ hP).mono ?_
          rintro e wc ⟨rfl, hc, hgc⟩
          have hc2 := hR.keep hgc (Ne.symm hne)
          have hwc := below_of_grownBy hgc hg hsz
          go_wp2_with (fail)
          refine (rsponge_Give _ _ _ hc2).mono ?_
          rintro e wd ⟨rfl, hd, hgd⟩
          have hd2 := hc.keep hgd hne
          have hwd := below_of_grownBy hgd (Nat.le_trans hb1.size hg2) (Nat.le_trans hsz hgc.size)
          go_wp2
          go_roundw
          case rel => exact ⟨k + 1, _, by omega, by go_num, hd2, hd, (hbr.trans hwc).trans hwd⟩
          case measure => simp [intOf]; omega
      · obtain rfl : k = ll.length := by omega
        have hsz := hbr.size
        go_wp2_with (fail)
        refine (sponge_Give _ _ _ hP).mono ?_
        rintro e wc ⟨rfl, hc, hgc⟩
        have hc2 := hR.keep hgc (Ne.symm hne)
        have hwc := below_of_grownBy hgc hg hsz
        go_wp2_with (fail)
        refine (rsponge_Give _ _ _ hc2).mono ?_
        rintro e wd ⟨rfl, hd, hgd⟩
        have hwd := below_of_grownBy hgd (Nat.le_trans hb1.size hg2) (Nat.le_trans hsz hgc.size)
        go_wp2_with (fail)
        refine (sponge_Pair _ _ _ hn (U64.mk (by decide) (by decide))).mono ?_
        rintro e we ⟨rfl, hbe⟩
        go_wp2_with (fail)
        refine (rsponge_Pair _ _ _ hn (U64.mk (by decide) (by decide))).mono ?_
        rintro e wf ⟨rfl, hbf⟩
        go_wp2
        go_ret
        exact ⟨rfl, ((((hbr.trans hwc).trans hwd).trans (hbe.mono ((hbr.trans hwc).trans hwd).size)).trans (hbf.mono (((hbr.trans hwc).trans hwd).trans (hbe.mono ((hbr.trans hwc).trans hwd).size)).size))⟩

/-! what was given doesn't hang on what is taken later -/
theorem given1 : (newS 1).y ≠ 0 := by decide +kernel
theorem given1' : (psi (newS 1).y == 0) = false := by
  rw [beq_eq_false_iff_ne]; intro h; rw [← psi_zero] at h; exact given1 (psi_inj h)
/-- Take's answer, and the sponge behind it -/
def takeE (l : List Int) : Int := if l.length ≤ 1000 then 0 else 2
def takeS (l : List Int) (s : St) : St := if l.length ≤ 1000 then takeL l s else s
theorem sponge_Take_any (b : Nat) (s : St) (v : Value) (l : List Int) (w : World) (h : SpAt w b s) (hp : RowU w v l) (hs : Sep v b) :
    Calls Try.prog 30 #[.pointer (some ⟨b, 0, none⟩), v] w fun e w' => e = .returned (.int .i64 (takeE l)) ∧ SpAt w' b (takeS l s) ∧ w.grownBy w' (some b) := by
  by_cases hl : l.length ≤ 1000
  · simp only [takeE, takeS, if_pos hl]; exact sponge_Take b s v l w h hp hs hl
  · simp only [takeE, takeS, if_neg hl]
    exact (sponge_Take_long b v l w hp (by omega)).mono fun e w' ⟨h1, h2⟩ => by subst h2; exact ⟨h1, h, World.grownBy.refl _ _⟩
theorem psi_ge (a : F) : decide ((2305843009213693951 : Int) ≤ psi a) = false := by
  have := psi_lt a
  have e : P = 2305843009213693951 := rfl
  simp; omega
set_option maxHeartbeats 1000000 in
theorem spongeSteps_walk (w : World) (n : Int) (hn : U64 n) (v : Value) (l : List Int) (hp : RowU w v l) (v2 : Value) (m : List Int) (hp2 : RowU w v2 m) :
    Calls Try.prog 8 #[.int .u64 n, v, v2] w fun e w' => e = .returned (.bool true) ∧ Below w.heap.size w w' := by
  have g1 := given1'
  have Hp := Lib.hid hp
  have Hp2 := Lib.hid hp2
  clear hp hp2
  go_enter Try.func8, Try.ntmps8
  go_wp2_with (fail)
  refine (sponge_New _ _ hn).mono ?_
  rintro e w1 ⟨a, rfl, ha, hS1, hb1⟩
  go_wp2_with (fail)
  refine (sponge_New _ _ hn).mono ?_
  rintro e w2 ⟨b, rfl, hb, hS2, hb2⟩
  go_wp2_with (fail)
  refine (sponge_New _ _ U64.one).mono ?_
  rintro e w3 ⟨c, rfl, hc, hS3, hb3⟩
  go_wp2_with (fail)
  refine (sponge_Give _ _ _ hS3).mono ?_
  rintro e w4 ⟨rfl, hS4, hg4⟩
  have l1 := hS1.lt
  have l2 := hS2.lt
  have hab : a ≠ b := by omega
  have A4 : SpAt w4 a (newS n) := ((hS1.shift hb2).shift hb3).keep hg4 (by omega)
  have B4 : SpAt w4 b (newS n) := (hS2.shift hb3).keep hg4 (by omega)
  have s1 := hb1.size
  have s2 := hb2.size
  have s3 := hb3.size
  have s4 := hg4.size
  have K4 : Below w.heap.size w w4 := ((hb1.trans (hb2.mono s1)).trans (hb3.mono (by omega))).trans (below_of_grownBy hg4 (by omega) (by omega))
  have Sa := Lib.hid (Hp.out.sep ha)
  have Sb := Lib.hid (Hp.out.sep (b := b) (by omega))
  have Sa2 := Lib.hid (Hp2.out.sep ha)
  have Sb2 := Lib.hid (Hp2.out.sep (b := b) (by omega))
  go_wp2_with (fail)
  refine (sponge_Take_any _ _ _ _ _ A4 (Hp.out.below K4 (Nat.le_refl _)) Sa.out).mono ?_
  rintro e w5 ⟨rfl, A5, hg5⟩
  have B5 := B4.keep hg5 (Ne.symm hab)
  have K5 := K4.trans (below_of_grownBy hg5 ha (by omega))
  have s5 := hg5.size
  go_wp2_with (fail)
  refine (sponge_Take_any _ _ _ _ _ B5 (Hp.out.below K5 (Nat.le_refl _)) Sb.out).mono ?_
  rintro e w6 ⟨rfl, B6, hg6⟩
  have A6 := A5.keep hg6 hab
  have K6 := K5.trans (below_of_grownBy hg6 (by omega) (by omega))
  have s6 := hg6.size
  go_wp2_with (fail)
  refine (sponge_Give _ _ _ A6).mono ?_
  rintro e w7 ⟨rfl, A7, hg7⟩
  have B7 := B6.keep hg7 (Ne.symm hab)
  have K7 := K6.trans (below_of_grownBy hg7 ha (by omega))
  have s7 := hg7.size
  go_wp2_with (fail)
  refine (sponge_Give _ _ _ B7).mono ?_
  rintro e w8 ⟨rfl, B8, hg8⟩
  have A8 := A7.keep hg8 hab
  have K8 := K7.trans (below_of_grownBy hg8 (by omega) (by omega))
  have s8 := hg8.size
  have hlt := psi_ge (takeS l (newS n)).y
  go_wp2_with (fail)
  refine (sponge_Take_any _ _ _ _ _ A8 (Hp2.out.below K8 (Nat.le_refl _)) Sa2.out).mono ?_
  rintro e w9 ⟨rfl, A9, hg9⟩
  have B9 := B8.keep hg9 (Ne.symm hab)
  have K9 := K8.trans (below_of_grownBy hg9 ha (by omega))
  have s9 := hg9.size
  go_wp2_with (fail)
  refine (sponge_Take_any _ _ _ _ _ B9 (Hp2.out.below K9 (Nat.le_refl _)) Sb2.out).mono ?_
  rintro e w10 ⟨rfl, B10, hg10⟩
  have A10 := A9.keep hg10 hab
  have K10 := K9.trans (below_of_grownBy hg10 (by omega) (by omega))
  have s10 := hg10.size
  go_wp2_with (fail)
  refine (sponge_Give _ _ _ A10).mono ?_
  rintro e w11 ⟨rfl, A11, hg11⟩
  have B11 := B10.keep hg11 (Ne.symm hab)
  have K11 := K10.trans (below_of_grownBy hg11 ha (by omega))
  have s11 := hg11.size
  go_wp2_with (fail)
  refine (sponge_Give _ _ _ B11).mono ?_
  rintro e w12 ⟨rfl, B12, hg12⟩
  have K12 := K11.trans (below_of_grownBy hg12 (by omega) (by omega))
  have s12 := hg12.size
  go_wp2_with (fail)
  refine (sponge_Pair _ _ _ hn (U64.psi _)).mono ?_
  rintro e w13 ⟨rfl, K13⟩
  have K13' := K12.trans (K13.mono (by omega))
  have s13 := K13.size
  have e1 := phi_psi (phi n)
  go_wp2_with (first | (go_at_call 19; (with_reducible refine (field_Norm _ _ (by first | assumption | exact U64.psi _ | exact U64.zero | exact U64.one | exact U64.mk (by decide) (by decide))).mono ?_); rintro e w' ⟨rfl, rfl⟩))
  refine (sponge_Pair _ _ _ (U64.psi _) (U64.psi _)).mono ?_
  rintro e w14 ⟨rfl, K14⟩
  go_wp2
  go_ret
  exact ⟨rfl, K13'.trans (K14.mono (by omega))⟩
end Go.Proofs.Ytbfgmobkmeonfaa
