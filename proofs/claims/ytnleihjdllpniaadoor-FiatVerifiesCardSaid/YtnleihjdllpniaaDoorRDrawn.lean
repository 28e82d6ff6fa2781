/- The walks of the reference's Words and Drawn. The circuit is right, the proof has its shape; the lists are no longer than a sponge takes. -/
import Derived.Test.YtnleihjdllpniaaDoorFiatV
import Derived.Test.YtnleihjdllpniaaDoorRNeed
import Derived.Test.YtnleihjdllpniaaDoorRSponge
namespace Go.Proofs.YtnleihjdllpniaaDoor
set_option maxRecDepth 100000
set_option linter.unusedVariables false
open Go.RowKit Tally
open Go.Sort (grow)
set_option maxRecDepth 100000 in
set_option maxHeartbeats 4000000 in
theorem ref_Words (v : Value) (c : Ci) (w : World) (h : IsC w v c) (hG : Good c) :
    Calls Tryd.prog 45 #[v] w fun e w' => ∃ vw, e = .returned vw ∧ NewU w.heap.size w' vw (wordsI c) ∧ Below w.heap.size w w' := by
  obtain ⟨hlog, u, rfl, hL⟩ := h
  obtain ⟨hls, hll, a, cap, rfl, hr⟩ := hL
  have Hr := Lib.hid hr
  have HG := Lib.hid hG
  clear hr hls hG
  have hc0 := HG.out.log0
  have hc4 := HG.out.log4
  have hn4 := HG.out.n4
  go_enter Tryd.func45, Tryd.ntmps45
  go_wp2_with (fail)
  obtain ⟨W1, hW, k0, k1, B1, s1⟩ := copied2' w (.int .i64 c.log) (.slice a c.layers.length cap) 24
  rw [hW]
  have h1n := NewU.lit2 W1 c.log (c.layers.length : Int) ⟨by omega, by omega⟩ ⟨by omega, by omega⟩
  obtain ⟨W2, hW2⟩ : ∃ W2, W1.alloc (.cells #[.int .u64 c.log, .int .u64 (c.layers.length : Int)] 46) = W2 := ⟨_, rfl⟩
  have B2 : Below W1.heap.size W1 W2 := by rw [← hW2]; exact below_alloc _ _
  rw [hW2] at h1n ⊢
  have HN2 := Lib.hid (show NewU W1.heap.size W2 (.slice (some ⟨w.heap.size + 1, 0, none⟩) 2 2) (wordsTo c 0) from by rw [← s1]; exact h1n)
  have HB2 := Lib.hid B2
  obtain ⟨tb, htb⟩ : ∃ tb, tb = w.heap.size := ⟨_, rfl⟩
  rw [← htb] at k0 k1 s1
  try rw [← htb]
  rw [← htb] at HN2
  have HX1 := Lib.hid (show Boxed tb (.int .i64 c.log) (.slice a c.layers.length cap) W1 from ⟨k0, k1, by omega⟩)
  have H1 := Lib.hid B1
  clear hW s1 k0 k1 B1 h1n hW2 B2 htb
  go_loopw [4, 3] (fun i vo wr => ∃ (k : Nat) (vx : Value), vx = vo ∧ k ≤ c.layers.length ∧ i = .int .i64 (k : Int) ∧ Hid (NewU W1.heap.size wr vx (wordsTo c k)) ∧ Hid (Below W1.heap.size W1 wr)) (fun i _ _ => c.layers.length - (intOf i).toNat)
  case atStart => exact ⟨0, _, rfl, by omega, rfl, HN2.out, HB2.out⟩
  case round =>
    obtain ⟨k, vx, hvx, hk, rfl, HN, HB⟩ := hrel
    subst hvx
    have HXr := Lib.hid (HX1.out.go HB.out)
    have q0 := HXr.out.c0; have q1 := HXr.out.c1
    have Hbr := Lib.hid (below_two H1.out HB.out)
    by_cases hz : k < c.layers.length
    · obtain ⟨b, off, rfl, hblt, hcell⟩ := Hr.out (by omega)
      obtain ⟨c1, u, c2, hg⟩ := hcell k hz
      obtain ⟨hgi, hgl, ag, cg, rfl, hgr⟩ := hg
      have d1 := (Hbr.out.cell (p := ⟨b, off + k * 2, none⟩) (by exact hblt)).trans c1
      have C2 := Lib.hid (show ∀ X, Below w.heap.size w X → X.cell? ⟨b, off + k * 2 + 1, none⟩ = some (.slice ag (aty c.layers k).gates.length cg) from fun X hX => (hX.cell (p := ⟨b, off + k * 2 + 1, none⟩) (by exact hblt)).trans c2)
      have Hg := Lib.hid hgr
      have l0 := HG.out.l0 k hz
      have l4 := HG.out.l4 k hz
      have HW0 := Lib.hid (wordsAt_zero c k)
      have HWs := Lib.hid (fun j (h : j < (aty c.layers k).gates.length) => wordsAt_succ c k h)
      have HWe := Lib.hid (wordsAt_all c hz)
      have HWl := Lib.hid (show ∀ j, j ≤ (aty c.layers k).gates.length → (wordsAt c k j).length ≤ 500 from fun j hj => by
        have h1 := wordsTo_len HG.out k hk
        have h2 := wordsAt_len (c := c) k j hj
        have h3 := HG.out.len k hz
        have h4 := (pow4 (HG.out.l4 k hz)).2
        omega)
      have HGt := Lib.hid (show ∀ j, j < (aty c.layers k).gates.length → (0 ≤ (atg (aty c.layers k).gates j).a ∧ (atg (aty c.layers k).gates j).a ≤ 16) ∧ (0 ≤ (atg (aty c.layers k).gates j).b ∧ (atg (aty c.layers k).gates j).b ≤ 16) from fun j hj => by
        have h1 := of_decide_eq_true (HG.out.gate k hz j hj)
        have h2 := (pow4 (HG.out.below4 (k := k) (by omega))).2
        omega)
      have hT := Lib.hid (show (wordsTo c k).length ≤ 500 from by have := wordsTo_len HG.out k hk; omega)
      have hki : (k : Int) < (c.layers.length : Int) := by omega
      clear hcell c1 c2 hgr hgi
      generalize (aty c.layers k).gates = gs at *
      generalize (aty c.layers k).log = lg at *
      obtain ⟨wo, rfl⟩ : ∃ x : World, x = wr := ⟨_, rfl⟩
      have hszW : W1.heap.size ≤ wo.heap.size := HB.out.size
      go_wp2_with (at_builtin; refine wpList_appU rfl _ _ (by rfl) W1.heap.size vx (wordsTo c k) (by rfl) HN.out lg (by rfl) ⟨by omega, by omega⟩ (by have := hT.out; omega) hszW ?_; intro v3 w3 hn3 hb3; have HN3 := Lib.hid (show NewU W1.heap.size w3 v3 (wordsAt c k 0) by rw [HW0.out]; exact hn3); have HB3 := Lib.hid (HB.out.trans hb3); clear hn3 hb3)
      clear q0 q1 d1
      go_loopw [5, 3] (fun i vo w2 => ∃ (j : Nat) (vj : Value), vj = vo ∧ j ≤ gs.length ∧ i = .int .i64 (j : Int) ∧ Hid (NewU W1.heap.size w2 vj (wordsAt c k j)) ∧ Hid (Below W1.heap.size W1 w2)) (fun i _ _ => gs.length - (intOf i).toNat)
      case atStart => exact ⟨0, _, rfl, by omega, rfl, HN3.out, HB3.out⟩
      case round =>
        obtain ⟨j, vj, hvj, hj, rfl, HNj, HBj⟩ := hrel
        subst hvj
        have HXj := Lib.hid (HX1.out.go HBj.out)
        have Hbj := Lib.hid (below_two H1.out HBj.out)
        have q0 := HXj.out.c0; have q1 := HXj.out.c1
        have d2 := C2.out wr Hbj.out
        by_cases hjz : j < gs.length
        · obtain ⟨b2, off2, rfl, hb2lt, hgc⟩ := Hg.out (by omega)
          obtain ⟨c1, c2, c3⟩ := hgc j hjz
          have f1 := (Hbj.out.cell (p := ⟨b2, off2 + j * 3, none⟩) (by exact hb2lt)).trans c1
          have f2 := (Hbj.out.cell (p := ⟨b2, off2 + j * 3 + 1, none⟩) (by exact hb2lt)).trans c2
          have f3 := (Hbj.out.cell (p := ⟨b2, off2 + j * 3 + 2, none⟩) (by exact hb2lt)).trans c3
          obtain ⟨⟨ga0, ga1⟩, gb0, gb1⟩ := HGt.out j hjz
          have Hs := Lib.hid (HWs.out j hjz)
          have Hl := Lib.hid (HWl.out j (by omega))
          have hsz2 := HBj.out.size
          have hji : (j : Int) < (gs.length : Int) := by omega
          clear c1 c2 c3 hgc
          generalize (atg gs j).mul = gm at *
          generalize (atg gs j).a = A at *
          generalize (atg gs j).b = Bb at *
          cases gm
          · obtain ⟨wv, rfl⟩ : ∃ x : World, x = wr := ⟨_, rfl⟩
            obtain ⟨X, hX, t0, t1, t2, hXb, hXs⟩ := copied3' wv (.bool false) (.int .i64 A) (.int .i64 Bb) 80
            have HNx := Lib.hid (show NewU W1.heap.size X vj (wordsAt c k j) from HNj.out.below hXb (Nat.le_refl _))
            have HBx := Lib.hid (HBj.out.trans (hXb.mono hsz2))
            have hsX : W1.heap.size ≤ X.heap.size := by omega
            have HX := Lib.hid hX; have HXs := Lib.hid hXs
            clear hX hXb hXs
            go_wp2_with (at_builtin; try rw [HX.out]; refine wpList_appU3 rfl _ _ (by rfl) W1.heap.size vj (wordsAt c k j) (by rfl) HNx.out 0 A Bb (by rw [HXs.out]; rfl) U64.zero ⟨by omega, by omega⟩ ⟨by omega, by omega⟩ (by have := Hl.out; omega) hsX ?_; intro v5 w5 hn5 hb5; have HN5 := Lib.hid (show NewU W1.heap.size w5 v5 (wordsAt c k (j + 1)) by rw [Hs.out]; exact hn5); have HB5 := Lib.hid (HBx.out.trans hb5); clear hn5 hb5)
            go_roundw
            case rel => exact ⟨j + 1, _, rfl, by omega, by go_num, HN5.out, HB5.out⟩
            case measure => simp [intOf]; omega
          · obtain ⟨wv, rfl⟩ : ∃ x : World, x = wr := ⟨_, rfl⟩
            obtain ⟨X, hX, t0, t1, t2, hXb, hXs⟩ := copied3' wv (.bool true) (.int .i64 A) (.int .i64 Bb) 80
            have HNx := Lib.hid (show NewU W1.heap.size X vj (wordsAt c k j) from HNj.out.below hXb (Nat.le_refl _))
            have HBx := Lib.hid (HBj.out.trans (hXb.mono hsz2))
            have hsX : W1.heap.size ≤ X.heap.size := by omega
            have HX := Lib.hid hX; have HXs := Lib.hid hXs
            clear hX hXb hXs
            go_wp2_with (at_builtin; try rw [HX.out]; refine wpList_appU3 rfl _ _ (by rfl) W1.heap.size vj (wordsAt c k j) (by rfl) HNx.out 1 A Bb (by rw [HXs.out]; rfl) U64.one ⟨by omega, by omega⟩ ⟨by omega, by omega⟩ (by have := Hl.out; omega) hsX ?_; intro v5 w5 hn5 hb5; have HN5 := Lib.hid (show NewU W1.heap.size w5 v5 (wordsAt c k (j + 1)) by rw [Hs.out]; exact hn5); have HB5 := Lib.hid (HBx.out.trans hb5); clear hn5 hb5)
            go_roundw
            case rel => exact ⟨j + 1, _, rfl, by omega, by go_num, HN5.out, HB5.out⟩
            case measure => simp [intOf]; omega
        · obtain rfl : j = gs.length := by omega
          have HNe := Lib.hid (show NewU W1.heap.size wr _ (wordsTo c (k + 1)) by rw [← HWe.out]; exact HNj.out)
          go_wp2
          go_roundw
          case rel => exact ⟨k + 1, _, rfl, by omega, by go_num, HNe.out, HBj.out⟩
          case measure => simp [intOf]; omega
    · obtain rfl : k = c.layers.length := by omega
      go_wp2
      go_ret
      exact ⟨_, rfl, by rw [← wordsTo_all]; exact HN.out.mono H1.out.size, Hbr.out⟩
/-- a sponge of the reference's at sb, and the draws that it gave, from block B on -/
structure RTell (w : World) (B sb : Nat) (vd : Value) (t : Tl) : Prop where
  sp : RSpAt w sb t.s
  row : NewU B w vd t.ds
  sbB : B ≤ sb
theorem RTell.go {w w' : World} {B sb : Nat} {vd : Value} {t : Tl} (h : RTell w B sb vd t) (hb : Below w.heap.size w w') : RTell w' B sb vd t :=
  ⟨(hb.block sb (blk_lt h.sp)).trans h.sp, h.row.below hb (Nat.le_refl _), h.sbB⟩
theorem RTell.took {w w' : World} {B sb : Nat} {vd : Value} {t : Tl} {s : St} (h : RTell w B sb vd t) (hs : RSpAt w' sb s) (hg : w.grownBy w' (some sb)) : RTell w' B sb vd ⟨s, t.ds⟩ :=
  ⟨hs, h.row.grownOther hg (fun g hv e => h.row.apart h.sp (by decide) g hv (by cases e; rfl)), h.sbB⟩
theorem RTell.app {w w' : World} {B sb : Nat} {vd vd' : Value} {t : Tl} {ds : List Int} (h : RTell w B sb vd t) (hn : NewU B w' vd' ds) (hg : w.grownBy w' vd.ownBlock) : RTell w' B sb vd' ⟨t.s, ds⟩ :=
  ⟨(hg.block sb (blk_lt h.sp) (fun e => h.row.apart h.sp (by decide) sb e.symm rfl)).trans h.sp, hn, h.sbB⟩
theorem rtell_take (w : World) (B sb : Nat) (vd : Value) (t : Tl) (h : RTell w B sb vd t) (hB : B ≤ w.heap.size) (v : Value) (l : List Int) (hp : RowU w v l) (hs : Sep v sb) (hl : l.length ≤ 1000) :
    Calls Tryd.prog 88 #[.pointer (some ⟨sb, 0, none⟩), v] w fun e w' => e = .returned (.tuple #[]) ∧ RTell w' B sb vd ⟨takeL l t.s, t.ds⟩ ∧ Below B w w' :=
  (rsponge_Take sb t.s v l w h.sp hp hs hl).mono fun _ _ ⟨he, h1, h2⟩ => ⟨he, h.took h1 h2, below_of_grownBy h2 h.sbB hB⟩
theorem rtell_give (w : World) (B sb : Nat) (vd : Value) (t : Tl) (h : RTell w B sb vd t) (hB : B ≤ w.heap.size) :
    Calls Tryd.prog 89 #[.pointer (some ⟨sb, 0, none⟩)] w fun e w' => e = .returned (.int .u64 (psi t.s.y)) ∧ RTell w' B sb vd ⟨mix t.s, t.ds⟩ ∧ Below B w w' :=
  (rsponge_Give sb t.s w h.sp).mono fun _ _ ⟨he, h1, h2⟩ => ⟨he, h.took h1 h2, below_of_grownBy h2 h.sbB hB⟩
end Go.Proofs.YtnleihjdllpniaaDoor
