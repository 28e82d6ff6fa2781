/- Several texts in one: RDrawn, RDrawnW. What each says, and its conditions, stands at its head. -/
import Derived.Test.YtlfneeobnihocaaGreatDoorBadW
import Derived.Test.YtlfneeobnihocaaGreatDoorRNeed
import Derived.Test.YtlfneeobnihocaaGreatDoorRSponge
/- The walks of the reference's Words and Drawn. The circuit is right, the proof has its shape; the lists are no longer than a sponge takes. -/
namespace Go.Proofs.YtlfneeobnihocaaGreatDoor
set_option maxRecDepth 100000
set_option linter.unusedVariables false
open Go.RowKit Tally
open Go.Sort (grow)
set_option maxHeartbeats 4000000 in
theorem ref_Words (v : Value) (c : Ci) (w : World) (h : IsC w v c) (hG : Good c) :
  Calls Tryz.prog 126 #[v] w fun e w' => ∃ vw, e = .returned vw ∧ NewU w.heap.size w' vw (wordsI c) ∧ Below w.heap.size w w' := by
 obtain ⟨hlog, u, rfl, hL⟩ := h
 obtain ⟨hls, hll, a, cap, rfl, hr⟩ := hL
 have Hr := zH hr
 have HG := zH hG
 clear hr hls hG
 have hc0 := HG.out.log0
 have hc4 := HG.out.log4
 have hn4 := HG.out.n4
 go_enter Tryz.func126, Tryz.ntmps126
 go_wp2_with (fail)
 obtain ⟨W1, hW, k0, k1, B1, s1⟩ := copied2' w (.int .i64 c.log) (.slice a c.layers.length cap) 62
 rw [hW]
 have h1n := NewU.lit2 W1 c.log (c.layers.length : Int) ⟨by omega, by omega⟩ ⟨by omega, by omega⟩
 obtain ⟨W2, hW2⟩ : ∃ W2, W1.alloc (.cells #[.int .u64 c.log, .int .u64 (c.layers.length : Int)] 57) = W2 := ⟨_, rfl⟩
 have B2 : Below W1.heap.size W1 W2 := by rw [← hW2]; exact below_alloc _ _
 rw [hW2] at h1n ⊢
 have HN2 := zH (show NewU W1.heap.size W2 (.slice (some ⟨w.heap.size + 1, 0, none⟩) 2 2) (wordsTo c 0) from by rw [← s1]; exact h1n)
 have HB2 := zH B2
 obtain ⟨tb, htb⟩ : ∃ tb, tb = w.heap.size := ⟨_, rfl⟩
 rw [← htb] at k0 k1 s1
 try rw [← htb]
 rw [← htb] at HN2
 have HX1 := zH (show Boxed tb (.int .i64 c.log) (.slice a c.layers.length cap) W1 from ⟨k0, k1, by omega⟩)
 have H1 := zH B1
 clear hW s1 k0 k1 B1 h1n hW2 B2 htb
 go_loopw [4, 3] (fun i vo wr => ∃ (k : Nat) (vx : Value), vx = vo ∧ k ≤ c.layers.length ∧ i = .int .i64 (k : Int) ∧ Hid (NewU W1.heap.size wr vx (wordsTo c k)) ∧ Hid (Below W1.heap.size W1 wr)) (fun i _ _ => c.layers.length - (intOf i).toNat)
 case atStart => exact ⟨0, _, rfl, by omega, rfl, HN2.out, HB2.out⟩
 case round =>
  obtain ⟨k, vx, hvx, hk, rfl, HN, HB⟩ := hrel
  subst hvx
  have HXr := zH (HX1.out.go HB.out)
  have q0 := HXr.out.c0; have q1 := HXr.out.c1
  have Hbr := zH (below_two H1.out HB.out)
  by_cases hz : k < c.layers.length
  ·obtain ⟨b, off, rfl, hblt, hcell⟩ := Hr.out (by omega)
   obtain ⟨c1, u, c2, hg⟩ := hcell k hz
   obtain ⟨hgi, hgl, ag, cg, rfl, hgr⟩ := hg
   have d1 := (Hbr.out.cell (p := ⟨b, off + k * 2, none⟩) (by exact hblt)).trans c1
   have C2 := zH (show ∀ X, Below w.heap.size w X → X.cell? ⟨b, off + k * 2 + 1, none⟩ = some (.slice ag (aty c.layers k).gates.length cg) from fun X hX => (hX.cell (p := ⟨b, off + k * 2 + 1, none⟩) (by exact hblt)).trans c2)
   have Hg := zH hgr
   have l0 := HG.out.l0 k hz
   have l4 := HG.out.l4 k hz
   have HW0 := zH (wordsAt_zero c k)
   have HWs := zH (fun j (h : j < (aty c.layers k).gates.length) => wordsAt_succ c k h)
   have HWe := zH (wordsAt_all c hz)
   have HWl := zH (show ∀ j, j ≤ (aty c.layers k).gates.length → (wordsAt c k j).length ≤ 500 from fun j hj => by
    have h1 := wordsTo_len HG.out k hk
    have h2 := wordsAt_len (c := c) k j hj
    have h3 := HG.out.len k hz
    have h4 := (pow4 (HG.out.l4 k hz)).2
    omega)
   have HGt := zH (show ∀ j, j < (aty c.layers k).gates.length → (0 ≤ (atg (aty c.layers k).gates j).a ∧ (atg (aty c.layers k).gates j).a ≤ 16) ∧ (0 ≤ (atg (aty c.layers k).gates j).b ∧ (atg (aty c.layers k).gates j).b ≤ 16) from fun j hj => by
    have h1 := of_decide_eq_true (HG.out.gate k hz j hj)
    have h2 := (pow4 (HG.out.below4 (k := k) (by omega))).2
    omega)
   have hT := zH (show (wordsTo c k).length ≤ 500 from by have := wordsTo_len HG.out k hk; omega)
   have hki : (k : Int) < (c.layers.length : Int) := by omega
   clear hcell c1 c2 hgr hgi
   generalize (aty c.layers k).gates = gs at *
   generalize (aty c.layers k).log = lg at *
   obtain ⟨wo, rfl⟩ : ∃ x : World, x = wr := ⟨_, rfl⟩
   have hszW : W1.heap.size ≤ wo.heap.size := HB.out.size
   go_wp2_with (at_builtin; refine wpList_appU rfl _ _ (by rfl) W1.heap.size vx (wordsTo c k) (by rfl) HN.out lg (by rfl) ⟨by omega, by omega⟩ (by have := hT.out; omega) hszW ?_; intro v3 w3 hn3 hb3; have HN3 := zH (show NewU W1.heap.size w3 v3 (wordsAt c k 0) by rw [HW0.out]; exact hn3); have HB3 := zH (HB.out.trans hb3); clear hn3 hb3)
   clear q0 q1 d1
   go_loopw [5, 3] (fun i vo w2 => ∃ (j : Nat) (vj : Value), vj = vo ∧ j ≤ gs.length ∧ i = .int .i64 (j : Int) ∧ Hid (NewU W1.heap.size w2 vj (wordsAt c k j)) ∧ Hid (Below W1.heap.size W1 w2)) (fun i _ _ => gs.length - (intOf i).toNat)
   case atStart => exact ⟨0, _, rfl, by omega, rfl, HN3.out, HB3.out⟩
   case round =>
    obtain ⟨j, vj, hvj, hj, rfl, HNj, HBj⟩ := hrel
    subst hvj
    have HXj := zH (HX1.out.go HBj.out)
    have Hbj := zH (below_two H1.out HBj.out)
    have q0 := HXj.out.c0; have q1 := HXj.out.c1
    have d2 := C2.out wr Hbj.out
    by_cases hjz : j < gs.length
    ·obtain ⟨b2, off2, rfl, hb2lt, hgc⟩ := Hg.out (by omega)
     obtain ⟨c1, c2, c3⟩ := hgc j hjz
     have f1 := (Hbj.out.cell (p := ⟨b2, off2 + j * 3, none⟩) (by exact hb2lt)).trans c1
     have f2 := (Hbj.out.cell (p := ⟨b2, off2 + j * 3 + 1, none⟩) (by exact hb2lt)).trans c2
     have f3 := (Hbj.out.cell (p := ⟨b2, off2 + j * 3 + 2, none⟩) (by exact hb2lt)).trans c3
     obtain ⟨⟨ga0, ga1⟩, gb0, gb1⟩ := HGt.out j hjz
     have Hs := zH (HWs.out j hjz)
     have Hl := zH (HWl.out j (by omega))
     have hsz2 := HBj.out.size
     have hji : (j : Int) < (gs.length : Int) := by omega
     clear c1 c2 c3 hgc
     generalize (atg gs j).mul = gm at *
     generalize (atg gs j).a = A at *
     generalize (atg gs j).b = Bb at *
     cases gm
     ·obtain ⟨wv, rfl⟩ : ∃ x : World, x = wr := ⟨_, rfl⟩
      obtain ⟨X, hX, t0, t1, t2, hXb, hXs⟩ := copied3' wv (.bool false) (.int .i64 A) (.int .i64 Bb) 126
      have HNx := zH (show NewU W1.heap.size X vj (wordsAt c k j) from HNj.out.below hXb (Nat.le_refl _))
      have HBx := zH (HBj.out.trans (hXb.mono hsz2))
      have hsX : W1.heap.size ≤ X.heap.size := by omega
      have HX := zH hX; have HXs := zH hXs
      clear hX hXb hXs
      go_wp2_with (at_builtin; try rw [HX.out]; refine wpList_appU3 rfl _ _ (by rfl) W1.heap.size vj (wordsAt c k j) (by rfl) HNx.out 0 A Bb (by rw [HXs.out]; rfl) U64.zero ⟨by omega, by omega⟩ ⟨by omega, by omega⟩ (by have := Hl.out; omega) hsX ?_; intro v5 w5 hn5 hb5; have HN5 := zH (show NewU W1.heap.size w5 v5 (wordsAt c k (j + 1)) by rw [Hs.out]; exact hn5); have HB5 := zH (HBx.out.trans hb5); clear hn5 hb5)
      go_roundw
      case rel => exact ⟨j + 1, _, rfl, by omega, by go_num, HN5.out, HB5.out⟩
      case measure => simp [intOf]; omega
     ·obtain ⟨wv, rfl⟩ : ∃ x : World, x = wr := ⟨_, rfl⟩
      obtain ⟨X, hX, t0, t1, t2, hXb, hXs⟩ := copied3' wv (.bool true) (.int .i64 A) (.int .i64 Bb) 126
      have HNx := zH (show NewU W1.heap.size X vj (wordsAt c k j) from HNj.out.below hXb (Nat.le_refl _))
      have HBx := zH (HBj.out.trans (hXb.mono hsz2))
      have hsX : W1.heap.size ≤ X.heap.size := by omega
      have HX := zH hX; have HXs := zH hXs
      clear hX hXb hXs
      go_wp2_with (at_builtin; try rw [HX.out]; refine wpList_appU3 rfl _ _ (by rfl) W1.heap.size vj (wordsAt c k j) (by rfl) HNx.out 1 A Bb (by rw [HXs.out]; rfl) U64.one ⟨by omega, by omega⟩ ⟨by omega, by omega⟩ (by have := Hl.out; omega) hsX ?_; intro v5 w5 hn5 hb5; have HN5 := zH (show NewU W1.heap.size w5 v5 (wordsAt c k (j + 1)) by rw [Hs.out]; exact hn5); have HB5 := zH (HBx.out.trans hb5); clear hn5 hb5)
      go_roundw
      case rel => exact ⟨j + 1, _, rfl, by omega, by go_num, HN5.out, HB5.out⟩
      case measure => simp [intOf]; omega
    ·obtain rfl : j = gs.length := by omega
     have HNe := zH (show NewU W1.heap.size wr _ (wordsTo c (k + 1)) by rw [← HWe.out]; exact HNj.out)
     go_wp2
     go_roundw
     case rel => exact ⟨k + 1, _, rfl, by omega, by go_num, HNe.out, HBj.out⟩
     case measure => simp [intOf]; omega
  ·obtain rfl : k = c.layers.length := by omega
   go_wp2
   go_ret
   exact ⟨_, rfl, by rw [← wordsTo_all]; exact HN.out.mono H1.out.size, Hbr.out⟩
structure RTell (w : World) (B sb : Nat) (vd : Value) (t : Tl) : Prop where
 sp : RSpAt w sb t.s
 row : NewU B w vd t.ds
 sbB : B ≤ sb
theorem RTell.go {w w' : World} {B sb : Nat} {vd : Value} {t : Tl} (h : RTell w B sb vd t) (hb : Below w.heap.size w w') : RTell w' B sb vd t :=
 ⟨(hb.block sb (blk_lt h.sp)).trans h.sp, h.row.below hb (Nat.le_refl _), h.sbB⟩
theorem RTell.took {w w' : World} {B sb : Nat} {vd : Value} {t : Tl} {s : St} (h : RTell w B sb vd t) (hs : RSpAt w' sb s) (hg : w.grownBy w' (some sb)) : RTell w' B sb vd ⟨s, t.ds⟩ :=
 ⟨hs, h.row.grownOther hg (fun g hv e => h.row.apart h.sp (by decide) g hv (by cases e; rfl)), h.sbB⟩
theorem RTell.app {w w' : World} {B sb : Nat} {vd vd' : Value} {t : Tl} {ds : List Int} (h : RTell w B sb vd t) (hn : NewU B w' vd' ds) (hg : w.grownBy w' vd.ownBlock) : RTell w' B sb vd' ⟨t.s, ds⟩ :=
 ⟨(hg.block sb (blk_lt h.sp) (fun e => h.row.apart h.sp (by decide) sb e.symm rfl)).trans h.sp, hn, h.sbB⟩
theorem rtell_take (w : World) (B sb : Nat) (vd : Value) (t : Tl) (h : RTell w B sb vd t) (hB : B ≤ w.heap.size) (v : Value) (l : List Int) (hp : RowU w v l) (hs : Sep v sb) (hl : l.length ≤ 1000) :
  Calls Tryz.prog 115 #[.pointer (some ⟨sb, 0, none⟩), v] w fun e w' => e = .returned (.tuple #[]) ∧ RTell w' B sb vd ⟨takeL l t.s, t.ds⟩ ∧ Below B w w' :=
 (rsponge_Take sb t.s v l w h.sp hp hs hl).mono fun _ _ ⟨he, h1, h2⟩ => ⟨he, h.took h1 h2, below_of_grownBy h2 h.sbB hB⟩
theorem rtell_give (w : World) (B sb : Nat) (vd : Value) (t : Tl) (h : RTell w B sb vd t) (hB : B ≤ w.heap.size) :
  Calls Tryz.prog 116 #[.pointer (some ⟨sb, 0, none⟩)] w fun e w' => e = .returned (.int .u64 (psi t.s.y)) ∧ RTell w' B sb vd ⟨mix t.s, t.ds⟩ ∧ Below B w w' :=
 (rsponge_Give sb t.s w h.sp).mono fun _ _ ⟨he, h1, h2⟩ => ⟨he, h.took h1 h2, below_of_grownBy h2 h.sbB hB⟩
end Go.Proofs.YtlfneeobnihocaaGreatDoor
/- The walk of the reference's Drawn. The circuit is right, the proof has its shape; the lists are no longer than a sponge takes. -/
namespace Go.Proofs.YtlfneeobnihocaaGreatDoor
set_option maxRecDepth 100000
set_option linter.unusedVariables false
open Go.RowKit Tally
open Go.Sort (grow)
set_option maxHeartbeats 8000000 in
theorem ref_Drawn (v : Value) (c : Ci) (vi vo vp : Value) (inp out : List Int) (ps : List Pi) (w : World) (h : IsC w v c) (hG : Good c) (hi : RowU w vi inp) (ho : RowU w vo out) (hp : IsP w vp ps) (hS : ShapedI c ps) (hil : inp.length ≤ 1000) (hol : out.length ≤ 1000) :
  Calls Tryz.prog 85 #[v, vi, vo, vp] w fun e w' => ∃ vd, e = .returned vd ∧ NewU w.heap.size w' vd (drawnI c inp out ps) ∧ Below w.heap.size w w' := by
 have HC := zH h; have HG := zH hG; have Hi := zH hi; have Ho := zH ho; have HS := zH hS; have Hil := zH hil; have Hol := zH hol
 have hn1 := hG.n1; have hn4 := hG.n4
 have hD40 := drawsN_le hG
 obtain ⟨ac, cc, rfl⟩ := h.shape
 obtain ⟨vs, rfl, hps⟩ := hp
 have Hps := zH hps
 obtain ⟨_, aP, cP, rfl, hpr⟩ := hps
 obtain ⟨bP, oP, rfl, -⟩ := hpr (by rw [hS.1]; omega)
 rw [hS.1] at Hps ⊢
 obtain ⟨hlog, uu, e, hL⟩ := h
 simp only [Value.agg.injEq, Array.mk.injEq, List.cons.injEq] at e
 obtain ⟨-, rfl, -⟩ := e
 obtain ⟨hls, hll, a', cap', e, hr⟩ := hL
 cases e
 obtain ⟨m, hm⟩ : ∃ m, c.layers.length = m + 1 := ⟨c.layers.length - 1, by omega⟩
 have hbl : belowLog c c.layers.length = (aty c.layers m).log := by rw [hm, belowLog_succ]
 obtain ⟨bC, oC, rfl, hCl, hcell⟩ := hr (by omega)
 obtain ⟨c1, _⟩ := hcell m (by omega)
 have t0 := hG.below0 (k := c.layers.length) (Nat.le_refl _)
 have t4 := hG.below4 (k := c.layers.length) (Nat.le_refl _)
 obtain ⟨T, hT⟩ : ∃ T, T = (belowLog c c.layers.length).toNat := ⟨_, rfl⟩
 have hTi : belowLog c c.layers.length = (T : Int) := by rw [hT]; exact (Int.toNat_of_nonneg t0).symm
 have hT4 : T ≤ 4 := by omega
 have HTe := zH hT
 rw [← hbl, hTi] at c1
 have Hc1 := zH c1
 have hs1 : (c.layers.length : Int) - 1 = (m : Int) := by omega
 have hml : (m : Int) < (c.layers.length : Int) := by omega
 have hm0 : (0 : Int) ≤ (m : Int) := by omega
 clear hG hi ho hpr hS hil hol hcell hr hls hll hlog hbl hTi t0 t4 hm c1 hT
 go_enter Tryz.func85, Tryz.ntmps85
 go_wp2_with (fail)
 obtain ⟨W1, tb, hW, htb, hb1, hb2, s1, B1⟩ := two_blocks' w #[.int .i64 c.log, .slice (some ⟨bC, oC, none⟩) c.layers.length cc] #[.slice (some ⟨bP, oP, none⟩) c.layers.length cP] 62 93
 rw [hW, ← htb]
 have H1 := zH B1
 have C1 := zH (show ∀ X, Below W1.heap.size W1 X → X.cell? ⟨tb, 0, none⟩ = some (.int .i64 c.log) ∧ X.cell? ⟨tb, 1, none⟩ = some (.slice (some ⟨bC, oC, none⟩) c.layers.length cc) ∧ X.cell? ⟨tb + 1, 0, none⟩ = some (.slice (some ⟨bP, oP, none⟩) c.layers.length cP) ∧ X.cell? ⟨bC, oC + m * 2, none⟩ = some (.int .i64 (T : Int)) from fun X hX =>
  ⟨cell_blk ((hX.block _ (blk_lt hb1)).trans hb1) 0, cell_blk ((hX.block _ (blk_lt hb1)).trans hb1) 1, cell_blk ((hX.block _ (blk_lt hb2)).trans hb2) 0, ((H1.out.trans (hX.mono H1.out.size)).cell (p := ⟨bC, oC + m * 2, none⟩) hCl).trans Hc1.out⟩)
 clear hW htb hb1 hb2 s1 B1
 refine (rsponge_New 1 W1 (U64.mk (by decide) (by decide))).mono ?_
 rintro e w2 ⟨sb, rfl, hsb, hS2, hb2⟩
 have HA2 := zH (show RTell w2 W1.heap.size sb (.slice none 0 0) ⟨newS 1, []⟩ from ⟨hS2, NewU.nil _ _, hsb⟩)
 have HB2 := zH hb2
 have Hsb := zH hsb
 obtain ⟨q0, q1, q2, q3⟩ := C1.out w2 hb2
 clear hS2 hb2 hsb
 go_wp2_with (fail)
 refine (ref_Words _ c w2 (HC.out.go (below_two H1.out HB2.out)) HG.out).mono ?_
 rintro e w3 ⟨vw, rfl, hn3, hb3⟩
 have HA3 := zH (HA2.out.go hb3)
 have HB3 := zH (HB2.out.trans (hb3.mono HB2.out.size))
 have HN3 := zH hn3
 have Hlt := zH (blk_lt HA2.out.sp)
 clear q0 q1 q2 q3 hn3 hb3
 go_wp2_with (fail)
 refine (rtell_take _ _ _ _ _ HA3.out HB3.out.size _ _ HN3.out.row (fun x n cp hv h0 => by
  intro e
  have h1 := (HN3.out.lt (g := x.block) (by
   obtain ⟨g, cap, hv2, _⟩ := HN3.out.shape (by have := wordsTo_all c; rw [← this]; unfold wordsTo; simp)
   rw [hv2] at hv ⊢; cases hv; rfl)).1
  have h2 := Hlt.out
  omega) (by have := wordsI_len HG.out; omega)).mono ?_
 rintro e w4 ⟨rfl, ha4, hb4⟩
 have HA4 := zH ha4
 have HB4 := zH (HB3.out.trans hb4)
 clear ha4 hb4
 go_wp2_with (fail)
 refine (rtell_take _ _ _ _ _ HA4.out HB4.out.size _ _ (Hi.out.go (below_two H1.out HB4.out)) (Hi.out.sep (Nat.le_trans H1.out.size Hsb.out)) Hil.out).mono ?_
 rintro e w5 ⟨rfl, ha5, hb5⟩
 have HA5 := zH ha5
 have HB5 := zH (HB4.out.trans hb5)
 clear ha5 hb5
 go_wp2_with (fail)
 refine (rtell_take _ _ _ _ _ HA5.out HB5.out.size _ _ (Ho.out.go (below_two H1.out HB5.out)) (Ho.out.sep (Nat.le_trans H1.out.size Hsb.out)) Hol.out).mono ?_
 rintro e w6 ⟨rfl, ha6, hb6⟩
 have HA6 := zH (show RTell w6 W1.heap.size sb (.slice none 0 0) (startT c inp out) from ha6)
 have HB6 := zH (HB5.out.trans hb6)
 clear ha6 hb6
 go_wp2_with (fail)
 go_loopw [11, 10] (fun i vd wr => ∃ (k : Nat) (vx : Value), vx = vd ∧ k ≤ T ∧ i = .int .i64 (k : Int) ∧ Hid (RTell wr W1.heap.size sb vx (gives k (startT c inp out))) ∧ Hid (Below W1.heap.size W1 wr)) (fun i _ _ => T - (intOf i).toNat)
 case atStart => exact ⟨0, _, rfl, by omega, rfl, HA6.out, HB6.out⟩
 case round =>
  obtain ⟨k, vx, hvx, hk, rfl, HA, HB⟩ := hrel
  subst hvx
  obtain ⟨q0, q1, q2, q3⟩ := C1.out wr HB.out
  by_cases hz : k < T
  ·have hki : (k : Int) < (T : Int) := by omega
   have Hl := zH (show (gives k (startT c inp out)).ds.length + 1 ≤ 17592186043904 by rw [gives_length]; show 0 + k + 1 ≤ _; omega)
   go_wp2_with (fail)
   refine (rtell_give _ _ _ _ _ HA.out HB.out.size).mono ?_
   rintro e w7 ⟨rfl, ha7, hb7⟩
   have HA7 := zH ha7
   have HB7 := zH (HB.out.trans hb7)
   have hs7 := HB7.out.size
   clear ha7 hb7
   go_wp2_with (at_builtin; refine wpList_appUg rfl _ _ (by rfl) W1.heap.size vx _ (by rfl) HA7.out.row _ (by rfl) (U64.psi _) Hl.out hs7 ?_; intro v8 w8 hn8 hb8 hg8; have HA8 := zH (show RTell w8 W1.heap.size sb v8 (Tl.give ⟨(gives k (startT c inp out)).s, (gives k (startT c inp out)).ds⟩) from HA7.out.app hn8 hg8); have HB8 := zH (HB7.out.trans hb8); clear hn8 hb8 hg8)
   go_roundw
   case rel => exact ⟨k + 1, _, rfl, by omega, by go_num, HA8.out, HB8.out⟩
   case measure => simp [intOf]; omega
  ·obtain rfl : k = T := by omega
   have HAb := zH (show RTell wr W1.heap.size sb vx (begT c inp out) by have := HA.out; unfold begT; rw [← HTe.out]; exact this)
   clear q2
   have hki : (k : Int) ≤ (k : Int) := Int.le_refl _
   go_wp2_with (fail)
   clear q0 q1 q3
   go_loopw [12, 10] (fun i vd wr => ∃ (j : Nat) (vx : Value), vx = vd ∧ j ≤ c.layers.length ∧ i = .int .i64 (j : Int) ∧ Hid (RTell wr W1.heap.size sb vx (tellL (flatP (ps.take j)) (begT c inp out))) ∧ Hid (Below W1.heap.size W1 wr)) (fun i _ _ => c.layers.length - (intOf i).toNat)
   case atStart => exact ⟨0, _, rfl, by omega, rfl, HAb.out, HB.out⟩
   case round =>
    obtain ⟨j, vy, hvy, hj, rfl, HAj, HBj⟩ := hrel
    subst hvy
    obtain ⟨q0, q1, q2, q3⟩ := C1.out wr HBj.out
    by_cases hz2 : j < c.layers.length
    ·have hji : (j : Int) < (c.layers.length : Int) := by omega
     obtain ⟨k2, hk2⟩ : ∃ k2, k2 = (belowLog c (c.layers.length - 1 - j)).toNat := ⟨_, rfl⟩
     have hk4 : k2 ≤ 4 := by have := HG.out.below4 (k := c.layers.length - 1 - j) (by omega); omega
     have hpo := HS.out.2 j (by rw [HS.out.1]; exact hz2)
     rw [← hk2] at hpo
     have Hpo := zH hpo
     obtain ⟨b', o', cp', aR, cR, bL, oL, cL, e, hlt, c2, c3, hR, hLn⟩ := Hps.out.partR (by rw [HS.out.1]; exact hz2) hpo
     simp only [Value.slice.injEq, Option.some.injEq, Addr.mk.injEq] at e
     obtain ⟨⟨rfl, rfl, -⟩, -, -⟩ := e
     have HR := zH hR; have HLn := zH hLn
     have C2 := zH (show ∀ X, Below W1.heap.size W1 X → X.cell? ⟨bP, oP + j * 2, none⟩ = some (.slice aR (2 * k2) cR) ∧ X.cell? ⟨bP, oP + j * 2 + 1, none⟩ = some (.slice (some ⟨bL, oL, none⟩) (k2 + 1) cL) from fun X hX => ⟨((H1.out.trans (hX.mono H1.out.size)).cell (p := ⟨bP, oP + j * 2, none⟩) hlt).trans c2, ((H1.out.trans (hX.mono H1.out.size)).cell (p := ⟨bP, oP + j * 2 + 1, none⟩) hlt).trans c3⟩)
     have Hlen := zH (show ∀ r, r ≤ 2 * k2 → (tellL ((atp ps j).rounds.take r) (tellL (flatP (ps.take j)) (begT c inp out))).ds.length + 1 ≤ 17592186043904 from fun r hr => by
      rw [tellL_length, tellL_length, begT_length, flatP_take_length HS.out j (by omega), List.length_take]
      have h1 := offP_le c hz2
      have h2 := hD40
      unfold drawsN at h2
      omega)
     have Hst := zH (show tellL (flatP (ps.take (j + 1))) (begT c inp out) = Tl.told (tellL ((atp ps j).rounds.take (2 * k2)) (tellL (flatP (ps.take j)) (begT c inp out))) (atp ps j).line by
      rw [flatP_take_succ _ _ (by rw [HS.out.1]; exact hz2), tellL_append]
      unfold listsP
      rw [tellL_snoc, show (atp ps j).rounds.take (2 * k2) = (atp ps j).rounds from List.take_of_length_le (by rw [Hpo.out.n]; exact Nat.le_refl _)])
     clear hk2 hpo hlt c2 c3 hR hLn
     go_wp2_with (fail)
     clear q0 q1 q2 q3
     go_loopw [13, 10] (fun i vd wr => ∃ (r : Nat) (vx : Value), vx = vd ∧ r ≤ 2 * k2 ∧ i = .int .i64 (r : Int) ∧ Hid (RTell wr W1.heap.size sb vx (tellL ((atp ps j).rounds.take r) (tellL (flatP (ps.take j)) (begT c inp out)))) ∧ Hid (Below W1.heap.size W1 wr)) (fun i _ _ => 2 * k2 - (intOf i).toNat)
     case atStart => exact ⟨0, _, rfl, by omega, rfl, HAj.out, HBj.out⟩
     case round =>
      obtain ⟨r, vz, hvz, hr, rfl, HAr, HBr⟩ := hrel
      subst hvz
      obtain ⟨q0, q1, q2, q3⟩ := C1.out wr HBr.out
      obtain ⟨p0, p1⟩ := C2.out wr HBr.out
      have Hbr := zH (below_two H1.out HBr.out)
      by_cases hz3 : r < 2 * k2
      ·obtain ⟨_, aR', cR', e, hrc⟩ := HR.out
       simp only [Value.slice.injEq] at e
       obtain ⟨rfl, e2, rfl⟩ := e
       obtain ⟨bR, oR, rfl, hbR, hrc⟩ := hrc (by rw [Hpo.out.n]; omega)
       obtain ⟨u, hu, hru⟩ := hrc r (by rw [Hpo.out.n]; exact hz3)
       have d1 := (Hbr.out.cell (p := ⟨bR, oR + r, none⟩) hbR).trans hu
       have hri : (r : Int) < ((2 * k2 : Nat) : Int) := by omega
       have hri2 : (r : Int) < 2 * (k2 : Int) := by omega
       have hr0 : (0 : Int) ≤ (r : Int) := by omega
       have Hru := zH hru
       have Hl := zH (Hlen.out r hr)
       have Hs2 := zH (show tellL ((atp ps j).rounds.take (r + 1)) (tellL (flatP (ps.take j)) (begT c inp out)) = Tl.told (tellL ((atp ps j).rounds.take r) (tellL (flatP (ps.take j)) (begT c inp out))) (atl (atp ps j).rounds r) by
        have hz' : r < (atp ps j).rounds.length := by rw [Hpo.out.n]; exact hz3
        rw [List.take_add_one, List.getElem?_eq_getElem hz']
        show tellL (_ ++ [_]) _ = _
        rw [tellL_snoc]
        congr 1
        simp [atl, List.getElem?_eq_getElem hz'])
       clear hu hru hrc e2
       generalize tellL ((atp ps j).rounds.take r) (tellL (flatP (ps.take j)) (begT c inp out)) = t at *
       go_wp2_with (fail)
       refine (rtell_take _ _ _ _ _ HAr.out HBr.out.size _ _ (Hru.out.go Hbr.out) (Hru.out.sep (Nat.le_trans H1.out.size Hsb.out)) (by rw [Hpo.out.r r hz3]; omega)).mono ?_
       rintro e w7 ⟨rfl, ha7, hb7⟩
       have HA7 := zH ha7
       have HB7 := zH (HBr.out.trans hb7)
       clear ha7 hb7 q0 q1 q2 q3 p0 p1 d1
       go_wp2_with (fail)
       refine (rtell_give _ _ _ _ _ HA7.out HB7.out.size).mono ?_
       rintro e w8 ⟨rfl, ha8, hb8⟩
       have HA8 := zH ha8
       have HB8 := zH (HB7.out.trans hb8)
       have hs8 := HB8.out.size
       clear ha8 hb8
       go_wp2_with (at_builtin; refine wpList_appUg rfl _ _ (by rfl) W1.heap.size vz _ (by rfl) HA8.out.row _ (by rfl) (U64.psi _) Hl.out hs8 ?_; intro v9 w9 hn9 hb9 hg9; have HA9 := zH (show RTell w9 W1.heap.size sb v9 (Tl.give ⟨takeL (atl (atp ps j).rounds r) t.s, t.ds⟩) from HA8.out.app hn9 hg9); have HB9 := zH (HB8.out.trans hb9); clear hn9 hb9 hg9)
       go_roundw
       case rel => exact ⟨r + 1, _, rfl, by omega, by go_num, by rw [Hs2.out]; exact HA9.out, HB9.out⟩
       case measure => simp [intOf]; omega
      ·have hri : ((2 * k2 : Nat) : Int) ≤ (r : Int) := by omega
       have hri2 : 2 * (k2 : Int) ≤ (r : Int) := by omega
       have Hre := zH (show r = 2 * k2 by omega)
       have Hl := zH (Hlen.out r hr)
       have hj0 : (0 : Int) ≤ (j : Int) := by omega
       have Hs2 := zH (show tellL (flatP (ps.take (j + 1))) (begT c inp out) = Tl.told (tellL ((atp ps j).rounds.take r) (tellL (flatP (ps.take j)) (begT c inp out))) (atp ps j).line by rw [Hst.out, Hre.out])
       generalize tellL ((atp ps j).rounds.take r) (tellL (flatP (ps.take j)) (begT c inp out)) = t at *
       go_wp2_with (fail)
       refine (rtell_take _ _ _ _ _ HAr.out HBr.out.size _ _ (HLn.out.go Hbr.out) (HLn.out.sep (Nat.le_trans H1.out.size Hsb.out)) (by rw [Hpo.out.l]; omega)).mono ?_
       rintro e w7 ⟨rfl, ha7, hb7⟩
       have HA7 := zH ha7
       have HB7 := zH (HBr.out.trans hb7)
       clear ha7 hb7 q0 q1 q2 q3 p0 p1
       go_wp2_with (fail)
       refine (rtell_give _ _ _ _ _ HA7.out HB7.out.size).mono ?_
       rintro e w8 ⟨rfl, ha8, hb8⟩
       have HA8 := zH ha8
       have HB8 := zH (HB7.out.trans hb8)
       have hs8 := HB8.out.size
       clear ha8 hb8
       go_wp2_with (at_builtin; refine wpList_appUg rfl _ _ (by rfl) W1.heap.size vz _ (by rfl) HA8.out.row _ (by rfl) (U64.psi _) Hl.out hs8 ?_; intro v9 w9 hn9 hb9 hg9; have HA9 := zH (show RTell w9 W1.heap.size sb v9 (Tl.give ⟨takeL (atp ps j).line t.s, t.ds⟩) from HA8.out.app hn9 hg9); have HB9 := zH (HB8.out.trans hb9); clear hn9 hb9 hg9)
       go_roundw
       case rel => exact ⟨j + 1, _, rfl, by omega, by go_num, by rw [Hs2.out]; exact HA9.out, HB9.out⟩
       case measure => simp [intOf]; omega
    ·obtain rfl : j = c.layers.length := by omega
     have HE := zH (show NewU W1.heap.size wr vy (drawnI c inp out ps) by
      have := HAj.out.row
      rwa [List.take_of_length_le (by rw [HS.out.1]; exact Nat.le_refl _)] at this)
     have Hbr := zH (below_two H1.out HBj.out)
     go_wp2
     go_ret
     exact ⟨_, rfl, HE.out.mono H1.out.size, Hbr.out⟩
end Go.Proofs.YtlfneeobnihocaaGreatDoor
