/- The walks of fiat's rest, part, words and begun. The circuit is right; the lists are no longer than a sponge takes. -/
import Derived.Test.YtnleihjdllpniaaDoorFiatT
namespace Go.Proofs.YtnleihjdllpniaaDoor
set_option maxRecDepth 100000
set_option linter.unusedVariables false
open Go.RowKit Tally
open Go.Sort (grow)
set_option maxHeartbeats 1000000 in
theorem fiat_rest (w : World) (B tb sb : Nat) (vd : Value) (t : Tl) (h : TellA w B tb sb vd t) (n : Nat) (hn : n ≤ 1000000) :
    Calls Tryd.prog 61 #[.pointer (some ⟨tb, 0, none⟩), .int .i64 n] w fun e w' => e = .returned (.slice (some ⟨w.heap.size, 0, none⟩) n n) ∧ NewU w.heap.size w' (.slice (some ⟨w.heap.size, 0, none⟩) n n) (padTo n t.ds) ∧ Below w.heap.size w w' := by
  have H := Lib.hid h
  have HR := Lib.hid h.row.row
  have c1 : w.cell? ⟨tb, 1, none⟩ = some _ := cell_blk h.blk 1
  have lt := h.lt.1
  clear h
  go_enter Tryd.func61, Tryd.ntmps61
  go_wp2_with (first
    | (at_make; refine wpList_makeU _ rfl _ _ rfl _ _ n rfl rfl rfl rfl (by omega) ?_; intro w1 hn1 hb1; have Hq := Lib.hid (HR.out.below hb1 (Nat.le_refl _)); have c1' := (hb1.cell (p := ⟨tb, 1, none⟩) lt).trans c1; have Hn1 := Lib.hid hn1; clear hn1)
    | (with_reducible refine wpList_copyU (o := ⟨some 13, _, _, _, _, _⟩) rfl (.tmp 8) (.tmp 12) rfl w.heap.size w.heap.size n rfl Hn1.out vd t.ds rfl Hq.out w.heap.size w hb1 (Nat.le_refl _) ?_; intro k2 w2 hn2 hb2; have Hn2 := Lib.hid hn2; clear hn2))
  go_ret
  exact ⟨rfl, Hn2.out, hb2⟩
set_option maxRecDepth 100000 in
set_option maxHeartbeats 2000000 in
theorem fiat_part (W0 w : World) (tb sb : Nat) (vd : Value) (t : Tl) (u u2 : Value) (P : Pi) (h : TellA w W0.heap.size tb sb vd t) (hb0 : Below W0.heap.size W0 w) (hu : RowUU W0 u P.rounds) (hu2 : RowU W0 u2 P.line)
    (hl : t.ds.length + P.rounds.length + 1 ≤ 100) (hr : ∀ j, j < P.rounds.length → (atl P.rounds j).length ≤ 1000) (hl2 : P.line.length ≤ 1000) :
    Calls Tryd.prog 64 #[.pointer (some ⟨tb, 0, none⟩), .agg #[u, u2]] w fun e w' => e = .returned (.tuple #[]) ∧ (∃ vd', TellA w' W0.heap.size tb sb vd' (tellL (listsP P) t)) ∧ Below W0.heap.size W0 w' := by
  have H := Lib.hid h
  have HB0 := Lib.hid hb0
  have Hr := Lib.hid hr
  have Hu2 := Lib.hid hu2
  have Hsep2 := Lib.hid (hu2.sep h.sbB)
  obtain ⟨hll, a, cap, rfl, hc⟩ := hu
  have Hc := Lib.hid hc
  clear h hb0 hr hu2 hc
  go_enter Tryd.func64, Tryd.ntmps64
  go_wp2_with (fail)
  obtain ⟨pb, hpb⟩ : ∃ pb, pb = w.heap.size := ⟨_, rfl⟩
  obtain ⟨W1, hW⟩ : ∃ W1, w.alloc (.cells #[.slice a P.rounds.length cap, u2] 82) = W1 := ⟨_, rfl⟩
  have b1 : W1.heap[pb]? = some (.cells #[.slice a P.rounds.length cap, u2] 82 (0, 0)) := by rw [hpb, ← hW]; exact alloc_blk w _
  have B1 : Below w.heap.size w W1 := by rw [← hW]; exact below_alloc _ _
  rw [hW, ← hpb]
  have H1 := Lib.hid (H.out.go B1)
  have HB1 := Lib.hid (HB0.out.trans (B1.mono HB0.out.size))
  clear hW hpb B1
  go_loopw [9] (fun i wr => ∃ (k : Nat), k ≤ P.rounds.length ∧ i = .int .i64 (k : Int) ∧ wr.heap[pb]? = some (.cells #[.slice a P.rounds.length cap, u2] 82 (0, 0)) ∧ Below W0.heap.size W0 wr ∧ Hid (∃ vd', TellA wr W0.heap.size tb sb vd' (tellL (P.rounds.take k) t))) (fun i _ => P.rounds.length - (intOf i).toNat)
  case atStart => exact ⟨0, by omega, rfl, b1, HB1.out, ⟨vd, H1.out⟩⟩
  case round =>
    obtain ⟨k, hk, rfl, hpb, hbr, HA⟩ := hrel
    obtain ⟨vd', ha⟩ := HA.out
    have HA' := Lib.hid ha
    have hsz := hbr.size
    have d0 : wr.cell? ⟨tb, 0, none⟩ = some _ := cell_blk ha.blk 0
    have d1 : wr.cell? ⟨pb, 1, none⟩ = some _ := cell_blk hpb 1
    have Hpb := Lib.hid hpb
    have Hlt := Lib.hid (tellL_length (P.rounds.take k) t)
    clear ha hpb
    by_cases hz : k < P.rounds.length
    · obtain ⟨bl, off, rfl, hblt, hcell⟩ := Hc.out (by omega)
      obtain ⟨uj, huj, hrj⟩ := hcell k hz
      have cj := (hbr.cell (p := ⟨bl, off + k, none⟩) hblt).trans huj
      have Hrow := Lib.hid (hrj.below hbr (Nat.le_refl _))
      have Hsep := Lib.hid (hrj.sep HA'.out.sbB)
      have hl1 := Hr.out k hz
      have Hstep := Lib.hid (show tellL (P.rounds.take (k + 1)) t = (tellL (P.rounds.take k) t).told (atl P.rounds k) by
        rw [List.take_add_one, List.getElem?_eq_getElem hz]
        show tellL (_ ++ [_]) t = _
        rw [tellL_snoc]
        congr 1
        simp [atl, List.getElem?_eq_getElem hz])
      clear huj hrj hcell
      go_wp2_with (fail)
      refine (fiat_take _ _ _ _ _ _ HA'.out hsz _ _ Hrow.out Hsep.out hl1).mono ?_
      rintro e w2 ⟨rfl, ht2, hb2, hk2⟩
      have HT2 := Lib.hid ht2
      have s2 := hb2.size
      clear ht2
      go_wp2_with (fail)
      refine (fiat_give _ _ _ _ _ _ HT2.out (by omega) (by show (tellL (P.rounds.take k) t).ds.length ≤ 100; rw [Hlt.out, List.length_take]; omega)).mono ?_
      rintro e w3 ⟨rfl, ⟨vd3, ht3⟩, hb3, hk3⟩
      have HT3 := Lib.hid ht3
      clear ht3
      go_wp2
      go_roundw
      case rel => exact ⟨k + 1, by omega, by go_num, hk3 _ _ (hk2 _ _ Hpb.out), (hbr.trans hb2).trans hb3, ⟨vd3, by rw [Hstep.out]; exact HT3.out⟩⟩
      case measure => simp [intOf]; omega
    · obtain rfl : k = P.rounds.length := by omega
      have Hrow := Lib.hid ((Hu2.out.below hbr (Nat.le_refl _)).go (below_drw wr))
      have HA2 := Lib.hid (HA'.out.go (below_drw wr))
      have hsz2 : W0.heap.size ≤ wr.drew.heap.size := hsz
      have hbr2 : Below W0.heap.size W0 wr.drew := below_drewN hbr 1
      go_wp2_with (fail)
      refine wp_region_still_tail 6 (by kernel_rfl) (by kernel_rfl) ?_
      simp only [List.take_succ_cons, List.take_zero, List.drop_succ_cons, List.drop_zero]
      repeat (first | still_step)
      try refine wpStill_nil ?_
      change wpList _ _ _ _ _ (World.drew _)
      go_wp2_with (fail)
      refine (fiat_take _ _ _ _ _ _ HA2.out hsz2 _ _ Hrow.out Hsep2.out hl2).mono ?_
      rintro e w2 ⟨rfl, ht2, hb2, hk2⟩
      have HT2 := Lib.hid ht2
      have s2 := hb2.size
      clear ht2
      go_wp2_with (fail)
      refine (fiat_give _ _ _ _ _ _ HT2.out (by omega) (by show (tellL (P.rounds.take P.rounds.length) t).ds.length ≤ 100; rw [Hlt.out, List.length_take]; omega)).mono ?_
      rintro e w3 ⟨rfl, ⟨vd3, ht3⟩, hb3, hk3⟩
      have HT3 := Lib.hid ht3
      clear ht3
      go_wp2
      go_end0
      refine ⟨rfl, ⟨vd3, ?_⟩, (hbr2.trans hb2).trans hb3⟩
      have e : tellL (listsP P) t = (tellL (P.rounds.take P.rounds.length) t).told P.line := by
        unfold listsP; rw [tellL_snoc, List.take_of_length_le (Nat.le_refl _)]
      rw [e]; exact HT3.out
set_option maxRecDepth 100000 in
set_option maxHeartbeats 2000000 in
theorem fiat_words (v : Value) (c : Ci) (w : World) (h : IsC w v c) (hG : Good c) :
    Calls Tryd.prog 85 #[v] w fun e w' => ∃ vw, e = .returned vw ∧ NewU w.heap.size w' vw (wordsI c) ∧ Below w.heap.size w w' := by
  obtain ⟨hlog, u, rfl, hL⟩ := h
  obtain ⟨hls, hll, a, cap, rfl, hr⟩ := hL
  have Hr := Lib.hid hr
  have HG := Lib.hid hG
  clear hr hls hG
  have hc0 := HG.out.log0
  have hc4 := HG.out.log4
  have hn4 := HG.out.n4
  go_enter Tryd.func85, Tryd.ntmps85
  go_wp2_with (fail)
  obtain ⟨W1, hW, k0, k1, B1, s1⟩ := copied2' w (.int .i64 c.log) (.slice a c.layers.length cap) 24
  rw [hW]
  have h1n := NewU.lit2 W1 c.log (c.layers.length : Int) ⟨by omega, by omega⟩ ⟨by omega, by omega⟩
  obtain ⟨W2, hW2⟩ : ∃ W2, W1.alloc (.cells #[.int .u64 c.log, .int .u64 (c.layers.length : Int)] 46) = W2 := ⟨_, rfl⟩
  have B2 : Below w.heap.size w W2 := by rw [← hW2]; exact B1.alloc B1.size _
  rw [hW2] at h1n ⊢
  have HN2 := Lib.hid (show NewU w.heap.size W2 (.slice (some ⟨w.heap.size + 1, 0, none⟩) 2 2) (wordsTo c 0) from by rw [← s1]; exact h1n.mono (B' := w.heap.size) B1.size)
  have HB2 := Lib.hid B2
  clear hW s1 k0 k1 B1 h1n hW2 B2
  go_loopw [3, 20] (fun vo i wr => ∃ (k : Nat) (vx : Value), vx = vo ∧ k ≤ c.layers.length ∧ i = .int .i64 (k : Int) ∧ Hid (NewU w.heap.size wr vx (wordsTo c k)) ∧ Below w.heap.size w wr) (fun _ i _ => c.layers.length - (intOf i).toNat)
  case atStart => exact ⟨0, _, rfl, by omega, rfl, HN2.out, HB2.out⟩
  case round =>
    obtain ⟨k, vx, hvx, hk, rfl, HN, hbr⟩ := hrel
    subst hvx
    by_cases hz : k < c.layers.length
    · obtain ⟨b, off, rfl, hblt, hcell⟩ := Hr.out (by omega)
      obtain ⟨c1, u, c2, hg⟩ := hcell k hz
      have d1 := (hbr.cell (p := ⟨b, off + k * 2, none⟩) (by exact hblt)).trans c1
      have d2 := (hbr.cell (p := ⟨b, off + k * 2 + 1, none⟩) (by exact hblt)).trans c2
      obtain ⟨hgi, hgl, ag, cg, rfl, hgr⟩ := hg
      have Hg := Lib.hid hgr
      have l0 := HG.out.l0 k hz
      have l4 := HG.out.l4 k hz
      have HW0 := Lib.hid (wordsAt_zero c k)
      have HWs := Lib.hid (fun j (h : j < (aty c.layers k).gates.length) => wordsAt_succ c k h)
      have HWe := Lib.hid (wordsAt_all c hz)
      have HWl := Lib.hid (show ∀ j, j ≤ (aty c.layers k).gates.length → (wordsAt c k j).length ≤ 500 from fun j hj => by
        have h1 := wordsTo_len HG.out k hk
        have h2 := wordsAt_len (c := c) k j hj
        have h3 := HG.out.len k hz
        have h4 := (pow4 (HG.out.l4 k hz)).2
        omega)
      have HGt := Lib.hid (show ∀ j, j < (aty c.layers k).gates.length → (0 ≤ (atg (aty c.layers k).gates j).a ∧ (atg (aty c.layers k).gates j).a ≤ 16) ∧ (0 ≤ (atg (aty c.layers k).gates j).b ∧ (atg (aty c.layers k).gates j).b ≤ 16) from fun j hj => by
        have h1 := of_decide_eq_true (HG.out.gate k hz j hj)
        have h2 := (pow4 (HG.out.below4 (k := k) (by omega))).2
        omega)
      have hT := Lib.hid (show (wordsTo c k).length ≤ 500 from by have := wordsTo_len HG.out k hk; omega)
      clear hcell c1 c2 hgr hgi
      generalize (aty c.layers k).gates = gs at *
      generalize (aty c.layers k).log = lg at *
      obtain ⟨wo, rfl⟩ : ∃ x : World, x = wr := ⟨_, rfl⟩
      obtain ⟨W, hW, q0, q1, hWr, hWs⟩ := copied2' wo (.int .i64 lg) (.slice ag gs.length cg) 59
      have hbl : W.heap[wo.heap.size]? = some (.cells #[.int .i64 lg, .slice ag gs.length cg] 59 (0, 0)) := by rw [← hW]; exact alloc_blk wo _
      have HNW := Lib.hid (show NewU w.heap.size W vx (wordsTo c k) from HN.out.below hWr (Nat.le_refl _))
      have HbW := Lib.hid (hbr.trans (hWr.mono hbr.size))
      have hszW : w.heap.size ≤ W.heap.size := Nat.le_trans hbr.size hWr.size
      have Hbl := Lib.hid hbl
      have HW := Lib.hid hW; have HWz := Lib.hid hWs
      clear hWr hWs hbl q0 hW
      go_wp2_with (at_builtin; try rw [HW.out]; refine wpList_appUg rfl _ _ (by rfl) w.heap.size vx (wordsTo c k) (by rfl) HNW.out lg (by rw [HWz.out]; rfl) ⟨by omega, by omega⟩ (by have := hT.out; omega) hszW ?_; intro v3 w3 hn3 hb3 hg3; have HN3 := Lib.hid (show NewU w.heap.size w3 v3 (wordsAt c k 0) by rw [HW0.out]; exact hn3); have q1' := cell_blk ((hg3.block wo.heap.size (blk_lt Hbl.out) (fun e => HNW.out.apart Hbl.out (by decide) wo.heap.size e.symm rfl)).trans Hbl.out) 1; have HB3 := Lib.hid (HbW.out.trans hb3); clear hn3 hb3 hg3 q1 hszW)
      go_loopw [3, 33] (fun vo i w2 => ∃ (j : Nat) (vj : Value), vj = vo ∧ j ≤ gs.length ∧ i = .int .i64 (j : Int) ∧ Hid (NewU w.heap.size w2 vj (wordsAt c k j)) ∧ Hid (Below w.heap.size w w2)) (fun _ i _ => gs.length - (intOf i).toNat)
      case atStart => exact ⟨0, _, rfl, by omega, rfl, HN3.out, HB3.out⟩
      case round =>
        obtain ⟨j, vj, hvj, hj, rfl, HNj, HBj⟩ := hrel
        subst hvj
        by_cases hjz : j < gs.length
        · obtain ⟨b2, off2, rfl, hb2lt, hgc⟩ := Hg.out (by omega)
          obtain ⟨c1, c2, c3⟩ := hgc j hjz
          have f1 := (HBj.out.cell (p := ⟨b2, off2 + j * 3, none⟩) (by exact hb2lt)).trans c1
          have f2 := (HBj.out.cell (p := ⟨b2, off2 + j * 3 + 1, none⟩) (by exact hb2lt)).trans c2
          have f3 := (HBj.out.cell (p := ⟨b2, off2 + j * 3 + 2, none⟩) (by exact hb2lt)).trans c3
          obtain ⟨⟨ga0, ga1⟩, gb0, gb1⟩ := HGt.out j hjz
          have Hs := Lib.hid (HWs.out j hjz)
          have Hl := Lib.hid (HWl.out j (by omega))
          have hsz2 := HBj.out.size
          clear c1 c2 c3 hgc q1'
          generalize (atg gs j).mul = gm at *
          generalize (atg gs j).a = A at *
          generalize (atg gs j).b = Bb at *
          cases gm
          · obtain ⟨wv, rfl⟩ : ∃ x : World, x = wr := ⟨_, rfl⟩
            obtain ⟨X, hX, t0, t1, t2, hXb, hXs⟩ := copied3' wv (.bool false) (.int .i64 A) (.int .i64 Bb) 80
            have HNx := Lib.hid (show NewU w.heap.size X vj (wordsAt c k j) from HNj.out.below hXb (Nat.le_refl _))
            have HBx := Lib.hid (HBj.out.trans (hXb.mono hsz2))
            have hsX : w.heap.size ≤ X.heap.size := by omega
            have HX := Lib.hid hX; have HXs := Lib.hid hXs
            clear hX hXb hXs
            go_wp2_with (at_builtin; try rw [HX.out]; refine wpList_appU3 rfl _ _ (by rfl) w.heap.size vj (wordsAt c k j) (by rfl) HNx.out 0 A Bb (by rw [HXs.out]; rfl) U64.zero ⟨by omega, by omega⟩ ⟨by omega, by omega⟩ (by have := Hl.out; omega) hsX ?_; intro v5 w5 hn5 hb5; have HN5 := Lib.hid (show NewU w.heap.size w5 v5 (wordsAt c k (j + 1)) by rw [Hs.out]; exact hn5); have HB5 := Lib.hid (HBx.out.trans hb5); clear hn5 hb5)
            go_roundw
            case rel => exact ⟨j + 1, _, rfl, by omega, by go_num, HN5.out, HB5.out⟩
            case measure => simp [intOf]; omega
          · obtain ⟨wv, rfl⟩ : ∃ x : World, x = wr := ⟨_, rfl⟩
            obtain ⟨X, hX, t0, t1, t2, hXb, hXs⟩ := copied3' wv (.bool true) (.int .i64 A) (.int .i64 Bb) 80
            have HNx := Lib.hid (show NewU w.heap.size X vj (wordsAt c k j) from HNj.out.below hXb (Nat.le_refl _))
            have HBx := Lib.hid (HBj.out.trans (hXb.mono hsz2))
            have hsX : w.heap.size ≤ X.heap.size := by omega
            have HX := Lib.hid hX; have HXs := Lib.hid hXs
            clear hX hXb hXs
            go_wp2_with (at_builtin; try rw [HX.out]; refine wpList_appU3 rfl _ _ (by rfl) w.heap.size vj (wordsAt c k j) (by rfl) HNx.out 1 A Bb (by rw [HXs.out]; rfl) U64.one ⟨by omega, by omega⟩ ⟨by omega, by omega⟩ (by have := Hl.out; omega) hsX ?_; intro v5 w5 hn5 hb5; have HN5 := Lib.hid (show NewU w.heap.size w5 v5 (wordsAt c k (j + 1)) by rw [Hs.out]; exact hn5); have HB5 := Lib.hid (HBx.out.trans hb5); clear hn5 hb5)
            go_roundw
            case rel => exact ⟨j + 1, _, rfl, by omega, by go_num, HN5.out, HB5.out⟩
            case measure => simp [intOf]; omega
        · obtain rfl : j = gs.length := by omega
          have HNe := Lib.hid (show NewU w.heap.size wr _ (wordsTo c (k + 1)) by rw [← HWe.out]; exact HNj.out)
          go_wp2
          go_roundw
          case rel => exact ⟨k + 1, _, rfl, by omega, by go_num, HNe.out, HBj.out⟩
          case measure => simp [intOf]; omega
    · obtain rfl : k = c.layers.length := by omega
      go_wp2
      go_ret
      exact ⟨_, rfl, by rw [← wordsTo_all]; exact HN.out, hbr⟩
set_option maxRecDepth 100000 in
set_option maxHeartbeats 2000000 in
theorem fiat_begun (w : World) (v vi vo : Value) (c : Ci) (inp out : List Int) (h : IsC w v c) (hG : Good c) (hi : RowU w vi inp) (ho : RowU w vo out) (hil : inp.length ≤ 1000) (hol : out.length ≤ 1000) :
    Calls Tryd.prog 60 #[v, vi, vo] w fun e w' => ∃ tb sb vd, e = .returned (.pointer (some ⟨tb, 0, none⟩)) ∧ TellA w' w.heap.size tb sb vd (begT c inp out) ∧ Below w.heap.size w w' := by
  have HC := Lib.hid h; have HG := Lib.hid hG; have Hi := Lib.hid hi; have Ho := Lib.hid ho
  obtain ⟨ac, cc, rfl⟩ := h.shape
  have hc4 := HG.out.n4
  have hc1 := HG.out.n1
  obtain ⟨-, -, ai, ci, rfl, -⟩ := Hi.out
  obtain ⟨-, -, ao, co, rfl, -⟩ := Ho.out
  have Hil := Lib.hid hil; have Hol := Lib.hid hol
  clear h hG hi ho hil hol
  go_enter Tryd.func60, Tryd.ntmps60
  go_wp2_with (fail)
  obtain ⟨W1, hW, k0, k1, B1, s1⟩ := copied2' w (.int .i64 c.log) (.slice ac c.layers.length cc) 24
  rw [hW]
  obtain ⟨cb, hcb⟩ : ∃ cb, cb = w.heap.size := ⟨_, rfl⟩
  rw [← hcb] at k0 k1 s1 ⊢
  have HX1 := Lib.hid (show Boxed cb (.int .i64 c.log) (.slice ac c.layers.length cc) W1 from ⟨k0, k1, by omega⟩)
  have H1 := Lib.hid B1
  clear hW s1 k0 k1 B1 hcb
  refine (sponge_New 1 W1 (U64.mk (by decide) (by decide))).mono ?_
  rintro e w2 ⟨sb, rfl, hsb, hS2, hb2⟩
  have HS2 := Lib.hid hS2
  have Hsb := Lib.hid hsb
  have Hb2 := Lib.hid hb2
  have HX2 := Lib.hid (HX1.out.go hb2)
  have r0 := HX2.out.c0; have r1 := HX2.out.c1; have lt2 := HX2.out.lt
  clear hS2 hsb hb2
  go_wp2_with (fail)
  obtain ⟨tb, htb⟩ : ∃ tb, tb = w2.heap.size := ⟨_, rfl⟩
  obtain ⟨W3, hW3⟩ : ∃ W3, w2.alloc (.cells #[.pointer (some ⟨sb, 0, none⟩), .slice none 0 0] 92) = W3 := ⟨_, rfl⟩
  have hblk : W3.heap[tb]? = some (.cells #[.pointer (some ⟨sb, 0, none⟩), .slice none 0 0] 92 (0, 0)) := by rw [htb, ← hW3]; exact alloc_blk w2 _
  have B3 : Below w2.heap.size w2 W3 := by rw [← hW3]; exact below_alloc _ _
  rw [hW3, ← htb]
  have HA3 := Lib.hid (show TellA W3 W1.heap.size tb sb (.slice none 0 0) ⟨newS 1, []⟩ from ⟨hblk, HS2.out.shift B3, NewU.nil _ _, by rw [htb]; exact Hb2.out.size, Hsb.out⟩)
  have HX3 := Lib.hid (HX2.out.go B3)
  have HB13 := Lib.hid (show Below W1.heap.size W1 W3 from below_two Hb2.out B3)
  have H3 := Lib.hid (below_two (below_two H1.out Hb2.out) B3)
  clear hW3 hblk B3 htb r0 r1 lt2
  refine (fiat_words _ c W3 (HC.out.go H3.out) HG.out).mono ?_
  rintro e w4 ⟨vw, rfl, hn4, hb4⟩
  obtain ⟨aw, cw, rfl⟩ := hn4.isSlice
  have HN4 := Lib.hid hn4
  have HA4 := Lib.hid (HA3.out.go hb4)
  have HX4 := Lib.hid (HX3.out.go hb4)
  have HB14 := Lib.hid (HB13.out.trans (hb4.mono HB13.out.size))
  have H4 := Lib.hid (below_two H3.out hb4)
  have ltA := HA3.out.lt
  clear hn4 hb4
  go_wp2_with (fail)
  obtain ⟨W5, hW5⟩ : ∃ W5, w4.alloc (.cells #[.slice aw (wordsI c).length cw, .slice ai inp.length ci, .slice ao out.length co] 25) = W5 := ⟨_, rfl⟩
  obtain ⟨qb, hqb⟩ : ∃ qb, qb = w4.heap.size := ⟨_, rfl⟩
  have hblk5 : W5.heap[qb]? = some (.cells #[.slice aw (wordsI c).length cw, .slice ai inp.length ci, .slice ao out.length co] 25 (0, 0)) := by rw [hqb, ← hW5]; exact alloc_blk w4 _
  have B5 : Below w4.heap.size w4 W5 := by rw [← hW5]; exact below_alloc _ _
  rw [hW5, ← hqb]
  have hqs : sb < qb := by rw [hqb]; exact HA4.out.lt.2
  have HA5 := Lib.hid (HA4.out.go B5)
  have HX5 := Lib.hid (HX4.out.go B5)
  have HB15 := Lib.hid (HB14.out.trans (B5.mono HB14.out.size))
  have H5 := Lib.hid (below_two H4.out B5)
  have HRows := Lib.hid (show ∀ k, k < 3 → ∃ u l, W5.cell? ⟨qb, k, none⟩ = some u ∧ RowU W5 u l ∧ Sep u sb ∧ l.length ≤ 1000 ∧ takeL l (begS c inp out k) = begS c inp out (k + 1) from fun k hk => by
    have hwb : W1.heap.size ≤ sb := HA5.out.sbB
    have hwB : w.heap.size ≤ sb := by have := H1.out.size; omega
    match k, hk with
    | 0, _ => exact ⟨_, _, cell_blk hblk5 0, HN4.out.row.go B5, fun x n cp hv h0 => by
        intro e
        have h1 := (HN4.out.lt (g := x.block) (by cases hv; rfl)).1
        have h2 := HA3.out.lt.2
        omega, by have := wordsI_len HG.out; omega, rfl⟩
    | 1, _ => exact ⟨_, _, cell_blk hblk5 1, Hi.out.go H5.out, Hi.out.sep hwB, Hil.out, rfl⟩
    | 2, _ => exact ⟨_, _, cell_blk hblk5 2, Ho.out.go H5.out, Ho.out.sep hwB, Hol.out, rfl⟩)
  have Hq5 := Lib.hid (blk_lt hblk5)
  clear hW5 hblk5 B5 hqb ltA
  go_loopw [19] (fun i wr => ∃ (k : Nat), k ≤ 3 ∧ i = .int .i64 (k : Int) ∧ SpAt wr sb (begS c inp out k) ∧ W5.grownBy wr (some sb)) (fun i _ => 3 - (intOf i).toNat)
  case atStart => exact ⟨0, by omega, rfl, HA5.out.sp, grownBy_refl _ _⟩
  case round =>
    obtain ⟨k, hk, rfl, hs, hg⟩ := hrel
    by_cases hz : k < 3
    · obtain ⟨u, l, hu, hr, hsep, hl, hst⟩ := HRows.out k hz
      have cu := (World.cell?_of_block (hg.block qb Hq5.out (fun e => by cases e; omega))).trans hu
      have ct := (World.cell?_of_block (hg.block tb HA5.out.lt.1 (fun e => HA5.out.ne (by cases e; rfl)))).trans (cell_blk HA5.out.blk 0)
      have HS := Lib.hid hs
      have Hrow := Lib.hid (hr.grown hg hsep)
      have Hsep := Lib.hid hsep
      have Hst := Lib.hid hst
      have Hg := Lib.hid hg
      clear hs hg hr hsep hst hu
      go_wp2_with (fail)
      refine (sponge_Take sb _ u l wr HS.out Hrow.out Hsep.out hl).mono ?_
      rintro e w6 ⟨rfl, h6, hg6⟩
      go_wp2
      go_roundw
      case rel => exact ⟨k + 1, by omega, by go_num, by rw [← Hst.out]; exact h6, grownBy_trans Hg.out hg6⟩
      case measure => simp [intOf]; omega
    · obtain rfl : k = 3 := by omega
      rw [show ((3 : Nat) : Int) = 3 from rfl]
      have HA6 := Lib.hid (show TellA wr W1.heap.size tb sb (.slice none 0 0) (startT c inp out) from HA5.out.took hs hg)
      have hBw : Below W1.heap.size W1 wr := HB15.out.trans (below_of_grownBy hg HA5.out.sbB HB15.out.size)
      have hHw : Below w.heap.size w wr := H5.out.trans (below_of_grownBy hg (by have := H1.out.size; have := HA5.out.sbB; omega) H5.out.size)
      have cx1 := (hBw.cell (p := ⟨cb, 1, none⟩) HX1.out.lt).trans HX1.out.c1
      have cx0 := (hBw.cell (p := ⟨cb, 0, none⟩) HX1.out.lt).trans HX1.out.c0
      obtain ⟨hlog, uu, e, hL⟩ := HC.out.go hHw
      simp only [Value.agg.injEq, Array.mk.injEq, List.cons.injEq] at e
      obtain ⟨-, rfl, -⟩ := e
      obtain ⟨hls, hll, a', cap', e, hr⟩ := hL
      cases e
      obtain ⟨m, hm⟩ : ∃ m, c.layers.length = m + 1 := ⟨c.layers.length - 1, by omega⟩
      have hbl : belowLog c c.layers.length = (aty c.layers m).log := by rw [hm, belowLog_succ]
      obtain ⟨b, off, rfl, hblt, hcell⟩ := hr (by omega)
      obtain ⟨c1, _⟩ := hcell m (by omega)
      have t0 := HG.out.below0 (k := c.layers.length) (Nat.le_refl _)
      have t4 := HG.out.below4 (k := c.layers.length) (Nat.le_refl _)
      have HbegT := Lib.hid (show begT c inp out = gives (belowLog c c.layers.length).toNat (startT c inp out) from rfl)
      have hs1 : (c.layers.length : Int) - 1 = (m : Int) := by omega
      have hml : (m : Int) < (c.layers.length : Int) := by omega
      have hm0 : (1 : Int) ≤ (c.layers.length : Int) := by omega
      have hm4 : (c.layers.length : Int) ≤ 4 := by omega
      have Hhw := Lib.hid hHw
      have HbB := Lib.hid hBw
      rw [hbl] at t0 t4 HbegT
      generalize (aty c.layers m).log = top at *
      obtain ⟨T, rfl⟩ : ∃ T : Nat, top = (T : Int) := ⟨top.toNat, by omega⟩
      clear hcell hr hls hll hm hlog hbl hHw hBw hs hg
      go_wp2_with (fail)
      go_loopw [39] (fun i wx => ∃ (k : Nat), k ≤ T ∧ i = .int .i64 (k : Int) ∧ Hid (Below W1.heap.size W1 wx) ∧ Hid (∃ vd', TellA wx W1.heap.size tb sb vd' (gives k (startT c inp out)))) (fun i _ => T - (intOf i).toNat)
      case atStart => exact ⟨0, by omega, rfl, HbB.out, ⟨_, HA6.out⟩⟩
      case round =>
        obtain ⟨k, hk, rfl, HBx, HAx⟩ := hrel
        by_cases hz2 : k < T
        · obtain ⟨vd', ha⟩ := HAx.out
          have HA7 := Lib.hid ha
          clear ha
          go_wp2_with (fail)
          refine (fiat_give _ _ _ _ _ _ HA7.out HBx.out.size (by rw [gives_length]; show 0 + _ ≤ 100; omega)).mono ?_
          rintro e w8 ⟨rfl, ⟨vd8, ht8⟩, hb8, -⟩
          have HT8 := Lib.hid ht8
          have HB8 := Lib.hid (HBx.out.trans hb8)
          clear ht8 hb8
          go_wp2
          go_roundw
          case rel => exact ⟨k + 1, by omega, by go_num, HB8.out, ⟨vd8, HT8.out⟩⟩
          case measure => simp [intOf]; omega
        · obtain rfl : k = T := by omega
          obtain ⟨vd', ha⟩ := HAx.out
          have HA7 := Lib.hid ha
          clear ha
          go_wp2
          go_ret
          have e := HbegT.out
          rw [Int.toNat_natCast] at e
          exact ⟨tb, sb, vd', rfl, by rw [e]; exact HA7.out.mono (H1.out.size), H1.out.trans (HBx.out.mono (H1.out.size))⟩
end Go.Proofs.YtnleihjdllpniaaDoor
