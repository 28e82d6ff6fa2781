/- The walk of the law GkrProves: it returns true, whatever is handed in. The table of bits lies as its initialiser lays it. -/
import Derived.Test.YtnleihjdllpniaaDoorRProof
import Derived.Test.YtnleihjdllpniaaDoorRSame
import Derived.Test.YtnleihjdllpniaaDoorGkrProveNo
import Derived.Test.YtnleihjdllpniaaDoorRNeed
namespace Go.Proofs.YtnleihjdllpniaaDoor
set_option maxRecDepth 100000
set_option linter.unusedVariables false
open Go.RowKit Tally
set_option maxRecDepth 100000 in
set_option maxHeartbeats 4000000 in
theorem law_small (v : Value) (c : Ci) (w : World) (h : IsC w v c) :
    Calls Tryd.prog 38 #[v] w fun e w' => ∃ b, e = .returned (.bool b) ∧ Below w.heap.size w w' := by
  obtain ⟨ac, cc, rfl⟩ := h.shape
  obtain ⟨hlog, u, e, hL⟩ := h
  cases e
  obtain ⟨hls, hll, a', cap', e, hr⟩ := hL
  cases e
  have Hr := Lib.hid hr; have Hls := Lib.hid hls; have Hlog := Lib.hid hlog
  clear hr hls hlog
  go_enter Tryd.func38, Tryd.ntmps38
  go_wp2_with (fail)
  obtain ⟨W1, hW, k0, k1, B1, s1⟩ := copied2' w (.int .i64 c.log) (.slice ac c.layers.length cc) 24
  rw [hW]
  have HX1 := Lib.hid (show Boxed w.heap.size (.int .i64 c.log) (.slice ac c.layers.length cc) W1 from ⟨k0, k1, by omega⟩)
  have H1 := Lib.hid B1
  clear hW s1 B1 k0
  go_wp2_with (fail)
  clear k1
  obtain ⟨tb, htb⟩ : ∃ tb, tb = w.heap.size := ⟨_, rfl⟩
  rw [← htb] at HX1 ⊢
  clear htb
  go_loopw [8] (fun i wr => ∃ j : Nat, j ≤ c.layers.length ∧ i = .int .i64 (j : Int) ∧ Hid (Below W1.heap.size W1 wr)) (fun i _ => c.layers.length - (intOf i).toNat)
  case atStart => exact ⟨0, by omega, rfl, Below.refl _ _⟩
  case round =>
    obtain ⟨j, hj, rfl, HB⟩ := hrel
    have HXr := Lib.hid (HX1.out.go HB.out)
    have hbr := Lib.hid (below_two H1.out HB.out)
    by_cases hz : j < c.layers.length
    · obtain ⟨b, off, rfl, hblt, hcell⟩ := Hr.out (by omega)
      obtain ⟨c0, ug, c1, hg⟩ := hcell j hz
      obtain ⟨_, _, ag, cg, rfl, -⟩ := hg
      have q0 := (hbr.out.cell (p := ⟨b, off + j * 2, none⟩) hblt).trans c0
      have q1 := (hbr.out.cell (p := ⟨b, off + j * 2 + 1, none⟩) hblt).trans c1
      have hji : (j : Int) < (c.layers.length : Int) := by omega
      obtain ⟨G, hG⟩ : ∃ G, G = (aty c.layers j).log := ⟨_, rfl⟩
      rw [← hG] at q0
      clear c0 c1 hcell hG
      by_cases h2 : G ≤ 2
      · have hb2 : decide (2 < G) = false := decide_eq_false (by omega)
        clear h2
        go_wp2
        go_roundw
        case rel => exact ⟨j + 1, by omega, by go_num, HB.out.alloc HB.out.size _⟩
        case measure => simp [intOf]; omega
      · have hb2 : decide (2 < G) = true := decide_eq_true (by omega)
        clear h2
        go_wp2
        go_ret
        exact ⟨_, rfl, hbr.out.alloc hbr.out.size _⟩
    · obtain rfl : j = c.layers.length := by omega
      have q0 := HXr.out.c0; have q1 := HXr.out.c1
      go_wp2
      go_ret
      exact ⟨_, rfl, hbr.out⟩
theorem isP_nil (w : World) : IsP w (.agg #[.slice none 0 0]) [] := ⟨_, rfl, by simp, none, 0, rfl, fun h => absurd h (by simp)⟩
set_option maxRecDepth 100000 in
set_option maxHeartbeats 8000000 in
theorem gkrProves_walk (w : World) (hT : Tab w) (v : Value) (c : Ci) (h : IsC w v c) (vi : Value) (inp : List Int) (hi : RowU w vi inp) (vd : Value) (ds : List Int) (hd : RowU w vd ds) (hcd : CapOk vd) :
    Calls Tryd.prog 7 #[v, vi, vd] w fun e w' => e = .returned (.bool true) ∧ Below w.heap.size w w' := by
  obtain ⟨ac, cc, rfl⟩ := h.shape
  have HT := Lib.hid hT; have HC := Lib.hid h; have Hi := Lib.hid hi; have Hd := Lib.hid hd; have Hcd := Lib.hid hcd
  obtain ⟨_, _, ai, ci, rfl, _⟩ := hi
  obtain ⟨_, _, ad, cd, rfl, _⟩ := hd
  clear hT h hcd
  go_enter Tryd.func7, Tryd.ntmps7
  go_wp2_with (fail)
  obtain ⟨W1, hW, k0, k1, B1, s1⟩ := copied2' w (.int .i64 c.log) (.slice ac c.layers.length cc) 24
  rw [hW]
  obtain ⟨tb, htb⟩ : ∃ tb, tb = w.heap.size := ⟨_, rfl⟩
  rw [← htb] at k0 k1 s1 ⊢
  have HX1 := Lib.hid (show Boxed tb (.int .i64 c.log) (.slice ac c.layers.length cc) W1 from ⟨k0, k1, by omega⟩)
  have H1 := Lib.hid B1
  clear hW s1 k0 k1 B1 htb
  refine (rc_Circuit _ c _ (HC.out.go H1.out)).mono ?_
  rintro e w2 ⟨rfl, hb2⟩
  have H2 := Lib.hid (below_two H1.out hb2)
  have HX2 := Lib.hid (HX1.out.go hb2)
  clear hb2
  have r0 := HX2.out.c0; have r1 := HX2.out.c1
  by_cases hc : checkC c = 0
  · have Hc := Lib.hid hc
    have HG := Lib.hid (good_of_check hc)
    rw [hc]
    clear hc
    go_wp2_with (fail)
    refine (law_small _ c _ (HC.out.go H2.out)).mono ?_
    rintro e w3 ⟨b, rfl, hb3⟩
    have H3 := Lib.hid (below_two H2.out hb3)
    have HX3 := Lib.hid (HX2.out.go hb3)
    clear hb3 r0 r1
    have r0 := HX3.out.c0; have r1 := HX3.out.c1
    cases b with
    | false =>
      go_wp2
      go_ret
      exact ⟨rfl, H3.out⟩
    | true =>
      go_wp2_with (fail)
      refine (gkr_Draws _ c _ (HC.out.go H3.out) Hc.out).mono ?_
      rintro e w4 ⟨rfl, hb4⟩
      have H4 := Lib.hid (below_two H3.out hb4)
      have HX4 := Lib.hid (HX3.out.go hb4)
      clear hb4 r0 r1
      have r0 := HX4.out.c0; have r1 := HX4.out.c1
      go_wp2_with (fail)
      refine (ref_Need _ c _ (HC.out.go H4.out) HG.out).mono ?_
      rintro e w5 ⟨rfl, hb5⟩
      have H5 := Lib.hid (below_two H4.out hb5)
      have HX5 := Lib.hid (HX4.out.go hb5)
      clear hb5 r0 r1
      have r0 := HX5.out.c0; have r1 := HX5.out.c1
      have hl0 := HG.out.log0; have hl4 := HG.out.log4
      have hw := wrap4 hl4
      obtain ⟨P, hP⟩ : ∃ P, wrap64 (2 ^ c.log.toNat) = P := ⟨_, rfl⟩
      have hPe : P = ((2 ^ c.log.toNat : Nat) : Int) := by rw [← hP, hw]
      have HPe := Lib.hid hPe
      clear hw hPe
      obtain ⟨W6, hW6, kz, B6, s6⟩ := copied1' w5 (.slice none 0 0) 37
      have bz : W6.heap[w5.heap.size]? = some (.cells #[.slice none 0 0] 37 (0, 0)) := by rw [← hW6]; exact alloc_blk w5 _
      have Hbz := Lib.hid bz
      have H6 := Lib.hid (below_two H5.out B6)
      have HX6 := Lib.hid (HX5.out.go B6)
      have lz : w5.heap.size < W6.heap.size := by omega
      clear r0 r1 bz B6 s6
      have r0 := HX6.out.c0; have r1 := HX6.out.c1
      have htb6 := HX6.out.lt
      by_cases hl : inp.length = 2 ^ c.log.toNat
      · have hbn : ((inp.length : Int) != P) = false := by rw [HPe.out, bne_eq_false_iff_eq]; exact congrArg _ hl
        have Hl := Lib.hid hl
        clear hl
        by_cases hdl : ds.length = drawsN c
        · have hbd : ((ds.length : Int) != (drawsN c : Int)) = false := by rw [bne_eq_false_iff_eq]; exact congrArg _ hdl
          have Hdl := Lib.hid hdl
          clear hdl
          go_wp2_with (fail)
          refine (ref_ProofN _ c _ _ inp ds W6 (HC.out.go H6.out) (Hi.out.go H6.out) (Hd.out.go H6.out) Hcd.out HG.out Hl.out Hdl.out).mono ?_
          rintro e w7 ⟨vp, rfl, hf, hb7⟩
          obtain ⟨up, rfl, hrp⟩ := hf.now
          obtain ⟨_, ap, cp, rfl, _⟩ := hrp
          have Hf := Lib.hid hf
          have hbz7 := (hb7.block w5.heap.size lz).trans Hbz.out
          have H7 := Lib.hid (below_two H6.out hb7)
          have HX7 := Lib.hid (HX6.out.go hb7)
          have fz := free_blk hbz7 0
          have cz : w7.cell? ⟨w5.heap.size, 0, none⟩ = some _ := cell_blk hbz7 0
          have lz7 : w5.heap.size < w7.heap.size := blk_lt hbz7
          have ht5 : tb ≠ w5.heap.size := by have := HX5.out.lt; omega
          have q0 : ∀ u, (w7.setCell ⟨w5.heap.size, 0, none⟩ u).cell? ⟨tb, 0, none⟩ = some _ := fun u => keep_set1 u ht5 HX7.out.c0
          have q1 : ∀ u, (w7.setCell ⟨w5.heap.size, 0, none⟩ u).cell? ⟨tb, 1, none⟩ = some _ := fun u => keep_set1 u ht5 HX7.out.c1
          clear r0 r1 kz hf hb7 hW6
          go_wp2_with (fail)
          have hfz := Lib.hid ((Hf.out.set (b := w5.heap.size) lz 0 (.slice ap (proveI c inp ds).length cp)))
          have hbz8 := blk_setCell hbz7 0 (.slice ap (proveI c inp ds).length cp)
          have H8 := Lib.hid (H7.out.setCell (p := ⟨w5.heap.size, 0, none⟩) H5.out.size (.slice ap (proveI c inp ds).length cp))
          clear q0 q1 fz cz
          generalize w7.setCell ⟨w5.heap.size, 0, none⟩ (.slice ap (proveI c inp ds).length cp) = w8 at *
          refine (gkr_Prove _ c _ _ inp ds w8 (HT.out.below H8.out) (HC.out.go H8.out) (Hi.out.go H8.out) (Hd.out.go H8.out) Hcd.out Hc.out Hl.out Hdl.out).mono ?_
          rintro e w9 ⟨vq, rfl, hq, hb9⟩
          obtain ⟨uq, rfl, hrq⟩ := hq
          have Hq := Lib.hid hrq
          obtain ⟨_, aq, cq, rfl, _⟩ := hrq
          have lz8 : w5.heap.size < w8.heap.size := blk_lt hbz8
          have hbz9 := (hb9.block w5.heap.size lz8).trans hbz8
          have cz9 : w9.cell? ⟨w5.heap.size, 0, none⟩ = some _ := cell_blk hbz9 0
          have lz9 : w5.heap.size < w9.heap.size := blk_lt hbz9
          have H9 := Lib.hid (below_two H8.out hb9)
          have Hf9 := Lib.hid (hfz.out.go hb9).now
          clear hb9
          go_wp2_with (fail)
          obtain ⟨W10, hW10, -, B10, -⟩ := copied1' w9 (.slice aq (proveI c inp ds).length cq) 37
          rw [hW10]
          have H10 := Lib.hid (below_two H9.out B10)
          obtain ⟨uf, ef, hrf⟩ := Hf9.out
          cases ef
          refine (ref_SameProof (proveI c inp ds) _ _ W10 ⟨_, rfl, Hq.out.below B10 (Nat.le_refl _)⟩ ⟨_, rfl, hrf.below B10 (Nat.le_refl _)⟩).mono ?_
          rintro e w11 ⟨rfl, hb11⟩
          have H11 := Lib.hid (below_two H10.out hb11)
          clear hW10 B10 hb11
          go_wp2
          go_ret
          exact ⟨rfl, H11.out⟩
        · have hbd : ((ds.length : Int) != (drawsN c : Int)) = true := by rw [bne_iff_ne]; exact fun e => hdl (Int.ofNat_inj.mp e)
          have Hdl := Lib.hid hdl
          clear hdl
          go_wp2_with (fail)
          refine (gkr_Prove_arg _ c _ _ inp ds W6 (HC.out.go H6.out) (Hi.out.go H6.out) (Hd.out.go H6.out) Hc.out Hl.out Hdl.out).mono ?_
          rintro e w7 ⟨rfl, hb7⟩
          have cz7 := (hb7.cell (p := ⟨w5.heap.size, 0, none⟩) lz).trans kz
          have lz7 : w5.heap.size < w7.heap.size := Nat.lt_of_lt_of_le lz hb7.size
          have H7 := Lib.hid (below_two H6.out hb7)
          clear r0 r1 kz hb7 hW6
          go_wp2_with (fail)
          refine (ref_SameProof [] _ _ _ (isP_nil _) (isP_nil _)).mono ?_
          rintro e w8 ⟨rfl, hb8⟩
          have H8 := Lib.hid (below_two (H7.out.alloc H7.out.size _) hb8)
          clear hb8
          go_wp2
          go_ret
          exact ⟨rfl, H8.out⟩
      · have hbn : ((inp.length : Int) != P) = true := by rw [HPe.out, bne_iff_ne]; exact fun e => hl (Int.ofNat_inj.mp e)
        have Hl := Lib.hid hl
        clear hl
        go_wp2_with (fail)
        refine (gkr_Prove_no _ c _ _ 4 W6 (HC.out.go H6.out) rfl (fun W hW => c_Run_form _ c _ inp W (HC.out.go (below_two H6.out hW)) (Hi.out.go (below_two H6.out hW)) HG.out Hc.out Hl.out)).mono ?_
        rintro e w7 ⟨rfl, hb7⟩
        have cz7 := (hb7.cell (p := ⟨w5.heap.size, 0, none⟩) lz).trans kz
        have lz7 : w5.heap.size < w7.heap.size := Nat.lt_of_lt_of_le lz hb7.size
        have H7 := Lib.hid (below_two H6.out hb7)
        clear r0 r1 kz hb7 hW6
        go_wp2_with (fail)
        refine (ref_SameProof [] _ _ _ (isP_nil _) (isP_nil _)).mono ?_
        rintro e w8 ⟨rfl, hb8⟩
        have H8 := Lib.hid (below_two (H7.out.alloc H7.out.size _) hb8)
        clear hb8
        go_wp2
        go_ret
        exact ⟨rfl, H8.out⟩
  · have hcb : (checkC c != 0) = true := by rw [bne_iff_ne]; exact hc
    have hcb2 : (checkC c == 0) = false := by rw [beq_eq_false_iff_ne]; exact hc
    have Hcb := Lib.hid hcb
    clear hc
    go_wp2_with (fail)
    refine (gkr_Draws_no _ c _ (HC.out.go H2.out) Hcb.out).mono ?_
    rintro e w3 ⟨rfl, hb3⟩
    have H3 := Lib.hid (below_two H2.out hb3)
    have HX3 := Lib.hid (HX2.out.go hb3)
    clear hb3 r0 r1
    have r0 := HX3.out.c0; have r1 := HX3.out.c1
    go_wp2_with (fail)
    refine (gkr_Prove_no _ c _ _ (checkC c) _ (HC.out.go H3.out) Hcb.out (fun W hW => c_Run_no _ c _ inp W (HC.out.go (below_two H3.out hW)) (Hi.out.go (below_two H3.out hW)) Hcb.out)).mono ?_
    rintro e w4 ⟨rfl, hb4⟩
    have H4 := Lib.hid (below_two H3.out hb4)
    clear hb4 r0 r1
    go_wp2
    go_ret
    exact ⟨rfl, H4.out.alloc H4.out.size _⟩
end Go.Proofs.YtnleihjdllpniaaDoor
