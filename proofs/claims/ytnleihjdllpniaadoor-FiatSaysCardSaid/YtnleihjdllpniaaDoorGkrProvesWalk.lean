/- Several texts in one: RSame, GkrProveNo, GkrProvesWalk. What each says, and its conditions, stands at its head. -/
import Derived.Test.YtnleihjdllpniaaDoorGkrPart
import Derived.Test.YtnleihjdllpniaaDoorProof
import Derived.Test.YtnleihjdllpniaaDoorLists
import Derived.Test.YtnleihjdllpniaaDoorKeepM
import Derived.Test.YtnleihjdllpniaaDoorGkrProve
import Derived.Test.YtnleihjdllpniaaDoorRProof
import Derived.Test.YtnleihjdllpniaaDoorRNeed
/- The walk of the reference's SameProof: of two proofs that read alike. -/
namespace Go.Proofs.YtnleihjdllpniaaDoor
set_option maxRecDepth 100000
set_option linter.unusedVariables false
open Go.RowKit Tally
set_option maxHeartbeats 1000000 in
theorem same_row (l : List Int) (v v2 : Value) (w : World) (hp : RowU w v l) (hp2 : RowU w v2 l) :
    Calls Tryd.prog 82 #[v, v2] w fun e w' => e = .returned (.bool true) ∧ Drawn w w' := by
  have Hp := Lib.hid hp
  have Hp2 := Lib.hid hp2
  clear hp hp2
  go_enter Tryd.func82, Tryd.ntmps82
  go_wp2_with (fail)
  refine (slices_Equal l _ _ _ Hp.out Hp2.out).mono ?_
  rintro e w1 ⟨rfl, hd⟩
  go_wp2
  go_ret
  exact ⟨rfl, hd⟩
set_option maxHeartbeats 2000000 in
theorem eqFuncR (ll : List (List Int)) (v v2 : Value) (w : World) (hp : RowUU w v ll) (hp2 : RowUU w v2 ll) :
    Calls Tryd.prog 81 #[v, v2, .func (.func 82) #[] #[]] w fun e w' => e = .returned (.bool true) ∧ Drawn w w' := by
  obtain ⟨h2, ad, cap, rfl, hr⟩ := hp
  obtain ⟨_, ad2, cap2, rfl, hr2⟩ := hp2
  have Hr := Lib.hid hr
  have Hr2 := Lib.hid hr2
  clear hr hr2
  go_enter Tryd.func81, Tryd.ntmps81
  go_wp2
  go_loopw [17] (fun i wr => ∃ k : Nat, k ≤ ll.length ∧ i = .int .i64 (k : Int) ∧ Drawn w wr) (fun i _ => ll.length - (intOf i).toNat)
  case atStart => exact ⟨0, by omega, rfl, Drawn.refl _⟩
  case round =>
    obtain ⟨k, hk, rfl, hd⟩ := hrel
    by_cases hz : k < ll.length
    · obtain ⟨b, off, rfl, hblt, hcell⟩ := Hr.out (by omega)
      obtain ⟨b2, off2, rfl, hblt2, hcell2⟩ := Hr2.out (by omega)
      obtain ⟨u, hu, hru⟩ := hcell k hz
      obtain ⟨u2, hu2, hru2⟩ := hcell2 k hz
      have c1 := (hd.below.cell (p := ⟨b, off + k, none⟩) hblt).trans hu
      have c2 := (hd.below.cell (p := ⟨b2, off2 + k, none⟩) hblt2).trans hu2
      have H1 := Lib.hid (hru.below hd.below (Nat.le_refl _))
      have H2 := Lib.hid (hru2.below hd.below (Nat.le_refl _))
      have hk1 : (k : Int) < (ll.length : Int) := by omega
      clear hcell hcell2 hru hru2 hu hu2
      go_wp2_with (fail)
      refine (same_row _ _ _ _ H1.out H2.out).mono ?_
      rintro e w1 ⟨rfl, hd1⟩
      have hdw := hd.trans hd1
      clear hd1
      go_wp2
      go_roundw
      case rel => exact ⟨k + 1, by omega, by go_num, hdw⟩
      case measure => simp [intOf]; omega
    · obtain rfl : k = ll.length := by omega
      go_wp2
      go_ret
      exact ⟨rfl, hd⟩
set_option maxHeartbeats 2000000 in
theorem same_part (R : List (List Int)) (L : List Int) (vr vl vr2 vl2 : Value) (w : World) (h1 : RowUU w vr R) (h2 : RowU w vl L) (h3 : RowUU w vr2 R) (h4 : RowU w vl2 L) :
    Calls Tryd.prog 80 #[.agg #[vr, vl], .agg #[vr2, vl2]] w fun e w' => e = .returned (.bool true) ∧ Below w.heap.size w w' := by
  have H1 := Lib.hid h1; have H2 := Lib.hid h2; have H3 := Lib.hid h3; have H4 := Lib.hid h4
  obtain ⟨_, a1, p1, rfl, _⟩ := h1
  obtain ⟨_, _, a2, p2, rfl, _⟩ := h2
  obtain ⟨_, a3, p3, rfl, _⟩ := h3
  obtain ⟨_, _, a4, p4, rfl, _⟩ := h4
  obtain ⟨W, hW, b1, b2, s1, B1⟩ := two_blocks w #[.slice a1 R.length p1, .slice a2 L.length p2] #[.slice a3 R.length p3, .slice a4 L.length p4] 82 82
  have k0 : W.cell? ⟨w.heap.size, 0, none⟩ = some (.slice a1 R.length p1) := cell_blk b1 0
  have k1 : W.cell? ⟨w.heap.size, 1, none⟩ = some (.slice a2 L.length p2) := cell_blk b1 1
  have k2 : W.cell? ⟨w.heap.size + 1, 0, none⟩ = some (.slice a3 R.length p3) := cell_blk b2 0
  have k3 : W.cell? ⟨w.heap.size + 1, 1, none⟩ = some (.slice a4 L.length p4) := cell_blk b2 1
  have HB := Lib.hid B1
  have l0 : w.heap.size < W.heap.size := by omega
  have l1 : w.heap.size + 1 < W.heap.size := by omega
  clear b1 b2 B1 s1
  go_enter Tryd.func80, Tryd.ntmps80
  go_wp2_with (fail)
  refine (slices_Equal L _ _ _ (H2.out.go HB.out) (H4.out.go HB.out)).mono ?_
  rintro e w1 ⟨rfl, hd⟩
  have q0 := (hd.below.cell (p := ⟨w.heap.size, 0, none⟩) l0).trans k0
  have q2 := (hd.below.cell (p := ⟨w.heap.size + 1, 0, none⟩) l1).trans k2
  have HB1 := Lib.hid (below_two HB.out hd.below)
  clear k0 k1 k2 k3 hW
  go_wp2_with (fail)
  refine (eqFuncR R _ _ _ (H1.out.below HB1.out (Nat.le_refl _)) (H3.out.below HB1.out (Nat.le_refl _))).mono ?_
  rintro e w2 ⟨rfl, hd2⟩
  go_wp2
  go_ret
  exact ⟨rfl, below_two HB1.out hd2.below⟩
set_option maxHeartbeats 4000000 in
theorem eqFuncP (ps : List Pi) (v v2 : Value) (w : World) (hp : RowP w v ps) (hp2 : RowP w v2 ps) :
    Calls Tryd.prog 79 #[v, v2, .func (.func 80) #[] #[]] w fun e w' => e = .returned (.bool true) ∧ Below w.heap.size w w' := by
  obtain ⟨h2, ad, cap, rfl, hr⟩ := hp
  obtain ⟨_, ad2, cap2, rfl, hr2⟩ := hp2
  have Hr := Lib.hid hr
  have Hr2 := Lib.hid hr2
  clear hr hr2
  go_enter Tryd.func79, Tryd.ntmps79
  go_wp2
  go_loopw [17] (fun i wr => ∃ k : Nat, k ≤ ps.length ∧ i = .int .i64 (k : Int) ∧ Hid (Below w.heap.size w wr)) (fun i _ => ps.length - (intOf i).toNat)
  case atStart => exact ⟨0, by omega, rfl, Below.refl _ _⟩
  case round =>
    obtain ⟨k, hk, rfl, HB⟩ := hrel
    by_cases hz : k < ps.length
    · obtain ⟨b, off, rfl, hblt, hcell⟩ := Hr.out (by omega)
      obtain ⟨b2, off2, rfl, hblt2, hcell2⟩ := Hr2.out (by omega)
      obtain ⟨u, u1, hu, hu1, hR, hL⟩ := hcell k hz
      obtain ⟨x, x1, hx, hx1, hR2, hL2⟩ := hcell2 k hz
      have c1 := (HB.out.cell (p := ⟨b, off + k * 2, none⟩) hblt).trans hu
      have c2 := (HB.out.cell (p := ⟨b, off + k * 2 + 1, none⟩) hblt).trans hu1
      have c3 := (HB.out.cell (p := ⟨b2, off2 + k * 2, none⟩) hblt2).trans hx
      have c4 := (HB.out.cell (p := ⟨b2, off2 + k * 2 + 1, none⟩) hblt2).trans hx1
      have HR := Lib.hid hR; have HL := Lib.hid hL; have HR2 := Lib.hid hR2; have HL2 := Lib.hid hL2
      obtain ⟨_, au, cu, rfl, _⟩ := hR
      obtain ⟨_, _, al, cl, rfl, _⟩ := hL
      obtain ⟨_, ax, cx, rfl, _⟩ := hR2
      obtain ⟨_, _, ay, cy, rfl, _⟩ := hL2
      have hk1 : (k : Int) < (ps.length : Int) := by omega
      have hb2 : b2 < wr.heap.size := Nat.lt_of_lt_of_le hblt2 HB.out.size
      clear hcell hcell2 hu hu1 hx hx1
      go_wp2_with (fail)
      obtain ⟨W, hW, -, -, -, B1⟩ := two_blocks wr #[.slice au (atp ps k).rounds.length cu, .slice al (atp ps k).line.length cl] #[.slice ax (atp ps k).rounds.length cx, .slice ay (atp ps k).line.length cy] 82 82
      rw [hW]
      have HBW := Lib.hid (below_two HB.out B1)
      clear hW B1 c1 c2 c3 c4
      refine (same_part (atp ps k).rounds (atp ps k).line _ _ _ _ W (HR.out.below HBW.out (Nat.le_refl _)) (HL.out.go HBW.out) (HR2.out.below HBW.out (Nat.le_refl _)) (HL2.out.go HBW.out)).mono ?_
      rintro e w1 ⟨rfl, hb1⟩
      have HB1 := Lib.hid (below_two HBW.out hb1)
      clear hb1
      go_wp2
      go_roundw
      case rel => exact ⟨k + 1, by omega, by go_num, HB1.out⟩
      case measure => simp [intOf]; omega
    · obtain rfl : k = ps.length := by omega
      go_wp2
      go_ret
      exact ⟨rfl, HB.out⟩
set_option maxHeartbeats 2000000 in
theorem ref_SameProof (ps : List Pi) (v v2 : Value) (w : World) (hp : IsP w v ps) (hp2 : IsP w v2 ps) :
    Calls Tryd.prog 41 #[v, v2] w fun e w' => e = .returned (.bool true) ∧ Below w.heap.size w w' := by
  obtain ⟨u, rfl, h1⟩ := hp
  obtain ⟨u2, rfl, h2⟩ := hp2
  have H1 := Lib.hid h1; have H2 := Lib.hid h2
  obtain ⟨_, a1, p1, rfl, _⟩ := h1
  obtain ⟨_, a2, p2, rfl, _⟩ := h2
  obtain ⟨W, hW, b1, b2, s1, B1⟩ := two_blocks w #[.slice a1 ps.length p1] #[.slice a2 ps.length p2] 37 37
  have k0 : W.cell? ⟨w.heap.size, 0, none⟩ = some (.slice a1 ps.length p1) := cell_blk b1 0
  have k2 : W.cell? ⟨w.heap.size + 1, 0, none⟩ = some (.slice a2 ps.length p2) := cell_blk b2 0
  have HB := Lib.hid B1
  clear b1 b2 B1 s1
  go_enter Tryd.func41, Tryd.ntmps41
  go_wp2_with (fail)
  refine (eqFuncP ps _ _ _ (H1.out.below HB.out (Nat.le_refl _)) (H2.out.below HB.out (Nat.le_refl _))).mono ?_
  rintro e w1 ⟨rfl, hb⟩
  have HB1 := Lib.hid (below_two HB.out hb)
  clear hb k0 k2 hW
  go_wp2
  go_ret
  exact ⟨rfl, HB1.out⟩
end Go.Proofs.YtnleihjdllpniaaDoor

/- The walk of gkr's Prove where it refuses. -/
namespace Go.Proofs.YtnleihjdllpniaaDoor
set_option maxRecDepth 100000
set_option linter.unusedVariables false
open Go.RowKit Tally
set_option maxRecDepth 100000 in
set_option maxHeartbeats 4000000 in
/-- the run refuses -/
theorem gkr_Prove_no (v : Value) (c : Ci) (vi vd : Value) (E : Int) (w : World) (h : IsC w v c) (hE : (E != 0) = true)
    (hrun : ∀ W, Below w.heap.size w W → Calls Tryd.prog 17 #[v, vi] W fun e w' => e = .returned (.tuple #[.slice none 0 0, .int .i64 E]) ∧ Below W.heap.size W w') :
    Calls Tryd.prog 19 #[v, vi, vd] w fun e w' => e = .returned (.tuple #[.agg #[.slice none 0 0], .int .i64 E]) ∧ Below w.heap.size w w' := by
  obtain ⟨ac, cc, rfl⟩ := h.shape
  have HR := Lib.hid hrun
  clear hrun h
  go_enter Tryd.func19, Tryd.ntmps19
  go_wp2_with (fail)
  obtain ⟨W, hW, hb1, hb2, s1, B1⟩ := two_blocks w #[.int .i64 c.log, .slice ac c.layers.length cc] #[.slice none 0 0] 24 37
  rw [hW]
  have H1 := Lib.hid B1
  have Hb2 := Lib.hid hb2
  have lrs : w.heap.size + 1 < W.heap.size := by omega
  clear hW hb1 hb2 B1 s1
  refine (HR.out W H1.out).mono ?_
  rintro e w1 ⟨rfl, bw1⟩
  have H2 := Lib.hid (below_two H1.out bw1)
  have hrr := (bw1.block (w.heap.size + 1) lrs).trans Hb2.out
  have ff := free_blk hrr 0
  have g0 : w1.cell? ⟨w.heap.size + 1, 0, none⟩ = some (.slice none 0 0) := cell_blk hrr 0
  clear bw1
  go_wp2_with (fail)
  have hbk := blk_setCell hrr 0 (.slice none 0 0)
  have hbz := H2.out.setCell (p := ⟨w.heap.size + 1, 0, none⟩) (Nat.le_succ _) (.slice none 0 0)
  generalize w1.setCell ⟨w.heap.size + 1, 0, none⟩ (.slice none 0 0) = wz at *
  have d0 : wz.cell? ⟨w.heap.size + 1, 0, none⟩ = some (.slice none 0 0) := cell_blk hbk 0
  exact bodyPost_ret (v := .tuple #[.agg #[.slice none 0 0], .int .i64 E]) (by simp [results, Tryd.results19, go_sem, d0]) rfl ⟨rfl, hbz⟩
set_option maxRecDepth 100000 in
set_option maxHeartbeats 4000000 in
/-- the draws are too few or too many -/
theorem gkr_Prove_arg (v : Value) (c : Ci) (vi vd : Value) (inp d : List Int) (w : World) (h : IsC w v c) (hp : RowU w vi inp) (hd : RowU w vd d) (hc0 : checkC c = 0) (hl : inp.length = 2 ^ c.log.toNat) (hdl : d.length ≠ drawsN c) :
    Calls Tryd.prog 19 #[v, vi, vd] w fun e w' => e = .returned (.tuple #[.agg #[.slice none 0 0], .int .i64 1]) ∧ Below w.heap.size w w' := by
  have HC := Lib.hid h; have Hp := Lib.hid hp; have HG := Lib.hid (good_of_check hc0); have Hc0 := Lib.hid hc0; have Hl := Lib.hid hl
  obtain ⟨ac, cc, rfl⟩ := h.shape
  obtain ⟨_, _, ad, cd, rfl, _⟩ := hd
  have hq : ((d.length : Int) != (drawsN c : Int)) = true := by rw [bne_iff_ne]; exact fun e => hdl (Int.ofNat_inj.mp e)
  clear hl hdl hp hc0
  go_enter Tryd.func19, Tryd.ntmps19
  go_wp2_with (fail)
  obtain ⟨W, hW, hb1, hb2, s1, B1⟩ := two_blocks w #[.int .i64 c.log, .slice ac c.layers.length cc] #[.slice none 0 0] 24 37
  rw [hW]
  have H1 := Lib.hid B1
  have Hb1 := Lib.hid hb1
  have Hb2 := Lib.hid hb2
  have ltb : w.heap.size < W.heap.size := by omega
  have lrs : w.heap.size + 1 < W.heap.size := by omega
  clear hW hb1 hb2 B1 s1
  refine (c_Run _ c _ inp _ (HC.out.go H1.out) (Hp.out.go H1.out) HG.out Hc0.out Hl.out).mono ?_
  rintro e w1 ⟨vx, rfl, -, bw1⟩
  have H2 := Lib.hid (below_two H1.out bw1)
  have Bw1 := Lib.hid bw1
  have r0 : w1.cell? ⟨w.heap.size, 0, none⟩ = some _ := cell_blk ((bw1.block w.heap.size ltb).trans Hb1.out) 0
  have r1 : w1.cell? ⟨w.heap.size, 1, none⟩ = some _ := cell_blk ((bw1.block w.heap.size ltb).trans Hb1.out) 1
  clear bw1
  go_wp2_with (fail)
  refine (gkr_draws _ c _ (HC.out.go H2.out) HG.out).mono ?_
  rintro e w2 ⟨rfl, bw2⟩
  have H3 := Lib.hid (below_two H2.out bw2)
  have hrr := ((below_two Bw1.out bw2).block (w.heap.size + 1) lrs).trans Hb2.out
  have ff := free_blk hrr 0
  have g0 : w2.cell? ⟨w.heap.size + 1, 0, none⟩ = some (.slice none 0 0) := cell_blk hrr 0
  clear bw2 r0 r1
  go_wp2_with (fail)
  have hbk := blk_setCell hrr 0 (.slice none 0 0)
  have hbz := H3.out.setCell (p := ⟨w.heap.size + 1, 0, none⟩) (Nat.le_succ _) (.slice none 0 0)
  generalize w2.setCell ⟨w.heap.size + 1, 0, none⟩ (.slice none 0 0) = wz at *
  have d0 : wz.cell? ⟨w.heap.size + 1, 0, none⟩ = some (.slice none 0 0) := cell_blk hbk 0
  exact bodyPost_ret (v := .tuple #[.agg #[.slice none 0 0], .int .i64 1]) (by simp [results, Tryd.results19, go_sem, d0]) rfl ⟨rfl, hbz⟩
end Go.Proofs.YtnleihjdllpniaaDoor

/- The walk of the law GkrProves: it returns true, whatever is handed in. The table of bits lies as its initialiser lays it. -/
namespace Go.Proofs.YtnleihjdllpniaaDoor
set_option maxRecDepth 100000
set_option linter.unusedVariables false
open Go.RowKit Tally
set_option maxRecDepth 100000 in
set_option maxHeartbeats 4000000 in
theorem law_small (v : Value) (c : Ci) (w : World) (h : IsC w v c) :
    Calls Tryd.prog 38 #[v] w fun e w' => ∃ b, e = .returned (.bool b) ∧ Below w.heap.size w w' := by
  obtain ⟨ac, cc, rfl⟩ := h.shape
  obtain ⟨hlog, u, e, hL⟩ := h
  cases e
  obtain ⟨hls, hll, a', cap', e, hr⟩ := hL
  cases e
  have Hr := Lib.hid hr; have Hls := Lib.hid hls; have Hlog := Lib.hid hlog
  clear hr hls hlog
  go_enter Tryd.func38, Tryd.ntmps38
  go_wp2_with (fail)
  obtain ⟨W1, hW, k0, k1, B1, s1⟩ := copied2' w (.int .i64 c.log) (.slice ac c.layers.length cc) 24
  rw [hW]
  have HX1 := Lib.hid (show Boxed w.heap.size (.int .i64 c.log) (.slice ac c.layers.length cc) W1 from ⟨k0, k1, by omega⟩)
  have H1 := Lib.hid B1
  clear hW s1 B1 k0
  go_wp2_with (fail)
  clear k1
  obtain ⟨tb, htb⟩ : ∃ tb, tb = w.heap.size := ⟨_, rfl⟩
  rw [← htb] at HX1 ⊢
  clear htb
  go_loopw [8] (fun i wr => ∃ j : Nat, j ≤ c.layers.length ∧ i = .int .i64 (j : Int) ∧ Hid (Below W1.heap.size W1 wr)) (fun i _ => c.layers.length - (intOf i).toNat)
  case atStart => exact ⟨0, by omega, rfl, Below.refl _ _⟩
  case round =>
    obtain ⟨j, hj, rfl, HB⟩ := hrel
    have HXr := Lib.hid (HX1.out.go HB.out)
    have hbr := Lib.hid (below_two H1.out HB.out)
    by_cases hz : j < c.layers.length
    · obtain ⟨b, off, rfl, hblt, hcell⟩ := Hr.out (by omega)
      obtain ⟨c0, ug, c1, hg⟩ := hcell j hz
      obtain ⟨_, _, ag, cg, rfl, -⟩ := hg
      have q0 := (hbr.out.cell (p := ⟨b, off + j * 2, none⟩) hblt).trans c0
      have q1 := (hbr.out.cell (p := ⟨b, off + j * 2 + 1, none⟩) hblt).trans c1
      have hji : (j : Int) < (c.layers.length : Int) := by omega
      obtain ⟨G, hG⟩ : ∃ G, G = (aty c.layers j).log := ⟨_, rfl⟩
      rw [← hG] at q0
      clear c0 c1 hcell hG
      by_cases h2 : G ≤ 2
      · have hb2 : decide (2 < G) = false := decide_eq_false (by omega)
        clear h2
        go_wp2
        go_roundw
        case rel => exact ⟨j + 1, by omega, by go_num, HB.out.alloc HB.out.size _⟩
        case measure => simp [intOf]; omega
      · have hb2 : decide (2 < G) = true := decide_eq_true (by omega)
        clear h2
        go_wp2
        go_ret
        exact ⟨_, rfl, hbr.out.alloc hbr.out.size _⟩
    · obtain rfl : j = c.layers.length := by omega
      have q0 := HXr.out.c0; have q1 := HXr.out.c1
      go_wp2
      go_ret
      exact ⟨_, rfl, hbr.out⟩
theorem isP_nil (w : World) : IsP w (.agg #[.slice none 0 0]) [] := ⟨_, rfl, by simp, none, 0, rfl, fun h => absurd h (by simp)⟩
set_option maxRecDepth 100000 in
set_option maxHeartbeats 8000000 in
theorem gkrProves_walk (w : World) (hT : Tab w) (v : Value) (c : Ci) (h : IsC w v c) (vi : Value) (inp : List Int) (hi : RowU w vi inp) (vd : Value) (ds : List Int) (hd : RowU w vd ds) (hcd : CapOk vd) :
    Calls Tryd.prog 7 #[v, vi, vd] w fun e w' => e = .returned (.bool true) ∧ Below w.heap.size w w' := by
  obtain ⟨ac, cc, rfl⟩ := h.shape
  have HT := Lib.hid hT; have HC := Lib.hid h; have Hi := Lib.hid hi; have Hd := Lib.hid hd; have Hcd := Lib.hid hcd
  obtain ⟨_, _, ai, ci, rfl, _⟩ := hi
  obtain ⟨_, _, ad, cd, rfl, _⟩ := hd
  clear hT h hcd
  go_enter Tryd.func7, Tryd.ntmps7
  go_wp2_with (fail)
  obtain ⟨W1, hW, k0, k1, B1, s1⟩ := copied2' w (.int .i64 c.log) (.slice ac c.layers.length cc) 24
  rw [hW]
  obtain ⟨tb, htb⟩ : ∃ tb, tb = w.heap.size := ⟨_, rfl⟩
  rw [← htb] at k0 k1 s1 ⊢
  have HX1 := Lib.hid (show Boxed tb (.int .i64 c.log) (.slice ac c.layers.length cc) W1 from ⟨k0, k1, by omega⟩)
  have H1 := Lib.hid B1
  clear hW s1 k0 k1 B1 htb
  refine (rc_Circuit _ c _ (HC.out.go H1.out)).mono ?_
  rintro e w2 ⟨rfl, hb2⟩
  have H2 := Lib.hid (below_two H1.out hb2)
  have HX2 := Lib.hid (HX1.out.go hb2)
  clear hb2
  have r0 := HX2.out.c0; have r1 := HX2.out.c1
  by_cases hc : checkC c = 0
  · have Hc := Lib.hid hc
    have HG := Lib.hid (good_of_check hc)
    rw [hc]
    clear hc
    go_wp2_with (fail)
    refine (law_small _ c _ (HC.out.go H2.out)).mono ?_
    rintro e w3 ⟨b, rfl, hb3⟩
    have H3 := Lib.hid (below_two H2.out hb3)
    have HX3 := Lib.hid (HX2.out.go hb3)
    clear hb3 r0 r1
    have r0 := HX3.out.c0; have r1 := HX3.out.c1
    cases b with
    | false =>
      go_wp2
      go_ret
      exact ⟨rfl, H3.out⟩
    | true =>
      go_wp2_with (fail)
      refine (gkr_Draws _ c _ (HC.out.go H3.out) Hc.out).mono ?_
      rintro e w4 ⟨rfl, hb4⟩
      have H4 := Lib.hid (below_two H3.out hb4)
      have HX4 := Lib.hid (HX3.out.go hb4)
      clear hb4 r0 r1
      have r0 := HX4.out.c0; have r1 := HX4.out.c1
      go_wp2_with (fail)
      refine (ref_Need _ c _ (HC.out.go H4.out) HG.out).mono ?_
      rintro e w5 ⟨rfl, hb5⟩
      have H5 := Lib.hid (below_two H4.out hb5)
      have HX5 := Lib.hid (HX4.out.go hb5)
      clear hb5 r0 r1
      have r0 := HX5.out.c0; have r1 := HX5.out.c1
      have hl0 := HG.out.log0; have hl4 := HG.out.log4
      have hw := wrap4 hl4
      obtain ⟨P, hP⟩ : ∃ P, wrap64 (2 ^ c.log.toNat) = P := ⟨_, rfl⟩
      have hPe : P = ((2 ^ c.log.toNat : Nat) : Int) := by rw [← hP, hw]
      have HPe := Lib.hid hPe
      clear hw hPe
      obtain ⟨W6, hW6, kz, B6, s6⟩ := copied1' w5 (.slice none 0 0) 37
      have bz : W6.heap[w5.heap.size]? = some (.cells #[.slice none 0 0] 37 (0, 0)) := by rw [← hW6]; exact alloc_blk w5 _
      have Hbz := Lib.hid bz
      have H6 := Lib.hid (below_two H5.out B6)
      have HX6 := Lib.hid (HX5.out.go B6)
      have lz : w5.heap.size < W6.heap.size := by omega
      clear r0 r1 bz B6 s6
      have r0 := HX6.out.c0; have r1 := HX6.out.c1
      have htb6 := HX6.out.lt
      by_cases hl : inp.length = 2 ^ c.log.toNat
      · have hbn : ((inp.length : Int) != P) = false := by rw [HPe.out, bne_eq_false_iff_eq]; exact congrArg _ hl
        have Hl := Lib.hid hl
        clear hl
        by_cases hdl : ds.length = drawsN c
        · have hbd : ((ds.length : Int) != (drawsN c : Int)) = false := by rw [bne_eq_false_iff_eq]; exact congrArg _ hdl
          have Hdl := Lib.hid hdl
          clear hdl
          go_wp2_with (fail)
          refine (ref_ProofN _ c _ _ inp ds W6 (HC.out.go H6.out) (Hi.out.go H6.out) (Hd.out.go H6.out) Hcd.out HG.out Hl.out Hdl.out).mono ?_
          rintro e w7 ⟨vp, rfl, hf, hb7⟩
          obtain ⟨up, rfl, hrp⟩ := hf.now
          obtain ⟨_, ap, cp, rfl, _⟩ := hrp
          have Hf := Lib.hid hf
          have hbz7 := (hb7.block w5.heap.size lz).trans Hbz.out
          have H7 := Lib.hid (below_two H6.out hb7)
          have HX7 := Lib.hid (HX6.out.go hb7)
          have fz := free_blk hbz7 0
          have cz : w7.cell? ⟨w5.heap.size, 0, none⟩ = some _ := cell_blk hbz7 0
          have lz7 : w5.heap.size < w7.heap.size := blk_lt hbz7
          have ht5 : tb ≠ w5.heap.size := by have := HX5.out.lt; omega
          have q0 : ∀ u, (w7.setCell ⟨w5.heap.size, 0, none⟩ u).cell? ⟨tb, 0, none⟩ = some _ := fun u => keep_set1 u ht5 HX7.out.c0
          have q1 : ∀ u, (w7.setCell ⟨w5.heap.size, 0, none⟩ u).cell? ⟨tb, 1, none⟩ = some _ := fun u => keep_set1 u ht5 HX7.out.c1
          clear r0 r1 kz hf hb7 hW6
          go_wp2_with (fail)
          have hfz := Lib.hid ((Hf.out.set (b := w5.heap.size) lz 0 (.slice ap (proveI c inp ds).length cp)))
          have hbz8 := blk_setCell hbz7 0 (.slice ap (proveI c inp ds).length cp)
          have H8 := Lib.hid (H7.out.setCell (p := ⟨w5.heap.size, 0, none⟩) H5.out.size (.slice ap (proveI c inp ds).length cp))
          clear q0 q1 fz cz
          generalize w7.setCell ⟨w5.heap.size, 0, none⟩ (.slice ap (proveI c inp ds).length cp) = w8 at *
          refine (gkr_Prove _ c _ _ inp ds w8 (HT.out.below H8.out) (HC.out.go H8.out) (Hi.out.go H8.out) (Hd.out.go H8.out) Hcd.out Hc.out Hl.out Hdl.out).mono ?_
          rintro e w9 ⟨vq, rfl, hq, hb9⟩
          obtain ⟨uq, rfl, hrq⟩ := hq
          have Hq := Lib.hid hrq
          obtain ⟨_, aq, cq, rfl, _⟩ := hrq
          have lz8 : w5.heap.size < w8.heap.size := blk_lt hbz8
          have hbz9 := (hb9.block w5.heap.size lz8).trans hbz8
          have cz9 : w9.cell? ⟨w5.heap.size, 0, none⟩ = some _ := cell_blk hbz9 0
          have lz9 : w5.heap.size < w9.heap.size := blk_lt hbz9
          have H9 := Lib.hid (below_two H8.out hb9)
          have Hf9 := Lib.hid (hfz.out.go hb9).now
          clear hb9
          go_wp2_with (fail)
          obtain ⟨W10, hW10, -, B10, -⟩ := copied1' w9 (.slice aq (proveI c inp ds).length cq) 37
          rw [hW10]
          have H10 := Lib.hid (below_two H9.out B10)
          obtain ⟨uf, ef, hrf⟩ := Hf9.out
          cases ef
          refine (ref_SameProof (proveI c inp ds) _ _ W10 ⟨_, rfl, Hq.out.below B10 (Nat.le_refl _)⟩ ⟨_, rfl, hrf.below B10 (Nat.le_refl _)⟩).mono ?_
          rintro e w11 ⟨rfl, hb11⟩
          have H11 := Lib.hid (below_two H10.out hb11)
          clear hW10 B10 hb11
          go_wp2
          go_ret
          exact ⟨rfl, H11.out⟩
        · have hbd : ((ds.length : Int) != (drawsN c : Int)) = true := by rw [bne_iff_ne]; exact fun e => hdl (Int.ofNat_inj.mp e)
          have Hdl := Lib.hid hdl
          clear hdl
          go_wp2_with (fail)
          refine (gkr_Prove_arg _ c _ _ inp ds W6 (HC.out.go H6.out) (Hi.out.go H6.out) (Hd.out.go H6.out) Hc.out Hl.out Hdl.out).mono ?_
          rintro e w7 ⟨rfl, hb7⟩
          have cz7 := (hb7.cell (p := ⟨w5.heap.size, 0, none⟩) lz).trans kz
          have lz7 : w5.heap.size < w7.heap.size := Nat.lt_of_lt_of_le lz hb7.size
          have H7 := Lib.hid (below_two H6.out hb7)
          clear r0 r1 kz hb7 hW6
          go_wp2_with (fail)
          refine (ref_SameProof [] _ _ _ (isP_nil _) (isP_nil _)).mono ?_
          rintro e w8 ⟨rfl, hb8⟩
          have H8 := Lib.hid (below_two (H7.out.alloc H7.out.size _) hb8)
          clear hb8
          go_wp2
          go_ret
          exact ⟨rfl, H8.out⟩
      · have hbn : ((inp.length : Int) != P) = true := by rw [HPe.out, bne_iff_ne]; exact fun e => hl (Int.ofNat_inj.mp e)
        have Hl := Lib.hid hl
        clear hl
        go_wp2_with (fail)
        refine (gkr_Prove_no _ c _ _ 4 W6 (HC.out.go H6.out) rfl (fun W hW => c_Run_form _ c _ inp W (HC.out.go (below_two H6.out hW)) (Hi.out.go (below_two H6.out hW)) HG.out Hc.out Hl.out)).mono ?_
        rintro e w7 ⟨rfl, hb7⟩
        have cz7 := (hb7.cell (p := ⟨w5.heap.size, 0, none⟩) lz).trans kz
        have lz7 : w5.heap.size < w7.heap.size := Nat.lt_of_lt_of_le lz hb7.size
        have H7 := Lib.hid (below_two H6.out hb7)
        clear r0 r1 kz hb7 hW6
        go_wp2_with (fail)
        refine (ref_SameProof [] _ _ _ (isP_nil _) (isP_nil _)).mono ?_
        rintro e w8 ⟨rfl, hb8⟩
        have H8 := Lib.hid (below_two (H7.out.alloc H7.out.size _) hb8)
        clear hb8
        go_wp2
        go_ret
        exact ⟨rfl, H8.out⟩
  · have hcb : (checkC c != 0) = true := by rw [bne_iff_ne]; exact hc
    have hcb2 : (checkC c == 0) = false := by rw [beq_eq_false_iff_ne]; exact hc
    have Hcb := Lib.hid hcb
    clear hc
    go_wp2_with (fail)
    refine (gkr_Draws_no _ c _ (HC.out.go H2.out) Hcb.out).mono ?_
    rintro e w3 ⟨rfl, hb3⟩
    have H3 := Lib.hid (below_two H2.out hb3)
    have HX3 := Lib.hid (HX2.out.go hb3)
    clear hb3 r0 r1
    have r0 := HX3.out.c0; have r1 := HX3.out.c1
    go_wp2_with (fail)
    refine (gkr_Prove_no _ c _ _ (checkC c) _ (HC.out.go H3.out) Hcb.out (fun W hW => c_Run_no _ c _ inp W (HC.out.go (below_two H3.out hW)) (Hi.out.go (below_two H3.out hW)) Hcb.out)).mono ?_
    rintro e w4 ⟨rfl, hb4⟩
    have H4 := Lib.hid (below_two H3.out hb4)
    clear hb4 r0 r1
    go_wp2
    go_ret
    exact ⟨rfl, H4.out.alloc H4.out.size _⟩
end Go.Proofs.YtnleihjdllpniaaDoor
