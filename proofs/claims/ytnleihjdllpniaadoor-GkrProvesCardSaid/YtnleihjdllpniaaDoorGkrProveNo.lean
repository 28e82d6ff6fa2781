/- The walk of gkr's Prove where it refuses. -/
import Derived.Test.YtnleihjdllpniaaDoorGkrProve
namespace Go.Proofs.YtnleihjdllpniaaDoor
set_option maxRecDepth 100000
set_option linter.unusedVariables false
open Go.RowKit Tally
set_option maxRecDepth 100000 in
set_option maxHeartbeats 4000000 in
/-- the run refuses -/
theorem gkr_Prove_no (v : Value) (c : Ci) (vi vd : Value) (E : Int) (w : World) (h : IsC w v c) (hE : (E != 0) = true)
    (hrun : ∀ W, Below w.heap.size w W → Calls Tryd.prog 17 #[v, vi] W fun e w' => e = .returned (.tuple #[.slice none 0 0, .int .i64 E]) ∧ Below W.heap.size W w') :
    Calls Tryd.prog 19 #[v, vi, vd] w fun e w' => e = .returned (.tuple #[.agg #[.slice none 0 0], .int .i64 E]) ∧ Below w.heap.size w w' := by
  obtain ⟨ac, cc, rfl⟩ := h.shape
  have HR := Lib.hid hrun
  clear hrun h
  go_enter Tryd.func19, Tryd.ntmps19
  go_wp2_with (fail)
  obtain ⟨W, hW, hb1, hb2, s1, B1⟩ := two_blocks w #[.int .i64 c.log, .slice ac c.layers.length cc] #[.slice none 0 0] 24 37
  rw [hW]
  have H1 := Lib.hid B1
  have Hb2 := Lib.hid hb2
  have lrs : w.heap.size + 1 < W.heap.size := by omega
  clear hW hb1 hb2 B1 s1
  refine (HR.out W H1.out).mono ?_
  rintro e w1 ⟨rfl, bw1⟩
  have H2 := Lib.hid (below_two H1.out bw1)
  have hrr := (bw1.block (w.heap.size + 1) lrs).trans Hb2.out
  have ff := free_blk hrr 0
  have g0 : w1.cell? ⟨w.heap.size + 1, 0, none⟩ = some (.slice none 0 0) := cell_blk hrr 0
  clear bw1
  go_wp2_with (fail)
  have hbk := blk_setCell hrr 0 (.slice none 0 0)
  have hbz := H2.out.setCell (p := ⟨w.heap.size + 1, 0, none⟩) (Nat.le_succ _) (.slice none 0 0)
  generalize w1.setCell ⟨w.heap.size + 1, 0, none⟩ (.slice none 0 0) = wz at *
  have d0 : wz.cell? ⟨w.heap.size + 1, 0, none⟩ = some (.slice none 0 0) := cell_blk hbk 0
  exact bodyPost_ret (v := .tuple #[.agg #[.slice none 0 0], .int .i64 E]) (by simp [results, Tryd.results19, go_sem, d0]) rfl ⟨rfl, hbz⟩
set_option maxRecDepth 100000 in
set_option maxHeartbeats 4000000 in
/-- the draws are too few or too many -/
theorem gkr_Prove_arg (v : Value) (c : Ci) (vi vd : Value) (inp d : List Int) (w : World) (h : IsC w v c) (hp : RowU w vi inp) (hd : RowU w vd d) (hc0 : checkC c = 0) (hl : inp.length = 2 ^ c.log.toNat) (hdl : d.length ≠ drawsN c) :
    Calls Tryd.prog 19 #[v, vi, vd] w fun e w' => e = .returned (.tuple #[.agg #[.slice none 0 0], .int .i64 1]) ∧ Below w.heap.size w w' := by
  have HC := Lib.hid h; have Hp := Lib.hid hp; have HG := Lib.hid (good_of_check hc0); have Hc0 := Lib.hid hc0; have Hl := Lib.hid hl
  obtain ⟨ac, cc, rfl⟩ := h.shape
  obtain ⟨_, _, ad, cd, rfl, _⟩ := hd
  have hq : ((d.length : Int) != (drawsN c : Int)) = true := by rw [bne_iff_ne]; exact fun e => hdl (Int.ofNat_inj.mp e)
  clear hl hdl hp hc0
  go_enter Tryd.func19, Tryd.ntmps19
  go_wp2_with (fail)
  obtain ⟨W, hW, hb1, hb2, s1, B1⟩ := two_blocks w #[.int .i64 c.log, .slice ac c.layers.length cc] #[.slice none 0 0] 24 37
  rw [hW]
  have H1 := Lib.hid B1
  have Hb1 := Lib.hid hb1
  have Hb2 := Lib.hid hb2
  have ltb : w.heap.size < W.heap.size := by omega
  have lrs : w.heap.size + 1 < W.heap.size := by omega
  clear hW hb1 hb2 B1 s1
  refine (c_Run _ c _ inp _ (HC.out.go H1.out) (Hp.out.go H1.out) HG.out Hc0.out Hl.out).mono ?_
  rintro e w1 ⟨vx, rfl, -, bw1⟩
  have H2 := Lib.hid (below_two H1.out bw1)
  have Bw1 := Lib.hid bw1
  have r0 : w1.cell? ⟨w.heap.size, 0, none⟩ = some _ := cell_blk ((bw1.block w.heap.size ltb).trans Hb1.out) 0
  have r1 : w1.cell? ⟨w.heap.size, 1, none⟩ = some _ := cell_blk ((bw1.block w.heap.size ltb).trans Hb1.out) 1
  clear bw1
  go_wp2_with (fail)
  refine (gkr_draws _ c _ (HC.out.go H2.out) HG.out).mono ?_
  rintro e w2 ⟨rfl, bw2⟩
  have H3 := Lib.hid (below_two H2.out bw2)
  have hrr := ((below_two Bw1.out bw2).block (w.heap.size + 1) lrs).trans Hb2.out
  have ff := free_blk hrr 0
  have g0 : w2.cell? ⟨w.heap.size + 1, 0, none⟩ = some (.slice none 0 0) := cell_blk hrr 0
  clear bw2 r0 r1
  go_wp2_with (fail)
  have hbk := blk_setCell hrr 0 (.slice none 0 0)
  have hbz := H3.out.setCell (p := ⟨w.heap.size + 1, 0, none⟩) (Nat.le_succ _) (.slice none 0 0)
  generalize w2.setCell ⟨w.heap.size + 1, 0, none⟩ (.slice none 0 0) = wz at *
  have d0 : wz.cell? ⟨w.heap.size + 1, 0, none⟩ = some (.slice none 0 0) := cell_blk hbk 0
  exact bodyPost_ret (v := .tuple #[.agg #[.slice none 0 0], .int .i64 1]) (by simp [results, Tryd.results19, go_sem, d0]) rfl ⟨rfl, hbz⟩
end Go.Proofs.YtnleihjdllpniaaDoor
