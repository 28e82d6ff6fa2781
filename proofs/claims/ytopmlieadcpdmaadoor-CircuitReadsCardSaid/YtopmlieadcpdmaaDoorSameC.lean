/- The walk of the reference's SameCircuit: of two circuits that read alike. No condition. -/
import Derived.Test.YtopmlieadcpdmaaDoorRCircW
import Derived.Test.YtopmlieadcpdmaaDoorFar
namespace Go.Proofs.YtopmlieadcpdmaaDoor
set_option maxRecDepth 100000
set_option linter.unusedVariables false
open Go.RowKit Tally
theorem two_blocksC (w : World) (cs1 cs2 : Array Value) (t1 t2 : Nat) : ∃ W, (w.alloc (.cells cs1 t1)).alloc (.cells cs2 t2) = W ∧ W.heap[w.heap.size]? = some (.cells cs1 t1 (0, 0)) ∧ W.heap[w.heap.size + 1]? = some (.cells cs2 t2 (0, 0)) ∧ W.heap.size = w.heap.size + 2 ∧ Below w.heap.size w W := by
  refine ⟨_, rfl, ?_, ?_, by simp, ((Below.refl _ _).alloc (Nat.le_refl _) _).alloc (by simp <;> omega) _⟩
  · show ((w.heap.push _).push _)[w.heap.size]? = _
    rw [Array.getElem?_push, if_neg (by simp), Array.getElem?_push, if_pos rfl]
  · show ((w.heap.push _).push _)[w.heap.size + 1]? = _
    rw [Array.getElem?_push, if_pos (by simp)]
theorem RowG.goC {w w' : World} {v : Value} {l : List Gt} (h : RowG w v l) (hb : Below w.heap.size w w') : RowG w' v l := h.below hb (Nat.le_refl _)
theorem RowL.goC {w w' : World} {v : Value} {l : List Ly} (h : RowL w v l) (hb : Below w.heap.size w w') : RowL w' v l := h.below hb (Nat.le_refl _)
set_option maxHeartbeats 4000000 in
theorem slices_EqualG (l : List Gt) (v v2 : Value) (w : World) (hp : RowG w v l) (hp2 : RowG w v2 l) :
    Calls Tryd.prog 39 #[v, v2] w fun e w' => e = .returned (.bool true) ∧ Below w.heap.size w w' := by
  obtain ⟨h1, h2, ad, cap, rfl, hr⟩ := hp
  obtain ⟨_, _, ad2, cap2, rfl, hr2⟩ := hp2
  have Hr := Lib.hid hr
  have Hr2 := Lib.hid hr2
  have H1 := Lib.hid h1
  clear hr hr2 h1
  go_enter Tryd.func39, Tryd.ntmps39
  go_wp2
  go_loopw [13] (fun i wr => ∃ k : Nat, k ≤ l.length ∧ i = .int .i64 (k : Int) ∧ Hid (Below w.heap.size w wr)) (fun i _ => l.length - (intOf i).toNat)
  case atStart => exact ⟨0, by omega, rfl, Below.refl _ _⟩
  case round =>
    obtain ⟨k, hk, rfl, HB⟩ := hrel
    by_cases hz : k < l.length
    · obtain ⟨b, off, rfl, hblt, hcell⟩ := Hr.out (by omega)
      obtain ⟨b2, off2, rfl, hblt2, hcell2⟩ := Hr2.out (by omega)
      obtain ⟨hu, hu1, hu2⟩ := hcell k hz
      obtain ⟨hx, hx1, hx2⟩ := hcell2 k hz
      have c1 := (HB.out.cell (p := ⟨b, off + k * 3, none⟩) hblt).trans hu
      have c2 := (HB.out.cell (p := ⟨b, off + k * 3 + 1, none⟩) hblt).trans hu1
      have c3 := (HB.out.cell (p := ⟨b, off + k * 3 + 2, none⟩) hblt).trans hu2
      have d1 := (HB.out.cell (p := ⟨b2, off2 + k * 3, none⟩) hblt2).trans hx
      have d2 := (HB.out.cell (p := ⟨b2, off2 + k * 3 + 1, none⟩) hblt2).trans hx1
      have d3 := (HB.out.cell (p := ⟨b2, off2 + k * 3 + 2, none⟩) hblt2).trans hx2
      have hk1 : (k : Int) < (l.length : Int) := by omega
      have hk0 : (0 : Int) ≤ (k : Int) := by omega
      clear hcell hcell2 hu hu1 hx hx1 hu2 hx2
      generalize (atg l k).mul = x at *
      generalize (atg l k).a = y at *
      generalize (atg l k).b = z at *
      have he : ∀ w, (Op.equalIn 10000 49 (.agg #[.bool x, .int .i64 y, .int .i64 z]) (.agg #[.bool x, .int .i64 y, .int .i64 z])).run Tryd.prog w = .ok true w := by
        intro w
        rw [run_equalIn_agg w 9999 49 _ _ (by kernel_rfl) (by kernel_rfl)]
        go_simp
      go_wp2
      go_quiet (fail)
      go_wp2
      go_roundw
      case rel => exact ⟨k + 1, by omega, by go_num, below_drewN HB.out nq⟩
      case measure => simp [intOf]; omega
    · obtain rfl : k = l.length := by omega
      go_wp2
      go_ret
      exact ⟨rfl, HB.out⟩
set_option maxHeartbeats 4000000 in
theorem same_layer (y : Int) (L : List Gt) (vb vb2 : Value) (w : World) (h2 : RowG w vb L) (h4 : RowG w vb2 L) :
    Calls Tryd.prog 38 #[.agg #[.int .i64 y, vb], .agg #[.int .i64 y, vb2]] w fun e w' => e = .returned (.bool true) ∧ Below w.heap.size w w' := by
  have H2 := Lib.hid h2; have H4 := Lib.hid h4
  obtain ⟨_, _, a2, p2, rfl, _⟩ := h2
  obtain ⟨_, _, a4, p4, rfl, _⟩ := h4
  obtain ⟨W, hW, b1, b2, s1, B1⟩ := two_blocksC w #[.int .i64 y, .slice a2 L.length p2] #[.int .i64 y, .slice a4 L.length p4] 46 46
  have k0 : W.cell? ⟨w.heap.size, 0, none⟩ = some (.int .i64 y) := cell_blk b1 0
  have k1 : W.cell? ⟨w.heap.size, 1, none⟩ = some (.slice a2 L.length p2) := cell_blk b1 1
  have k2 : W.cell? ⟨w.heap.size + 1, 0, none⟩ = some (.int .i64 y) := cell_blk b2 0
  have k3 : W.cell? ⟨w.heap.size + 1, 1, none⟩ = some (.slice a4 L.length p4) := cell_blk b2 1
  have HB := Lib.hid B1
  have l0 : w.heap.size < W.heap.size := by omega
  have l1 : w.heap.size + 1 < W.heap.size := by omega
  have hyy : (y == y) = true := beq_self_eq_true y
  clear b1 b2 B1 s1
  go_enter Tryd.func38, Tryd.ntmps38
  go_wp2_with (fail)
  refine (slices_EqualG L _ _ _ (H2.out.goC HB.out) (H4.out.goC HB.out)).mono ?_
  rintro e w1 ⟨rfl, hd0⟩
  have HB1 := Lib.hid (below_two HB.out hd0)
  clear k0 k1 k2 k3 hW hd0
  go_wp2
  go_ret
  exact ⟨rfl, HB1.out⟩
set_option maxHeartbeats 8000000 in
theorem eqFuncY (ps : List Ly) (v v2 : Value) (w : World) (hp : RowL w v ps) (hp2 : RowL w v2 ps) :
    Calls Tryd.prog 37 #[v, v2, .func (.func 38) #[] #[]] w fun e w' => e = .returned (.bool true) ∧ Below w.heap.size w w' := by
  obtain ⟨_, h2, ad, cap, rfl, hr⟩ := hp
  obtain ⟨_, _, ad2, cap2, rfl, hr2⟩ := hp2
  have Hr := Lib.hid hr
  have Hr2 := Lib.hid hr2
  clear hr hr2
  go_enter Tryd.func37, Tryd.ntmps37
  go_wp2
  go_loopw [17] (fun i wr => ∃ k : Nat, k ≤ ps.length ∧ i = .int .i64 (k : Int) ∧ Hid (Below w.heap.size w wr)) (fun i _ => ps.length - (intOf i).toNat)
  case atStart => exact ⟨0, by omega, rfl, Below.refl _ _⟩
  case round =>
    obtain ⟨k, hk, rfl, HB⟩ := hrel
    by_cases hz : k < ps.length
    · obtain ⟨b, off, rfl, hblt, hcell⟩ := Hr.out (by omega)
      obtain ⟨b2, off2, rfl, hblt2, hcell2⟩ := Hr2.out (by omega)
      obtain ⟨hu, u1, hu1, hL⟩ := hcell k hz
      obtain ⟨hx, x1, hx1, hL2⟩ := hcell2 k hz
      have c1 := (HB.out.cell (p := ⟨b, off + k * 2, none⟩) hblt).trans hu
      have c2 := (HB.out.cell (p := ⟨b, off + k * 2 + 1, none⟩) hblt).trans hu1
      have c3 := (HB.out.cell (p := ⟨b2, off2 + k * 2, none⟩) hblt2).trans hx
      have c4 := (HB.out.cell (p := ⟨b2, off2 + k * 2 + 1, none⟩) hblt2).trans hx1
      have HL := Lib.hid hL; have HL2 := Lib.hid hL2
      obtain ⟨_, _, al, cl, rfl, _⟩ := hL
      obtain ⟨_, _, ay, cy, rfl, _⟩ := hL2
      obtain ⟨Y, hY⟩ : ∃ Y, Y = (aty ps k).log := ⟨_, rfl⟩
      rw [← hY] at c1 c3
      have hk1 : (k : Int) < (ps.length : Int) := by omega
      have hb2 : b2 < wr.heap.size := Nat.lt_of_lt_of_le hblt2 HB.out.size
      clear hcell hcell2 hu hu1 hx hx1 hY
      go_wp2_with (fail)
      obtain ⟨W, hW, -, -, -, B1⟩ := two_blocksC wr #[.int .i64 Y, .slice al (aty ps k).gates.length cl] #[.int .i64 Y, .slice ay (aty ps k).gates.length cy] 46 46
      rw [hW]
      have HBW := Lib.hid (below_two HB.out B1)
      clear hW B1 c1 c2 c3 c4
      refine (same_layer Y (aty ps k).gates _ _ W (HL.out.goC HBW.out) (HL2.out.goC HBW.out)).mono ?_
      rintro e w1 ⟨rfl, hb1⟩
      have HB1 := Lib.hid (below_two HBW.out hb1)
      clear hb1
      go_wp2
      go_roundw
      case rel => exact ⟨k + 1, by omega, by go_num, HB1.out⟩
      case measure => simp [intOf]; omega
    · obtain rfl : k = ps.length := by omega
      go_wp2
      go_ret
      exact ⟨rfl, HB.out⟩
set_option maxHeartbeats 4000000 in
theorem ref_SameCircuit (c : Ci) (v v2 : Value) (w : World) (hp : IsC w v c) (hp2 : IsC w v2 c) :
    Calls Tryd.prog 15 #[v, v2] w fun e w' => e = .returned (.bool true) ∧ Below w.heap.size w w' := by
  obtain ⟨hl, u, rfl, h2⟩ := hp
  obtain ⟨_, u2, rfl, h4⟩ := hp2
  have H2 := Lib.hid h2; have H4 := Lib.hid h4
  obtain ⟨_, _, a2, p2, rfl, _⟩ := h2
  obtain ⟨_, _, a4, p4, rfl, _⟩ := h4
  obtain ⟨y, hy⟩ : ∃ y, y = c.log := ⟨_, rfl⟩
  rw [← hy]
  obtain ⟨L, hL⟩ : ∃ L, L = c.layers := ⟨_, rfl⟩
  rw [← hL] at H2 H4 ⊢
  clear hL hy hl
  obtain ⟨W, hW, b1, b2, s1, B1⟩ := two_blocksC w #[.int .i64 y, .slice a2 L.length p2] #[.int .i64 y, .slice a4 L.length p4] 24 24
  have k0 : W.cell? ⟨w.heap.size, 0, none⟩ = some (.int .i64 y) := cell_blk b1 0
  have k1 : W.cell? ⟨w.heap.size, 1, none⟩ = some (.slice a2 L.length p2) := cell_blk b1 1
  have k2 : W.cell? ⟨w.heap.size + 1, 0, none⟩ = some (.int .i64 y) := cell_blk b2 0
  have k3 : W.cell? ⟨w.heap.size + 1, 1, none⟩ = some (.slice a4 L.length p4) := cell_blk b2 1
  have HB := Lib.hid B1
  have l0 : w.heap.size < W.heap.size := by omega
  have l1 : w.heap.size + 1 < W.heap.size := by omega
  have hyy : (y == y) = true := beq_self_eq_true y
  clear b1 b2 B1 s1
  go_enter Tryd.func15, Tryd.ntmps15
  go_wp2_with (fail)
  refine (eqFuncY L _ _ _ (H2.out.goC HB.out) (H4.out.goC HB.out)).mono ?_
  rintro e w1 ⟨rfl, hd0⟩
  have HB1 := Lib.hid (below_two HB.out hd0)
  clear k0 k1 k2 k3 hW hd0
  go_wp2
  go_ret
  exact ⟨rfl, HB1.out⟩
end Go.Proofs.YtopmlieadcpdmaaDoor
