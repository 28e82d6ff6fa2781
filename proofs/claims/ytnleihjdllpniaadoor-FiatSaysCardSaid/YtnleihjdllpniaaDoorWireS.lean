/- The walks of wiring.Value and wiring.Step; of the reference's Wired and Step. The circuit is a value that reads as data, the points are slices of 64-bit numbers. -/
import Derived.Test.YtnleihjdllpniaaDoorWireW
namespace Go.Proofs.YtnleihjdllpniaaDoor
set_option maxRecDepth 100000
set_option linter.unusedVariables false
open Go.RowKit Tally
open Go.Sort (grow)
/-- a layer, a point, two points of the layer below -/
structure Wire (c : Ci) (k : Nat) (z x y : List Int) : Prop where
  good : Good c
  lt : k < c.layers.length
  nz : (z.length : Int) = (aty c.layers k).log
  nx : (x.length : Int) = belowLog c k
  ny : (y.length : Int) = belowLog c k
theorem wcheck_ok {c : Ci} {i : Int} {z x y : List Int} (h : wcheckC c i z.length x.length y.length = 0) : ∃ k : Nat, i = (k : Int) ∧ Wire c k z x y := by
  unfold wcheckC at h
  split at h
  · rename_i h0
    split at h
    · rename_i h1
      obtain ⟨⟨a, b⟩, d, e, f⟩ := h1
      exact ⟨i.toNat, by omega, good_of_check h0, by omega, d, e, f⟩
    · omega
  · rename_i h0; exact absurd h h0
theorem Wire.check {c : Ci} {k : Nat} {z x y : List Int} (h : Wire c k z x y) (hc : checkC c = 0) : wcheckC c (k : Int) z.length x.length y.length = 0 := by
  have e : ((k : Int)).toNat = k := by omega
  unfold wcheckC; rw [if_pos hc, if_pos]; rw [e]; have := h.lt; exact ⟨⟨by omega, by omega⟩, h.nz, h.nx, h.ny⟩
theorem ret_two {k : IntKind} {a b c : Int} (h : a = b) : Ending.returned (.tuple #[.int k a, .int .i64 c]) = .returned (.tuple #[.int k b, .int .i64 c]) := by rw [h]
abbrev wiredI (c : Ci) (k : Nat) (mul : Bool) (z x y : List Int) : F := wiredF (aty c.layers k).gates mul (z.map phi) (x.map phi) (y.map phi)
abbrev stepI (c : Ci) (k : Nat) (z x y : List Int) (a b : F) : F := stepF (aty c.layers k).gates (z.map phi) (x.map phi) (y.map phi) a b
theorem IsC.shape {w : World} {v : Value} {c : Ci} (h : IsC w v c) : ∃ a cap, v = .agg #[.int .i64 c.log, .slice a c.layers.length cap] := by
  obtain ⟨_, u, rfl, _, _, a, cap, rfl, _⟩ := h
  exact ⟨a, cap, rfl⟩
theorem IsC.go {w w' : World} {v : Value} {c : Ci} (h : IsC w v c) (hb : Below w.heap.size w w') : IsC w' v c := h.below hb (Nat.le_refl _)
set_option maxRecDepth 100000 in
set_option maxHeartbeats 4000000 in
theorem w_Step (v : Value) (c : Ci) (i : Int) (vz vx vy : Value) (z x y : List Int) (a1 b1 : Int) (w : World) (h : IsC w v c) (hi : I64 i) (hz : RowU w vz z) (hx : RowU w vx x) (hy : RowU w vy y) (ua : U64 a1) (ub : U64 b1) (k : Nat) (hik : i = (k : Int)) (hW : Wire c k z x y) (hc0 : checkC c = 0) :
    Calls Tryd.prog 27 #[v, .int .i64 i, vz, vx, vy, .int .u64 a1, .int .u64 b1] w fun e w' => e = .returned (.tuple #[.int .u64 (psi (stepI c k z x y (phi a1) (phi b1))), .int .i64 0]) ∧ Below w.heap.size w w' := by
  subst hik
  obtain ⟨a, cap, rfl⟩ := h.shape
  have HC0 := Lib.hid h; have Hi := Lib.hid hi; have Hz := Lib.hid hz; have Hx := Lib.hid hx; have Hy := Lib.hid hy; have HW := Lib.hid hW
  have Hc := Lib.hid hc0
  clear h hi hz hx hy hW hc0
  go_enter Tryd.func27, Tryd.ntmps27
  go_wp2_with (fail)
  obtain ⟨W1, hW, k0, k1, B1, s1⟩ := copied2' w (.int .i64 c.log) (.slice a c.layers.length cap) 24
  rw [hW]
  have L1 : w.heap.size < W1.heap.size := by omega
  have H1 := Lib.hid B1
  clear hW s1 B1
  refine (w_check _ c k vz vx vy z x y _ (HC0.out.go H1.out) Hi.out (Hz.out.go H1.out) (Hx.out.go H1.out) (Hy.out.go H1.out)).mono ?_
  rintro e w2 ⟨rfl, hb2⟩
  rw [HW.out.check Hc.out]
  have H2 := Lib.hid (below_two H1.out hb2)
  have r0 := (hb2.cell (p := ⟨w.heap.size, 0, none⟩) L1).trans k0
  have r1 := (hb2.cell (p := ⟨w.heap.size, 1, none⟩) L1).trans k1
  have L2 : w.heap.size < w2.heap.size := by have := hb2.size; omega
  clear k0 k1 hb2
  go_wp2_with (fail)
  refine (w_value _ c k false vz vx vy z x y _ (HC0.out.go H2.out) HW.out.good HW.out.lt (Hz.out.go H2.out) (Hx.out.go H2.out) (Hy.out.go H2.out) HW.out.nz HW.out.nx HW.out.ny).mono ?_
  rintro e w3 ⟨rfl, hb3⟩
  have H3 := Lib.hid (below_two H2.out hb3)
  have q0 := (hb3.cell (p := ⟨w.heap.size, 0, none⟩) L2).trans r0
  have q1 := (hb3.cell (p := ⟨w.heap.size, 1, none⟩) L2).trans r1
  clear r0 r1 hb3
  go_wp2_with (first | (go_at_call 36; (with_reducible refine (field_Mul _ _ _ (by first | assumption | exact U64.psi _ | exact U64.zero | exact U64.one | exact U64.mk (by decide) (by decide)) (by first | assumption | exact U64.psi _ | exact U64.zero | exact U64.one | exact U64.mk (by decide) (by decide))).mono ?_); rintro e w' ⟨rfl, rfl⟩) | (go_at_call 34; (with_reducible refine (field_Add _ _ _ (by first | assumption | exact U64.psi _ | exact U64.zero | exact U64.one | exact U64.mk (by decide) (by decide)) (by first | assumption | exact U64.psi _ | exact U64.zero | exact U64.one | exact U64.mk (by decide) (by decide))).mono ?_); rintro e w' ⟨rfl, rfl⟩))
  refine (w_value _ c k true vz vx vy z x y _ (HC0.out.go H3.out) HW.out.good HW.out.lt (Hz.out.go H3.out) (Hx.out.go H3.out) (Hy.out.go H3.out) HW.out.nz HW.out.nx HW.out.ny).mono ?_
  rintro e w4 ⟨rfl, hb4⟩
  have H4 := Lib.hid (below_two H3.out hb4)
  clear q0 q1 hb4
  go_wp2_with (first | (go_at_call 36; (with_reducible refine (field_Mul _ _ _ (by first | assumption | exact U64.psi _ | exact U64.zero | exact U64.one | exact U64.mk (by decide) (by decide)) (by first | assumption | exact U64.psi _ | exact U64.zero | exact U64.one | exact U64.mk (by decide) (by decide))).mono ?_); rintro e w' ⟨rfl, rfl⟩) | (go_at_call 34; (with_reducible refine (field_Add _ _ _ (by first | assumption | exact U64.psi _ | exact U64.zero | exact U64.one | exact U64.mk (by decide) (by decide)) (by first | assumption | exact U64.psi _ | exact U64.zero | exact U64.one | exact U64.mk (by decide) (by decide))).mono ?_); rintro e w' ⟨rfl, rfl⟩))
  go_ret2
  exact ⟨ret_two (by simp only [phi_psi]; rfl), H4.out⟩
set_option maxRecDepth 100000 in
set_option maxHeartbeats 4000000 in
theorem w_Step_no (v : Value) (c : Ci) (i : Int) (vz vx vy : Value) (z x y : List Int) (a1 b1 : Int) (w : World) (h : IsC w v c) (hi : I64 i) (hz : RowU w vz z) (hx : RowU w vx x) (hy : RowU w vy y) (hne : (wcheckC c i z.length x.length y.length != 0) = true) :
    Calls Tryd.prog 27 #[v, .int .i64 i, vz, vx, vy, .int .u64 a1, .int .u64 b1] w fun e w' => e = .returned (.tuple #[.int .u64 0, .int .i64 (wcheckC c i z.length x.length y.length)]) ∧ Below w.heap.size w w' := by
  obtain ⟨a, cap, rfl⟩ := h.shape
  have HC0 := Lib.hid h; have Hi := Lib.hid hi; have Hz := Lib.hid hz; have Hx := Lib.hid hx; have Hy := Lib.hid hy
  obtain ⟨E, hE⟩ : ∃ E, E = wcheckC c i z.length x.length y.length := ⟨_, rfl⟩
  rw [← hE] at hne ⊢
  have HE := Lib.hid hE
  clear h hi hz hx hy hE
  go_enter Tryd.func27, Tryd.ntmps27
  go_wp2_with (fail)
  obtain ⟨W1, hW, k0, k1, B1, s1⟩ := copied2' w (.int .i64 c.log) (.slice a c.layers.length cap) 24
  rw [hW]
  have H1 := Lib.hid B1
  clear hW s1 B1
  refine (w_check _ c i vz vx vy z x y _ (HC0.out.go H1.out) Hi.out (Hz.out.go H1.out) (Hx.out.go H1.out) (Hy.out.go H1.out)).mono ?_
  rintro e w2 ⟨rfl, hb2⟩
  have H2 := Lib.hid (below_two H1.out hb2)
  clear k0 k1 hb2
  rw [← HE.out]
  go_wp2
  go_ret2
  exact ⟨rfl, H2.out⟩
set_option maxRecDepth 100000 in
set_option maxHeartbeats 8000000 in
theorem ref_Wired (v : Value) (c : Ci) (k : Nat) (mul : Bool) (vz vx vy : Value) (z x y : List Int) (w : World) (h : IsC w v c) (hz : RowU w vz z) (hx : RowU w vx x) (hy : RowU w vy y) (hW : Wire c k z x y) :
    Calls Tryd.prog 105 #[v, .int .i64 k, .bool mul, vz, vx, vy] w fun e w' => e = .returned (.int .u64 (psi (wiredI c k mul z x y))) ∧ Below w.heap.size w w' := by
  have hG := hW.good
  have hk := hW.lt
  obtain ⟨hlog, u, rfl, hL⟩ := h
  obtain ⟨hls, hll, a, cap, rfl, hr⟩ := hL
  have Hz := Lib.hid hz; have Hx := Lib.hid hx; have Hy := Lib.hid hy
  have hki : (k : Int) < (c.layers.length : Int) := by omega
  obtain ⟨b, off, rfl, hblt, hcell⟩ := hr (by omega)
  obtain ⟨c1, u, c2, hg⟩ := hcell k hk
  have Hgl := Lib.hid (hG.len k hk)
  have Hok := Lib.hid (hG.gate k hk)
  have hN16 := (pow4 (hG.below4 (k := k) (by omega))).2
  have hglen : (aty c.layers k).gates.length ≤ 16 := by rw [Hgl.out]; exact (pow4 (hG.l4 k hk)).2
  obtain ⟨hgi, hgll, ag, cg, rfl, hgr⟩ := hg
  have Hgr := Lib.hid hgr
  obtain ⟨R, hR⟩ : ∃ R, R = wiredI c k mul z x y := ⟨_, rfl⟩
  rw [← hR]
  have HR := Lib.hid hR
  clear hr hls hz hx hy hG hcell c1 hgi hgr hR hW
  unfold wiredI at HR
  generalize (aty c.layers k).gates = gs at *
  generalize 2 ^ (belowLog c k).toNat = N at *
  go_enter Tryd.func105, Tryd.ntmps105
  go_wp2_with (fail)
  obtain ⟨W1, hW, k0, k1, B1, s1⟩ := copied2' w (.int .i64 c.log) (.slice (some ⟨b, off, none⟩) c.layers.length cap) 24
  rw [hW]
  have L1 : w.heap.size < W1.heap.size := by omega
  have H1 := Lib.hid B1
  have d2 := (B1.cell (p := ⟨b, off + k * 2 + 1, none⟩) (by exact hblt)).trans c2
  have hbW1 : b < W1.heap.size := by omega
  clear hW s1 B1 c2
  go_loopw [13, 14] (fun o i wr => ∃ (j : Nat) (s : Int), j ≤ gs.length ∧ i = .int .i64 (j : Int) ∧ o = .int .u64 s ∧ Below W1.heap.size W1 wr ∧ Hid (s = psi (sumTo (wireT gs mul (z.map phi) (x.map phi) (y.map phi)) j))) (fun _ i _ => gs.length - (intOf i).toNat)
  case atStart => exact ⟨0, 0, by omega, rfl, rfl, Below.refl _ _, psi_zero.symm⟩
  case round =>
    obtain ⟨j, s, hj, rfl, rfl, hbr, Hs⟩ := hrel
    have r0 := (hbr.cell (p := ⟨w.heap.size, 0, none⟩) L1).trans k0
    have r1 := (hbr.cell (p := ⟨w.heap.size, 1, none⟩) L1).trans k1
    have r2 := (hbr.cell (p := ⟨b, off + k * 2 + 1, none⟩) hbW1).trans d2
    by_cases hjz : j < gs.length
    · obtain ⟨b2, off2, rfl, hb2lt, hgc⟩ := Hgr.out (by omega)
      obtain ⟨e1, e2, e3⟩ := hgc j hjz
      have hbw := below_two H1.out hbr
      have f1 := (hbw.cell (p := ⟨b2, off2 + j * 3, none⟩) (by exact hb2lt)).trans e1
      have f2 := (hbw.cell (p := ⟨b2, off2 + j * 3 + 1, none⟩) (by exact hb2lt)).trans e2
      have f3 := (hbw.cell (p := ⟨b2, off2 + j * 3 + 2, none⟩) (by exact hb2lt)).trans e3
      have hok := gateOk_bd (Hok.out j hjz)
      have hjl : (j : Int) < (gs.length : Int) := by omega
      have us := u64_of_psi Hs.out
      have Hno := Lib.hid (fun hm => wire_no (z := z.map phi) (x := x.map phi) (y := y.map phi) (j := j) (gs := gs) (mul := mul) hm Hs.out)
      have Hyes := Lib.hid (fun hm => wire_yes' (z := z.map phi) (x := x.map phi) (y := y.map phi) (j := j) (gs := gs) (mul := mul) hm Hs.out)
      have Hbw := Lib.hid hbw
      clear hgc e1 e2 e3 hbw
      generalize atg gs j = g at *
      obtain ⟨gm, ga, gb⟩ := g
      obtain ⟨ga0, ga1, gb0, gb1⟩ := hok
      simp only at f1 f2 f3 ga0 ga1 gb0 gb1
      obtain ⟨A, rfl⟩ : ∃ A : Nat, ga = (A : Int) := ⟨ga.toNat, by omega⟩
      obtain ⟨B, rfl⟩ : ∃ B : Nat, gb = (B : Int) := ⟨gb.toNat, by omega⟩
      by_cases hm : gm = mul
      · have hmb : (gm == mul) = true := by rw [hm]; simp
        have Hfin := Lib.hid (Hyes.out hm)
        have hA63 : (A : Int) < 9223372036854775808 := by omega
        have hB63 : (B : Int) < 9223372036854775808 := by omega
        have hj63 : (j : Int) < 9223372036854775808 := by omega
        have HA := Lib.hid hA63; have HB := Lib.hid hB63; have HJ := Lib.hid hj63
        clear hm ga1 gb1 hA63 hB63 hj63
        go_wp2_with (fail)
        obtain ⟨wo, rfl⟩ : ∃ x : World, x = wr := ⟨_, rfl⟩
        obtain ⟨W, hW, t0, t1, t2, hWb, hWs⟩ := copied3' wo (.bool gm) (.int .i64 A) (.int .i64 B) 80
        rw [hW]
        have HWb := Lib.hid (show Below W1.heap.size W1 W from hbr.trans (hWb.mono hbr.size))
        have HWw := Lib.hid (below_two Hbw.out hWb)
        clear hW hWs hWb f1 f2 f3 r0 r1 r2
        have Cz := Lib.hid (fun n => flip (ref_Eq z vz (j : Int) (W.drewN n) ((Hz.out.go HWw.out).drewN n) (Int.natCast_nonneg j) HJ.out))
        have Cx := Lib.hid (fun n => flip (ref_Eq x vx (A : Int) (W.drewN n) ((Hx.out.go HWw.out).drewN n) (Int.natCast_nonneg A) HA.out))
        have Cy := Lib.hid (fun n => flip (ref_Eq y vy (B : Int) (W.drewN n) ((Hy.out.go HWw.out).drewN n) (Int.natCast_nonneg B) HB.out))
        go_quiet (first | (go_at_call 106; with_reducible exact Cz.out _) | (go_at_call 106; with_reducible exact Cx.out _) | (go_at_call 106; with_reducible exact Cy.out _) | (go_at_call 86; exact flip (ref_Mul _ _ _ (by first | assumption | exact U64.psi _ | exact U64.zero | exact U64.one | exact U64.mk (by decide) (by decide)) (by first | assumption | exact U64.psi _ | exact U64.zero | exact U64.one | exact U64.mk (by decide) (by decide)))) | (go_at_call 75; exact flip (ref_Add _ _ _ (by first | assumption | exact U64.psi _ | exact U64.zero | exact U64.one | exact U64.mk (by decide) (by decide)) (by first | assumption | exact U64.psi _ | exact U64.zero | exact U64.one | exact U64.mk (by decide) (by decide)))))
        go_wp2
        go_roundw
        case rel => exact ⟨j + 1, _, by omega, by go_num, rfl, below_drewN HWb.out _, Hfin.out⟩
        case measure => simp [intOf]; omega
      · have hmb : (gm == mul) = false := by rw [beq_eq_false_iff_ne]; exact hm
        have Hfin := Lib.hid (Hno.out hm)
        clear hm ga0 ga1 gb0 gb1
        go_wp2
        go_roundw
        case rel => exact ⟨j + 1, s, by omega, by go_num, rfl, hbr.alloc hbr.size _, Hfin.out⟩
        case measure => simp [intOf]; omega
    · obtain rfl : j = gs.length := by omega
      have HF := Lib.hid (show s = psi R by rw [Hs.out, HR.out]; rfl)
      have Hbw := Lib.hid (below_two H1.out hbr)
      go_wp2
      go_ret
      exact ⟨ret_u64 HF.out, Hbw.out⟩
set_option maxRecDepth 100000 in
set_option maxHeartbeats 4000000 in
theorem ref_Step (v : Value) (c : Ci) (k : Nat) (vz vx vy : Value) (z x y : List Int) (a1 b1 : Int) (w : World) (h : IsC w v c) (hz : RowU w vz z) (hx : RowU w vx x) (hy : RowU w vy y) (ua : U64 a1) (ub : U64 b1) (hW : Wire c k z x y) :
    Calls Tryd.prog 76 #[v, .int .i64 k, vz, vx, vy, .int .u64 a1, .int .u64 b1] w fun e w' => e = .returned (.int .u64 (psi (stepI c k z x y (phi a1) (phi b1)))) ∧ Below w.heap.size w w' := by
  obtain ⟨a, cap, rfl⟩ := h.shape
  obtain ⟨W1, hW1, k0, k1, B1, s1⟩ := copied2' w (.int .i64 c.log) (.slice a c.layers.length cap) 24
  have cW : ∀ mul d os, Calls Tryd.prog 105 #[.agg #[.int .i64 c.log, .slice a c.layers.length cap], .int .i64 k, .bool mul, vz, vx, vy] (grow (redrawn W1 d) os) fun e w'' => e = .returned (.int .u64 (psi (wiredI c k mul z x y))) ∧ ∃ p : Regrown, w'' = grow (redrawn W1 p.d) p.os :=
    fun mul d os => Calls.regrown_of (ref_Wired _ c k mul vz vx vy z x y _ (h.go (below_two B1 (below_regrown W1 d os))) (hz.go (below_two B1 (below_regrown W1 d os))) (hx.go (below_two B1 (below_regrown W1 d os))) (hy.go (below_two B1 (below_regrown W1 d os))) hW)
  have g0 := cell_regrown k0
  have g1 := cell_regrown k1
  have HB := Lib.hid B1
  have HcW := Lib.hid cW
  have HW1 := Lib.hid hW1
  clear h hz hx hy hW k0 k1 B1 s1 cW hW1
  go_enter Tryd.func76, Tryd.ntmps76
  go_wp2_with (fail)
  rw [HW1.out]
  refine wp_region_quiet_below (by kernel_rfl) (by kernel_rfl) ?_
  repeat (any_goals (first | go_big_quiet_step (first | (go_at_call 105; with_reducible exact HcW.out _ _ _) | (go_at_call 86; exact regrown_same (ref_Mul _ _ _ (by first | assumption | exact U64.psi _ | exact U64.zero | exact U64.one | exact U64.mk (by decide) (by decide)) (by first | assumption | exact U64.psi _ | exact U64.zero | exact U64.one | exact U64.mk (by decide) (by decide)))) | (go_at_call 75; exact regrown_same (ref_Add _ _ _ (by first | assumption | exact U64.psi _ | exact U64.zero | exact U64.one | exact U64.mk (by decide) (by decide)) (by first | assumption | exact U64.psi _ | exact U64.zero | exact U64.one | exact U64.mk (by decide) (by decide))))) | quiet_step (first | (go_at_call 105; with_reducible exact HcW.out _ _ _) | (go_at_call 86; exact regrown_same (ref_Mul _ _ _ (by first | assumption | exact U64.psi _ | exact U64.zero | exact U64.one | exact U64.mk (by decide) (by decide)) (by first | assumption | exact U64.psi _ | exact U64.zero | exact U64.one | exact U64.mk (by decide) (by decide)))) | (go_at_call 75; exact regrown_same (ref_Add _ _ _ (by first | assumption | exact U64.psi _ | exact U64.zero | exact U64.one | exact U64.mk (by decide) (by decide)) (by first | assumption | exact U64.psi _ | exact U64.zero | exact U64.one | exact U64.mk (by decide) (by decide)))))))
  refine wpQuiet_nil ?_; intro _ hw'; obtain ⟨⟨dq, osq⟩, hw''⟩ := hw'; subst hw''
  have HE := Lib.hid (below_two HB.out (below_regrown W1 dq osq))
  go_wp2
  go_ret
  exact ⟨ret_u64 (by simp only [phi_psi]; rfl), HE.out⟩
end Go.Proofs.YtnleihjdllpniaaDoor
