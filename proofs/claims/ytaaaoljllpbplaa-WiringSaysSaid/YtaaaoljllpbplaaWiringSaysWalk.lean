/- The walk of the law WiringSays: it returns true, whatever is handed in. -/
import Derived.Test.YtaaaoljllpbplaaWireS
namespace Go.Proofs.Ytaaaoljllpbplaa
set_option maxRecDepth 100000
set_option linter.unusedVariables false
open Go.RowKit Tally
open Go.Sort (grow)
theorem wcheck_no {c : Ci} {i : Int} {nz nx ny : Nat} (h : ¬ checkC c = 0) : wcheckC c i nz nx ny = checkC c := by unfold wcheckC; rw [if_neg h]
set_option maxRecDepth 100000 in
set_option maxHeartbeats 8000000 in
theorem wiringSays_walk (w : World) (v : Value) (c : Ci) (h : IsC w v c) (i : Int) (hi : I64 i) (mul : Bool) (vz : Value) (z : List Int) (hz : RowU w vz z) (vx : Value) (x : List Int) (hx : RowU w vx x) (vy : Value) (y : List Int) (hy : RowU w vy y) (a1 : Int) (ua : U64 a1) (b1 : Int) (ub : U64 b1) :
    Calls Try.prog 4 #[v, .int .i64 i, .bool mul, vz, vx, vy, .int .u64 a1, .int .u64 b1] w fun e w' => e = .returned (.bool true) ∧ Below w.heap.size w w' := by
  have HC0 := Lib.hid h
  obtain ⟨hlog, u, rfl, hL⟩ := h
  obtain ⟨hls, hll, a, cap, rfl, hr⟩ := hL
  have Hr := Lib.hid hr
  have Hi := Lib.hid hi; have Hz := Lib.hid hz; have Hx := Lib.hid hx; have Hy := Lib.hid hy
  have hzl := hz.len; have hxl := hx.len; have hyl := hy.len
  obtain ⟨_, _, az, cz, rfl, _⟩ := hz
  obtain ⟨_, _, ax, cx, rfl, _⟩ := hx
  obtain ⟨_, _, ay, cy, rfl, _⟩ := hy
  obtain ⟨hi1, hi2⟩ := hi
  have Hua := Lib.hid ua; have Hub := Lib.hid ub
  clear hr hls ua ub
  go_enter Try.func4, Try.ntmps4
  go_wp2_with (fail)
  obtain ⟨W1, hW, k0, k1, B1, s1⟩ := copied2' w (.int .i64 c.log) (.slice a c.layers.length cap) 24
  rw [hW]
  have L1 : w.heap.size < W1.heap.size := by omega
  have H1 := Lib.hid B1
  clear hW s1
  refine (rc_Circuit _ c _ (HC0.out.below H1.out (Nat.le_refl _))).mono ?_
  rintro e w2 ⟨rfl, hb2⟩
  have H2 := Lib.hid (below_two H1.out hb2)
  have L2 : w.heap.size < w2.heap.size := by have := hb2.size; omega
  have r0 := (hb2.cell (p := ⟨w.heap.size, 0, none⟩) L1).trans k0
  have r1 := (hb2.cell (p := ⟨w.heap.size, 1, none⟩) L1).trans k1
  clear k0 k1 hb2 B1
  by_cases hc : checkC c = 0
  · have G := Lib.hid (good_of_check hc)
    have Hc := Lib.hid hc
    rw [hc]
    clear hc
    by_cases hi0 : i < 0
    · have HE := Lib.hid (wcheck_arg (nz := z.length) (nx := x.length) (ny := y.length) Hc.out (i := i) (fun hh => by omega))
      go_wp2_with (fail)
      refine (w_Value_no _ c _ mul _ _ _ z x y _ (HC0.out.go H2.out) Hi.out (Hz.out.go H2.out) (Hx.out.go H2.out) (Hy.out.go H2.out) (by rw [HE.out]; first | decide | assumption)).mono ?_
      rintro e w3 ⟨rfl, hb3⟩
      rw [HE.out]
      have H3 := Lib.hid (below_two H2.out hb3)
      have g0 := (hb3.cell (p := ⟨w.heap.size, 0, none⟩) L2).trans r0
      have g1 := (hb3.cell (p := ⟨w.heap.size, 1, none⟩) L2).trans r1
      clear r0 r1 hb3
      go_wp2_with (fail)
      refine (w_Step_no _ c _ _ _ _ z x y _ _ _ (HC0.out.go H3.out) Hi.out (Hz.out.go H3.out) (Hx.out.go H3.out) (Hy.out.go H3.out) (by rw [HE.out]; first | decide | assumption)).mono ?_
      rintro e w4 ⟨rfl, hb4⟩
      rw [HE.out]
      have H4 := Lib.hid (below_two H3.out hb4)
      clear g0 g1 hb4
      go_wp2
      go_ret
      exact ⟨rfl, H4.out⟩
    · by_cases hik : (c.layers.length : Int) ≤ i
      · have HE := Lib.hid (wcheck_arg (nz := z.length) (nx := x.length) (ny := y.length) Hc.out (i := i) (fun hh => by omega))
        go_wp2_with (fail)
        refine (w_Value_no _ c _ mul _ _ _ z x y _ (HC0.out.go H2.out) Hi.out (Hz.out.go H2.out) (Hx.out.go H2.out) (Hy.out.go H2.out) (by rw [HE.out]; first | decide | assumption)).mono ?_
        rintro e w3 ⟨rfl, hb3⟩
        rw [HE.out]
        have H3 := Lib.hid (below_two H2.out hb3)
        have g0 := (hb3.cell (p := ⟨w.heap.size, 0, none⟩) L2).trans r0
        have g1 := (hb3.cell (p := ⟨w.heap.size, 1, none⟩) L2).trans r1
        clear r0 r1 hb3
        go_wp2_with (fail)
        refine (w_Step_no _ c _ _ _ _ z x y _ _ _ (HC0.out.go H3.out) Hi.out (Hz.out.go H3.out) (Hx.out.go H3.out) (Hy.out.go H3.out) (by rw [HE.out]; first | decide | assumption)).mono ?_
        rintro e w4 ⟨rfl, hb4⟩
        rw [HE.out]
        have H4 := Lib.hid (below_two H3.out hb4)
        clear g0 g1 hb4
        go_wp2
        go_ret
        exact ⟨rfl, H4.out⟩
      · obtain ⟨k, rfl⟩ : ∃ k : Nat, i = (k : Int) := ⟨i.toNat, by omega⟩
        have hk : k < c.layers.length := by omega
        have hki : (k : Int) < (c.layers.length : Int) := by omega
        have hi3 : decide ((c.layers.length : Int) ≤ (k : Int)) = false := by simp; omega
        obtain ⟨b, off, rfl, hblt, hcell⟩ := Hr.out (by omega)
        obtain ⟨c1, _⟩ := hcell k hk
        have d1 := (H2.out.cell (p := ⟨b, off + k * 2, none⟩) (by exact hblt)).trans c1
        have hti : ((k : Int)).toNat = k := by omega
        have Hti := Lib.hid hti
        clear hcell c1 hik hi0 hi1 hi2 hti
        by_cases hzz : (z.length : Int) = (aty c.layers k).log
        · have hzb : ((z.length : Int) != (aty c.layers k).log) = false := by rw [hzz]; simp
          have Hzz := Lib.hid hzz
          clear hzz
          go_wp2_with (fail)
          refine (ref_Below _ c k _ (HC0.out.go H2.out) (by omega) G.out.n4).mono ?_
          rintro e w3 ⟨rfl, hb3⟩
          have H3 := Lib.hid (below_two H2.out hb3)
          have L3 : w.heap.size < w3.heap.size := by have := hb3.size; omega
          have q0 := (hb3.cell (p := ⟨w.heap.size, 0, none⟩) L2).trans r0
          have q1 := (hb3.cell (p := ⟨w.heap.size, 1, none⟩) L2).trans r1
          clear r0 r1 hb3 d1
          by_cases hxx : (x.length : Int) = belowLog c k
          · have hxb : ((x.length : Int) != belowLog c k) = false := by rw [hxx]; simp
            have Hxx := Lib.hid hxx
            clear hxx
            go_wp2_with (fail)
            refine (ref_Below _ c k _ (HC0.out.go H3.out) (by omega) G.out.n4).mono ?_
            rintro e w4 ⟨rfl, hb4⟩
            have H4 := Lib.hid (below_two H3.out hb4)
            have L4 : w.heap.size < w4.heap.size := by have := hb4.size; omega
            have r0 := (hb4.cell (p := ⟨w.heap.size, 0, none⟩) L3).trans q0
            have r1 := (hb4.cell (p := ⟨w.heap.size, 1, none⟩) L3).trans q1
            clear q0 q1 hb4
            by_cases hyy : (y.length : Int) = belowLog c k
            · have hyb : ((y.length : Int) != belowLog c k) = false := by rw [hyy]; simp
              have HW := Lib.hid (show Wire c k z x y from ⟨G.out, hk, Hzz.out, Hxx.out, hyy⟩)
              clear hyy
              go_wp2_with (fail)
              have cW : ∀ mul d os, Calls Try.prog 14 #[.agg #[.int .i64 c.log, .slice (some ⟨b, off, none⟩) c.layers.length cap], .int .i64 k, .bool mul, .slice az z.length cz, .slice ax x.length cx, .slice ay y.length cy] (grow (redrawn w4 d) os) fun e w'' => e = .returned (.int .u64 (psi (wiredI c k mul z x y))) ∧ ∃ p : Regrown, w'' = grow (redrawn w4 p.d) p.os :=
                fun mul d os => Calls.regrown_of (ref_Wired _ c k mul _ _ _ z x y _ (HC0.out.go (below_two H4.out (below_regrown w4 d os))) (Hz.out.go (below_two H4.out (below_regrown w4 d os))) (Hx.out.go (below_two H4.out (below_regrown w4 d os))) (Hy.out.go (below_two H4.out (below_regrown w4 d os))) HW.out)
              have cS : ∀ d os, Calls Try.prog 15 #[.agg #[.int .i64 c.log, .slice (some ⟨b, off, none⟩) c.layers.length cap], .int .i64 k, .slice az z.length cz, .slice ax x.length cx, .slice ay y.length cy, .int .u64 a1, .int .u64 b1] (grow (redrawn w4 d) os) fun e w'' => e = .returned (.int .u64 (psi (stepI c k z x y (phi a1) (phi b1)))) ∧ ∃ p : Regrown, w'' = grow (redrawn w4 p.d) p.os :=
                fun d os => Calls.regrown_of (ref_Step _ c k _ _ _ z x y a1 b1 _ (HC0.out.go (below_two H4.out (below_regrown w4 d os))) (Hz.out.go (below_two H4.out (below_regrown w4 d os))) (Hx.out.go (below_two H4.out (below_regrown w4 d os))) (Hy.out.go (below_two H4.out (below_regrown w4 d os))) Hua.out Hub.out HW.out)
              have HcW := Lib.hid cW
              have HcS := Lib.hid cS
              have g0 := cell_regrown r0
              have g1 := cell_regrown r1
              clear cW cS
              refine wp_region_quiet_below (by kernel_rfl) (by kernel_rfl) ?_
              repeat (any_goals (first | go_big_quiet_step (first | (go_at_call 14; with_reducible exact HcW.out _ _ _) | (go_at_call 15; with_reducible exact HcS.out _ _)) | quiet_step (first | (go_at_call 14; with_reducible exact HcW.out _ _ _) | (go_at_call 15; with_reducible exact HcS.out _ _))))
              refine wpQuiet_nil ?_; intro _ hw'; obtain ⟨⟨dq, osq⟩, hw''⟩ := hw'; subst hw''
              have hb5 := below_regrown w4 dq osq
              have s0 := g0 dq osq
              have s1 := g1 dq osq
              generalize grow (redrawn w4 dq) osq = w5 at *
              have H5 := Lib.hid (below_two H4.out hb5)
              have L5 : w.heap.size < w5.heap.size := by have := hb5.size; omega
              clear g0 g1 r0 r1 hb5
              go_wp2_with (fail)
              refine (w_Value _ c _ mul _ _ _ z x y _ (HC0.out.go H5.out) Hi.out (Hz.out.go H5.out) (Hx.out.go H5.out) (Hy.out.go H5.out) k rfl HW.out Hc.out).mono ?_
              rintro e w6 ⟨rfl, hb6⟩
              have H6 := Lib.hid (below_two H5.out hb6)
              have r0 := (hb6.cell (p := ⟨w.heap.size, 0, none⟩) L5).trans s0
              have r1 := (hb6.cell (p := ⟨w.heap.size, 1, none⟩) L5).trans s1
              clear s0 s1 hb6
              go_wp2_with (fail)
              refine (w_Step _ c _ _ _ _ z x y _ _ _ (HC0.out.go H6.out) Hi.out (Hz.out.go H6.out) (Hx.out.go H6.out) (Hy.out.go H6.out) Hua.out Hub.out k rfl HW.out Hc.out).mono ?_
              rintro e w7 ⟨rfl, hb7⟩
              have H7 := Lib.hid (below_two H6.out hb7)
              clear r0 r1 hb7
              go_wp2
              go_ret
              exact ⟨rfl, H7.out⟩
            · have hyb : ((y.length : Int) != belowLog c k) = true := by rw [bne_iff_ne]; exact hyy
              have HE := Lib.hid (wcheck_arg (nz := z.length) (nx := x.length) (ny := y.length) Hc.out (i := (k : Int)) (fun hh => hyy (by rw [Hti.out] at hh; exact hh.2.2.2)))
              clear hyy
              go_wp2_with (fail)
              refine (w_Value_no _ c _ mul _ _ _ z x y _ (HC0.out.go H4.out) Hi.out (Hz.out.go H4.out) (Hx.out.go H4.out) (Hy.out.go H4.out) (by rw [HE.out]; first | decide | assumption)).mono ?_
              rintro e w5 ⟨rfl, hb5⟩
              rw [HE.out]
              have H5 := Lib.hid (below_two H4.out hb5)
              have g0 := (hb5.cell (p := ⟨w.heap.size, 0, none⟩) L4).trans r0
              have g1 := (hb5.cell (p := ⟨w.heap.size, 1, none⟩) L4).trans r1
              clear r0 r1 hb5
              go_wp2_with (fail)
              refine (w_Step_no _ c _ _ _ _ z x y _ _ _ (HC0.out.go H5.out) Hi.out (Hz.out.go H5.out) (Hx.out.go H5.out) (Hy.out.go H5.out) (by rw [HE.out]; first | decide | assumption)).mono ?_
              rintro e w6 ⟨rfl, hb6⟩
              rw [HE.out]
              have H6 := Lib.hid (below_two H5.out hb6)
              clear g0 g1 hb6
              go_wp2
              go_ret
              exact ⟨rfl, H6.out⟩
          · have hxb : ((x.length : Int) != belowLog c k) = true := by rw [bne_iff_ne]; exact hxx
            have HE := Lib.hid (wcheck_arg (nz := z.length) (nx := x.length) (ny := y.length) Hc.out (i := (k : Int)) (fun hh => hxx (by rw [Hti.out] at hh; exact hh.2.2.1)))
            clear hxx
            have r0 := q0
            have r1 := q1
            clear q0 q1
            go_wp2_with (fail)
            refine (w_Value_no _ c _ mul _ _ _ z x y _ (HC0.out.go H3.out) Hi.out (Hz.out.go H3.out) (Hx.out.go H3.out) (Hy.out.go H3.out) (by rw [HE.out]; first | decide | assumption)).mono ?_
            rintro e w4 ⟨rfl, hb4⟩
            rw [HE.out]
            have H4 := Lib.hid (below_two H3.out hb4)
            have g0 := (hb4.cell (p := ⟨w.heap.size, 0, none⟩) L3).trans r0
            have g1 := (hb4.cell (p := ⟨w.heap.size, 1, none⟩) L3).trans r1
            clear r0 r1 hb4
            go_wp2_with (fail)
            refine (w_Step_no _ c _ _ _ _ z x y _ _ _ (HC0.out.go H4.out) Hi.out (Hz.out.go H4.out) (Hx.out.go H4.out) (Hy.out.go H4.out) (by rw [HE.out]; first | decide | assumption)).mono ?_
            rintro e w5 ⟨rfl, hb5⟩
            rw [HE.out]
            have H5 := Lib.hid (below_two H4.out hb5)
            clear g0 g1 hb5
            go_wp2
            go_ret
            exact ⟨rfl, H5.out⟩
        · have hzb : ((z.length : Int) != (aty c.layers k).log) = true := by rw [bne_iff_ne]; exact hzz
          have HE := Lib.hid (wcheck_arg (nz := z.length) (nx := x.length) (ny := y.length) Hc.out (i := (k : Int)) (fun hh => hzz (by rw [Hti.out] at hh; exact hh.2.1)))
          clear hzz
          go_wp2_with (fail)
          refine (w_Value_no _ c _ mul _ _ _ z x y _ (HC0.out.go H2.out) Hi.out (Hz.out.go H2.out) (Hx.out.go H2.out) (Hy.out.go H2.out) (by rw [HE.out]; first | decide | assumption)).mono ?_
          rintro e w3 ⟨rfl, hb3⟩
          rw [HE.out]
          have H3 := Lib.hid (below_two H2.out hb3)
          have g0 := (hb3.cell (p := ⟨w.heap.size, 0, none⟩) L2).trans r0
          have g1 := (hb3.cell (p := ⟨w.heap.size, 1, none⟩) L2).trans r1
          clear r0 r1 hb3
          go_wp2_with (fail)
          refine (w_Step_no _ c _ _ _ _ z x y _ _ _ (HC0.out.go H3.out) Hi.out (Hz.out.go H3.out) (Hx.out.go H3.out) (Hy.out.go H3.out) (by rw [HE.out]; first | decide | assumption)).mono ?_
          rintro e w4 ⟨rfl, hb4⟩
          rw [HE.out]
          have H4 := Lib.hid (below_two H3.out hb4)
          clear g0 g1 hb4
          go_wp2
          go_ret
          exact ⟨rfl, H4.out⟩
  · have hcb : (checkC c == 0) = false := beq_false_of_ne hc
    have hcn : (checkC c != 0) = true := by rw [bne_iff_ne]; exact hc
    have HE := Lib.hid (wcheck_no (i := i) (nz := z.length) (nx := x.length) (ny := y.length) hc)
    clear hc
    generalize checkC c = E at *
    go_wp2_with (fail)
    refine (w_Value_no _ c _ mul _ _ _ z x y _ (HC0.out.go H2.out) Hi.out (Hz.out.go H2.out) (Hx.out.go H2.out) (Hy.out.go H2.out) (by rw [HE.out]; first | decide | assumption)).mono ?_
    rintro e w3 ⟨rfl, hb3⟩
    rw [HE.out]
    have H3 := Lib.hid (below_two H2.out hb3)
    have g0 := (hb3.cell (p := ⟨w.heap.size, 0, none⟩) L2).trans r0
    have g1 := (hb3.cell (p := ⟨w.heap.size, 1, none⟩) L2).trans r1
    clear r0 r1 hb3
    go_wp2_with (fail)
    refine (w_Step_no _ c _ _ _ _ z x y _ _ _ (HC0.out.go H3.out) Hi.out (Hz.out.go H3.out) (Hx.out.go H3.out) (Hy.out.go H3.out) (by rw [HE.out]; first | decide | assumption)).mono ?_
    rintro e w4 ⟨rfl, hb4⟩
    rw [HE.out]
    have H4 := Lib.hid (below_two H3.out hb4)
    clear g0 g1 hb4
    go_wp2
    go_ret
    exact ⟨rfl, H4.out⟩
end Go.Proofs.Ytaaaoljllpbplaa
