/- The walk of the law GkrComplete: it returns true, whatever is handed in. The table of bits lies as its initialiser lays it. -/
import Derived.Test.YtnleihjdllpniaaDoorHeld
import Derived.Test.YtnleihjdllpniaaDoorSmall
namespace Go.Proofs.YtnleihjdllpniaaDoor
set_option maxRecDepth 100000
set_option linter.unusedVariables false
open Go.RowKit Tally
open Go.Sort (grow)
theorem verB_right {c : Ci} (hg : Good c) (inp d : List Int) (hi : inp.length = 2 ^ c.log.toNat) (hd : d.length = drawsN c) :
    verB c inp ((valF c (inp.map phi) c.layers.length).map psi) (proveI c inp d) d = true := by
  rw [verB_prove hg inp inp _ d hi hd, if_pos (by rw [mapphi_psi]), beq_self_eq_true]
theorem val_out_len {c : Ci} (hg : Good c) (inp : List Int) (hi : inp.length = 2 ^ c.log.toNat) : ((valF c (inp.map phi) c.layers.length).map psi).length = 2 ^ (belowLog c c.layers.length).toNat := by
  rw [List.length_map]; exact valF_length hg _ (by rw [List.length_map, hi]) _ (Nat.le_refl _)
set_option maxRecDepth 100000 in
set_option maxHeartbeats 8000000 in
theorem gkrComplete_walk (w : World) (hT : Tab w) (v : Value) (c : Ci) (h : IsC w v c) (va : Value) (a : List Int) (ha : RowU w va a) (vd : Value) (ds : List Int) (hd : RowU w vd ds) :
    Calls Tryd.prog 11 #[v, va, vd] w fun e w' => e = .returned (.bool true) ∧ Below w.heap.size w w' := by
  obtain ⟨ac, cc, rfl⟩ := h.shape
  have HT := Lib.hid hT; have HC := Lib.hid h; have Ha := Lib.hid ha; have Hd := Lib.hid hd
  clear hT h ha hd
  go_enter Tryd.func11, Tryd.ntmps11
  go_wp2_with (fail)
  obtain ⟨W1, hW, k0, k1, B1, s1⟩ := copied2' w (.int .i64 c.log) (.slice ac c.layers.length cc) 24
  rw [hW]
  obtain ⟨tb, htb⟩ : ∃ tb, tb = w.heap.size := ⟨_, rfl⟩
  rw [← htb] at k0 k1 s1 ⊢
  have HX1 := Lib.hid (show Boxed tb (.int .i64 c.log) (.slice ac c.layers.length cc) W1 from ⟨k0, k1, by omega⟩)
  have H1 := Lib.hid B1
  clear hW s1 k0 k1 B1 htb
  refine (keep_held _ (HT.out.below H1.out)).mono ?_
  rintro e w2 ⟨rfl, hb2⟩
  have H2 := Lib.hid (below_two H1.out hb2)
  have HX2 := Lib.hid (HX1.out.go hb2)
  have r0 := HX2.out.c0; have r1 := HX2.out.c1
  clear hb2
  go_wp2_with (fail)
  refine (keep_small _ c _ (HC.out.go H2.out)).mono ?_
  rintro e w3 ⟨rfl, hb3⟩
  have H3 := Lib.hid (below_two H2.out hb3)
  have HX3 := Lib.hid (HX2.out.go hb3)
  clear hb3 r0 r1
  cases hsm : smallB c with
  | false =>
    clear hsm
    go_wp2
    go_ret
    exact ⟨rfl, H3.out⟩
  | true =>
    have hS := smallB_yes hsm
    have Hc := Lib.hid hS.right
    have HG := Lib.hid (good_of_check hS.right)
    have hl4 := HG.out.log4
    have hl0 := HG.out.log0
    have hn1 := HG.out.n1
    have hn4 := HG.out.n4
    have hDN := drawsN_le HG.out
    obtain ⟨N, hN⟩ : ∃ N, N = 2 ^ c.log.toNat := ⟨_, rfl⟩
    have hw : wrap64 (2 ^ c.log.toNat) = (N : Int) := by rw [hN]; exact wrap4 hl4
    have hN16 : N ≤ 16 := by rw [hN]; exact (pow4 hl4).2
    have HN := Lib.hid hN
    have r0 := HX3.out.c0
    clear hsm hS hN
    go_wp2_with (fail)
    clear hl4 hl0
    refine (keep_point a va N _ (Ha.out.go H3.out) (by omega)).mono ?_
    rintro e w4 ⟨rfl, hn4', hb4⟩
    obtain ⟨x, hx⟩ : ∃ x, x = padTo N a := ⟨_, rfl⟩
    rw [← hx] at hn4'
    have Hxl := Lib.hid (show x.length = N by rw [hx, padTo_length])
    have HR4 := Lib.hid hn4'.row
    have H4 := Lib.hid (below_two H3.out hb4)
    have HX4 := Lib.hid (HX3.out.go hb4)
    obtain ⟨xb, hxb⟩ : ∃ xb, xb = w3.heap.size := ⟨_, rfl⟩
    rw [← hxb] at HR4 ⊢
    clear hx hn4' hb4 r0 hw hxb
    have r0 := HX4.out.c0; have r1 := HX4.out.c1
    go_wp2_with (fail)
    refine (gkr_Draws _ c _ (HC.out.go H4.out) Hc.out).mono ?_
    rintro e w5 ⟨rfl, hb5⟩
    obtain ⟨DN, hDN'⟩ : ∃ DN, DN = drawsN c := ⟨_, rfl⟩
    rw [← hDN'] at hDN ⊢
    have HDN := Lib.hid hDN'
    have H5 := Lib.hid (below_two H4.out hb5)
    have HX5 := Lib.hid (HX4.out.go hb5)
    have HR5 := Lib.hid (HR4.out.go hb5)
    clear hb5 r0 r1 hDN'
    go_wp2_with (fail)
    refine (keep_point ds vd DN _ (Hd.out.go H5.out) (by omega)).mono ?_
    rintro e w6 ⟨rfl, hn6, hb6⟩
    obtain ⟨d, hd⟩ : ∃ d, d = padTo DN ds := ⟨_, rfl⟩
    rw [← hd] at hn6
    have Hdl := Lib.hid (show d.length = drawsN c by rw [hd, padTo_length, HDN.out])
    have HD6 := Lib.hid hn6.row
    have H6 := Lib.hid (below_two H5.out hb6)
    have HX6 := Lib.hid (HX5.out.go hb6)
    have HR6 := Lib.hid (HR5.out.go hb6)
    obtain ⟨db, hdb⟩ : ∃ db, db = w5.heap.size := ⟨_, rfl⟩
    rw [← hdb] at HD6 ⊢
    clear hd hn6 hb6 hdb
    have r0 := HX6.out.c0; have r1 := HX6.out.c1
    go_wp2_with (fail)
    refine (c_RunAt _ c _ x _ (HC.out.go H6.out) HR6.out Hc.out (by rw [Hxl.out, HN.out])).mono ?_
    rintro e w7 ⟨vx, rfl, hrun, hb7⟩
    have H7 := Lib.hid (below_two H6.out hb7)
    have HX7 := Lib.hid (HX6.out.go hb7)
    have HR7 := Lib.hid (HR6.out.go hb7)
    have HD7 := Lib.hid (HD6.out.go hb7)
    have HRun7 := Lib.hid hrun
    obtain ⟨bx, ox, cx, rfl, hbx, hrc⟩ := hrun
    clear hb7 r0 r1 hbx hrc
    have r0 := HX7.out.c0; have r1 := HX7.out.c1
    go_wp2_with (fail)
    refine (gkr_Prove _ c _ _ x d _ (HT.out.below H7.out) (HC.out.go H7.out) HR7.out HD7.out (CapOk.mk (Nat.le_refl _) (by omega)) Hc.out (by rw [Hxl.out, HN.out]) Hdl.out).mono ?_
    rintro e w8 ⟨vp, rfl, hp8, hb8⟩
    have HP8 := Lib.hid hp8
    obtain ⟨vs, rfl, _, aP, cP, rfl, -⟩ := hp8
    obtain ⟨nP, hnP⟩ : ∃ nP, nP = (proveI c x d).length := ⟨_, rfl⟩
    rw [← hnP] at HP8 ⊢
    have H8 := Lib.hid (below_two H7.out hb8)
    have HX8 := Lib.hid (HX7.out.go hb8)
    have HR8 := Lib.hid (HR7.out.go hb8)
    have HD8 := Lib.hid (HD7.out.go hb8)
    have HRun8 := Lib.hid (HRun7.out.go hb8)
    clear hb8 hnP r0 r1
    have r0 := HX8.out.c0; have r1 := HX8.out.c1; have lt8 := HX8.out.lt
    go_wp2_with (fail)
    obtain ⟨W9, hW9, kp, B9, s9⟩ := copied1' w8 (.slice aP nP cP) 37
    rw [hW9]
    obtain ⟨pb, hpb⟩ : ∃ pb, pb = w8.heap.size := ⟨_, rfl⟩
    rw [← hpb] at kp s9 ⊢
    have H9 := Lib.hid (below_two H8.out B9)
    have HX9 := Lib.hid (HX8.out.go B9)
    have HR9 := Lib.hid (HR8.out.go B9)
    have HD9 := Lib.hid (HD8.out.go B9)
    have HRun9 := Lib.hid (HRun8.out.go B9)
    have HP9 := Lib.hid (HP8.out.go B9)
    have KP := Lib.hid kp
    have lp : pb < W9.heap.size := by omega
    clear hW9 kp B9 s9 r0 r1 lt8 hpb
    refine (gkr_Form _ c _ _ _ (HC.out.go H9.out) Hc.out HP9.out).mono ?_
    rintro e w10 ⟨rfl, hb10⟩
    rw [shapeE_yes (shaped_prove c x d Hdl.out)]
    have H10 := Lib.hid (below_two H9.out hb10)
    have HX10 := Lib.hid (HX9.out.go hb10)
    have HR10 := Lib.hid (HR9.out.go hb10)
    have HD10 := Lib.hid (HD9.out.go hb10)
    have HP10 := Lib.hid (HP9.out.go hb10)
    have kp := (hb10.cell (p := ⟨pb, 0, none⟩) lp).trans KP.out
    obtain ⟨b1, o1, c1, e1, hblt, hrun⟩ := HRun9.out.go hb10
    simp only [Value.slice.injEq, Option.some.injEq, Addr.mk.injEq] at e1
    obtain ⟨⟨rfl, rfl, -⟩, -, rfl⟩ := e1
    obtain ⟨u, hu, hru⟩ := hrun c.layers.length (Nat.le_refl _)
    have r0 := HX10.out.c0; have r1 := HX10.out.c1
    have CV := Lib.hid (fun d' os => show Calls Tryd.prog 20 #[.agg #[.int .i64 c.log, .slice ac c.layers.length cc], .slice (some ⟨xb, 0, none⟩) N N, u, .agg #[.slice aP nP cP], .slice (some ⟨db, 0, none⟩) DN DN] (grow (redrawn w10 d') os) fun e w'' => e = .returned (.tuple #[.bool true, .int .i64 0]) ∧ ∃ p : Regrown, w'' = grow (redrawn w10 p.d) p.os from by
      have hbr := below_regrown w10 d' os
      have := gkr_Verify (.agg #[.int .i64 c.log, .slice ac c.layers.length cc]) c (.slice (some ⟨xb, 0, none⟩) N N) u (.agg #[.slice aP nP cP]) (.slice (some ⟨db, 0, none⟩) DN DN) x ((valF c (x.map phi) c.layers.length).map psi) (proveI c x d) d (grow (redrawn w10 d') os) (HT.out.below (below_two H10.out hbr)) (HC.out.go (below_two H10.out hbr)) Hc.out (HR10.out.go hbr) (hru.go hbr) (HP10.out.go hbr) (HD10.out.go hbr) (CapOk.mk (Nat.le_refl _) (by omega)) (by rw [Hxl.out, HN.out]) (val_out_len HG.out x (by rw [Hxl.out, HN.out])) (shaped_prove c x d Hdl.out) Hdl.out
      rw [verB_right HG.out x d (by rw [Hxl.out, HN.out]) Hdl.out] at this
      exact Calls.regrown_of this)
    have g0 := cell_regrown r0; have g1 := cell_regrown r1; have gp := cell_regrown kp; have gu := cell_regrown hu
    have hs1 : (c.layers.length : Int) + 1 - 1 = (c.layers.length : Int) := by omega
    have hLi : (c.layers.length : Int) < (c.layers.length : Int) + 1 := by omega
    clear hrun hru hb10 hblt hu
    go_wp2_with (fail)
    refine wp_region_quiet_below (by kernel_rfl) (by kernel_rfl) ?_
    repeat (any_goals (first | go_big_quiet_step (first | (go_at_call 20; with_reducible exact CV.out _ _)) | quiet_step (first | (go_at_call 20; with_reducible exact CV.out _ _))))
    refine wpQuiet_nil ?_; intro _ hw'; obtain ⟨⟨dq, osq⟩, hw''⟩ := hw'; subst hw''
    have HE := Lib.hid (below_two H10.out (below_regrown w10 dq osq))
    go_wp2
    go_ret
    exact ⟨rfl, HE.out⟩
end Go.Proofs.YtnleihjdllpniaaDoor
