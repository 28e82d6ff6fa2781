/- The walk of the law GkrOutputs: it returns true, whatever is handed in. The table of bits lies as its initialiser lays it. -/
import Derived.Test.YtnleihjdllpniaaDoorGkrCompleteWalk
namespace Go.Proofs.YtnleihjdllpniaaDoor
set_option maxRecDepth 100000
set_option linter.unusedVariables false
open Go.RowKit Tally
open Go.Sort (grow)
theorem RowU.head {w : World} {b D cap T : Nat} {d : List Int} (h : RowU w (.slice (some ⟨b, 0, none⟩) D cap) d) (hT : T ≤ D) : RowU w (.slice (some ⟨b, 0, none⟩) T cap) (d.take T) := by
  obtain ⟨hu, h2, a', cap', e, hr⟩ := h
  simp only [Value.slice.injEq] at e
  obtain ⟨rfl, hD, rfl⟩ := e
  refine ⟨fun x hx => hu x (List.mem_of_mem_take hx), by rw [List.length_take]; omega, _, _, by rw [List.length_take, Nat.min_eq_left (by omega)], fun h0 => ?_⟩
  rw [List.length_take] at h0
  obtain ⟨b', off, eb, hlt, hc⟩ := hr (by omega)
  refine ⟨b', off, eb, hlt, fun j hj => ?_⟩
  rw [List.length_take] at hj
  rw [hc j (by omega)]
  have e : at0 (d.take T) j = at0 d j := by simp [at0, show j < T by omega]
  rw [e]
set_option maxRecDepth 100000 in
set_option maxHeartbeats 8000000 in
theorem gkrOutputs_walk (w : World) (hT : Tab w) (v : Value) (c : Ci) (h : IsC w v c) (va : Value) (a : List Int) (ha : RowU w va a) (vy : Value) (ys : List Int) (hy : RowU w vy ys) (vd : Value) (ds : List Int) (hd : RowU w vd ds) :
    Calls Tryd.prog 12 #[v, va, vy, vd] w fun e w' => e = .returned (.bool true) ∧ Below w.heap.size w w' := by
  obtain ⟨ac, cc, rfl⟩ := h.shape
  have HT := Lib.hid hT; have HC := Lib.hid h; have Ha := Lib.hid ha; have Hd := Lib.hid hd; have Hy := Lib.hid hy
  clear hT h ha hd hy
  go_enter Tryd.func12, Tryd.ntmps12
  go_wp2_with (fail)
  obtain ⟨W1, hW, k0, k1, B1, s1⟩ := copied2' w (.int .i64 c.log) (.slice ac c.layers.length cc) 24
  rw [hW]
  obtain ⟨tb, htb⟩ : ∃ tb, tb = w.heap.size := ⟨_, rfl⟩
  rw [← htb] at k0 k1 s1 ⊢
  have HX1 := Lib.hid (show Boxed tb (.int .i64 c.log) (.slice ac c.layers.length cc) W1 from ⟨k0, k1, by omega⟩)
  have H1 := Lib.hid B1
  clear hW s1 k0 k1 B1 htb
  refine (keep_held _ (HT.out.below H1.out)).mono ?_
  rintro e w2 ⟨rfl, hb2⟩
  have H2 := Lib.hid (below_two H1.out hb2)
  have HX2 := Lib.hid (HX1.out.go hb2)
  have r0 := HX2.out.c0; have r1 := HX2.out.c1
  clear hb2
  go_wp2_with (fail)
  refine (keep_small _ c _ (HC.out.go H2.out)).mono ?_
  rintro e w3 ⟨rfl, hb3⟩
  have H3 := Lib.hid (below_two H2.out hb3)
  have HX3 := Lib.hid (HX2.out.go hb3)
  clear hb3 r0 r1
  cases hsm : smallB c with
  | false =>
    clear hsm
    go_wp2
    go_ret
    exact ⟨rfl, H3.out⟩
  | true =>
    have hS := smallB_yes hsm
    have Hc := Lib.hid hS.right
    have HG := Lib.hid (good_of_check hS.right)
    have hl4 := HG.out.log4
    have hl0 := HG.out.log0
    have hn1 := HG.out.n1
    have hn4 := HG.out.n4
    have hDN := drawsN_le HG.out
    obtain ⟨N, hN⟩ : ∃ N, N = 2 ^ c.log.toNat := ⟨_, rfl⟩
    have hw : wrap64 (2 ^ c.log.toNat) = (N : Int) := by rw [hN]; exact wrap4 hl4
    have hN16 : N ≤ 16 := by rw [hN]; exact (pow4 hl4).2
    have HN := Lib.hid hN
    have r0 := HX3.out.c0
    clear hsm hS hN
    go_wp2_with (fail)
    clear hl4 hl0
    refine (keep_point a va N _ (Ha.out.go H3.out) (by omega)).mono ?_
    rintro e w4 ⟨rfl, hn4', hb4⟩
    obtain ⟨x, hx⟩ : ∃ x, x = padTo N a := ⟨_, rfl⟩
    rw [← hx] at hn4'
    have Hxl := Lib.hid (show x.length = N by rw [hx, padTo_length])
    have HR4 := Lib.hid hn4'.row
    have H4 := Lib.hid (below_two H3.out hb4)
    have HX4 := Lib.hid (HX3.out.go hb4)
    obtain ⟨xb, hxb⟩ : ∃ xb, xb = w3.heap.size := ⟨_, rfl⟩
    rw [← hxb] at HR4 ⊢
    clear hx hn4' hb4 r0 hw hxb
    have r0 := HX4.out.c0; have r1 := HX4.out.c1
    go_wp2_with (fail)
    refine (gkr_Draws _ c _ (HC.out.go H4.out) Hc.out).mono ?_
    rintro e w5 ⟨rfl, hb5⟩
    obtain ⟨DN, hDN'⟩ : ∃ DN, DN = drawsN c := ⟨_, rfl⟩
    rw [← hDN'] at hDN ⊢
    have HDN := Lib.hid hDN'
    have H5 := Lib.hid (below_two H4.out hb5)
    have HX5 := Lib.hid (HX4.out.go hb5)
    have HR5 := Lib.hid (HR4.out.go hb5)
    clear hb5 r0 r1 hDN'
    go_wp2_with (fail)
    refine (keep_point ds vd DN _ (Hd.out.go H5.out) (by omega)).mono ?_
    rintro e w6 ⟨rfl, hn6, hb6⟩
    obtain ⟨d, hd⟩ : ∃ d, d = padTo DN ds := ⟨_, rfl⟩
    rw [← hd] at hn6
    have Hdl := Lib.hid (show d.length = drawsN c by rw [hd, padTo_length, HDN.out])
    have HD6 := Lib.hid hn6.row
    have H6 := Lib.hid (below_two H5.out hb6)
    have HX6 := Lib.hid (HX5.out.go hb6)
    have HR6 := Lib.hid (HR5.out.go hb6)
    obtain ⟨db, hdb⟩ : ∃ db, db = w5.heap.size := ⟨_, rfl⟩
    rw [← hdb] at HD6 ⊢
    clear hd hn6 hb6 hdb
    have r0 := HX6.out.c0; have r1 := HX6.out.c1
    go_wp2_with (fail)
    refine (c_RunAt _ c _ x _ (HC.out.go H6.out) HR6.out Hc.out (by rw [Hxl.out, HN.out])).mono ?_
    rintro e w7 ⟨vx, rfl, hrun, hb7⟩
    have H7 := Lib.hid (below_two H6.out hb7)
    have HX7 := Lib.hid (HX6.out.go hb7)
    have HR7 := Lib.hid (HR6.out.go hb7)
    have HD7 := Lib.hid (HD6.out.go hb7)
    have HRun7 := Lib.hid hrun
    have hbelow := HG.out.below4 (k := c.layers.length) (Nat.le_refl _)
    have hbelow0 := HG.out.below0 (k := c.layers.length) (Nat.le_refl _)
    obtain ⟨V, hV⟩ : ∃ V, V = (valF c (x.map phi) c.layers.length).map psi := ⟨_, rfl⟩
    have HV := Lib.hid hV
    obtain ⟨T, hTl⟩ : ∃ T : Nat, T = (belowLog c c.layers.length).toNat := ⟨_, rfl⟩
    have hT4 : T ≤ 4 := by omega
    have HTl := Lib.hid hTl
    have hVl : V.length = 2 ^ T := by rw [hV, hTl]; exact val_out_len HG.out x (by rw [Hxl.out, HN.out])
    have hDT : T ≤ DN := by rw [HDN.out, hTl]; unfold drawsN; omega
    have HVl := Lib.hid hVl
    obtain ⟨bx, ox, cx, rfl, hbx, hrc⟩ := hrun
    obtain ⟨u, hu, hru⟩ := hrc c.layers.length (Nat.le_refl _)
    rw [← hV] at hru
    have HU7 := Lib.hid hru
    obtain ⟨_, _, au, cu, rfl, -⟩ := hru
    obtain ⟨M, hM⟩ : ∃ M, M = V.length := ⟨_, rfl⟩
    have hM16 : M ≤ 16 := by rw [hM, hVl]; exact Nat.le_trans (Nat.pow_le_pow_right (by decide) hT4) (by decide)
    have HM := Lib.hid hM
    rw [← hM] at hu HU7
    have hs1 : (c.layers.length : Int) + 1 - 1 = (c.layers.length : Int) := by omega
    have hLi : (c.layers.length : Int) < (c.layers.length : Int) + 1 := by omega
    clear hb7 r0 r1 hbx hrc hbelow hbelow0 hV hTl hVl hM
    have r0 := HX7.out.c0; have r1 := HX7.out.c1
    go_wp2_with (fail)
    refine (keep_point ys vy M _ (Hy.out.go H7.out) (by omega)).mono ?_
    rintro e w8 ⟨rfl, hn8, hb8⟩
    obtain ⟨y, hy⟩ : ∃ y, y = padTo M ys := ⟨_, rfl⟩
    rw [← hy] at hn8
    have Hyl := Lib.hid (show y.length = M by rw [hy, padTo_length])
    have HY8 := Lib.hid hn8.row
    have H8 := Lib.hid (below_two H7.out hb8)
    have HX8 := Lib.hid (HX7.out.go hb8)
    have HR8 := Lib.hid (HR7.out.go hb8)
    have HD8 := Lib.hid (HD7.out.go hb8)
    have HU8 := Lib.hid (HU7.out.go hb8)
    obtain ⟨yb, hyb⟩ : ∃ yb, yb = w7.heap.size := ⟨_, rfl⟩
    rw [← hyb] at HY8 ⊢
    clear hy hn8 hb8 hyb hs1 hLi hu r0 r1
    have r0 := HX8.out.c0; have r1 := HX8.out.c1
    go_wp2_with (fail)
    refine (gkr_Prove _ c _ _ x d _ (HT.out.below H8.out) (HC.out.go H8.out) HR8.out HD8.out (CapOk.mk (Nat.le_refl _) (by omega)) Hc.out (by rw [Hxl.out, HN.out]) Hdl.out).mono ?_
    rintro e w9 ⟨vp, rfl, hp9, hb9⟩
    have HP9 := Lib.hid hp9
    obtain ⟨vs, rfl, _, aP, cP, rfl, -⟩ := hp9
    obtain ⟨nP, hnP⟩ : ∃ nP, nP = (proveI c x d).length := ⟨_, rfl⟩
    rw [← hnP] at HP9 ⊢
    have H9 := Lib.hid (below_two H8.out hb9)
    have HX9 := Lib.hid (HX8.out.go hb9)
    have HR9 := Lib.hid (HR8.out.go hb9)
    have HD9 := Lib.hid (HD8.out.go hb9)
    have HY9 := Lib.hid (HY8.out.go hb9)
    have HU9 := Lib.hid (HU8.out.go hb9)
    clear hb9 hnP r0 r1
    have r0 := HX9.out.c0; have r1 := HX9.out.c1; have lt9 := HX9.out.lt
    go_wp2_with (fail)
    obtain ⟨W10, hW10, kp, B10, s10⟩ := copied1' w9 (.slice aP nP cP) 37
    rw [hW10]
    obtain ⟨pb, hpb⟩ : ∃ pb, pb = w9.heap.size := ⟨_, rfl⟩
    rw [← hpb] at kp s10 ⊢
    have H10 := Lib.hid (below_two H9.out B10)
    have HX10 := Lib.hid (HX9.out.go B10)
    have HR10 := Lib.hid (HR9.out.go B10)
    have HD10 := Lib.hid (HD9.out.go B10)
    have HY10 := Lib.hid (HY9.out.go B10)
    have HU10 := Lib.hid (HU9.out.go B10)
    have HP10 := Lib.hid (HP9.out.go B10)
    clear hW10 B10 s10 r0 r1 lt9 hpb
    have r0 := HX10.out.c0; have r1 := HX10.out.c1
    go_wp2_with (fail)
    refine (gkr_Verify _ c _ _ _ _ x y (proveI c x d) d _ (HT.out.below H10.out) (HC.out.go H10.out) Hc.out HR10.out HY10.out HP10.out HD10.out (CapOk.mk (Nat.le_refl _) (by omega)) (by rw [Hxl.out, HN.out]) (by rw [Hyl.out, HM.out, HVl.out, HTl.out]) (shaped_prove c x d Hdl.out) Hdl.out).mono ?_
    rintro e w11 ⟨rfl, hb11⟩
    have HB := Lib.hid (show verB c x y (proveI c x d) d = (psi (evalF (V.map phi) ((d.take T).map phi)) == psi (evalF (y.map phi) ((d.take T).map phi))) by
      rw [verB_prove HG.out x x y d (by rw [Hxl.out, HN.out]) Hdl.out]
      have e1 : topZ c d = (d.take T).map phi := by unfold topZ; rw [HTl.out, List.map_take]
      rw [e1, HV.out, mapphi_psi]
      by_cases e : evalF (y.map phi) ((d.take T).map phi) = evalF (valF c (x.map phi) c.layers.length) ((d.take T).map phi)
      · rw [if_pos e, e, beq_self_eq_true, beq_self_eq_true]
      · rw [if_neg e]; symm; rw [beq_eq_false_iff_ne]; exact fun h => e (psi_inj h).symm)
    generalize verB c x y (proveI c x d) d = b at *
    have H11 := Lib.hid (below_two H10.out hb11)
    have HD11 := Lib.hid (HD10.out.go hb11)
    have HY11 := Lib.hid (HY10.out.go hb11)
    have HU11 := Lib.hid (HU10.out.go hb11)
    clear hb11 r0 r1 kp
    go_wp2_with (fail)
    refine (ref_Vars V T _ _ HU11.out HVl.out (by omega)).mono ?_
    rintro e w12 ⟨rfl, rfl⟩
    have hTi : (T : Int) ≤ (DN : Int) := by omega
    have hT0 : (0 : Int) ≤ (T : Int) := by omega
    go_wp2_with (fail)
    have HZ11 := Lib.hid (show RowU w11 (.slice (some ⟨db, 0, none⟩) T DN) (d.take T) from HD11.out.head hDT)
    refine (mle_Eval V (d.take T) _ _ _ (HT.out.below H11.out) HU11.out HZ11.out (by rw [HVl.out, List.length_take, Hdl.out, ← HDN.out, Nat.min_eq_left hDT]) (by rw [List.length_take]; omega)).mono ?_
    rintro e w13 ⟨rfl, hb13⟩
    have H13 := Lib.hid (below_two H11.out hb13)
    have HY13 := Lib.hid (HY11.out.go hb13)
    have HZ13 := Lib.hid (HZ11.out.go hb13)
    clear hb13
    go_wp2_with (fail)
    refine (mle_Eval y (d.take T) _ _ _ (HT.out.below H13.out) HY13.out HZ13.out (by rw [Hyl.out, HM.out, HVl.out, List.length_take, Hdl.out, ← HDN.out, Nat.min_eq_left hDT]) (by rw [List.length_take]; omega)).mono ?_
    rintro e w14 ⟨rfl, hb14⟩
    have H14 := Lib.hid (below_two H13.out hb14)
    clear hb14
    rw [List.map_take] at HB ⊢
    generalize psi (evalF (V.map phi) ((d.map phi).take T)) = U1 at *
    generalize psi (evalF (y.map phi) ((d.map phi).take T)) = U2 at *
    go_wp2
    go_ret
    exact ⟨by rw [HB.out]; simp, H14.out⟩
end Go.Proofs.YtnleihjdllpniaaDoor
