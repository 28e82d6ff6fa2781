/- The walk of the law TopComplete: it returns true, whatever is handed in. The table of bits lies as its initialiser lays it. -/
import Derived.Test.YtnleihjdllpniaaDoorTopS
namespace Go.Proofs.YtnleihjdllpniaaDoor
set_option maxRecDepth 100000
set_option linter.unusedVariables false
open Go.RowKit Tally
open Go.Sort (grow)
set_option maxRecDepth 100000 in
set_option maxHeartbeats 8000000 in
theorem topComplete_walk (w : World) (hT : Tab w) (v : Value) (c : Ci) (h : IsC w v c) (va : Value) (a : List Int) (ha : RowU w va a) (vd : Value) (ds : List Int) (hd : RowU w vd ds) :
    Calls Tryd.prog 3 #[v, va, vd] w fun e w' => e = .returned (.bool true) ∧ Below w.heap.size w w' := by
  obtain ⟨ac, cc, rfl⟩ := h.shape
  have HT := Lib.hid hT; have HC := Lib.hid h; have Ha := Lib.hid ha; have Hd := Lib.hid hd
  clear hT h ha hd
  go_enter Tryd.func3, Tryd.ntmps3
  go_wp2_with (fail)
  obtain ⟨W1, hW, k0, k1, B1, s1⟩ := copied2' w (.int .i64 c.log) (.slice ac c.layers.length cc) 24
  rw [hW]
  obtain ⟨tb, htb⟩ : ∃ tb, tb = w.heap.size := ⟨_, rfl⟩
  rw [← htb] at k0 k1 s1 ⊢
  have HX1 := Lib.hid (show Boxed tb (.int .i64 c.log) (.slice ac c.layers.length cc) W1 from ⟨k0, k1, by omega⟩)
  have H1 := Lib.hid B1
  clear hW s1 k0 k1 B1 htb
  refine (top_said _ (HT.out.below H1.out)).mono ?_
  rintro e w2 ⟨rfl, hb2⟩
  have H2 := Lib.hid (below_two H1.out hb2)
  have HX2 := Lib.hid (HX1.out.go hb2)
  have r0 := HX2.out.c0; have r1 := HX2.out.c1
  clear hb2
  go_wp2_with (fail)
  refine (top_small _ c _ (HC.out.go H2.out)).mono ?_
  rintro e w3 ⟨rfl, hb3⟩
  have H3 := Lib.hid (below_two H2.out hb3)
  have HX3 := Lib.hid (HX2.out.go hb3)
  clear hb3 r0 r1
  cases hsm : smallB c with
  | false =>
    clear hsm
    go_wp2
    go_ret
    exact ⟨rfl, H3.out⟩
  | true =>
    have hS := smallB_yes hsm
    have Hc := Lib.hid hS.right
    have HG := Lib.hid (good_of_check hS.right)
    have hl4 := HG.out.log4
    have hl0 := HG.out.log0
    have hn1 := HG.out.n1
    have hn4 := HG.out.n4
    have hDN := drawsN_le HG.out
    obtain ⟨N, hN⟩ : ∃ N, N = 2 ^ c.log.toNat := ⟨_, rfl⟩
    have hw : wrap64 (2 ^ c.log.toNat) = (N : Int) := by rw [hN]; exact wrap4 hl4
    have hN16 : N ≤ 16 := by rw [hN]; exact (pow4 hl4).2
    have HN := Lib.hid hN
    have r0 := HX3.out.c0
    clear hsm hS hN
    go_wp2_with (fail)
    clear hl4 hl0
    refine (top_sized a va N _ (Ha.out.go H3.out) (by omega)).mono ?_
    rintro e w4 ⟨rfl, hn4', hb4⟩
    obtain ⟨x, hx⟩ : ∃ x, x = padTo N a := ⟨_, rfl⟩
    rw [← hx] at hn4'
    have Hxl := Lib.hid (show x.length = N by rw [hx, padTo_length])
    have HR4 := Lib.hid hn4'.row
    have H4 := Lib.hid (below_two H3.out hb4)
    have HX4 := Lib.hid (HX3.out.go hb4)
    obtain ⟨xb, hxb⟩ : ∃ xb, xb = w3.heap.size := ⟨_, rfl⟩
    rw [← hxb] at HR4 ⊢
    clear hx hn4' hb4 r0 hw hxb
    have r0 := HX4.out.c0; have r1 := HX4.out.c1
    go_wp2_with (fail)
    refine (c_RunAt _ c _ x _ (HC.out.go H4.out) HR4.out Hc.out (by rw [Hxl.out, HN.out])).mono ?_
    rintro e w5 ⟨vx, rfl, hrun, hb5⟩
    have H5 := Lib.hid (below_two H4.out hb5)
    have HX5 := Lib.hid (HX4.out.go hb5)
    have HR5 := Lib.hid (HR4.out.go hb5)
    obtain ⟨bx, ox, cx, rfl, hbx, hrc⟩ := hrun
    obtain ⟨u, hu, hru⟩ := hrc c.layers.length (Nat.le_refl _)
    obtain ⟨V, hV⟩ : ∃ V, V = (valF c (x.map phi) c.layers.length).map psi := ⟨_, rfl⟩
    rw [← hV] at hru
    have HV := Lib.hid hV
    have HVl := Lib.hid (show V.length = 2 ^ (belowLog c c.layers.length).toNat by rw [hV]; exact val_out_len HG.out x (by rw [Hxl.out, HN.out]))
    have HU5 := Lib.hid hru
    have Hu5 := Lib.hid hu
    obtain ⟨_, _, au, cu, rfl, -⟩ := hru
    obtain ⟨M, hM⟩ : ∃ M, M = V.length := ⟨_, rfl⟩
    rw [← hM] at HU5 Hu5
    have Hbx := Lib.hid hbx
    have HUu := Lib.hid (show ∀ X, Below w5.heap.size w5 X → X.cell? ⟨bx, ox + c.layers.length, none⟩ = some (.slice au M cu) from fun X hz => (hz.cell (p := ⟨bx, ox + c.layers.length, none⟩) Hbx.out).trans Hu5.out)
    clear hb5 r0 r1 hbx hrc hV hu hM
    have r0 := HX5.out.c0; have r1 := HX5.out.c1
    go_wp2_with (fail)
    refine (gkr_Draws _ c _ (HC.out.go H5.out) Hc.out).mono ?_
    rintro e w6 ⟨rfl, hb6⟩
    obtain ⟨DN, hDN'⟩ : ∃ DN, DN = drawsN c := ⟨_, rfl⟩
    rw [← hDN'] at hDN ⊢
    have HDN := Lib.hid hDN'
    have H56 := Lib.hid hb6
    have H6 := Lib.hid (below_two H5.out hb6)
    have HX6 := Lib.hid (HX5.out.go hb6)
    have HR6 := Lib.hid (HR5.out.go hb6)
    clear hb6 r0 r1 hDN'
    go_wp2_with (fail)
    refine (top_sized ds vd DN _ (Hd.out.go H6.out) (by omega)).mono ?_
    rintro e w7 ⟨rfl, hn7, hb7⟩
    obtain ⟨d, hd⟩ : ∃ d, d = padTo DN ds := ⟨_, rfl⟩
    rw [← hd] at hn7
    have Hdl := Lib.hid (show d.length = drawsN c by rw [hd, padTo_length, HDN.out])
    have HD7 := Lib.hid hn7.row
    have H57 := Lib.hid (below_two H56.out hb7)
    have H7 := Lib.hid (below_two H6.out hb7)
    have HX7 := Lib.hid (HX6.out.go hb7)
    have HR7 := Lib.hid (HR6.out.go hb7)
    obtain ⟨db, hdb⟩ : ∃ db, db = w6.heap.size := ⟨_, rfl⟩
    rw [← hdb] at HD7 ⊢
    clear hd hn7 hb7 hdb
    have r0 := HX7.out.c0; have r1 := HX7.out.c1
    go_wp2_with (fail)
    refine (gkr_Prove _ c _ _ x d _ (HT.out.below H7.out) (HC.out.go H7.out) HR7.out HD7.out (CapOk.mk (Nat.le_refl _) (by omega)) Hc.out (by rw [Hxl.out, HN.out]) Hdl.out).mono ?_
    rintro e w8 ⟨vp, rfl, hp8, hb8⟩
    have HP8 := Lib.hid hp8
    obtain ⟨vs, rfl, _, aP, cP, rfl, -⟩ := hp8
    obtain ⟨nP, hnP⟩ : ∃ nP, nP = (proveI c x d).length := ⟨_, rfl⟩
    rw [← hnP] at HP8 ⊢
    have H58 := Lib.hid (below_two H57.out hb8)
    have H8 := Lib.hid (below_two H7.out hb8)
    have HX8 := Lib.hid (HX7.out.go hb8)
    have HR8 := Lib.hid (HR7.out.go hb8)
    have HD8 := Lib.hid (HD7.out.go hb8)
    clear hb8 hnP r0 r1
    have r0 := HX8.out.c0; have r1 := HX8.out.c1; have lt8 := HX8.out.lt
    go_wp2_with (fail)
    obtain ⟨W9, hW9, kp, B9, s9⟩ := copied1' w8 (.slice aP nP cP) 37
    rw [hW9]
    obtain ⟨pb, hpb⟩ : ∃ pb, pb = w8.heap.size := ⟨_, rfl⟩
    rw [← hpb] at kp s9 ⊢
    have H59 := Lib.hid (below_two H58.out B9)
    have H9 := Lib.hid (below_two H8.out B9)
    have HX9 := Lib.hid (HX8.out.go B9)
    have HR9 := Lib.hid (HR8.out.go B9)
    have HD9 := Lib.hid (HD8.out.go B9)
    have HP9 := Lib.hid (HP8.out.go B9)
    have lp : pb < W9.heap.size := by omega
    clear hW9 B9 s9 r0 r1 lt8 hpb
    have K9 := Lib.hid (show ∀ X, Below W9.heap.size W9 X → Below W9.heap.size W9 X ∧ X.cell? ⟨tb, 0, none⟩ = some (.int .i64 c.log) ∧ X.cell? ⟨tb, 1, none⟩ = some (.slice ac c.layers.length cc) ∧ X.cell? ⟨pb, 0, none⟩ = some (.slice aP nP cP) ∧ X.cell? ⟨bx, ox + c.layers.length, none⟩ = some (.slice au M cu) from fun X hz =>
      ⟨hz, (HX9.out.go hz).c0, (HX9.out.go hz).c1, (hz.cell (p := ⟨pb, 0, none⟩) lp).trans kp, HUu.out X (below_two H59.out hz)⟩)
    have CV := Lib.hid (show Calls Tryd.prog 20 #[.agg #[.int .i64 c.log, .slice ac c.layers.length cc], .slice (some ⟨xb, 0, none⟩) N N, .slice au M cu, .agg #[.slice aP nP cP], .slice (some ⟨db, 0, none⟩) DN DN] W9.drew fun e w'' => e = .returned (.tuple #[.bool true, .int .i64 0]) ∧ Below W9.drew.heap.size W9.drew w'' from by
      have hbr : Below w.heap.size w W9.drew := below_dw H9.out
      have := gkr_Verify (.agg #[.int .i64 c.log, .slice ac c.layers.length cc]) c (.slice (some ⟨xb, 0, none⟩) N N) (.slice au M cu) (.agg #[.slice aP nP cP]) (.slice (some ⟨db, 0, none⟩) DN DN) x V (proveI c x d) d W9.drew (HT.out.below hbr) (HC.out.go hbr) Hc.out HR9.out.dw (HU5.out.go (below_dw H59.out)) (HP9.out.go (below_drw _)) HD9.out.dw (CapOk.mk (Nat.le_refl _) (by omega)) (by rw [Hxl.out, HN.out]) HVl.out (shaped_prove c x d Hdl.out) Hdl.out
      rwa [HV.out, verB_right HG.out x d (by rw [Hxl.out, HN.out]) Hdl.out] at this)
    have hs1 : (c.layers.length : Int) + 1 - 1 = (c.layers.length : Int) := by omega
    have hLi : (c.layers.length : Int) < (c.layers.length : Int) + 1 := by omega
    have hL0 : (0 : Int) ≤ (c.layers.length : Int) := by omega
    have hwr1 : IntKind.i64.wrap (c.layers.length : Int) = (c.layers.length : Int) := IntWalk.i64_in _ (by omega)
    have hwr2 : IntKind.i64.wrap ((c.layers.length : Int) + 1 - 1) = (c.layers.length : Int) := by rw [hs1]; exact hwr1
    clear kp lp
    go_wp2_with (fail)
    go_region_held3 (fun w' => Below W9.heap.size W9 w' ∧ w'.cell? ⟨tb, 0, none⟩ = some (.int .i64 c.log) ∧ w'.cell? ⟨tb, 1, none⟩ = some (.slice ac c.layers.length cc) ∧ w'.cell? ⟨pb, 0, none⟩ = some (.slice aP nP cP) ∧ w'.cell? ⟨bx, ox + c.layers.length, none⟩ = some (.slice au M cu))
      (first
        | (refine K9.out _ ?_; (repeat (first | assumption | (with_reducible exact Below.refl _ _) | (with_reducible refine below_dw ?_) | (with_reducible refine below_al' ?_) | (with_reducible refine below_two ?_ (by assumption))))))
      (first
        | (go_at_call 20; (refine CV.out.mono ?_); rintro e wv ⟨rfl, hbv⟩))
    have hv9 : Below W9.heap.size W9 wv := by (repeat (first | assumption | (with_reducible exact Below.refl _ _) | (with_reducible refine below_dw ?_) | (with_reducible refine below_al' ?_) | (with_reducible refine below_two ?_ (by assumption))))
    have H5v := Lib.hid (below_two H59.out hv9)
    have Hv := Lib.hid (below_two H9.out hv9)
    have HXv := Lib.hid (HX9.out.go hv9)
    have HRv := Lib.hid (HR9.out.go hv9)
    clear hbv hv9 CV K9
    have r0 := HXv.out.c0; have r1 := HXv.out.c1
    go_wp2_with (fail)
    refine (fiat_Prove _ c _ x _ (HT.out.below Hv.out) (HC.out.go Hv.out) Hc.out HRv.out (by rw [Hxl.out, HN.out])).mono ?_
    rintro e w10 ⟨vo, vq, rfl, ho, hq, hb10⟩
    rw [← HV.out] at ho hq
    have HO10 := Lib.hid ho
    have HQ10 := Lib.hid hq
    obtain ⟨vs, rfl, _, aQ, cQ, rfl, -⟩ := hq
    obtain ⟨nQ, hnQ⟩ : ∃ nQ, nQ = (proveI c x (fiatD c x V)).length := ⟨_, rfl⟩
    rw [← hnQ] at HQ10 ⊢
    have H510 := Lib.hid (below_two H5v.out hb10)
    have H10 := Lib.hid (below_two Hv.out hb10)
    have HX10 := Lib.hid (HXv.out.go hb10)
    have HR10 := Lib.hid (HRv.out.go hb10)
    clear hb10 hnQ r0 r1 ho
    have r0 := HX10.out.c0; have r1 := HX10.out.c1; have lt10 := HX10.out.lt
    go_wp2_with (fail)
    obtain ⟨W11, hW11, kq, B11, s11⟩ := copied1' w10 (.slice aQ nQ cQ) 37
    rw [hW11]
    obtain ⟨qb, hqb⟩ : ∃ qb, qb = w10.heap.size := ⟨_, rfl⟩
    rw [← hqb] at kq s11 ⊢
    have H511 := Lib.hid (below_two H510.out B11)
    have H11 := Lib.hid (below_two H10.out B11)
    have HX11 := Lib.hid (HX10.out.go B11)
    have HR11 := Lib.hid (HR10.out.go B11)
    have HO11 := Lib.hid (HO10.out.go B11)
    have HQ11 := Lib.hid (HQ10.out.go B11)
    have lq : qb < W11.heap.size := by omega
    clear hW11 B11 s11 r0 r1 lt10 hqb
    have K11 := Lib.hid (show ∀ X, Below W11.heap.size W11 X → Below W11.heap.size W11 X ∧ X.cell? ⟨tb, 0, none⟩ = some (.int .i64 c.log) ∧ X.cell? ⟨tb, 1, none⟩ = some (.slice ac c.layers.length cc) ∧ X.cell? ⟨qb, 0, none⟩ = some (.slice aQ nQ cQ) ∧ X.cell? ⟨bx, ox + c.layers.length, none⟩ = some (.slice au M cu) from fun X hz =>
      ⟨hz, (HX11.out.go hz).c0, (HX11.out.go hz).c1, (hz.cell (p := ⟨qb, 0, none⟩) lq).trans kq, HUu.out X (below_two H511.out hz)⟩)
    have CV := Lib.hid (show Calls Tryd.prog 22 #[.agg #[.int .i64 c.log, .slice ac c.layers.length cc], .slice (some ⟨xb, 0, none⟩) N N, .slice au M cu, .agg #[.slice aQ nQ cQ]] W11.drew fun e w'' => e = .returned (.tuple #[.bool true, .int .i64 0]) ∧ Below W11.drew.heap.size W11.drew w'' from by
      have hbr : Below w.heap.size w W11.drew := below_dw H11.out
      have := fiat_Verify (.agg #[.int .i64 c.log, .slice ac c.layers.length cc]) c (.slice (some ⟨xb, 0, none⟩) N N) (.slice au M cu) (.agg #[.slice aQ nQ cQ]) x V (proveI c x (fiatD c x V)) W11.drew (HT.out.below hbr) (HC.out.go hbr) Hc.out HR11.out.dw (HU5.out.go (below_dw H511.out)) (HQ11.out.go (below_drw _)) (by rw [Hxl.out, HN.out]) HVl.out (shaped_prove c x _ (fiatD_length _ _ _))
      rwa [verB_fiat HG.out x (by rw [Hxl.out, HN.out]) V HV.out] at this)
    clear kq lq
    go_wp2_with (fail)
    go_region_held3 (fun w' => Below W11.heap.size W11 w' ∧ w'.cell? ⟨tb, 0, none⟩ = some (.int .i64 c.log) ∧ w'.cell? ⟨tb, 1, none⟩ = some (.slice ac c.layers.length cc) ∧ w'.cell? ⟨qb, 0, none⟩ = some (.slice aQ nQ cQ) ∧ w'.cell? ⟨bx, ox + c.layers.length, none⟩ = some (.slice au M cu))
      (first
        | (refine K11.out _ ?_; (repeat (first | assumption | (with_reducible exact Below.refl _ _) | (with_reducible refine below_dw ?_) | (with_reducible refine below_al' ?_) | (with_reducible refine below_two ?_ (by assumption))))))
      (first
        | (go_at_call 22; (refine CV.out.mono ?_); rintro e wx ⟨rfl, hbx⟩))
    have hx11 : Below W11.heap.size W11 wx := by (repeat (first | assumption | (with_reducible exact Below.refl _ _) | (with_reducible refine below_dw ?_) | (with_reducible refine below_al' ?_) | (with_reducible refine below_two ?_ (by assumption))))
    have Hx := Lib.hid (below_two H11.out hx11)
    have HOx := Lib.hid (HO11.out.go hx11)
    have HUx := Lib.hid (HU5.out.go (below_two H511.out hx11))
    have cx := HUu.out wx (below_two H511.out hx11)
    clear hbx hx11 CV K11
    go_wp2_with (go_at_call 23; (with_reducible refine (slices_Equal V _ _ _ HOx.out HUx.out).mono ?_); rintro e wq ⟨rfl, hdq⟩)
    go_ret
    exact ⟨rfl, Hx.out.trans (hdq.below.mono Hx.out.size)⟩
end Go.Proofs.YtnleihjdllpniaaDoor
