/- The walk of the law TopTexts: it returns true, whatever is handed in. The table of bits lies as its initialiser lays it. -/
import Derived.Test.YtlkdaobhmijggaaGreatDoorTopS
import Derived.Test.YtlkdaobhmijggaaGreatDoorSamePr
import Derived.Test.YtlkdaobhmijggaaGreatDoorBackM
import Derived.Test.YtlkdaobhmijggaaGreatDoorPrintW
import Derived.Deep.DeepCutAuto
namespace Go.Proofs.YtlkdaobhmijggaaGreatDoor
set_option maxRecDepth 100000
set_option linter.unusedVariables false
open Go.RowKit Tally
/-- the slices of a circuit -/
theorem shapeTT {w : World} {v : Value} {c : Ci} (h : IsC w v c) : ∃ a cap, v = .agg #[.int .i64 c.log, .slice a c.layers.length cap] := by
  obtain ⟨_, _, rfl, _, _, a, cap, rfl, _⟩ := h
  exact ⟨a, cap, rfl⟩
theorem shapeTP {w : World} {v : Value} {ps : List Pi} (h : IsP w v ps) : ∃ a cap, v = .agg #[.slice a ps.length cap] := by
  obtain ⟨_, rfl, _, a, cap, rfl, _⟩ := h
  exact ⟨a, cap, rfl⟩
theorem read_empty : parseR [] = (emptyC, 1, 3) := by
  unfold parseR
  rw [if_neg (by decide)]
  rfl
set_option maxRecDepth 100000 in
set_option maxHeartbeats 8000000 in
theorem topTexts_walk (w : World) (hT : Tab w) (v : Value) (c : Ci) (h : IsC w v c) (va : Value) (a : List Int) (ha : RowU w va a) :
    Calls Tryz.prog 3 #[v, va] w fun e w' => e = .returned (.bool true) ∧ Below w.heap.size w w' := by
  obtain ⟨ac, cc, rfl⟩ := shapeTT h
  have HT := Lib.hid hT; have HC := Lib.hid h; have Ha := Lib.hid ha
  clear hT h ha
  go_enter Tryz.func3, Tryz.ntmps3
  go_wp2_with (fail)
  obtain ⟨W1, hW, k0, k1, B1, s1⟩ := copied2' w (.int .i64 c.log) (.slice ac c.layers.length cc) 24
  rw [hW]
  obtain ⟨tb, htb⟩ : ∃ tb, tb = w.heap.size := ⟨_, rfl⟩
  rw [← htb] at k0 k1 s1 ⊢
  have HX1 := Lib.hid (show Boxed tb (.int .i64 c.log) (.slice ac c.layers.length cc) W1 from ⟨k0, k1, by omega⟩)
  have H1 := Lib.hid B1
  clear hW s1 k0 k1 B1 htb
  refine (top_said _ (HT.out.below H1.out)).mono ?_
  rintro e w2 ⟨rfl, hb2⟩
  have H2 := Lib.hid (below_two H1.out hb2)
  have HX2 := Lib.hid (HX1.out.go hb2)
  have r0 := HX2.out.c0; have r1 := HX2.out.c1
  clear hb2
  by_cases hc0 : checkC c = 0
  case neg =>
    have CP := Lib.hid (c_Print_bad _ c w2 (HC.out.go H2.out) (by omega))
    obtain ⟨E, hE⟩ : ∃ E : Int, E = (checkC c : Int) := ⟨_, rfl⟩
    rw [← hE] at CP
    have bE : (E != 0) = true := by rw [hE]; simpa using hc0
    clear hE hc0
    go_wp2_with (fail)
    refine CP.out.mono ?_
    rintro e w3 ⟨rfl, hb3⟩
    have H3 := Lib.hid (below_two H2.out hb3)
    have CQ := Lib.hid (c_Parse ⟨#[]⟩ w3 (by decide))
    rw [show (⟨#[]⟩ : ByteArray).data.toList = [] from rfl, read_empty] at CQ
    clear hb3 r0 r1
    go_wp2_with (fail)
    refine CQ.out.mono ?_
    rintro e w4 ⟨vx, rfl, hx, hb4⟩
    obtain ⟨ax, cx, rfl⟩ := shapeTT hx
    have H4 := Lib.hid (below_two H3.out hb4)
    clear hx hb4
    have h4 := H4.out
    go_wp2_with (fail)
    go_ret
    exact ⟨rfl, below_al' h4⟩
  case pos =>
    have Hc := Lib.hid hc0
    have HG := Lib.hid (good_of_check hc0)
    have CP := Lib.hid (c_Print _ c w2 (HC.out.go H2.out) HG.out hc0)
    clear hc0
    go_wp2_with (fail)
    refine CP.out.mono ?_
    rintro e w3 ⟨rfl, hb3⟩
    have H3 := Lib.hid (below_two H2.out hb3)
    have HX3 := Lib.hid (HX2.out.go hb3)
    have CQ := Lib.hid (c_Parse (circB c) w3 (by have := circB_size HG.out; omega))
    rw [back_print Hc.out] at CQ
    clear hb3 r0 r1
    go_wp2_with (fail)
    refine CQ.out.mono ?_
    rintro e w4 ⟨vx, rfl, hx, hb4⟩
    obtain ⟨ax, cx, rfl⟩ := shapeTT hx
    have HCx4 := Lib.hid hx
    have H4 := Lib.hid (below_two H3.out hb4)
    have HX4 := Lib.hid (HX3.out.go hb4)
    clear hx hb4
    go_upto_region 5 with (fail)
    obtain ⟨W5, hW, k0, k1, B5, s5⟩ := copied2' w4 (.int .i64 c.log) (.slice ax c.layers.length cx) 24
    rw [hW]
    obtain ⟨xb, hxb⟩ : ∃ xb, xb = w4.heap.size := ⟨_, rfl⟩
    rw [← hxb] at k0 k1 s5 ⊢
    have HY5 := Lib.hid (show Boxed xb (.int .i64 c.log) (.slice ax c.layers.length cx) W5 from ⟨k0, k1, by omega⟩)
    have H5 := Lib.hid (below_two H4.out B5)
    have HX5 := Lib.hid (HX4.out.go B5)
    have HCx5 := Lib.hid (HCx4.out.go B5)
    clear hW s5 k0 k1 B5 hxb
    have r0 := HX5.out.c0; have r1 := HX5.out.c1
    go_wp2_with (fail)
    refine (top_small _ c _ (HC.out.go H5.out)).mono ?_
    rintro e w6 ⟨rfl, hb⟩
    have H6 := Lib.hid (below_two H5.out hb)
    have HX6 := Lib.hid (HX5.out.go hb)
    have HY6 := Lib.hid (HY5.out.go hb)
    have HCx6 := Lib.hid (HCx5.out.go hb)
    clear hb r0 r1
    cases hsm : smallB c with
    | false =>
      clear hsm
      go_wp2
      go_ret
      exact ⟨rfl, H6.out⟩
    | true =>
      have hl4 := HG.out.log4
      have hl0 := HG.out.log0
      obtain ⟨N, hN⟩ : ∃ N, N = 2 ^ c.log.toNat := ⟨_, rfl⟩
      have hw : wrap64 (2 ^ c.log.toNat) = (N : Int) := by rw [hN]; exact wrap4 hl4
      have hN16 : N ≤ 16 := by rw [hN]; exact (pow4 hl4).2
      have HN := Lib.hid hN
      have r0 := HX6.out.c0
      clear hsm hN
      go_wp2_with (fail)
      clear hl4 hl0
      refine (top_sized a va N _ (Ha.out.go H6.out) (by omega)).mono ?_
      rintro e w7 ⟨rfl, hn7, hb⟩
      obtain ⟨x, hx⟩ : ∃ x, x = padTo N a := ⟨_, rfl⟩
      rw [← hx] at hn7
      have Hxl := Lib.hid (show x.length = N by rw [hx, padTo_length])
      have HR7 := Lib.hid hn7.row
      have H7 := Lib.hid (below_two H6.out hb)
      have HX7 := Lib.hid (HX6.out.go hb)
      have HY7 := Lib.hid (HY6.out.go hb)
      have HCx7 := Lib.hid (HCx6.out.go hb)
      obtain ⟨nb, hnb⟩ : ∃ nb, nb = w6.heap.size := ⟨_, rfl⟩
      rw [← hnb] at HR7 ⊢
      clear hx hn7 hb r0 hw hnb
      obtain ⟨V, hV⟩ : ∃ V, V = (valF c (x.map phi) c.layers.length).map psi := ⟨_, rfl⟩
      have HV := Lib.hid hV
      have HVl := Lib.hid (show V.length = 2 ^ (belowLog c c.layers.length).toNat by rw [hV]; exact val_out_len HG.out x (by rw [Hxl.out, HN.out]))
      obtain ⟨PR, hPR⟩ : ∃ PR, PR = proveI c x (fiatD c x V) := ⟨_, rfl⟩
      have HPR := Lib.hid hPR
      have CF := Lib.hid (fun (v : Value) (W : World) (hT : Tab W) (h : IsC W v c) (hr : RowU W (.slice (some ⟨nb, 0, none⟩) N N) x) => fiat_Prove v c _ x W hT h Hc.out hr (by rw [Hxl.out, HN.out]))
      rw [← hV, ← hPR] at CF
      clear hV hPR
      have r0 := HX7.out.c0; have r1 := HX7.out.c1
      go_wp2_with (fail)
      refine (CF.out _ w7 (HT.out.below H7.out) (HC.out.go H7.out) HR7.out).mono ?_
      rintro e w8 ⟨vo, vp, rfl, ho, hp, hb⟩
      have HO8 := Lib.hid ho
      have HP8 := Lib.hid hp
      obtain ⟨_, _, ao, co, rfl, -⟩ := ho
      obtain ⟨aP, cP, rfl⟩ := shapeTP hp
      have H8 := Lib.hid (below_two H7.out hb)
      have HX8 := Lib.hid (HX7.out.go hb)
      have HY8 := Lib.hid (HY7.out.go hb)
      have HCx8 := Lib.hid (HCx7.out.go hb)
      have HR8 := Lib.hid (HR7.out.go hb)
      clear hb r0 r1 hp
      go_upto_region 13 with (fail)
      obtain ⟨W9, hW9, kp, B9, s9⟩ := copied1' w8 (.slice aP PR.length cP) 36
      rw [hW9]
      obtain ⟨pb, hpb⟩ : ∃ pb, pb = w8.heap.size := ⟨_, rfl⟩
      rw [← hpb] at kp s9 ⊢
      have H9 := Lib.hid (below_two H8.out B9)
      have HX9 := Lib.hid (HX8.out.go B9)
      have HY9 := Lib.hid (HY8.out.go B9)
      have HCx9 := Lib.hid (HCx8.out.go B9)
      have HR9 := Lib.hid (HR8.out.go B9)
      have HO9 := Lib.hid (HO8.out.go B9)
      have HP9 := Lib.hid (HP8.out.go B9)
      have lp : pb < W9.heap.size := by omega
      have HK9 := Lib.hid (show ∀ X, Below W9.heap.size W9 X → X.cell? ⟨pb, 0, none⟩ = some (.slice aP PR.length cP) from fun X hX => (hX.cell (p := ⟨pb, 0, none⟩) lp).trans kp)
      clear hW9 B9 s9 hpb kp lp
      have r0 := HY9.out.c0; have r1 := HY9.out.c1
      go_wp2_with (fail)
      refine (CF.out _ W9 (HT.out.below H9.out) HCx9.out HR9.out).mono ?_
      rintro e w10 ⟨vo2, vp2, rfl, ho, hp, hb⟩
      have HO10' := Lib.hid ho
      have HP10' := Lib.hid hp
      obtain ⟨_, _, ao2, co2, rfl, -⟩ := ho
      obtain ⟨aQ, cQ, rfl⟩ := shapeTP hp
      have H10 := Lib.hid (below_two H9.out hb)
      have H910 := Lib.hid hb
      have HY10 := Lib.hid (HY9.out.go hb)
      have HCx10 := Lib.hid (HCx9.out.go hb)
      have HR10 := Lib.hid (HR9.out.go hb)
      have HO10 := Lib.hid (HO9.out.go hb)
      have HP10 := Lib.hid (HP9.out.go hb)
      clear hb r0 r1 hp
      go_upto_region 14 with (fail)
      obtain ⟨W11, hW11, kq, B11, s11⟩ := copied1' w10 (.slice aQ PR.length cQ) 36
      rw [hW11]
      obtain ⟨qb, hqb⟩ : ∃ qb, qb = w10.heap.size := ⟨_, rfl⟩
      rw [← hqb] at kq s11 ⊢
      have H11 := Lib.hid (below_two H10.out B11)
      have H911 := Lib.hid (below_two H910.out B11)
      have HY11 := Lib.hid (HY10.out.go B11)
      have HCx11 := Lib.hid (HCx10.out.go B11)
      have HR11 := Lib.hid (HR10.out.go B11)
      have HO11 := Lib.hid (HO10.out.go B11)
      have HP11 := Lib.hid (HP10.out.go B11)
      have HO11' := Lib.hid (HO10'.out.go B11)
      have HP11' := Lib.hid (HP10'.out.go B11)
      have lq : qb < W11.heap.size := by omega
      have HK11 := Lib.hid (show ∀ X, Below W11.heap.size W11 X → X.cell? ⟨qb, 0, none⟩ = some (.slice aQ PR.length cQ) from fun X hX => (hX.cell (p := ⟨qb, 0, none⟩) lq).trans kq)
      clear hW11 B11 s11 hqb kq lq
      have r0 := HY11.out.c0; have r1 := HY11.out.c1
      have r2 := HK9.out W11 H911.out
      have CV := Lib.hid (show Calls Tryz.prog 10 #[.agg #[.int .i64 c.log, .slice ax c.layers.length cx], .slice (some ⟨nb, 0, none⟩) N N, .slice ao V.length co, .agg #[.slice aP PR.length cP]] W11 fun e w'' => e = .returned (.tuple #[.bool true, .int .i64 0]) ∧ Below W11.heap.size W11 w'' from by
        have := fiat_Verify (.agg #[.int .i64 c.log, .slice ax c.layers.length cx]) c (.slice (some ⟨nb, 0, none⟩) N N) (.slice ao V.length co) (.agg #[.slice aP PR.length cP]) x V PR W11 (HT.out.below H11.out) HCx11.out Hc.out HR11.out HO11.out HP11.out (by rw [Hxl.out, HN.out]) HVl.out (by rw [HPR.out]; exact shaped_prove c x _ (fiatD_length _ _ _))
        rwa [HPR.out, verB_fiat HG.out x (by rw [Hxl.out, HN.out]) V HV.out, ← HPR.out] at this)
      go_wp2_with (fail)
      refine CV.out.mono ?_
      rintro e wv ⟨rfl, hv11⟩
      have Hv := Lib.hid (below_two H11.out hv11)
      have HOv := Lib.hid (HO11.out.go hv11)
      have HPv := Lib.hid (HP11.out.go hv11)
      have HOv' := Lib.hid (HO11'.out.go hv11)
      have HPv' := Lib.hid (HP11'.out.go hv11)
      have HKp := Lib.hid (show ∀ X, Below wv.heap.size wv X → X.cell? ⟨pb, 0, none⟩ = some (.slice aP PR.length cP) from fun X hX => HK9.out X (below_two (below_two H911.out hv11) hX))
      have HKq := Lib.hid (show ∀ X, Below wv.heap.size wv X → X.cell? ⟨qb, 0, none⟩ = some (.slice aQ PR.length cQ) from fun X hX => HK11.out X (below_two hv11 hX))
      clear hv11 CV r0 r1 r2
      go_wp2_with (fail)
      refine (slices_Equal V _ _ _ HOv.out HOv'.out).mono ?_
      rintro e w12 ⟨rfl, hd⟩
      have hd' : Below wv.heap.size wv w12 := hd.below
      have Hd := Lib.hid hd'
      have r0 := HKp.out w12 hd'
      have r1 := HKq.out w12 hd'
      clear hd hd'
      go_wp2_with (fail)
      refine (ref_SameProof PR _ _ w12 (HPv.out.go Hd.out) (HPv'.out.go Hd.out)).mono ?_
      rintro e w13 ⟨rfl, hb⟩
      have H13 := Lib.hid (below_two (below_two Hv.out Hd.out) hb)
      clear hb
      go_wp2_with (fail)
      go_ret
      exact ⟨rfl, H13.out⟩
end Go.Proofs.YtlkdaobhmijggaaGreatDoor
