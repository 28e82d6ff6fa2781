/- The walk of the law TopSound: it returns true, whatever is handed in. The table of bits lies as its initialiser lays it. -/
import Derived.Test.YtnleihjdllpniaaDoorTopLie
import Derived.Test.YtnleihjdllpniaaDoorRShaped
namespace Go.Proofs.YtnleihjdllpniaaDoor
set_option maxRecDepth 100000
set_option linter.unusedVariables false
open Go.RowKit Tally
open Go.Sort (grow)
set_option maxRecDepth 100000 in
set_option maxHeartbeats 8000000 in
theorem topSound_walk (w : World) (hT : Tab w) (v : Value) (c : Ci) (h : IsC w v c) (va : Value) (a : List Int) (ha : RowU w va a) (vy : Value) (ys : List Int) (hy : RowU w vy ys) (vp : Value) (ps : List Pi) (hp : IsP w vp ps) (vd : Value) (ds : List Int) (hd : RowU w vd ds) :
    Calls Tryd.prog 4 #[v, va, vy, vp, vd] w fun e w' => e = .returned (.bool true) ∧ Below w.heap.size w w' := by
  obtain ⟨ac, cc, rfl⟩ := h.shape
  have HP0 := Lib.hid hp
  obtain ⟨vs, rfl, hps⟩ := hp
  obtain ⟨_, aP, cP, rfl, -⟩ := hps
  obtain ⟨nP, hnP⟩ : ∃ nP, nP = ps.length := ⟨_, rfl⟩
  rw [← hnP] at HP0 ⊢
  have HT := Lib.hid hT; have HC := Lib.hid h; have Ha := Lib.hid ha; have Hd := Lib.hid hd; have Hy := Lib.hid hy
  clear hT h ha hd hy hnP
  go_enter Tryd.func4, Tryd.ntmps4
  go_wp2_with (fail)
  obtain ⟨W1, tb, hW, htb, hb1, hb2, s1, B1⟩ := two_blocks' w #[.int .i64 c.log, .slice ac c.layers.length cc] #[.slice aP nP cP] 24 37
  rw [hW, ← htb]
  have H1 := Lib.hid B1
  have HX1 := Lib.hid (show Boxed tb (.int .i64 c.log) (.slice ac c.layers.length cc) W1 from ⟨cell_blk hb1 0, cell_blk hb1 1, blk_lt hb1⟩)
  have Hk := Lib.hid (show ∀ X, Below W1.heap.size W1 X → X.cell? ⟨tb + 1, 0, none⟩ = some (.slice aP nP cP) from fun X hz => cell_blk ((hz.block _ (blk_lt hb2)).trans hb2) 0)
  clear hW htb hb1 hb2 s1 B1
  refine (top_said _ (HT.out.below H1.out)).mono ?_
  rintro e w2 ⟨rfl, hb2⟩
  have H12 := Lib.hid hb2
  have H2 := Lib.hid (below_two H1.out hb2)
  have HX2 := Lib.hid (HX1.out.go hb2)
  have r0 := HX2.out.c0; have r1 := HX2.out.c1
  clear hb2
  go_wp2_with (fail)
  refine (top_small _ c _ (HC.out.go H2.out)).mono ?_
  rintro e w3 ⟨rfl, hb3⟩
  have H13 := Lib.hid (below_two H12.out hb3)
  have H3 := Lib.hid (below_two H2.out hb3)
  have HX3 := Lib.hid (HX2.out.go hb3)
  clear hb3 r0 r1
  cases hsm : smallB c with
  | false =>
    clear hsm
    go_wp2
    go_ret
    exact ⟨rfl, H3.out⟩
  | true =>
    have hS := smallB_yes hsm
    have Hc := Lib.hid hS.right
    have HG := Lib.hid (good_of_check hS.right)
    clear hsm hS
    have r0 := HX3.out.c0; have r1 := HX3.out.c1
    have r2 := Hk.out w3 H13.out
    go_wp2_with (fail)
    refine (ref_Shaped _ c _ ps _ (HC.out.go H3.out) Hc.out (HP0.out.go H3.out)).mono ?_
    rintro e w4 ⟨rfl, hb4⟩
    have H14 := Lib.hid (below_two H13.out hb4)
    have H4 := Lib.hid (below_two H3.out hb4)
    have HX4 := Lib.hid (HX3.out.go hb4)
    clear hb4 r0 r1 r2
    cases hsh : shapeB c ps with
    | false =>
      clear hsh
      go_wp2
      go_ret
      exact ⟨rfl, H4.out⟩
    | true =>
      have HSh := Lib.hid (shapeB_is hsh)
      have hl4 := HG.out.log4
      have hl0 := HG.out.log0
      have hn1 := HG.out.n1
      have hn4 := HG.out.n4
      have hDN := drawsN_le HG.out
      obtain ⟨N, hN⟩ : ∃ N, N = 2 ^ c.log.toNat := ⟨_, rfl⟩
      have hw : wrap64 (2 ^ c.log.toNat) = (N : Int) := by rw [hN]; exact wrap4 hl4
      have hN16 : N ≤ 16 := by rw [hN]; exact (pow4 hl4).2
      have HN := Lib.hid hN
      have r0 := HX4.out.c0
      clear hsh hN
      go_wp2_with (fail)
      clear hl4 hl0
      refine (top_sized a va N _ (Ha.out.go H4.out) (by omega)).mono ?_
      rintro e w5 ⟨rfl, hn5, hb5⟩
      obtain ⟨x, hx⟩ : ∃ x, x = padTo N a := ⟨_, rfl⟩
      rw [← hx] at hn5
      have Hxl := Lib.hid (show x.length = N by rw [hx, padTo_length])
      have HR5 := Lib.hid hn5.row
      have H15 := Lib.hid (below_two H14.out hb5)
      have H5 := Lib.hid (below_two H4.out hb5)
      have HX5 := Lib.hid (HX4.out.go hb5)
      obtain ⟨xb, hxb⟩ : ∃ xb, xb = w4.heap.size := ⟨_, rfl⟩
      rw [← hxb] at HR5 ⊢
      clear hx hn5 hb5 r0 hw hxb
      have r0 := HX5.out.c0; have r1 := HX5.out.c1
      go_wp2_with (fail)
      refine (c_RunAt _ c _ x _ (HC.out.go H5.out) HR5.out Hc.out (by rw [Hxl.out, HN.out])).mono ?_
      rintro e w6 ⟨vx, rfl, hrun, hb6⟩
      have H16 := Lib.hid (below_two H15.out hb6)
      have H6 := Lib.hid (below_two H5.out hb6)
      have HX6 := Lib.hid (HX5.out.go hb6)
      have HR6 := Lib.hid (HR5.out.go hb6)
      obtain ⟨bx, ox, cx, rfl, hbx, hrc⟩ := hrun
      obtain ⟨u, hu, hru⟩ := hrc c.layers.length (Nat.le_refl _)
      obtain ⟨V, hV⟩ : ∃ V, V = (valF c (x.map phi) c.layers.length).map psi := ⟨_, rfl⟩
      rw [← hV] at hru
      have HV := Lib.hid hV
      have HVl := Lib.hid (show V.length = 2 ^ (belowLog c c.layers.length).toNat by rw [hV]; exact val_out_len HG.out x (by rw [Hxl.out, HN.out]))
      have HU6 := Lib.hid hru
      have Hu6 := Lib.hid hu
      obtain ⟨_, _, au, cu, rfl, -⟩ := hru
      obtain ⟨M, hM⟩ : ∃ M, M = V.length := ⟨_, rfl⟩
      rw [← hM] at HU6 Hu6
      have HM := Lib.hid hM
      have hM16 : M ≤ 16 := by rw [hM, HVl.out]; exact (pow4 (HG.out.below4 (k := c.layers.length) (Nat.le_refl _))).2
      have Hbx := Lib.hid hbx
      clear hb6 r0 r1 hbx hrc hV hu hM
      have r0 := HX6.out.c0; have r1 := HX6.out.c1
      go_wp2_with (fail)
      refine (gkr_Draws _ c _ (HC.out.go H6.out) Hc.out).mono ?_
      rintro e w7 ⟨rfl, hb7⟩
      obtain ⟨DN, hDN'⟩ : ∃ DN, DN = drawsN c := ⟨_, rfl⟩
      rw [← hDN'] at hDN ⊢
      have HDN := Lib.hid hDN'
      have H17 := Lib.hid (below_two H16.out hb7)
      have H67 := Lib.hid hb7
      have H7 := Lib.hid (below_two H6.out hb7)
      have HX7 := Lib.hid (HX6.out.go hb7)
      have HR7 := Lib.hid (HR6.out.go hb7)
      clear hb7 r0 r1 hDN'
      go_wp2_with (fail)
      refine (top_sized ds vd DN _ (Hd.out.go H7.out) (by omega)).mono ?_
      rintro e w8 ⟨rfl, hn8, hb8⟩
      obtain ⟨d, hd⟩ : ∃ d, d = padTo DN ds := ⟨_, rfl⟩
      rw [← hd] at hn8
      have Hdl := Lib.hid (show d.length = drawsN c by rw [hd, padTo_length, HDN.out])
      have HD8 := Lib.hid hn8.row
      have H18 := Lib.hid (below_two H17.out hb8)
      have H68 := Lib.hid (below_two H67.out hb8)
      have H8 := Lib.hid (below_two H7.out hb8)
      have HX8 := Lib.hid (HX7.out.go hb8)
      have HR8 := Lib.hid (HR7.out.go hb8)
      obtain ⟨db, hdb⟩ : ∃ db, db = w7.heap.size := ⟨_, rfl⟩
      rw [← hdb] at HD8 ⊢
      clear hd hn8 hb8 hdb
      have hs1 : (c.layers.length : Int) + 1 - 1 = (c.layers.length : Int) := by omega
      have hLi : (c.layers.length : Int) < (c.layers.length : Int) + 1 := by omega
      have cU := (H68.out.cell (p := ⟨bx, ox + c.layers.length, none⟩) Hbx.out).trans Hu6.out
      go_wp2_with (fail)
      refine (top_sized ys vy M _ (Hy.out.go H8.out) (by omega)).mono ?_
      rintro e w9 ⟨rfl, hn9, hb9⟩
      obtain ⟨y, hy⟩ : ∃ y, y = padTo M ys := ⟨_, rfl⟩
      rw [← hy] at hn9
      have Hyl := Lib.hid (show y.length = M by rw [hy, padTo_length])
      have HY9 := Lib.hid hn9.row
      have H19 := Lib.hid (below_two H18.out hb9)
      have H69 := Lib.hid (below_two H68.out hb9)
      have H9 := Lib.hid (below_two H8.out hb9)
      have HX9 := Lib.hid (HX8.out.go hb9)
      have HR9 := Lib.hid (HR8.out.go hb9)
      have HD9 := Lib.hid (HD8.out.go hb9)
      have HU9 := Lib.hid (HU6.out.go H69.out)
      obtain ⟨yb, hyb⟩ : ∃ yb, yb = w8.heap.size := ⟨_, rfl⟩
      rw [← hyb] at HY9 ⊢
      clear hy hn9 hb9 hyb hs1 hLi cU
      have r0 := HX9.out.c0; have r1 := HX9.out.c1; have r2 := Hk.out w9 H19.out
      go_wp2_with (fail)
      refine (gkr_Verify _ c _ _ _ _ x y ps d _ (HT.out.below H9.out) (HC.out.go H9.out) Hc.out HR9.out HY9.out (HP0.out.go H9.out) HD9.out (CapOk.mk (Nat.le_refl _) (by omega)) (by rw [Hxl.out, HN.out]) (by rw [Hyl.out, HM.out, HVl.out]) HSh.out Hdl.out).mono ?_
      rintro e w10 ⟨rfl, hb10⟩
      have H110 := Lib.hid (below_two H19.out hb10)
      have H10 := Lib.hid (below_two H9.out hb10)
      have HX10 := Lib.hid (HX9.out.go hb10)
      have HR10 := Lib.hid (HR9.out.go hb10)
      have HD10 := Lib.hid (HD9.out.go hb10)
      have HY10 := Lib.hid (HY9.out.go hb10)
      have HU10 := Lib.hid (HU9.out.go hb10)
      clear hb10 r0 r1 r2
      obtain ⟨B, hB⟩ : ∃ B, B = verB c x y ps d := ⟨_, rfl⟩
      rw [← hB]
      have HB := Lib.hid hB
      clear hB
      go_wp2_with (fail)
      go_loopw [82, 20] (fun i s wr => ∃ (k : Nat) (b : Bool), k ≤ M ∧ i = .int .i64 (k : Int) ∧ s = .bool b ∧ Hid (Below w10.heap.size w10 wr)) (fun i _ _ => M - (intOf i).toNat)
      case atStart => exact ⟨0, true, by omega, rfl, rfl, Below.refl _ _⟩
      case round =>
        obtain ⟨k, b, hk, rfl, rfl, HBk⟩ := hrel
        by_cases hz : k < M
        · have hY := HY10.out.go HBk.out
          have hU := HU10.out.go HBk.out
          have uy := Lib.hid (hY.at (j := k) (by rw [Hyl.out]; exact hz))
          obtain ⟨_, _, ay, cy, e, hrc⟩ := hY
          simp only [Value.slice.injEq] at e
          obtain ⟨e1, _, e3⟩ := e
          obtain ⟨b1, o1, e4, hl1, hc1⟩ := hrc (by rw [Hyl.out]; omega)
          rw [← e1] at e4
          simp only [Option.some.injEq, Addr.mk.injEq] at e4
          obtain ⟨rfl, rfl, -⟩ := e4
          obtain ⟨_, _, au', cu', e, hrc2⟩ := hU
          simp only [Value.slice.injEq] at e
          obtain ⟨e5, _, e6⟩ := e
          obtain ⟨b2, o2, e7, hl2, hc2⟩ := hrc2 (by rw [← HM.out]; omega)
          rw [← e5] at e7
          subst e7
          have d1 := hc1 k (by rw [Hyl.out]; exact hz)
          have d2 := hc2 k (by rw [← HM.out]; exact hz)
          have hki : (k : Int) < (M : Int) := by omega
          have hk0 : (0 : Int) ≤ (k : Int) := by omega
          rw [Nat.zero_add] at d1
          obtain ⟨Y, hYe⟩ : ∃ Y, Y = at0 y k := ⟨_, rfl⟩
          obtain ⟨U, hUe⟩ : ∃ U, U = at0 V k := ⟨_, rfl⟩
          rw [← hYe] at d1 uy; rw [← hUe] at d2
          clear hrc hrc2 hc1 hc2 e1 e3 e5 e6 hYe hUe
          cases b with
          | true =>
            go_wp2_with (fail)
            go_quiet ((go_at_call 25; exact flip (field_Norm _ _ uy.out)))
            go_wp2
            go_roundw
            case rel => exact ⟨k + 1, _, by omega, by go_num, rfl, below_drewN HBk.out _⟩
            case measure => simp [intOf]; omega
          | false =>
            go_wp2_with (fail)
            go_quiet (fail)
            go_wp2
            go_roundw
            case rel => exact ⟨k + 1, _, by omega, by go_num, rfl, below_drewN HBk.out _⟩
            case measure => simp [intOf]; omega
        · obtain rfl : k = M := by omega
          have Hend := Lib.hid (below_two H10.out HBk.out)
          have HXe := Lib.hid (HX10.out.go HBk.out)
          have r0 := HXe.out.c0; have r1 := HXe.out.c1
          cases B with
          | false =>
            go_wp2
            go_ret
            exact ⟨rfl, Hend.out⟩
          | true =>
            cases b with
            | true =>
              go_wp2
              go_ret
              exact ⟨rfl, Hend.out⟩
            | false =>
              go_wp2_with (fail)
              refine (gkr_Prove _ c _ _ x d _ (HT.out.below Hend.out) (HC.out.go Hend.out) (HR10.out.go HBk.out) (HD10.out.go HBk.out) (CapOk.mk (Nat.le_refl _) (by omega)) Hc.out (by rw [Hxl.out, HN.out]) Hdl.out).mono ?_
              rintro e w12 ⟨vq, rfl, hq, hb12⟩
              have HQ12 := Lib.hid hq
              obtain ⟨vs2, rfl, _, aQ, cQ, rfl, -⟩ := hq
              obtain ⟨nQ, hnQ⟩ : ∃ nQ, nQ = (proveI c x d).length := ⟨_, rfl⟩
              rw [← hnQ] at HQ12 ⊢
              have H1012 := Lib.hid (HBk.out.trans (hb12.mono HBk.out.size))
              clear hb12 hnQ r0 r1
              have H12w := Lib.hid (below_two H10.out H1012.out)
              have HX12 := Lib.hid (HX10.out.go H1012.out)
              have r0 := HX12.out.c0; have r1 := HX12.out.c1; have lt12 := HX12.out.lt
              have r2 := Hk.out w12 (below_two H110.out H1012.out)
              have H112 := Lib.hid (below_two H110.out H1012.out)
              have hlt12 : tb + 1 < w12.heap.size := by
                rcases Nat.lt_or_ge (tb + 1) w12.heap.size with h | h
                · exact h
                · simp [World.cell?, Array.getElem?_eq_none h] at r2
              have HH := Lib.hid (show evalF (y.map phi) ((d.take (belowLog c c.layers.length).toNat).map phi) = evalF (V.map phi) ((d.take (belowLog c c.layers.length).toNat).map phi) ∨ ∃ m, m < needFrom c c.layers.length ∧ unlB (atl (flatP ps) m) (atl (flatP (proveI c x d)) m) (at0 d ((belowLog c c.layers.length).toNat + m)) = true from by
                by_cases e : evalF (y.map phi) ((d.take (belowLog c c.layers.length).toNat).map phi) = evalF (V.map phi) ((d.take (belowLog c c.layers.length).toNat).map phi)
                · exact .inl e
                · right
                  have ez : topZ c d = (d.take (belowLog c c.layers.length).toNat).map phi := by unfold topZ; rw [List.map_take]
                  obtain ⟨m, hm, hu⟩ := sound_flat HG.out x y d ps (by rw [Hxl.out, HN.out]) Hdl.out HSh.out HB.out.symm (by rw [ez]; rw [HV.out, mapphi_psi] at e; exact e)
                  refine ⟨m, hm, unlB_of ?_⟩
                  have e3 : atF (d.map phi) ((belowLog c c.layers.length).toNat + m) = phi (at0 d ((belowLog c c.layers.length).toNat + m)) := by
                    have hlt : (belowLog c c.layers.length).toNat + m < d.length := by rw [Hdl.out]; unfold drawsN; omega
                    simp [atF, at0, hlt]
                  rw [e3] at hu
                  exact hu)
              go_wp2_with (fail)
              refine (top_lie _ c _ _ _ _ _ y V d ps (proveI c x d) _ (HT.out.below (below_al' H12w.out)) ((HC.out.go H12w.out).more _) HG.out ((HY10.out.go H1012.out).more _) ((HU10.out.go H1012.out).more _) ((HP0.out.go H12w.out).go (below_alloc _ _)) (HQ12.out.go (below_alloc _ _)) ((HD10.out.go H1012.out).more _) (CapOk.mk (Nat.le_refl _) (by omega)) _ rfl (by rw [Hyl.out, HM.out, HVl.out]) HVl.out HSh.out (shaped_prove c x d Hdl.out) Hdl.out HH.out).mono ?_
              rintro e w13 ⟨rfl, hb13⟩
              have H13w := Lib.hid (below_two (below_al' H12w.out) hb13)
              clear hb13
              go_wp2
              go_ret
              exact ⟨rfl, H13w.out⟩
end Go.Proofs.YtnleihjdllpniaaDoor
