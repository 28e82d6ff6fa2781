/- The walk of the law FiatComplete: it returns true, whatever is handed in. The table of bits lies as its initialiser lays it. -/
import Derived.Test.YtnleihjdllpniaaDoorTopS
namespace Go.Proofs.YtnleihjdllpniaaDoor
set_option maxRecDepth 100000
set_option linter.unusedVariables false
open Go.RowKit Tally
open Go.Sort (grow)
noncomputable def tinyK : List Pi := proveI tinyC [3, 4] (fiatD tinyC [3, 4] [12, 7])
theorem tinyK_shaped : ShapedI tinyC tinyK := shaped_prove _ _ _ (fiatD_length _ _ _)
theorem tinyK_yes : verB tinyC [3, 4] [12, 7] tinyK (drawnI tinyC [3, 4] [12, 7] tinyK) = true := verB_fiat tiny_good' [3, 4] (by decide) [12, 7] tiny_vals.symm
theorem tinyK_Verify (v vi vo vp : Value) (w : World) (hT : Tab w) (h : IsC w v tinyC) (hi : RowU w vi [3, 4]) (ho : RowU w vo [12, 7]) (hp : IsP w vp tinyK) :
    Calls Tryd.prog 22 #[v, vi, vo, vp] w fun e w' => e = .returned (.tuple #[.bool true, .int .i64 0]) ∧ Below w.heap.size w w' := by
  have := fiat_Verify v tinyC vi vo vp [3, 4] [12, 7] tinyK w hT h tiny_check hi ho hp (by decide) (show [12, 7].length = 2 from rfl) tinyK_shaped
  rwa [tinyK_yes] at this
set_option maxRecDepth 100000 in
set_option maxHeartbeats 8000000 in
theorem fiatComplete_walk (w : World) (hT : Tab w) (v : Value) (c : Ci) (h : IsC w v c) (va : Value) (a : List Int) (ha : RowU w va a) :
    Calls Tryd.prog 13 #[v, va] w fun e w' => e = .returned (.bool true) ∧ Below w.heap.size w w' := by
  obtain ⟨ac, cc, rfl⟩ := h.shape
  have HT := Lib.hid hT; have HC := Lib.hid h; have Ha := Lib.hid ha
  have hu3 : U64 3 := U64.mk (by decide) (by decide); have hu4 : U64 4 := U64.mk (by decide) (by decide); have hu12 : U64 12 := U64.mk (by decide) (by decide); have hu7 : U64 7 := U64.mk (by decide) (by decide)
  clear hT h ha
  go_enter Tryd.func13, Tryd.ntmps13
  go_wp2_with (fail)
  obtain ⟨W1, hW, k0, k1, B1, s1⟩ := copied2' w (.int .i64 c.log) (.slice ac c.layers.length cc) 24
  rw [hW]
  obtain ⟨tb, htb⟩ : ∃ tb, tb = w.heap.size := ⟨_, rfl⟩
  rw [← htb] at k0 k1 s1 ⊢
  have HX1 := Lib.hid (show Boxed tb (.int .i64 c.log) (.slice ac c.layers.length cc) W1 from ⟨k0, k1, by omega⟩)
  have H1 := Lib.hid B1
  have Htb := Lib.hid htb
  clear hW s1 k0 k1 B1 htb
  refine (keep_tiny _).mono ?_
  rintro e w2 ⟨vt, rfl, ht2, hb2⟩
  have H12 := Lib.hid hb2
  have H2 := Lib.hid (below_two H1.out hb2)
  have HT2 := Lib.hid ht2
  clear hb2 ht2
  go_wp2_with (fail)
  refine (fiat_ProveF _ tinyC _ [3, 4] _ (HT.out.below (below_al' H2.out)) (HT2.out.more _) tiny_check (row2' rfl hu3 hu4) (by decide)).mono ?_
  rintro e w3 ⟨vo, vp, rfl, ho, hp, hb3⟩
  rw [show (valF tinyC (([3, 4] : List Int).map phi) tinyC.layers.length).map psi = [12, 7] from tiny_vals] at ho hp
  have hp' : IsP w3 vp tinyK := hp.now
  have HP3 := Lib.hid hp'
  have HO3 := Lib.hid ho
  have H13 := Lib.hid (below_two (below_al' H12.out) hb3)
  have H3 := Lib.hid (below_two (below_al' H2.out) hb3)
  obtain ⟨vs, rfl, _, aP, cP, rfl, -⟩ := hp'
  obtain ⟨nP, hnP⟩ : ∃ nP, nP = tinyK.length := ⟨_, rfl⟩
  rw [← hnP] at HP3 ⊢
  obtain ⟨_, _, ao, co, eo, -⟩ := ho
  obtain rfl : vo = .slice ao 2 co := eo
  clear hp hb3 hnP
  go_wp2_with (fail)
  obtain ⟨W6, hW6⟩ : ∃ W6, w3.alloc (.cells #[.slice aP nP cP] 37) = W6 := ⟨_, rfl⟩
  have HP6 := Lib.hid (show IsP W6 _ _ by rw [← hW6]; exact HP3.out.go (below_alloc _ _))
  have HO6 := Lib.hid (show RowU W6 _ _ by rw [← hW6]; exact HO3.out.go (below_alloc _ _))
  have H16 := Lib.hid (show Below W1.heap.size W1 W6 by rw [← hW6]; exact below_al' H13.out)
  have H6 := Lib.hid (show Below w.heap.size w W6 by rw [← hW6]; exact below_al' H3.out)
  obtain ⟨pb, hpb⟩ : ∃ pb, pb = w3.heap.size := ⟨_, rfl⟩
  have Hpk := Lib.hid (show W6.heap[pb]? = some (.cells #[.slice aP nP cP] 37 (0, 0)) by rw [hpb, ← hW6]; exact alloc_blk w3 _)
  have c6 : W6.cell? ⟨pb, 0, none⟩ = some (.slice aP nP cP) := by rw [hpb, ← hW6]; exact cell_blk (alloc_blk w3 _) 0
  have l6 : pb < W6.heap.size := by rw [hpb, ← hW6]; simp
  have Hpw := Lib.hid (show w.heap.size ≤ pb by rw [hpb]; exact H3.out.size)
  have Hpt := Lib.hid (show tb < pb by rw [hpb]; exact Nat.lt_of_lt_of_le HX1.out.lt H13.out.size)
  rw [hW6, ← hpb]
  clear hW6 hpb HP3 HO3
  have K6 := Lib.hid (show ∀ X, Below W6.heap.size W6 X → Below W6.heap.size W6 X ∧ X.cell? ⟨pb, 0, none⟩ = some (.slice aP nP cP) from fun X hz => ⟨hz, (hz.cell (p := ⟨pb, 0, none⟩) l6).trans c6⟩)
  go_cut [8, 9] (fun x y wx => x = .bool true ∧ y = .int .i64 0 ∧ Hid (Below W6.heap.size W6 wx))
  case first =>
    go_region_held3 (fun w' => Below W6.heap.size W6 w' ∧ w'.cell? ⟨pb, 0, none⟩ = some (.slice aP nP cP))
      (first
        | (refine K6.out _ ?_; (repeat (first | assumption | (with_reducible exact Below.refl _ _) | (with_reducible refine below_dw ?_) | (with_reducible refine below_al' ?_) | (with_reducible refine below_two ?_ (by assumption))))))
      (first
        | (go_at_call 28; (with_reducible refine (keep_tiny _).mono ?_); rintro e wt ⟨vt, rfl, htC, hbt⟩)
        | (go_at_call 22; (refine (tinyK_Verify _ _ _ _ _ (by refine HT.out.below (below_two H6.out ?_); (repeat (first | assumption | (with_reducible exact Below.refl _ _) | (with_reducible refine below_dw ?_) | (with_reducible refine below_al' ?_) | (with_reducible refine below_two ?_ (by assumption))))) (by (repeat (first | assumption | (with_reducible refine IsC.dw ?_) | (with_reducible refine IsC.more ?_ _) | (with_reducible refine IsC.go ?_ (by assumption))))) (by repeat (first | ((with_reducible refine row2' ?_ hu3 hu4); (first | with_reducible rfl | (simp; done))) | (with_reducible refine RowU.dw ?_) | (with_reducible refine RowU.more ?_ _) | (with_reducible refine RowU.go ?_ (by assumption)))) (by refine HO6.out.go ?_; (repeat (first | assumption | (with_reducible exact Below.refl _ _) | (with_reducible refine below_dw ?_) | (with_reducible refine below_al' ?_) | (with_reducible refine below_two ?_ (by assumption))))) (by refine HP6.out.go ?_; (repeat (first | assumption | (with_reducible exact Below.refl _ _) | (with_reducible refine below_dw ?_) | (with_reducible refine below_al' ?_) | (with_reducible refine below_two ?_ (by assumption)))))).mono ?_); rintro e wv ⟨rfl, hbv⟩))
    all_goals
      go_wp2_with fail
      go_meet
      case rel => exact ⟨rfl, rfl, Lib.hid (by (repeat (first | assumption | (with_reducible exact Below.refl _ _) | (with_reducible refine below_dw ?_) | (with_reducible refine below_al' ?_) | (with_reducible refine below_two ?_ (by assumption)))))⟩
  case rest =>
    obtain ⟨rfl, rfl, HB7⟩ := hcut
    have HO7 := Lib.hid (HO6.out.go HB7.out)
    go_wp2_with (go_at_call 23; (with_reducible refine (slices_Equal [12, 7] _ _ _ (HO7.out.more _) (row2' rfl hu12 hu7)).mono ?_); rintro e w8 ⟨rfl, hdq⟩; have H68 := Lib.hid (show Below W6.heap.size W6 w8 from (below_al' HB7.out).trans (hdq.below.mono (below_al' HB7.out).size)); have HX8 := Lib.hid (HX1.out.go (below_two H16.out H68.out)); have r0 := HX8.out.c0; have r1 := HX8.out.c1; clear hdq)
    have H8 := Lib.hid (below_two H6.out H68.out)
    have HPk8 := Lib.hid ((H68.out.block pb l6).trans Hpk.out)
    clear c6 l6 K6
    refine (keep_small _ c _ (HC.out.go H8.out)).mono ?_
    rintro e w9 ⟨rfl, hb9⟩
    have H9 := Lib.hid (below_two H8.out hb9)
    have HX9 := Lib.hid (HX8.out.go hb9)
    have HPk9 := Lib.hid ((hb9.block pb (blk_lt HPk8.out)).trans HPk8.out)
    clear hb9 r0 r1
    cases hsm : smallB c with
    | false =>
      clear hsm
      go_wp2
      go_ret
      exact ⟨rfl, H9.out⟩
    | true =>
      have hS := smallB_yes hsm
      have Hc := Lib.hid hS.right
      have HG := Lib.hid (good_of_check hS.right)
      have hl4 := HG.out.log4
      have hl0 := HG.out.log0
      have hn1 := HG.out.n1
      have hn4 := HG.out.n4
      obtain ⟨N, hN⟩ : ∃ N, N = 2 ^ c.log.toNat := ⟨_, rfl⟩
      have hw : wrap64 (2 ^ c.log.toNat) = (N : Int) := by rw [hN]; exact wrap4 hl4
      have hN16 : N ≤ 16 := by rw [hN]; exact (pow4 hl4).2
      have hN1 : 1 ≤ N := by rw [hN]; exact (pow4 hl4).1
      have HN := Lib.hid hN
      have r0 := HX9.out.c0
      clear hsm hS hN
      go_wp2_with (fail)
      clear hl4 hl0
      refine (keep_point a va N _ (Ha.out.go H9.out) (by omega)).mono ?_
      rintro e w10 ⟨rfl, hn10, hb10⟩
      obtain ⟨x, hx⟩ : ∃ x, x = padTo N a := ⟨_, rfl⟩
      rw [← hx] at hn10
      have Hxl := Lib.hid (show x.length = N by rw [hx, padTo_length])
      have HR10 := Lib.hid hn10.row
      have H10 := Lib.hid (below_two H9.out hb10)
      have HX10 := Lib.hid (HX9.out.go hb10)
      have HPk10 := Lib.hid ((hb10.block pb (blk_lt HPk9.out)).trans HPk9.out)
      obtain ⟨xb, hxb⟩ : ∃ xb, xb = w9.heap.size := ⟨_, rfl⟩
      rw [← hxb] at HR10 ⊢
      clear hx hn10 hb10 r0 hw hxb
      have r0 := HX10.out.c0; have r1 := HX10.out.c1
      go_wp2_with (fail)
      refine (fiat_ProveF _ c _ x _ (HT.out.below H10.out) (HC.out.go H10.out) Hc.out HR10.out (by rw [Hxl.out, HN.out])).mono ?_
      rintro e w11 ⟨vo2, vq, rfl, ho2, hq, hb11⟩
      obtain ⟨V, hV⟩ : ∃ V, V = (valF c (x.map phi) c.layers.length).map psi := ⟨_, rfl⟩
      rw [← hV] at ho2 hq
      have HV := Lib.hid hV
      have HVl := Lib.hid (show V.length = 2 ^ (belowLog c c.layers.length).toNat by rw [hV]; exact val_out_len HG.out x (by rw [Hxl.out, HN.out]))
      have HV0 := Lib.hid (show V.length = 0 → False from fun h => by have := HVl.out; rw [h] at this; have := Nat.pow_pos (n := (belowLog c c.layers.length).toNat) (show 0 < 2 by decide); omega)
      have HPk11 := Lib.hid ((hb11.block pb (blk_lt HPk10.out)).trans HPk10.out)
      have HQ11 := Lib.hid hq
      have hqn := hq.now
      obtain ⟨vs, rfl, _, aQ, cQ, rfl, -⟩ := hqn
      obtain ⟨nQ, hnQ⟩ : ∃ nQ, nQ = (proveI c x (fiatD c x V)).length := ⟨_, rfl⟩
      rw [← hnQ] at HQ11 ⊢
      have HX11 := Lib.hid (HX10.out.go hb11)
      have HR11 := Lib.hid (HR10.out.go hb11)
      have HO11 := Lib.hid ho2
      have Hpl := Lib.hid (blk_lt HPk10.out)
      obtain ⟨_, _, ao2, co2, rfl, -⟩ := ho2
      obtain ⟨M, hM⟩ : ∃ M, M = V.length := ⟨_, rfl⟩
      rw [← hM] at HO11 ⊢
      have H11 := Lib.hid (below_two H10.out hb11)
      have pc : w11.cell? ⟨pb, 0, none⟩ = some (.slice aP nP cP) := cell_blk HPk11.out 0
      have pf := free_blk HPk11.out 0
      clear hb11 hnQ r0 r1 hq hV hM
      have q0 : (w11.setCell ⟨pb, 0, none⟩ (.slice aQ nQ cQ)).cell? ⟨tb, 0, none⟩ = some (.int .i64 c.log) := keep_set1 _ (Nat.ne_of_lt Hpt.out) HX11.out.c0
      have q1 : (w11.setCell ⟨pb, 0, none⟩ (.slice aQ nQ cQ)).cell? ⟨tb, 1, none⟩ = some (.slice ac c.layers.length cc) := keep_set1 _ (Nat.ne_of_lt Hpt.out) HX11.out.c1
      have q2 : (w11.setCell ⟨pb, 0, none⟩ (.slice aQ nQ cQ)).cell? ⟨pb, 0, none⟩ = some (.slice aQ nQ cQ) := cell_blk (blk_setCell HPk11.out 0 _) 0
      go_wp2_with (fail)
      obtain ⟨W12, hW12⟩ : ∃ W12, W12 = w11.setCell ⟨pb, 0, none⟩ (.slice aQ nQ cQ) := ⟨_, rfl⟩
      have HQ12 := Lib.hid (show IsP W12 (.agg #[.slice aQ nQ cQ]) (proveI c x (fiatD c x V)) by rw [hW12]; exact (HQ11.out.set (b := pb) Hpl.out 0 _).now)
      have HO12 := Lib.hid (show RowU W12 (.slice ao2 M co2) V by rw [hW12]; exact HO11.out.setOther HPk11.out HV0.out _)
      have HR12 := Lib.hid (show RowU W12 (.slice (some ⟨xb, 0, none⟩) N N) x by rw [hW12]; exact HR11.out.setOther HPk11.out (fun h => by have := Hxl.out; omega) _)
      have HX12 := Lib.hid (show Boxed tb (.int .i64 c.log) (.slice ac c.layers.length cc) W12 by
        rw [hW12]
        exact ⟨keep_set1 _ (Nat.ne_of_lt Hpt.out) HX11.out.c0, keep_set1 _ (Nat.ne_of_lt Hpt.out) HX11.out.c1, by simpa [World.setCell] using HX11.out.lt⟩)
      have H12w := Lib.hid (show Below w.heap.size w W12 by rw [hW12]; exact H11.out.setCell (p := ⟨pb, 0, none⟩) Hpw.out _)
      try rw [← hW12]
      have HW12 := Lib.hid hW12
      clear hW12 pc pf q0 q1 q2
      refine (fiat_Verify _ c _ _ _ x V (proveI c x (fiatD c x V)) _ (HT.out.below H12w.out) (HC.out.go H12w.out) Hc.out HR12.out HO12.out HQ12.out (by rw [Hxl.out, HN.out]) HVl.out (shaped_prove c x _ (fiatD_length _ _ _))).mono ?_
      rintro e w13 ⟨rfl, hb13⟩
      rw [verB_fiat HG.out x (by rw [Hxl.out, HN.out]) V HV.out]
      have H13w := Lib.hid (below_two H12w.out hb13)
      have HX13 := Lib.hid (HX12.out.go hb13)
      have HR13 := Lib.hid (HR12.out.go hb13)
      have HO13 := Lib.hid (HO12.out.go hb13)
      clear hb13
      have r0 := HX13.out.c0; have r1 := HX13.out.c1
      go_wp2_with (fail)
      refine (c_RunAt _ c _ x _ (HC.out.go H13w.out) HR13.out Hc.out (by rw [Hxl.out, HN.out])).mono ?_
      rintro e w14 ⟨vx, rfl, hrun, hb14⟩
      have H14 := Lib.hid (below_two H13w.out hb14)
      have HO14 := Lib.hid (HO13.out.go hb14)
      obtain ⟨bx, ox, cx, rfl, hbx, hrc⟩ := hrun
      obtain ⟨u, hu, hru⟩ := hrc c.layers.length (Nat.le_refl _)
      rw [← HV.out] at hru
      have HU14 := Lib.hid hru
      have hs1 : (c.layers.length : Int) + 1 - 1 = (c.layers.length : Int) := by omega
      have hLi : (c.layers.length : Int) < (c.layers.length : Int) + 1 := by omega
      clear hb14 r0 r1 hbx hrc hru
      go_wp2_with (go_at_call 23; (with_reducible refine (slices_Equal V _ _ _ HO14.out HU14.out).mono ?_); rintro e wq ⟨rfl, hdq⟩)
      go_ret
      exact ⟨rfl, H14.out.trans (hdq.below.mono H14.out.size)⟩
end Go.Proofs.YtnleihjdllpniaaDoor
