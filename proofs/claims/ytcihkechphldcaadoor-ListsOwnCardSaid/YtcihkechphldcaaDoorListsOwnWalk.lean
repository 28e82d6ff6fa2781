/- The walk of the law ListsOwn: it returns true, whatever is handed in. The table of bits lies as its initialiser lays it. -/
import Derived.Test.YtcihkechphldcaaDoorOwnM
import Derived.Test.YtcihkechphldcaaDoorOpenKeep
import Derived.Test.YtcihkechphldcaaDoorHeld
import Derived.Test.YtcihkechphldcaaDoorSumP
import Derived.Test.YtcihkechphldcaaDoorCoefs
import Derived.Test.YtcihkechphldcaaDoorEq
import Derived.Test.YtcihkechphldcaaDoorClone
import Derived.Test.YtcihkechphldcaaDoorSmall
import Derived.Test.YtcihkechphldcaaDoorRTextW
namespace Go.Proofs.YtcihkechphldcaaDoor
set_option maxRecDepth 100000
set_option linter.unusedVariables false
open Go.RowKit Tally
theorem wrong0 (m : Nat) (h : m ≤ 2) : wrongB [0] ((2 ^ m : Nat) : Int) = false := by
  match m, h with
  | 0, _ => decide
  | 1, _ => decide
  | 2, _ => decide
set_option maxRecDepth 100000 in
set_option maxHeartbeats 16000000 in
theorem listsOwn_walk (w : World) (hT : Tab w) (v : Value) (a : List Int) (ha : RowU w v a) (vp : Value) (p : List Int) (hp : RowU w vp p) (k : Int) (hk : I64 k) (vc : Value) (c : Ci) (hc : IsC w vc c) (vi : Value) (inp : List Int) (hi : RowU w vi inp) :
    Calls Tryd.prog 3 #[v, vp, .int .i64 k, vc, vi] w fun e w' => e = .returned (.bool true) ∧ Below w.heap.size w w' := by
  have HT := Lib.hid hT; have Ha := Lib.hid ha; have Hp := Lib.hid hp; have Hk := Lib.hid hk; have HC := Lib.hid hc; have Hi := Lib.hid hi
  obtain ⟨ac, cc, rfl⟩ := hc.shape
  obtain ⟨m, hm⟩ : ∃ m : Nat, k % 3 = (m : Int) := ⟨(k % 3).toNat, by omega⟩
  have hm2 : m ≤ 2 := by omega
  obtain ⟨LG, hLG⟩ : ∃ LG, LG = c.log := ⟨_, rfl⟩
  obtain ⟨LN, hLN⟩ : ∃ LN, LN = c.layers.length := ⟨_, rfl⟩
  rw [← hLG, ← hLN] at HC ⊢
  have HLG := Lib.hid hLG; have HLN := Lib.hid hLN
  clear hT ha hp hk hc hi hLG hLN
  go_enter Tryd.func3, Tryd.ntmps3
  go_wp2_with (fail)
  obtain ⟨W0, hW0, k0, k1, B0, s0⟩ := copied2' w (.int .i64 LG) (.slice ac LN cc) 25
  obtain ⟨ob, hob⟩ : ∃ ob, ob = w.heap.size := ⟨_, rfl⟩
  rw [hW0, ← hob]
  rw [← hob] at k0 k1 s0
  have KC := Lib.hid (show ∀ X, Below W0.heap.size W0 X → X.cell? ⟨ob, 0, none⟩ = some (.int .i64 LG) ∧ X.cell? ⟨ob, 1, none⟩ = some (.slice ac LN cc) from fun X hX => ⟨(hX.cell (p := ⟨ob, 0, none⟩) (show ob < _ by omega)).trans k0, (hX.cell (p := ⟨ob, 1, none⟩) (show ob < _ by omega)).trans k1⟩)
  have H0 := Lib.hid B0
  clear hW0 k0 k1 B0 s0 hob
  refine (keep_between W0 (HT.out.below H0.out)).mono ?_
  rintro e w1 ⟨rfl, hb⟩
  have G1 := Lib.hid hb
  have H1 := Lib.hid (below_chain H0.out hb)
  clear hb
  go_wp2_with (fail)
  refine (keep_opened w1 (HT.out.below H1.out)).mono ?_
  rintro e w2 ⟨rfl, hb⟩
  have G2 := Lib.hid (below_chain G1.out hb)
  have H2 := Lib.hid (below_chain H1.out hb)
  clear hb G1 H1
  go_wp2_with (fail)
  refine (keep_held w2 (HT.out.below H2.out)).mono ?_
  rintro e w3 ⟨rfl, hb⟩
  have G3 := Lib.hid (below_chain G2.out hb)
  have H3 := Lib.hid (below_chain H2.out hb)
  clear hb G2 H2
  go_wp2_with (fail)
  refine (ref_Rest k 3 _ Hk.out (by omega) (by omega)).mono ?_
  rintro e w' ⟨rfl, rfl⟩
  rw [hm]
  clear hm
  go_wp2_with (fail)
  have hm5 : ((1 + (m : Int)) % 5).toNat = m + 1 := by omega
  have CT := Lib.hid (keep_table a v (1 + (m : Int)) w3 (Ha.out.go H3.out) (by unfold I64; omega))
  rw [hm5] at CT
  obtain ⟨N, hN⟩ : ∃ N, N = 2 ^ (m + 1) := ⟨_, rfl⟩
  have hN8 : 2 ≤ N ∧ N ≤ 8 := by
    match m, hm2 with
    | 0, _ => omega
    | 1, _ => omega
    | 2, _ => omega
  rw [← hN] at CT
  obtain ⟨t, ht⟩ : ∃ t, t = padTo N a := ⟨_, rfl⟩
  rw [← ht] at CT
  have HtN := Lib.hid (show t.length = N by rw [ht, padTo_length])
  have Htl := Lib.hid (show t.length = 2 ^ (m + 1) by rw [ht, padTo_length, hN])
  clear hN ht hm5
  refine CT.out.mono ?_
  rintro e w4 ⟨rfl, hn4, hb4⟩
  have G4 := Lib.hid (below_chain G3.out hb4)
  have H4 := Lib.hid (below_chain H3.out hb4)
  have Ht4 := Lib.hid hn4.row
  obtain ⟨bt, hbt⟩ : ∃ bt, bt = w3.heap.size := ⟨_, rfl⟩
  rw [← hbt] at Ht4 ⊢
  clear hn4 hb4 CT hbt G3 H3
  go_wp2_with (fail)
  refine (ref_Vars t (m + 1) _ w4 Ht4.out Htl.out (by omega)).mono ?_
  rintro e w' ⟨rfl, rfl⟩
  obtain ⟨M, hM⟩ : ∃ M : Nat, M = m + 1 := ⟨_, rfl⟩
  have HM := Lib.hid hM
  have hM3 : M ≤ 3 := by omega
  rw [← hM]
  rw [← hM] at Htl
  clear hM
  obtain ⟨q, hq⟩ : ∃ q, q = padTo M p := ⟨_, rfl⟩
  have CP := Lib.hid (keep_point p vp M w4 (Hp.out.go H4.out) (by omega))
  rw [← hq] at CP
  have Hql := Lib.hid (show q.length = M by rw [hq, padTo_length])
  clear hq
  go_wp2_with (fail)
  refine CP.out.mono ?_
  rintro e w5 ⟨rfl, hn5, hb5⟩
  have G5 := Lib.hid (below_chain G4.out hb5)
  have H5 := Lib.hid (below_chain H4.out hb5)
  have Ht5 := Lib.hid (Ht4.out.go hb5)
  have Hq5 := Lib.hid hn5.row
  obtain ⟨bq, hbq⟩ : ∃ bq, bq = w4.heap.size := ⟨_, rfl⟩
  rw [← hbq] at Hq5 ⊢
  clear hn5 hb5 CP hbq G4 H4 Ht4
  go_wp2_with (fail)
  refine (clone_U t _ w5 Ht5.out (by rw [HtN.out]; omega) (by rw [HtN.out]; omega)).mono ?_
  rintro e w6 ⟨va, rfl, hn6, hb6⟩
  have G6 := Lib.hid (below_chain G5.out hb6)
  have H6 := Lib.hid (below_chain H5.out hb6)
  have Ht6 := Lib.hid (Ht5.out.go hb6)
  have Hq6 := Lib.hid (Hq5.out.go hb6)
  have Ha6 := Lib.hid hn6.row
  clear hn6 hb6 G5 H5 Ht5 Hq5
  go_wp2_with (fail)
  refine (clone_U q _ w6 Hq6.out (by rw [Hql.out, HM.out]; omega) (by rw [Hql.out]; omega)).mono ?_
  rintro e w7 ⟨vb, rfl, hn7, hb7⟩
  have G7 := Lib.hid (below_chain G6.out hb7)
  have H7 := Lib.hid (below_chain H6.out hb7)
  have Ht7 := Lib.hid (Ht6.out.go hb7)
  have Hq7 := Lib.hid (Hq6.out.go hb7)
  have Ha7 := Lib.hid (Ha6.out.go hb7)
  have Hb7 := Lib.hid hn7.row
  clear hn7 hb7 G6 H6 Ht6 Hq6 Ha6
  obtain ⟨B, hB⟩ : ∃ B, B = w7.heap.size := ⟨_, rfl⟩
  have HBe := Lib.hid hB
  have Hw := Lib.hid (show ∀ X, Below B w7 X → Below w.heap.size w X from fun X h => H7.out.trans (h.mono (by rw [hB]; exact H7.out.size)))
  have HTx := Lib.hid (show ∀ X, Below B w7 X → Tab X from fun X h => HT.out.below (Hw.out X h))
  have Ht := Lib.hid (show ∀ X, Below B w7 X → RowU X (.slice (some ⟨bt, 0, none⟩) N N) t from fun X h => Ht7.out.below h (by omega))
  have Hq := Lib.hid (show ∀ X, Below B w7 X → RowU X (.slice (some ⟨bq, 0, none⟩) M M) q from fun X h => Hq7.out.below h (by omega))
  have Hva := Lib.hid (show ∀ X, Below B w7 X → RowU X va t from fun X h => Ha7.out.below h (by omega))
  have Hvb := Lib.hid (show ∀ X, Below B w7 X → RowU X vb q from fun X h => Hb7.out.below h (by omega))
  have HCx := Lib.hid (show ∀ X, Below B w7 X → IsC X (.agg #[.int .i64 LG, .slice ac LN cc]) c from fun X h => HC.out.go (Hw.out X h))
  have Hix := Lib.hid (show ∀ X, Below B w7 X → RowU X vi inp from fun X h => Hi.out.go (Hw.out X h))
  have Hpx := Lib.hid (show ∀ X, Below B w7 X → RowU X vp p from fun X h => Hp.out.go (Hw.out X h))
  have KCx := Lib.hid (show ∀ X, Below B w7 X → X.cell? ⟨ob, 0, none⟩ = some (.int .i64 LG) ∧ X.cell? ⟨ob, 1, none⟩ = some (.slice ac LN cc) from fun X h => KC.out X (G7.out.trans (h.mono (by rw [hB]; exact G7.out.size))))
  clear hB HT Ha Hp HC Hi KC H0 G7 H7 Ht7 Hq7 Ha7 Hb7
  have u5 : U64 (5 : Int) := ⟨by omega, by omega⟩
  have R7 := Lib.hid (Below.refl B w7)
  go_wp2_with (fail)
  refine (mle_Fix t m _ 5 w7 (HTx.out _ R7.out) (Ht.out _ R7.out) u5 (by rw [Htl.out, HM.out]) (by omega)).mono ?_
  rintro e w8 ⟨v8, rfl, hn, hb⟩
  have R8 := Lib.hid (show Below B w7 w8 from hb.mono (by have := HBe.out; omega))
  have F8 := Lib.hid (show OwnU B w8 v8 from hn.own.mono (by have := HBe.out; omega))
  have s8 := hb.size
  clear hn hb R7
  go_wp2_with (fail)
  refine (mle_Eq q _ w8 (Hq.out _ R8.out) (by rw [Hql.out]; omega)).mono ?_
  rintro e w9 ⟨v9, rfl, hn, hb⟩
  have R9 := Lib.hid (R8.out.trans (hb.mono (show B ≤ w8.heap.size by have := HBe.out; omega)))
  have F9 := Lib.hid (show OwnU B w9 v8 ∧ OwnU B w9 v9 from ⟨F8.out.go hb, hn.own.mono (by have := HBe.out; omega)⟩)
  have s9 := hb.size
  clear hn hb R8 F8
  go_wp2_with (fail)
  refine (uni_Coefs q _ w9 (Hq.out _ R9.out) (by rw [Hql.out, HM.out]; omega) (by rw [Hql.out]; omega)).mono ?_
  rintro e w10 ⟨v10, l10, rfl, hn, -, -, hb⟩
  have R10 := Lib.hid (R9.out.trans (hb.mono (show B ≤ w9.heap.size by have := HBe.out; omega)))
  have F10 := Lib.hid (show OwnU B w10 v8 ∧ OwnU B w10 v9 ∧ OwnU B w10 v10 from ⟨F9.out.1.go hb, F9.out.2.go hb, hn.own.mono (by have := HBe.out; omega)⟩)
  have s10 := hb.size
  clear hn hb R9 F9
  go_wp2_with (fail)
  have hal : Below w10.heap.size w10 (w10.alloc (.cells #[.slice (some ⟨bt, 0, none⟩) N N, .slice (some ⟨bt, 0, none⟩) N N] 22)) := (Below.refl _ _).alloc (Nat.le_refl _) _
  have R10a := Lib.hid (R10.out.trans (hal.mono (show B ≤ w10.heap.size by have := HBe.out; omega)))
  have hFt : Facts [t, t] M := ⟨by omega, by simp, by simp, fun j hj => by
    match j, hj with
    | 0, _ => exact Htl.out
    | 1, _ => exact Htl.out⟩
  refine (sum_Prove [t, t] q M _ _ _ (HTx.out _ R10a.out) (rowUU2 w10 _ _ _ t t (Ht.out _ R10.out) (Ht.out _ R10.out) rfl) (Hq.out _ R10a.out) hFt Hql.out).mono ?_
  rintro e w11 ⟨v11, v12, rfl, hn1, hn2, hb0⟩
  have hb := below_two hal hb0
  have R11 := Lib.hid (R10.out.trans (hb.mono (show B ≤ w10.heap.size by have := HBe.out; omega)))
  have s10a := hal.size
  have s11 := hb.size
  have N11 := Lib.hid (show NewUU B w11 v11 (provesI [t, t] q M) from hn1.mono (by have := HBe.out; omega))
  have F11 := Lib.hid (show OwnU B w11 v8 ∧ OwnU B w11 v9 ∧ OwnU B w11 v10 ∧ OwnU B w11 v12 from ⟨F10.out.1.go hb, F10.out.2.1.go hb, F10.out.2.2.go hb, hn2.own.mono (by have := HBe.out; omega)⟩)
  have hP3 := Lib.hid (show (provesI [t, t] q M).length ≤ 1000 by rw [provesI_length]; omega)
  obtain ⟨PV, hPV⟩ : ∃ PV, PV = provesI [t, t] q M := ⟨_, rfl⟩
  rw [← hPV] at N11 hP3
  clear hn1 hn2 hb hb0 R10 R10a F10 hal hFt hPV s10a
  go_wp2_with (fail)
  refine (tree_Path t M 0 _ w11 (HTx.out _ R11.out) (Ht.out _ R11.out) Htl.out (by omega) (Nat.pow_pos (by decide))).mono ?_
  rintro e w12 ⟨v13, rfl, hn, hb⟩
  have R12 := Lib.hid (R11.out.trans (hb.mono (show B ≤ w11.heap.size by have := HBe.out; omega)))
  have s12 := hb.size
  have N12 := Lib.hid (N11.out.go hb)
  have F12 := Lib.hid (show OwnU B w12 v8 ∧ OwnU B w12 v9 ∧ OwnU B w12 v10 ∧ OwnU B w12 v12 ∧ OwnU B w12 v13 from ⟨F11.out.1.go hb, F11.out.2.1.go hb, F11.out.2.2.1.go hb, F11.out.2.2.2.go hb, hn.own.mono (by have := HBe.out; omega)⟩)
  clear hn hb R11 F11 N11
  go_wp2_with (fail)
  have hal : Below w12.heap.size w12 (w12.alloc (.cells #[.int .i64 0] 3)) := (Below.refl _ _).alloc (Nat.le_refl _) _
  have R12a := Lib.hid (R12.out.trans (hal.mono (show B ≤ w12.heap.size by have := HBe.out; omega)))
  refine (open_OpenO t q [0] m (by omega) (by rw [Hql.out, HM.out]) (by rw [Htl.out, HM.out]) (wrong0 m hm2) _ _ _ _ (HTx.out _ R12a.out) (Ht.out _ R12a.out) (Hq.out _ R12a.out) (rowI1 w12 _ 0 (by unfold I64; omega) rfl)).mono ?_
  rintro e w13 ⟨vo, rfl, hF, hb0, -⟩
  have hb := below_two hal hb0
  have R13 := Lib.hid (R12.out.trans (hb.mono (show B ≤ w12.heap.size by have := HBe.out; omega)))
  have s12a := hal.size
  have s13 := hb.size
  have N13 := Lib.hid (N12.out.go hb)
  have F13 := Lib.hid (show OwnU B w13 v8 ∧ OwnU B w13 v9 ∧ OwnU B w13 v10 ∧ OwnU B w13 v12 ∧ OwnU B w13 v13 from ⟨F12.out.1.go hb, F12.out.2.1.go hb, F12.out.2.2.1.go hb, F12.out.2.2.2.1.go hb, F12.out.2.2.2.2.go hb⟩)
  obtain ⟨ur, uk, rfl, hU, -, -⟩ := hF.now
  have FU := Lib.hid (show OwnU B w13 ur from (far_ownU (hF.imp fun W ⟨u, u2, e, _, h1, _⟩ => by cases e; exact h1.own)).mono (by have := HBe.out; omega))
  have FK := Lib.hid (show OwnK B w13 uk from (far_ownK (hF.imp fun W ⟨u, u2, e, _, _, h2⟩ => by cases e; exact h2.own)).mono (by have := HBe.out; omega))
  obtain ⟨O, hO⟩ : ∃ O, O = (openI t q [0]).value := ⟨_, rfl⟩
  rw [← hO] at hU ⊢
  clear hF hb hb0 R12 R12a F12 N12 hal hO s12a
  obtain ⟨ar, nr, cr, rfl⟩ := FU.out.isSlice
  obtain ⟨ak, nk, ck, rfl⟩ := FK.out.isSlice
  obtain ⟨a8, n8, c8, rfl⟩ := F13.out.1.isSlice
  obtain ⟨a9, n9, c9, rfl⟩ := F13.out.2.1.isSlice
  obtain ⟨a10, n10, c10, rfl⟩ := F13.out.2.2.1.isSlice
  obtain ⟨a12, n12, c12, rfl⟩ := F13.out.2.2.2.1.isSlice
  obtain ⟨a13, n13, c13, rfl⟩ := F13.out.2.2.2.2.isSlice
  obtain ⟨a11, c11, rfl⟩ := N13.out.isSlice
  go_upto_region 13 with fail
  obtain ⟨W14, hW14, c0, c1, c2, hb, s14⟩ := copied3' w13 (.slice ar nr cr) (.int .u64 O) (.slice ak nk ck) 42
  have hbk : W14.heap[w13.heap.size]? = some (.cells #[.slice ar nr cr, .int .u64 O, .slice ak nk ck] 42 (0, 0)) := by rw [← hW14]; exact alloc_blk w13 _
  rw [hW14]
  have R14 := Lib.hid (R13.out.trans (hb.mono (show B ≤ w13.heap.size by have := HBe.out; omega)))
  have N14 := Lib.hid (N13.out.go hb)
  have F14 := Lib.hid (show OwnU B W14 _ ∧ OwnU B W14 _ ∧ OwnU B W14 _ ∧ OwnU B W14 _ ∧ OwnU B W14 _ ∧ OwnU B W14 _ from ⟨F13.out.1.go hb, F13.out.2.1.go hb, F13.out.2.2.1.go hb, F13.out.2.2.2.1.go hb, F13.out.2.2.2.2.go hb, FU.out.go hb⟩)
  have K14 := Lib.hid (show OwnK B W14 (.slice ak nk ck) from (Spoilt.of hb (show B ≤ w13.heap.size by have := HBe.out; omega)).K FK.out)
  obtain ⟨oo, hoo⟩ : ∃ oo, oo = w13.heap.size := ⟨_, rfl⟩
  rw [← hoo] at c0 c1 c2 s14 hbk ⊢
  have Hbk := Lib.hid hbk
  have hB14 : B ≤ W14.heap.size := by have := HBe.out; omega
  have S14 := Lib.hid s14
  clear hW14 hb R13 N13 F13 FU FK hoo hbk s8 s9 s10 s11 s12 s13 s14
  go_wp2_with (at_builtin; refine wpList_app6 rfl _ _ rfl B (.slice a11 PV.length c11) PV rfl N14.out _ _ _ _ _ _ ⟨F14.out.1, F14.out.2.1, F14.out.2.2.1, F14.out.2.2.2.1, F14.out.2.2.2.2.1, F14.out.2.2.2.2.2⟩ rfl hP3.out hB14 ?_; intro vL w15 hL hb15 hk15; have HL := Lib.hid hL; have HB15 := Lib.hid hb15; have HK15 := Lib.hid hk15; obtain ⟨aL, nL, cL, rfl⟩ := hL.isSlice; clear hL hb15 hk15)
  have R15 := Lib.hid (R14.out.trans HB15.out)
  have hB15 : B ≤ w15.heap.size := by have := HB15.out.size; omega
  have K15 := Lib.hid (K14.out.keep HK15.out)
  have HL15 := Lib.hid HL.out
  have Hbk15 := Lib.hid ((HK15.out _ _ _ Hbk.out (by decide)).trans Hbk.out)
  have hnL := HL15.out.max
  have hnk := K15.out.max
  clear c0 c1 c2 HL HB15 HK15 K14 Hbk R14 N14 F14 hP3 S14 hB14
  go_loopw [121] (fun jv wr => ∃ (j : Nat), j ≤ nL ∧ jv = .int .i64 (j : Int) ∧ Hid (Spoilt B w15 wr)) (fun jv _ => nL - (intOf jv).toNat)
  case atStart => exact ⟨0, Nat.zero_le _, rfl, Spoilt.refl _ _⟩
  case round =>
    obtain ⟨j, hj, rfl, HS⟩ := hrel
    by_cases hz : j < nL
    · have hz' : (j : Int) < (nL : Int) := by omega
      obtain ⟨g, u, rfl, hg, hu, hOu⟩ := (HS.out.UU HL15.out).at hz
      obtain ⟨au, nu, cu, rfl⟩ := hOu.isSlice
      go_wp2_with (fail)
      refine (spoil_U B _ 9 wr hOu).mono ?_
      rintro e w16 ⟨rfl, hS⟩
      have HS2 := Lib.hid (HS.out.trans hS)
      clear hS hu hOu
      go_wp2
      go_roundw
      case rel => exact ⟨j + 1, by omega, by go_num, HS2.out⟩
      case measure => simp [intOf]; omega
    · obtain rfl : j = nL := by omega
      obtain ⟨wv, hwv⟩ : ∃ x : World, x = wr := ⟨_, rfl⟩
      subst hwv
      have Kv := Lib.hid (HS.out.K K15.out)
      have Rv := Lib.hid (R15.out.trans HS.out.below)
      have hbv := HS.out.box Hbk15.out (by decide) (by decide)
      have c2 : wv.cell? ⟨oo, 2, none⟩ = some (.slice ak nk ck) := cell_blk hbv 2
      have hBv : B ≤ wv.heap.size := by have := HS.out.below.size; omega
      clear K15 R15 HS HL15 Hbk15 hbv
      go_wp2_with (fail)
      go_loopw [131] (fun jv wr => ∃ (j : Nat), j ≤ nk ∧ jv = .int .i64 (j : Int) ∧ Hid (Spoilt B wv wr)) (fun jv _ => nk - (intOf jv).toNat)
      case atStart => exact ⟨0, Nat.zero_le _, rfl, Spoilt.refl _ _⟩
      case round =>
        obtain ⟨i, hi, rfl, HS⟩ := hrel
        by_cases hz2 : i < nk
        · have hz' : (i : Int) < (nk : Int) := by omega
          obtain ⟨g, u, u2, rfl, hg, hu, hu2, hOA, hOB⟩ := (HS.out.K Kv.out).at hz2
          obtain ⟨au, nu, cu, rfl⟩ := hOA.isSlice
          obtain ⟨ab, nb, cb, rfl⟩ := hOB.isSlice
          go_wp2_with (fail)
          obtain ⟨wl, hwl, d0, d1, hbl, sl⟩ := copied2' wr (.slice au nu cu) (.slice ab nb cb) 50
          have hbk : wl.heap[wr.heap.size]? = some (.cells #[.slice au nu cu, .slice ab nb cb] 50 (0, 0)) := by rw [← hwl]; exact alloc_blk wr _
          rw [hwl]
          have hSl := Spoilt.of hbl (show B ≤ wr.heap.size by have := HS.out.below.size; omega)
          obtain ⟨lb, hlb⟩ : ∃ lb, lb = wr.heap.size := ⟨_, rfl⟩
          rw [← hlb] at hbk ⊢
          have hBl : B ≤ wl.heap.size := by have := HS.out.below.size; have := hbl.size; omega
          refine (spoil_A B _ 9 9 wl hBl (hSl.A hOA)).mono ?_
          rintro e wm ⟨rfl, hS⟩
          have HSm := Lib.hid ((HS.out.trans hSl).trans hS)
          have HBm := Lib.hid (hS.B (hSl.B hOB))
          have hbm := hS.box hbk (by decide) (by decide)
          have m1 : wm.cell? ⟨lb, 1, none⟩ = some (.slice ab nb cb) := cell_blk hbm 1
          have hnb := HBm.out.max
          clear hwl d0 d1 hbl sl hbk hSl hlb hBl hS hbm HS hu hu2 hOA hOB hg
          go_wp2_with (fail)
          go_loopw [142] (fun jv wr => ∃ (j : Nat), j ≤ nb ∧ jv = .int .i64 (j : Int) ∧ Hid (Spoilt B wm wr)) (fun jv _ => nb - (intOf jv).toNat)
          case atStart => exact ⟨0, Nat.zero_le _, rfl, Spoilt.refl _ _⟩
          case round =>
            obtain ⟨q1, hq1, rfl, HS⟩ := hrel
            by_cases hz3 : q1 < nb
            · have hz3' : (q1 : Int) < (nb : Int) := by omega
              obtain ⟨g2, y, y2, rfl, hg2, hy, hy2, hO1, hO2⟩ := (HS.out.B HBm.out).at hz3
              obtain ⟨ay, ny, cy, rfl⟩ := hO1.isSlice
              obtain ⟨az, nz, cz, rfl⟩ := hO2.isSlice
              go_wp2_with (fail)
              obtain ⟨wl, hwl, d0, d1, hbl, sl⟩ := copied2' wr (.slice ay ny cy) (.slice az nz cz) 53
              have hbk : wl.heap[wr.heap.size]? = some (.cells #[.slice ay ny cy, .slice az nz cz] 53 (0, 0)) := by rw [← hwl]; exact alloc_blk wr _
              rw [hwl]
              have hSl := Spoilt.of hbl (show B ≤ wr.heap.size by have := HSm.out.below.size; have := HS.out.below.size; omega)
              obtain ⟨l2, hl2⟩ : ∃ l2, l2 = wr.heap.size := ⟨_, rfl⟩
              rw [← hl2] at hbk ⊢
              refine (spoil_U B _ 9 wl (hSl.U hO1)).mono ?_
              rintro e wn ⟨rfl, hS⟩
              have HSn := Lib.hid ((HS.out.trans hSl).trans hS)
              have hOz := hS.U (hSl.U hO2)
              have hbn := hS.box hbk (by decide) (by decide)
              have n1 : wn.cell? ⟨l2, 1, none⟩ = some (.slice az nz cz) := cell_blk hbn 1
              clear hwl d0 d1 hbl sl hbk hSl hl2 hS hbn HS hy hy2 hO1 hO2 hg2
              go_wp2_with (fail)
              refine (spoil_U B _ 9 wn hOz).mono ?_
              rintro e wo ⟨rfl, hS⟩
              have HSo := Lib.hid (HSn.out.trans hS)
              clear hS HSn hOz n1
              go_wp2
              go_roundw
              case rel => exact ⟨q1 + 1, by omega, by go_num, HSo.out⟩
              case measure => simp [intOf]; omega
            · obtain rfl : q1 = nb := by omega
              have HSo := Lib.hid (HSm.out.trans HS.out)
              go_wp2
              go_roundw
              case rel => exact ⟨i + 1, by omega, by go_num, HSo.out⟩
              case measure => simp [intOf]; omega
        · obtain rfl : i = nk := by omega
          obtain ⟨wb, hwb⟩ : ∃ x : World, x = wr := ⟨_, rfl⟩
          subst hwb
          have Rb := Lib.hid (Rv.out.trans HS.out.below)
          clear Kv Rv HS c2 hBv
          go_wp2_with (fail)
          refine (slices_Equal t _ _ wb (Ht.out _ Rb.out) (Hva.out _ Rb.out)).mono ?_
          rintro e w16 ⟨rfl, hD⟩
          have R16 := Lib.hid (Rb.out.trans (hD.below.mono (show B ≤ wb.heap.size by have := Rb.out.size; have := HBe.out; omega)))
          clear hD Rb
          go_wp2_with (fail)
          refine (slices_Equal q _ _ w16 (Hq.out _ R16.out) (Hvb.out _ R16.out)).mono ?_
          rintro e w17 ⟨rfl, hD⟩
          have R17 := Lib.hid (R16.out.trans (hD.below.mono (show B ≤ w16.heap.size by have := R16.out.size; have := HBe.out; omega)))
          clear hD R16
          obtain ⟨k0, k1⟩ := KCx.out _ R17.out
          go_wp2_with (fail)
          refine (keep_small _ c w17 (HCx.out _ R17.out)).mono ?_
          rintro e w18 ⟨rfl, hb⟩
          have R18 := Lib.hid (R17.out.trans (hb.mono (show B ≤ w17.heap.size by have := R17.out.size; have := HBe.out; omega)))
          clear hb R17 k0 k1
          cases hsm : smallB c with
          | false =>
            have hwz := Lib.hid (Hw.out _ R18.out)
            clear hsm
            go_wp2
            go_ret
            exact ⟨rfl, hwz.out⟩
          | true =>
            have hS := smallB_yes hsm
            have Hc := Lib.hid hS.right
            have HG := Lib.hid (good_of_check hS.right)
            have hl4 := HG.out.log4
            have hl0 := HG.out.log0
            have hDN := drawsN_le HG.out
            obtain ⟨N2, hN⟩ : ∃ N2, N2 = 2 ^ LG.toNat := ⟨_, rfl⟩
            rw [← HLG.out] at hl4 hl0
            have hw : wrap64 (2 ^ LG.toNat) = (N2 : Int) := by rw [hN]; exact wrap4 hl4
            have hN16 : N2 ≤ 16 := by rw [hN]; exact (pow4 hl4).2
            have hN1 : 1 ≤ N2 := by rw [hN]; exact Nat.pow_pos (by decide)
            have HN := Lib.hid (show N2 = 2 ^ c.log.toNat by rw [hN, HLG.out])
            obtain ⟨k0, k1⟩ := KCx.out _ R18.out
            clear hsm hS hN
            go_wp2_with (fail)
            clear hl4 hl0 k0 k1
            refine (keep_point inp vi N2 w18 (Hix.out _ R18.out) (by omega)).mono ?_
            rintro e w19 ⟨rfl, hn, hb⟩
            obtain ⟨x, hx⟩ : ∃ x, x = padTo N2 inp := ⟨_, rfl⟩
            rw [← hx] at hn
            have Hxl := Lib.hid (show x.length = N2 by rw [hx, padTo_length])
            have Hx19 := Lib.hid hn.row
            have R19 := Lib.hid (R18.out.trans (hb.mono (show B ≤ w18.heap.size by have := R18.out.size; have := HBe.out; omega)))
            obtain ⟨bx, hbx⟩ : ∃ bx, bx = w18.heap.size := ⟨_, rfl⟩
            rw [← hbx] at Hx19 ⊢
            clear hx hn hb R18 hw hbx
            obtain ⟨k0, k1⟩ := KCx.out _ R19.out
            go_upto_region 34 with fail
            have KL := Lib.hid (fun X (hX : Below w19.heap.size w19 X) => clone_U x (.slice (some ⟨bx, 0, none⟩) N2 N2) X (Hx19.out.go hX) (by rw [Hxl.out]; omega) (by rw [Hxl.out]; omega))
            have KT := Lib.hid (fun X (hX : Below w19.heap.size w19 X) => ref_CircuitText (.agg #[.int .i64 LG, .slice ac LN cc]) c X (HCx.out _ (R19.out.trans (hX.mono (by have := R19.out.size; have := HBe.out; omega)))) HG.out)
            have lob : ob < w19.heap.size := by
              rcases Nat.lt_or_ge ob w19.heap.size with h | h
              · exact h
              · simp [World.cell?, Array.getElem?_eq_none h] at k0
            have K3 := Lib.hid (show ∀ X, Below w19.heap.size w19 X → Below w19.heap.size w19 X ∧ X.cell? ⟨ob, 0, none⟩ = some (.int .i64 LG) ∧ X.cell? ⟨ob, 1, none⟩ = some (.slice ac LN cc) from fun X hX => ⟨hX, (hX.cell (p := ⟨ob, 0, none⟩) lob).trans k0, (hX.cell (p := ⟨ob, 1, none⟩) lob).trans k1⟩)
            go_cut [36, 37] (fun o s wx => s = .string (circB c) ∧ Hid (RowU wx o x) ∧ Hid (Below w19.heap.size w19 wx))
            case first =>
              go_region_held3 (fun w' => Below w19.heap.size w19 w' ∧ w'.cell? ⟨ob, 0, none⟩ = some (.int .i64 LG) ∧ w'.cell? ⟨ob, 1, none⟩ = some (.slice ac LN cc))
                (first
                  | exact K3.out _ (below_drw w19)
                  | exact K3.out _ hBC
                  | exact K3.out _ hBT)
                (first
                  | (go_at_call 11; (first | (with_reducible refine (KL.out _ hBT).mono ?_) | (with_reducible refine (KL.out _ (below_drw w19)).mono ?_)); rintro e wC ⟨vO, rfl, hnC, hbC⟩; have hBC : Below w19.heap.size w19 wC := below_two (by first | exact hBT | exact below_drw w19) hbC; have HrC := Lib.hid hnC.row; clear hnC hbC)
                  | (go_at_call 22; (first | (with_reducible refine (KT.out _ hBC).mono ?_) | (with_reducible refine (KT.out _ (below_drw w19)).mono ?_)); rintro e wT ⟨rfl, hbT⟩; have hBT : Below w19.heap.size w19 wT := below_two (by first | exact hBC | exact below_drw w19) hbT))
              all_goals
                go_split_ands
                go_wp2_with fail
                go_meet
                case rel => exact ⟨rfl, by first | exact HrC.out.go hbT | exact HrC.out, by first | exact hBT | exact hBC⟩
            case rest =>
              obtain ⟨rfl, HO, HB0⟩ := hcut
              obtain ⟨w20, hw20⟩ : ∃ x : World, x = wc := ⟨_, rfl⟩
              subst hw20
              obtain ⟨vO, hvO⟩ : ∃ x : Value, x = u36 := ⟨_, rfl⟩
              subst hvO
              have R20 := Lib.hid (R19.out.trans (HB0.out.mono (show B ≤ w19.heap.size by have := R19.out.size; have := HBe.out; omega)))
              have Hx20 := Lib.hid (Hx19.out.go HB0.out)
              clear K3 KL KT lob k0 k1 HB0 R19 Hx19
              obtain ⟨B2, hB2⟩ : ∃ B2, B2 = w20.heap.size := ⟨_, rfl⟩
              have HB2 := Lib.hid hB2
              have R2 := Lib.hid (show ∀ X, Below B2 w20 X → Below B w7 X from fun X h => R20.out.trans (h.mono (by have := R20.out.size; have := HBe.out; omega)))
              have Hxx := Lib.hid (show ∀ X, Below B2 w20 X → RowU X (.slice (some ⟨bx, 0, none⟩) N2 N2) x from fun X h => Hx20.out.below h (by omega))
              have HOx := Lib.hid (show ∀ X, Below B2 w20 X → RowU X vO x from fun X h => HO.out.below h (by omega))
              clear hB2 Hx20 HO Ht Hq Hva Hvb Hix
              obtain ⟨k0, k1⟩ := KCx.out _ R20.out
              go_wp2_with (fail)
              refine (c_Run _ c _ x w20 (HCx.out _ R20.out) (Hxx.out _ (Below.refl _ _)) HG.out Hc.out (by rw [Hxl.out, HN.out])).mono ?_
              rintro e w21 ⟨v21, rfl, hn, hb⟩
              have R21 := Lib.hid (show Below B2 w20 w21 from hb.mono (by have := HB2.out; omega))
              have L21 := Lib.hid (show OwnUU B2 w21 v21 from hn.own.mono (by have := HB2.out; omega))
              obtain ⟨aL, nL, cL, rfl⟩ := L21.out.isSlice
              have hnL := L21.out.max
              clear hn hb k0 k1 R20
              go_wp2_with (fail)
              go_loopw [184] (fun jv wr => ∃ (j : Nat), j ≤ nL ∧ jv = .int .i64 (j : Int) ∧ Hid (Spoilt B2 w21 wr)) (fun jv _ => nL - (intOf jv).toNat)
              case atStart => exact ⟨0, Nat.zero_le _, rfl, Spoilt.refl _ _⟩
              case round =>
                obtain ⟨j, hj, rfl, HS⟩ := hrel
                by_cases hz : j < nL
                · have hz' : (j : Int) < (nL : Int) := by omega
                  obtain ⟨g, u, rfl, hg, hu, hOu⟩ := (HS.out.UU L21.out).at hz
                  obtain ⟨au, nu, cu, rfl⟩ := hOu.isSlice
                  go_wp2_with (fail)
                  refine (spoil_U B2 _ 9 wr hOu).mono ?_
                  rintro e w22 ⟨rfl, hS⟩
                  have HS2 := Lib.hid (HS.out.trans hS)
                  clear hS hu hOu
                  go_wp2
                  go_roundw
                  case rel => exact ⟨j + 1, by omega, by go_num, HS2.out⟩
                  case measure => simp [intOf]; omega
                · obtain rfl : j = nL := by omega
                  obtain ⟨wv, hwv⟩ : ∃ x : World, x = wr := ⟨_, rfl⟩
                  subst hwv
                  have Rv := Lib.hid (R21.out.trans HS.out.below)
                  clear R21 L21 HS
                  obtain ⟨k0, k1⟩ := KCx.out _ (R2.out _ Rv.out)
                  go_wp2_with (fail)
                  refine (gkr_Draws _ c wv (HCx.out _ (R2.out _ Rv.out)) Hc.out).mono ?_
                  rintro e w23 ⟨rfl, hb⟩
                  have R23 := Lib.hid (Rv.out.trans (hb.mono (show B2 ≤ wv.heap.size by have := Rv.out.size; have := HB2.out; omega)))
                  clear hb Rv k0 k1
                  obtain ⟨k0, k1⟩ := KCx.out _ (R2.out _ R23.out)
                  go_upto_region 42 with fail
                  obtain ⟨DN, hDNe⟩ : ∃ DN, DN = drawsN c := ⟨_, rfl⟩
                  rw [← hDNe] at hDN ⊢
                  obtain ⟨d, hd⟩ : ∃ d, d = padTo DN p := ⟨_, rfl⟩
                  have Hdl := Lib.hid (show d.length = drawsN c by rw [hd, padTo_length, hDNe])
                  have hB23 : B2 ≤ w23.heap.size := by have := R23.out.size; have := HB2.out; omega
                  have KP := Lib.hid (fun X (hX : Below w23.heap.size w23 X) => keep_point p vp DN X (Hpx.out _ (R2.out _ (R23.out.trans (hX.mono hB23)))) (by omega))
                  rw [← hd] at KP
                  have KV := Lib.hid (fun X (hX : Below w23.heap.size w23 X) (vd : Value) (hvd : RowU X vd d) (hcd : CapOk vd) => show Calls Tryd.prog 25 #[.agg #[.int .i64 LG, .slice ac LN cc], .slice (some ⟨bx, 0, none⟩) N2 N2, vd] X fun e w' => ∃ a n c, e = .returned (.tuple #[.agg #[.slice a n c], .int .i64 0]) ∧ OwnP B2 w' (.slice a n c) ∧ Below X.heap.size X w' from
                    (gkr_ProveN _ c _ vd x d X (HTx.out _ (R2.out _ (R23.out.trans (hX.mono hB23)))) (HCx.out _ (R2.out _ (R23.out.trans (hX.mono hB23)))) (Hxx.out _ (R23.out.trans (hX.mono hB23))) hvd hcd Hc.out (by rw [Hxl.out, HN.out]) Hdl.out).mono fun e w' ⟨vq, he, hF, hb⟩ => by
                      obtain ⟨u, hu, _⟩ := hF.now
                      subst hu
                      have hO : OwnP B2 w' u := (far_ownP (hF.imp fun W ⟨u', e', h⟩ => by cases e'; exact h.own)).mono (Nat.le_trans hB23 hX.size)
                      obtain ⟨a, n, c, rfl⟩ := hO.isSlice
                      exact ⟨a, n, c, he, hO, hb⟩)
                  have lob : ob < w23.heap.size := by
                    rcases Nat.lt_or_ge ob w23.heap.size with h | h
                    · exact h
                    · simp [World.cell?, Array.getElem?_eq_none h] at k0
                  have K3 := Lib.hid (show ∀ X, Below w23.heap.size w23 X → Below w23.heap.size w23 X ∧ X.cell? ⟨ob, 0, none⟩ = some (.int .i64 LG) ∧ X.cell? ⟨ob, 1, none⟩ = some (.slice ac LN cc) from fun X hX => ⟨hX, (hX.cell (p := ⟨ob, 0, none⟩) lob).trans k0, (hX.cell (p := ⟨ob, 1, none⟩) lob).trans k1⟩)
                  clear hDNe hd
                  go_cut [44, 45] (fun pv ev wx => ∃ (pb : Nat) (aP : Option Addr) (nP cP : Nat), pv = .pointer (some ⟨pb, 0, none⟩) ∧ Hid (wx.heap[pb]? = some (.cells #[.slice aP nP cP] 63 (0, 0))) ∧ Hid (OwnP B2 wx (.slice aP nP cP)) ∧ Hid (Below w23.heap.size w23 wx))
                  case first =>
                    go_region_held3 (fun w' => Below w23.heap.size w23 w' ∧ w'.cell? ⟨ob, 0, none⟩ = some (.int .i64 LG) ∧ w'.cell? ⟨ob, 1, none⟩ = some (.slice ac LN cc))
                      (first
                        | (refine K3.out _ ?_; (repeat (first | assumption | (with_reducible exact Below.refl _ _) | (with_reducible refine below_dw ?_) | (with_reducible refine below_al' ?_) | (with_reducible refine below_two ?_ (by assumption)))); done)
                        | exact K3.out _ (hBV.setCell (p := ⟨w23.heap.size, 0, none⟩) (Nat.le_refl _) _)
                        | exact K3.out _ (hBV.setCell (p := ⟨wP.heap.size, 0, none⟩) hBP.size _))
                      (first
                        | (go_at_call 10; go_split_ands; (with_reducible refine (KP.out _ (by assumption)).mono ?_); rintro e wP ⟨rfl, hnP, hbP⟩; have hBP : Below w23.heap.size w23 wP := below_two (by assumption) hbP; (first | (have HnP : Hid (RowU wP (.slice (some ⟨w23.heap.size, 0, none⟩) DN DN) d) := hnP.row) | (have HnP : Hid (RowU wP (.slice (some ⟨w23.heap.size + 1, 0, none⟩) DN DN) d) := by (have h9 := hnP.row; have e9 : (w23.alloc (.cells #[.slice none 0 0] 63)).drew.heap.size = w23.heap.size + 1 := (by show (w23.alloc _).heap.size = _; simp); rw [e9] at h9; exact h9))); (first | (have hboxP : Hid (wP.heap[w23.heap.size]? = some (.cells #[.slice none 0 0] 63 (0, 0))) := (hbP.block w23.heap.size (by show w23.heap.size < (w23.alloc _).heap.size; simp)).trans (alloc_blk w23 _)) | skip); clear hnP)
                        | (go_at_call 25; go_split_ands; (with_reducible refine (KV.out _ (by assumption) _ (by first | exact HnP.out | exact HnP.out.go (by (repeat (first | assumption | (with_reducible exact Below.refl _ _) | (with_reducible refine below_dw ?_) | (with_reducible refine below_al' ?_) | (with_reducible refine below_two ?_ (by assumption)))))) (CapOk.mk (Nat.le_refl _) (by omega))).mono ?_); rintro e wV ⟨aP, nP, cP, rfl, hOP, hbV⟩; have hBV : Below w23.heap.size w23 wV := below_two (by assumption) hbV; have HOP := Lib.hid hOP; clear hOP; (first | (have hboxV := (hbV.block w23.heap.size (blk_lt hboxP.out)).trans hboxP.out; have g0 : wV.cell? ⟨w23.heap.size, 0, none⟩ = some _ := cell_blk hboxV 0; have gf := free_blk hboxV; have HboxV := Lib.hid hboxV; clear hboxV) | (have hboxV := (hbV.block wP.heap.size (by show wP.heap.size < (wP.alloc _).heap.size; simp)).trans (alloc_blk wP (.cells #[.slice none 0 0] 63)); have g0 : wV.cell? ⟨wP.heap.size, 0, none⟩ = some _ := cell_blk hboxV 0; have gf := free_blk hboxV; have HboxV := Lib.hid hboxV; clear hboxV) | skip)))
                    all_goals
                      go_split_ands
                      go_wp2_with fail
                      go_meet
                      case rel =>
                        first
                          | exact ⟨w23.heap.size, aP, nP, cP, rfl, blk_setCell HboxV.out 0 _, HOP.out.setBox HboxV.out 0 _, hBV.setCell (p := ⟨w23.heap.size, 0, none⟩) (Nat.le_refl _) _⟩
                          | exact ⟨wP.heap.size, aP, nP, cP, rfl, blk_setCell HboxV.out 0 _, HOP.out.setBox HboxV.out 0 _, hBV.setCell (p := ⟨wP.heap.size, 0, none⟩) hBP.size _⟩
                          | exact ⟨wV.heap.size, aP, nP, cP, rfl, alloc_blk wV _, (Spoilt.of (below_al' (Below.refl _ _)) (Nat.le_trans hB23 hBV.size)).P HOP.out, below_al' hBV⟩
                  case rest =>
                    obtain ⟨pb, aP, nP, cP, rfl, HPb, HP, HB0⟩ := hcut
                    obtain ⟨w24, hw24⟩ : ∃ x : World, x = wc := ⟨_, rfl⟩
                    subst hw24
                    have R24 := Lib.hid (R23.out.trans (HB0.out.mono hB23))
                    have hB24 : B2 ≤ w24.heap.size := by have := R24.out.size; have := HB2.out; omega
                    have p0 : w24.cell? ⟨pb, 0, none⟩ = some _ := cell_blk HPb.out 0
                    have hnP := HP.out.max
                    clear KP KV K3 lob k0 k1 HB0 R23 hB23 HPb
                    go_wp2_with (fail)
                    go_loopw [208] (fun jv wr => ∃ (j : Nat), j ≤ nP ∧ jv = .int .i64 (j : Int) ∧ Hid (Spoilt B2 w24 wr)) (fun jv _ => nP - (intOf jv).toNat)
                    case atStart => exact ⟨0, Nat.zero_le _, rfl, Spoilt.refl _ _⟩
                    case round =>
                      obtain ⟨i, hi, rfl, HS⟩ := hrel
                      clear p0
                      by_cases hz2 : i < nP
                      · have hz' : (i : Int) < (nP : Int) := by omega
                        obtain ⟨g, u, u2, rfl, hg, hu, hu2, hOA, hOB⟩ := (HS.out.P HP.out).at hz2
                        obtain ⟨au, nu, cu, rfl⟩ := hOA.isSlice
                        obtain ⟨ab, nb, cb, rfl⟩ := hOB.isSlice
                        go_wp2_with (fail)
                        obtain ⟨wl, hwl, d0, d1, hbl, sl⟩ := copied2' wr (.slice au nu cu) (.slice ab nb cb) 67
                        have hbk : wl.heap[wr.heap.size]? = some (.cells #[.slice au nu cu, .slice ab nb cb] 67 (0, 0)) := by rw [← hwl]; exact alloc_blk wr _
                        rw [hwl]
                        have hSl := Spoilt.of hbl (show B2 ≤ wr.heap.size by have := HS.out.below.size; omega)
                        obtain ⟨lb, hlb⟩ : ∃ lb, lb = wr.heap.size := ⟨_, rfl⟩
                        rw [← hlb] at hbk ⊢
                        refine (spoil_U B2 _ 9 wl (hSl.U hOB)).mono ?_
                        rintro e wm ⟨rfl, hS⟩
                        have HSm := Lib.hid ((HS.out.trans hSl).trans hS)
                        have HUm := Lib.hid (hS.UU (hSl.UU hOA))
                        have hbm := hS.box hbk (by decide) (by decide)
                        have m0 : wm.cell? ⟨lb, 0, none⟩ = some (.slice au nu cu) := cell_blk hbm 0
                        have hnu := HUm.out.max
                        clear hwl d0 d1 hbl sl hbk hSl hlb hS hbm HS hu hu2 hOA hOB hg
                        go_wp2_with (fail)
                        go_loopw [218] (fun jv wr => ∃ (j : Nat), j ≤ nu ∧ jv = .int .i64 (j : Int) ∧ Hid (Spoilt B2 wm wr)) (fun jv _ => nu - (intOf jv).toNat)
                        case atStart => exact ⟨0, Nat.zero_le _, rfl, Spoilt.refl _ _⟩
                        case round =>
                          obtain ⟨q1, hq1, rfl, HS⟩ := hrel
                          by_cases hz3 : q1 < nu
                          · have hz3' : (q1 : Int) < (nu : Int) := by omega
                            obtain ⟨g2, y, rfl, hg2, hy, hO1⟩ := (HS.out.UU HUm.out).at hz3
                            obtain ⟨ay, ny, cy, rfl⟩ := hO1.isSlice
                            go_wp2_with (fail)
                            refine (spoil_U B2 _ 9 wr hO1).mono ?_
                            rintro e wn ⟨rfl, hS⟩
                            have HSn := Lib.hid (HS.out.trans hS)
                            clear hS HS hy hO1 hg2
                            go_wp2
                            go_roundw
                            case rel => exact ⟨q1 + 1, by omega, by go_num, HSn.out⟩
                            case measure => simp [intOf]; omega
                          · obtain rfl : q1 = nu := by omega
                            have HSo := Lib.hid (HSm.out.trans HS.out)
                            go_wp2
                            go_roundw
                            case rel => exact ⟨i + 1, by omega, by go_num, HSo.out⟩
                            case measure => simp [intOf]; omega
                      · obtain rfl : i = nP := by omega
                        obtain ⟨wb, hwb⟩ : ∃ x : World, x = wr := ⟨_, rfl⟩
                        subst hwb
                        have Rb := Lib.hid (R24.out.trans HS.out.below)
                        clear R24 HP HS
                        go_wp2_with (fail)
                        refine (slices_Equal x _ _ wb (Hxx.out _ Rb.out) (HOx.out _ Rb.out)).mono ?_
                        rintro e w25 ⟨rfl, hD⟩
                        have R25 := Lib.hid (Rb.out.trans (hD.below.mono (show B2 ≤ wb.heap.size by have := Rb.out.size; have := HB2.out; omega)))
                        clear hD Rb
                        obtain ⟨k0, k1⟩ := KCx.out _ (R2.out _ R25.out)
                        go_wp2_with (fail)
                        refine (ref_CircuitText _ c w25 (HCx.out _ (R2.out _ R25.out)) HG.out).mono ?_
                        rintro e w26 ⟨rfl, hb⟩
                        have R26 := Lib.hid (Hw.out _ (R2.out _ (R25.out.trans (hb.mono (show B2 ≤ w25.heap.size by have := R25.out.size; have := HB2.out; omega)))))
                        clear hb R25 k0 k1
                        go_wp2
                        go_ret
                        exact ⟨rfl, R26.out⟩
end Go.Proofs.YtcihkechphldcaaDoor
