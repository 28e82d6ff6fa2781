/- The walk of the reference's netted: of a text of at most 4096 bytes. The tables lie as their initialisers lay them. -/
import Derived.Test.YtlfneeobnihocaaGreatDoorRNumW
import Derived.Test.YtlfneeobnihocaaGreatDoorReadCW
import Derived.Test.YtlfneeobnihocaaGreatDoorRHolds
import Derived.Test.YtlfneeobnihocaaGreatDoorRFiat
namespace Go.Proofs.YtlfneeobnihocaaGreatDoor
set_option maxRecDepth 100000
set_option linter.unusedVariables false
open Go.RowKit Tally
set_option maxHeartbeats 4000000 in
theorem ref_netted_bad (t : Bs) (vs : ByteArray) (va vb : Value) (w : World) (hT : Ten w) (ht : t.length ≤ 4096) (hbad : ¬ (parseR t).2.2 = 0) :
  Calls Tryz.prog 53 #[.string (mkB t), .string vs, va, vb] w fun e w' => e = .returned (.string (mkB (errL (parseR t).2.2 ++ 32 :: decL (parseR t).2.1))) ∧ Below w.heap.size w w' := by
 have HT := zH hT
 obtain ⟨e1, e2, e3, e4⟩ := parse_range t (by omega)
 have hpr := mkB_data t
 have HP := zH (r_Read (mkB t) w (by rw [mkB_size]; exact ht) _ rfl)
 rw [hpr] at HP
 obtain ⟨pe, hpe⟩ : ∃ pe, pe = (parseR t).2.2 := ⟨_, rfl⟩
 obtain ⟨pa, hpa⟩ : ∃ pa, pa = (parseR t).2.1 := ⟨_, rfl⟩
 obtain ⟨pc, hpc⟩ : ∃ pc, pc = (parseR t).1 := ⟨_, rfl⟩
 rw [← hpe] at e1 e2 HP hbad ⊢
 rw [← hpa] at e3 e4 HP ⊢
 rw [← hpc] at HP
 clear hpe hpa hpc hT hpr
 obtain ⟨RA, hRA⟩ : ∃ RA, RA = mkB (errL pe ++ 32 :: decL pa) := ⟨_, rfl⟩
 have HRA := zH hRA
 rw [← hRA]
 have hne : (pe != 0) = true := bne_iff_ne.mpr hbad
 have l1 := errL_len pe e1 (by omega)
 have l2 := decL_len pa (by omega)
 obtain ⟨A, hA⟩ : ∃ A, A = mkB (errL pe) := ⟨_, rfl⟩
 obtain ⟨B, hB⟩ : ∃ B, B = mkB (decL pa) := ⟨_, rfl⟩
 have hAs : A.size ≤ 26 := by rw [hA]; exact l1
 have hBs : B.size ≤ 20 := by rw [hB]; exact l2
 have HE := zH (show A ++ ⟨#[32]⟩ ++ B = RA by rw [hRA, hA, hB]; apply ByteArray.ext; simp [mkB, ByteArray.data_append])
 have CW := zH (fun X => ref_wrong pe X e1 (by omega))
 have CI := zH (fun X (hX : Ten X) => s_Itoa pa X e3 (by omega) hX)
 rw [← hA] at CW
 rw [← hB] at CI
 have hs1 : ¬ (9223372036854775807 < A.size + 1) := by omega
 have hs2 : ¬ (9223372036854775807 < A.size + 1 + B.size) := by omega
 clear l1 l2 hA hB hRA hAs hBs hbad
 go_enter Tryz.func53, Tryz.ntmps53
 go_wp2_with (fail)
 refine HP.out.mono ?_
 rintro e w1 ⟨vc, rfl, hC, hb⟩
 have HB1 := zH hb
 obtain ⟨ac, mc, cap, rfl⟩ := lay_at vc pc w1 hC
 clear hb hC HP
 go_upto_region 2 with fail
 obtain ⟨W2, hW2, k0, k1, B2, s2⟩ := copied2' w1 (.int .i64 pc.log) (.slice ac mc cap) 62
 rw [hW2]
 have HB2 := zH (below_two HB1.out B2)
 clear hW2 B2 s2 k0 k1
 go_wp2_with (fail)
 refine (CW.out W2).mono ?_
 rintro e w' ⟨rfl, rfl⟩
 go_wp2_with (fail)
 refine (CI.out W2 (HT.out.go HB2.out)).mono ?_
 rintro e w3 ⟨rfl, hb3⟩
 have HB3 := zH (below_two HB2.out hb3)
 clear hb3
 go_wp2
 go_ret
 exact ⟨by rw [← HE.out]; rfl, HB3.out⟩
set_option maxHeartbeats 4000000 in
theorem ref_netted_show (t : Bs) (va vb : Value) (w : World) (ht : t.length ≤ 4096) (h0 : (parseR t).2.2 = 0) :
  Calls Tryz.prog 53 #[.string (mkB t), .string ⟨#[115, 104, 111, 119]⟩, va, vb] w fun e w' => e = .returned (.string (mkB (showA (parseR t).1))) ∧ Below w.heap.size w w' := by
 have hpr := mkB_data t
 have HP := zH (r_Read (mkB t) w (by rw [mkB_size]; exact ht) _ rfl)
 rw [hpr] at HP
 have hback := back_read (s := mkB t) (by rw [hpr]; exact h0)
 rw [hpr] at hback
 obtain ⟨pa, hpa⟩ : ∃ pa, pa = (parseR t).2.1 := ⟨_, rfl⟩
 obtain ⟨pc, hpc⟩ : ∃ pc, pc = (parseR t).1 := ⟨_, rfl⟩
 rw [h0, ← hpa] at HP
 rw [← hpc] at HP hback ⊢
 have hT2 : mkB t = circB pc := hback.2.symm
 have hcs : (circB pc).size ≤ 4096 := by rw [← hT2, mkB_size]; exact ht
 have Hc := zH hback.1
 clear hpa hpc hpr h0 hback hT2
 obtain ⟨RA, hRA⟩ : ∃ RA, RA = mkB (showA pc) := ⟨_, rfl⟩
 obtain ⟨A, hA⟩ : ∃ A, A = circB pc := ⟨_, rfl⟩
 have HE := zH (show A ++ ⟨#[111, 107]⟩ = RA by rw [hRA, hA]; apply ByteArray.ext; simp [showA, okL, ByteArray.data_append])
 have CC := zH (fun v X (hX : IsC X v pc) => ref_CircuitText v pc X hX (good_of_check Hc.out))
 rw [← hA] at hcs CC
 rw [← hRA]
 have hs1 : ¬ (9223372036854775807 < A.size + 2) := by omega
 clear hA hRA hcs
 go_enter Tryz.func53, Tryz.ntmps53
 go_wp2_with (fail)
 refine HP.out.mono ?_
 rintro e w1 ⟨vc, rfl, hC, hb⟩
 have HB1 := zH hb
 have HC1 := zH hC
 obtain ⟨ac, mc, cap, rfl⟩ := lay_at vc pc w1 hC
 clear hb hC HP
 go_upto_region 2 with fail
 obtain ⟨W2, hW2, k0, k1, B2, s2⟩ := copied2' w1 (.int .i64 pc.log) (.slice ac mc cap) 62
 rw [hW2]
 have HB2 := zH (below_two HB1.out B2)
 have HC2 := zH (HC1.out.go B2)
 clear hW2 B2 s2
 go_wp2_with (fail)
 refine (CC.out _ W2 HC2.out).mono ?_
 rintro e w3 ⟨rfl, hb3⟩
 have HB3 := zH (below_two HB2.out hb3)
 clear hb3 k0 k1
 go_wp2
 go_ret
 exact ⟨by rw [← HE.out]; rfl, HB3.out⟩
set_option maxHeartbeats 4000000 in
theorem ref_netted_run (t : Bs) (va vb : Value) (a : List Int) (w : World) (hT : Ten w) (ht : t.length ≤ 4096) (h0 : (parseR t).2.2 = 0) (ha : RowU w va a) :
  Calls Tryz.prog 53 #[.string (mkB t), .string ⟨#[114, 117, 110]⟩, va, vb] w fun e w' => e = .returned (.string (mkB (ranA (parseR t).1 a))) ∧ Below w.heap.size w w' := by
 have hpr := mkB_data t
 have HT := zH hT; have Ha := zH ha
 have HP := zH (r_Read (mkB t) w (by rw [mkB_size]; exact ht) _ rfl)
 rw [hpr] at HP
 have hback := back_read (s := mkB t) (by rw [hpr]; exact h0)
 rw [hpr] at hback
 obtain ⟨pa, hpa⟩ : ∃ pa, pa = (parseR t).2.1 := ⟨_, rfl⟩
 obtain ⟨c, hpc⟩ : ∃ c, c = (parseR t).1 := ⟨_, rfl⟩
 rw [h0, ← hpa] at HP
 rw [← hpc] at HP hback ⊢
 have Hc := zH hback.1
 have HG := zH (good_of_check hback.1)
 clear hpa hpc hpr h0 hback hT
 obtain ⟨RA, hRA⟩ : ∃ RA, RA = mkB (ranA c a) := ⟨_, rfl⟩
 have HRA := zH hRA
 rw [← hRA]
 clear hRA
 have hn1 := HG.out.n1; have hn4 := HG.out.n4
 have hl0 := HG.out.log0; have hl4 := HG.out.log4
 obtain ⟨-, hal, ad, cap2, rfl, -⟩ := ha
 obtain ⟨NA, hNA⟩ : ∃ NA, NA = a.length := ⟨_, rfl⟩
 have HNA := zH hNA
 rw [← hNA] at Ha hal ⊢
 obtain ⟨P, hP⟩ : ∃ P, wrap64 (2 ^ c.log.toNat) = P := ⟨_, rfl⟩
 have HPe := zH (show P = ((2 ^ c.log.toNat : Nat) : Int) by rw [← hP]; exact wrap4 hl4)
 clear hNA
 go_enter Tryz.func53, Tryz.ntmps53
 go_wp2_with (fail)
 refine HP.out.mono ?_
 rintro e w1 ⟨vc, rfl, hC, hb⟩
 have HB1 := zH hb
 have HC1 := zH hC
 obtain ⟨ac, mc, cap, rfl⟩ := lay_at vc c w1 hC
 obtain ⟨rfl⟩ : mc = c.layers.length := by
  obtain ⟨_, _, e1, _, _, _, _, rfl, _⟩ := hC
  cases e1; rfl
 obtain ⟨L, hL⟩ : ∃ L, L = c.layers.length := ⟨_, rfl⟩
 have HL := zH hL
 rw [← hL] at hn1 hn4 HC1 ⊢
 clear hb hC HP hL
 go_upto_region 2 with fail
 obtain ⟨W2, hW2, k0, k1, B2, s2⟩ := copied2' w1 (.int .i64 c.log) (.slice ac L cap) 62
 rw [hW2]
 have HB2 := zH (below_two HB1.out B2)
 have HC2 := zH (HC1.out.go B2)
 clear hW2 B2 s2
 by_cases h1 : NA = 2 ^ c.log.toNat
 ·have hb1 := neqb HPe.out h1
  have Hh1 := zH h1
  clear h1
  have hL1 : IntKind.i64.wrap ((L : Int) - 1) = (L : Int) - 1 := IntWalk.i64_in _ (by omega)
  have CV := zH (ref_Values c a HG.out (by rw [← HNA.out]; exact Hh1.out) c.layers.length (Nat.le_refl _) _ _ W2 HC2.out (Ha.out.go HB2.out))
  rw [← HL.out] at CV
  go_wp2_with (fail)
  refine CV.out.mono ?_
  rintro e w3 ⟨vx, rfl, hnu, hb3⟩
  have HB3 := zH (below_two HB2.out hb3)
  have hO : (valF c (a.map phi) L).map psi = outsI c a := by rw [HL.out]; rfl
  rw [hO] at hnu
  have HOl := zH (show (outsI c a).length ≤ 16 by
   rw [outsI, List.length_map, valF_length HG.out _ (by rw [List.length_map, ← HNA.out]; exact Hh1.out) _ (Nat.le_refl _)]
   exact (pow4 (HG.out.below4 (k := c.layers.length) (Nat.le_refl _))).2)
  have HR2 := zH (show RA = mkB (joinD ((outsI c a).map decL)) by rw [HRA.out]; unfold ranA; rw [if_pos (by rw [← HNA.out]; exact Hh1.out)])
  obtain ⟨O, hOe⟩ : ∃ O, O = outsI c a := ⟨_, rfl⟩
  rw [← hOe] at hnu HOl HR2
  have CS := zH (ref_said O vx w3 (HT.out.go HB3.out) hnu.row (by have := HOl.out; omega))
  rw [← HR2.out] at CS
  obtain ⟨ax, cx, rfl⟩ := hnu.isSlice
  clear hb3 hnu hO hOe CV k0 k1
  go_wp2_with (fail)
  refine CS.out.mono ?_
  rintro e w4 ⟨rfl, hb4⟩
  have HB4 := zH (below_two HB3.out hb4)
  clear hb4 CS
  go_wp2
  go_ret
  exact ⟨rfl, HB4.out⟩
 ·have hb1 := neqt HPe.out h1
  have HR2 := zH (show RA = mkB (errL 4) by rw [HRA.out]; unfold ranA; rw [if_neg (by rw [← HNA.out]; exact h1)])
  clear h1
  go_wp2_with (fail)
  refine (ref_wrong 4 W2 (by decide) (by decide)).mono ?_
  rintro e w' ⟨rfl, rfl⟩
  rw [← HR2.out]
  go_wp2
  go_ret
  exact ⟨rfl, HB2.out⟩
set_option maxHeartbeats 4000000 in
theorem ref_netted_prove (t : Bs) (va vb : Value) (a b : List Int) (w : World) (ht : t.length ≤ 4096) (h0 : (parseR t).2.2 = 0) (ha : RowU w va a) (hb : RowU w vb b) :
  Calls Tryz.prog 53 #[.string (mkB t), .string ⟨#[112, 114, 111, 118, 101]⟩, va, vb] w fun e w' => e = .returned (.string (mkB (provA (parseR t).1 a b))) ∧ Below w.heap.size w w' := by
 have hpr := mkB_data t
 have Ha := zH ha; have Hbb := zH hb
 have HP := zH (r_Read (mkB t) w (by rw [mkB_size]; exact ht) _ rfl)
 rw [hpr] at HP
 have hback := back_read (s := mkB t) (by rw [hpr]; exact h0)
 rw [hpr] at hback
 obtain ⟨pa, hpa⟩ : ∃ pa, pa = (parseR t).2.1 := ⟨_, rfl⟩
 obtain ⟨c, hpc⟩ : ∃ c, c = (parseR t).1 := ⟨_, rfl⟩
 rw [h0, ← hpa] at HP
 rw [← hpc] at HP hback ⊢
 have Hc := zH hback.1
 have HG := zH (good_of_check hback.1)
 clear hpa hpc hpr h0 hback
 obtain ⟨RA, hRA⟩ : ∃ RA, RA = mkB (provA c a b) := ⟨_, rfl⟩
 have HRA := zH hRA
 rw [← hRA]
 clear hRA
 have hn1 := HG.out.n1; have hn4 := HG.out.n4
 have hl0 := HG.out.log0; have hl4 := HG.out.log4
 obtain ⟨-, hal, ad, cap2, rfl, -⟩ := ha
 obtain ⟨NA, hNA⟩ : ∃ NA, NA = a.length := ⟨_, rfl⟩
 have HNA := zH hNA
 rw [← hNA] at Ha hal ⊢
 obtain ⟨-, hbl, bd, cap3, rfl, -⟩ := hb
 obtain ⟨NB, hNB⟩ : ∃ NB, NB = b.length := ⟨_, rfl⟩
 have HNB := zH hNB
 rw [← hNB] at Hbb hbl ⊢
 clear hNB
 obtain ⟨P, hP⟩ : ∃ P, wrap64 (2 ^ c.log.toNat) = P := ⟨_, rfl⟩
 have HPe := zH (show P = ((2 ^ c.log.toNat : Nat) : Int) by rw [← hP]; exact wrap4 hl4)
 clear hNA
 go_enter Tryz.func53, Tryz.ntmps53
 go_wp2_with (fail)
 refine HP.out.mono ?_
 rintro e w1 ⟨vc, rfl, hC, hb⟩
 have HB1 := zH hb
 have HC1 := zH hC
 obtain ⟨ac, mc, cap, rfl⟩ := lay_at vc c w1 hC
 obtain ⟨rfl⟩ : mc = c.layers.length := by
  obtain ⟨_, _, e1, _, _, _, _, rfl, _⟩ := hC
  cases e1; rfl
 obtain ⟨L, hL⟩ : ∃ L, L = c.layers.length := ⟨_, rfl⟩
 have HL := zH hL
 rw [← hL] at hn1 hn4 HC1 ⊢
 clear hb hC HP hL
 go_upto_region 2 with fail
 obtain ⟨W2, hW2, k0, k1, B2, s2⟩ := copied2' w1 (.int .i64 c.log) (.slice ac L cap) 62
 rw [hW2]
 have HB2 := zH (below_two HB1.out B2)
 have HC2 := zH (HC1.out.go B2)
 clear hW2 B2 s2
 by_cases h1 : NA = 2 ^ c.log.toNat
 ·have hb1 := neqb HPe.out h1
  have Hh1 := zH h1
  clear h1
  have hL1 : IntKind.i64.wrap ((L : Int) - 1) = (L : Int) - 1 := IntWalk.i64_in _ (by omega)
  have CV := zH (ref_Values c a HG.out (by rw [← HNA.out]; exact Hh1.out) c.layers.length (Nat.le_refl _) _ _ W2 HC2.out (Ha.out.go HB2.out))
  rw [← HL.out] at CV
  go_wp2_with (fail)
  refine CV.out.mono ?_
  rintro e w3 ⟨vx, rfl, hnu, hb3⟩
  have HB3 := zH (below_two HB2.out hb3)
  have hO : (valF c (a.map phi) L).map psi = outsI c a := by rw [HL.out]; rfl
  rw [hO] at hnu
  have HOl := zH (show (outsI c a).length = 2 ^ (belowLog c c.layers.length).toNat by
   rw [outsI, List.length_map, valF_length HG.out _ (by rw [List.length_map, ← HNA.out]; exact Hh1.out) _ (Nat.le_refl _)])
  have HR2 := zH (show RA = mkB (if b.length = 2 ^ (belowLog c c.layers.length).toNat then
    (if verB c a b (proveI c a (fiatD c a (outsI c a))) (drawnI c a b (proveI c a (fiatD c a (outsI c a)))) then holdsL else failsL) else errL 4) by rw [HRA.out]; unfold provA; rw [if_pos (by rw [← HNA.out]; exact Hh1.out)])
  have HOd := zH hO
  obtain ⟨O, hOe⟩ : ∃ O, O = outsI c a := ⟨_, rfl⟩
  rw [← hOe] at hnu HOl HR2 HOd
  obtain ⟨ax, cx, rfl⟩ := hnu.isSlice
  obtain ⟨M, hM⟩ : ∃ M, M = O.length := ⟨_, rfl⟩
  have hOu := hnu.row
  rw [← hM] at hOu ⊢
  have HM := zH hM
  have k30 := (hb3.cell (p := ⟨w1.heap.size, 0, none⟩) (blk_of k0)).trans k0
  have k31 := (hb3.cell (p := ⟨w1.heap.size, 1, none⟩) (blk_of k0)).trans k1
  have hlt3 := Nat.lt_of_lt_of_le (blk_of k0) hb3.size
  have HC3 := zH (HC2.out.go hb3)
  clear hb3 hnu hO hOe CV k0 k1 hM
  by_cases h2 : NB = M
  ·have h2b : ((NB : Int) != (M : Int)) = false := by rw [h2]; simp
   have Hb2 := zH (show b.length = 2 ^ (belowLog c c.layers.length).toNat by rw [← HNB.out, h2, HM.out, HOl.out])
   clear h2
   have CF := zH (ref_FiatN _ c _ a O w3 HC3.out HG.out (Ha.out.go HB3.out) (by rw [← HNA.out]; exact Hh1.out) (by rw [← HOd.out, HL.out]))
   go_wp2_with (fail)
   refine CF.out.mono ?_
   rintro e w4 ⟨vp, rfl, hfar, hb4⟩
   have HB4 := zH (below_two HB3.out hb4)
   have hp := hfar.now
   obtain ⟨PR, hPR⟩ : ∃ PR, PR = proveI c a (fiatD c a O) := ⟨_, rfl⟩
   have HS := zH (show ShapedI c PR by rw [hPR]; exact shaped_prove c a _ (fiatD_length _ _ _))
   have HR3 := zH (show RA = mkB (if verB c a b PR (drawnI c a b PR) then holdsL else failsL) by rw [HR2.out, if_pos Hb2.out, hPR])
   rw [← hPR] at hp
   have Hp4 := zH hp
   obtain ⟨u, rfl, -, ap, cp, rfl, -⟩ := hp
   obtain ⟨np, hnp⟩ : ∃ np, np = PR.length := ⟨_, rfl⟩
   rw [← hnp] at Hp4 ⊢
   have k40 := (hb4.cell (p := ⟨w1.heap.size, 0, none⟩) hlt3).trans k30
   have k41 := (hb4.cell (p := ⟨w1.heap.size, 1, none⟩) hlt3).trans k31
   have hlt4 := Nat.lt_of_lt_of_le hlt3 hb4.size
   have HC4 := zH (HC3.out.go hb4)
   clear hfar hb4 hPR hnp CF k30 k31 hlt3
   go_upto_region 14 with fail
   obtain ⟨W5, hW5, kp, B5, s5⟩ := copied1' w4 (.slice ap np cp) 93
   obtain ⟨pb, hpb⟩ : ∃ pb, pb = w4.heap.size := ⟨_, rfl⟩
   rw [hW5, ← hpb]
   rw [← hpb] at kp s5
   have HB5 := zH (below_two HB4.out B5)
   have HP5 := zH (Hp4.out.go B5)
   have HC5 := zH (HC4.out.go B5)
   have K5 := zH (show ∀ X, Below W5.heap.size W5 X → Below W5.heap.size W5 X ∧ X.cell? ⟨w1.heap.size, 0, none⟩ = some (.int .i64 c.log) ∧ X.cell? ⟨w1.heap.size, 1, none⟩ = some (.slice ac L cap) ∧ X.cell? ⟨pb, 0, none⟩ = some (.slice ap np cp) from fun X hX =>
    have hz := B5.trans (hX.mono B5.size)
    ⟨hX, (hz.cell (p := ⟨w1.heap.size, 0, none⟩) hlt4).trans k40, (hz.cell (p := ⟨w1.heap.size, 1, none⟩) hlt4).trans k41, (hX.cell (p := ⟨pb, 0, none⟩) (show pb < _ by omega)).trans kp⟩)
   obtain ⟨tb, htb⟩ : ∃ tb, tb = w1.heap.size := ⟨_, rfl⟩
   rw [← htb] at K5 ⊢
   obtain ⟨B, hB⟩ : ∃ B, B = verB c a b PR (drawnI c a b PR) := ⟨_, rfl⟩
   rw [← hB] at HR3
   have CD := zH (fun W' (hB : Below W5.heap.size W5 W') => (ref_Drawn _ c _ _ _ a b PR W' (HC5.out.go hB) HG.out (Ha.out.go (below_two HB5.out hB)) (Hbb.out.go (below_two HB5.out hB)) (HP5.out.go hB) HS.out (by rw [← HNA.out, Hh1.out]; have := (pow4 HG.out.log4).2; omega) (by rw [Hb2.out]; have := (pow4 (HG.out.below4 (k := c.layers.length) (Nat.le_refl _))).2; omega)).mono (show ∀ (e : Ending) (w' : World), _ → ∃ x n cp, e = .returned (.slice x n cp) ∧ RowU w' (.slice x n cp) (drawnI c a b PR) ∧ CapOk (.slice x n cp) ∧ Below W'.heap.size W' w' from fun e w' ⟨vd, he, hn, hb⟩ => by
    obtain ⟨x, cp, rfl⟩ := hn.isSlice
    exact ⟨_, _, _, he, hn.row, hn.cap, hb⟩))
   have CH := zH (fun W' (hB' : Below W5.heap.size W5 W') vd (hd : RowU W' vd (drawnI c a b PR)) (hcd : CapOk vd) => show Calls Tryz.prog 84 #[.agg #[.int .i64 c.log, .slice ac L cap], .slice ad NA cap2, .slice bd NB cap3, .agg #[.slice ap np cp], vd] W' fun e w' => e = .returned (.bool B) ∧ Below W'.heap.size W' w' from by
    rw [hB]
    exact ref_Holds _ c _ _ _ _ a b PR _ W' (HC5.out.go hB') Hc.out (Ha.out.go (below_two HB5.out hB')) (Hbb.out.go (below_two HB5.out hB')) (HP5.out.go hB') hd hcd (by rw [← HNA.out]; exact Hh1.out) Hb2.out HS.out (drawnI_length _ _ HS.out))
   clear hW5 B5 s5 hpb k40 k41 hlt4 kp htb hB
   obtain ⟨-, q0, q1, q2⟩ := K5.out W5 (Below.refl _ _)
   go_region_held3 (fun w' => Below W5.heap.size W5 w' ∧ w'.cell? ⟨tb, 0, none⟩ = some (.int .i64 c.log) ∧ w'.cell? ⟨tb, 1, none⟩ = some (.slice ac L cap) ∧ w'.cell? ⟨pb, 0, none⟩ = some (.slice ap np cp))
    (first
     | (refine K5.out _ ?_; (repeat (first | assumption | (with_reducible exact Below.refl _ _) | (with_reducible refine below_dw ?_) | (with_reducible refine below_al' ?_) | (with_reducible refine below_two ?_ (by assumption))))))
    (first
     | (go_at_call 85; (with_reducible refine (CD.out _ (by (repeat (first | assumption | (with_reducible exact Below.refl _ _) | (with_reducible refine below_dw ?_) | (with_reducible refine below_al' ?_) | (with_reducible refine below_two ?_ (by assumption)))))).mono ?_); rintro e w5 ⟨a5, n5, c5, rfl, hr5, hc5, hb5⟩)
     | (go_at_call 84; (with_reducible refine (CH.out _ (by (repeat (first | assumption | (with_reducible exact Below.refl _ _) | (with_reducible refine below_dw ?_) | (with_reducible refine below_al' ?_) | (with_reducible refine below_two ?_ (by assumption))))) _ hr5 hc5).mono ?_); rintro e w6 ⟨rfl, hb6⟩))
   all_goals
    have H6 := zH (below_two HB5.out (show Below W5.heap.size W5 w6 by (repeat (first | assumption | (with_reducible exact Below.refl _ _) | (with_reducible refine below_dw ?_) | (with_reducible refine below_al' ?_) | (with_reducible refine below_two ?_ (by assumption))))))
    cases B with
    | true =>
     have HR4 := zH (show RA = mkB holdsL from HR3.out)
     go_wp2
     go_ret
     exact ⟨by rw [HR4.out]; rfl, H6.out⟩
    | false =>
     have HR4 := zH (show RA = mkB failsL from HR3.out)
     go_wp2
     go_ret
     exact ⟨by rw [HR4.out]; rfl, H6.out⟩
  ·have h2b : ((NB : Int) != (M : Int)) = true := bne_iff_ne.mpr fun e => h2 (Int.ofNat_inj.mp e)
   have HR4 := zH (show RA = mkB (errL 4) by rw [HR2.out, if_neg (by rw [← HNB.out, ← HOl.out, ← HM.out]; exact h2)])
   clear h2
   go_wp2_with (fail)
   refine (ref_wrong 4 w3 (by decide) (by decide)).mono ?_
   rintro e w' ⟨rfl, rfl⟩
   rw [← HR4.out]
   go_wp2
   go_ret
   exact ⟨rfl, HB3.out⟩
 ·have hb1 := neqt HPe.out h1
  have HR2 := zH (show RA = mkB (errL 4) by rw [HRA.out]; unfold provA; rw [if_neg (by rw [← HNA.out]; exact h1)])
  clear h1
  go_wp2_with (fail)
  refine (ref_wrong 4 W2 (by decide) (by decide)).mono ?_
  rintro e w' ⟨rfl, rfl⟩
  rw [← HR2.out]
  go_wp2
  go_ret
  exact ⟨rfl, HB2.out⟩
end Go.Proofs.YtlfneeobnihocaaGreatDoor
