/- The walk of the law CircuitSays: it returns true, whatever is handed in. -/
import Derived.Test.YtopmlieadcpdmaaDoorPrintW
import Derived.Test.YtopmlieadcpdmaaDoorRTextW
import Derived.Test.YtopmlieadcpdmaaDoorRCircW
import Derived.Test.YtopmlieadcpdmaaDoorVal
import Derived.Test.YtopmlieadcpdmaaDoorSame
namespace Go.Proofs.YtopmlieadcpdmaaDoor
set_option maxRecDepth 100000
set_option linter.unusedVariables false
open Go.RowKit Tally
/-- the values of the first k - 1 layers and of the inputs -/
def vlist (c : Ci) (I : List F) (k : Nat) : List (List Int) := (List.range k).map fun j => (valF c I j).map psi
theorem vlist_succ (c : Ci) (I : List F) (k : Nat) : vlist c I (k + 1) = vlist c I k ++ [(valF c I k).map psi] := by
  unfold vlist; rw [List.range_succ, List.map_append]; rfl
theorem vlist_length (c : Ci) (I : List F) (k : Nat) : (vlist c I k).length = k := by simp [vlist]
set_option maxRecDepth 100000 in
set_option maxHeartbeats 8000000 in
theorem circuitSays_bad (w : World) (vc : Value) (c : Ci) (hc : IsC w vc c) (vi : Value) (inp : List Int) (hi : RowU w vi inp) (hbad : (checkC c != 0) = true) :
    Calls Tryd.prog 3 #[vc, vi] w fun e w' => e = .returned (.bool true) ∧ Below w.heap.size w w' := by
  have HC := Lib.hid hc; have Hi := Lib.hid hi; have Hbad := Lib.hid hbad
  obtain ⟨ac, cc, rfl⟩ := shapeV hc
  clear hc hi hbad
  go_enter Tryd.func3, Tryd.ntmps3
  go_wp2_with (fail)
  obtain ⟨W1, hW, k0, k1, B1, s1⟩ := copied2' w (.int .i64 c.log) (.slice ac c.layers.length cc) 24
  rw [hW]
  have H1 := Lib.hid B1
  have L1 : w.heap.size < W1.heap.size := by omega
  have K1 := Lib.hid (show ∀ X, Below W1.heap.size W1 X → X.cell? ⟨w.heap.size, 0, none⟩ = some (.int .i64 c.log) ∧ X.cell? ⟨w.heap.size, 1, none⟩ = some (.slice ac c.layers.length cc) from fun X hX => ⟨(hX.cell (p := ⟨w.heap.size, 0, none⟩) L1).trans k0, (hX.cell (p := ⟨w.heap.size, 1, none⟩) L1).trans k1⟩)
  clear hW s1 B1 k0 k1 L1
  refine (rc_Circuit _ c _ (HC.out.below H1.out (Nat.le_refl _))).mono ?_
  rintro e w2 ⟨rfl, hb2⟩
  obtain ⟨q0, q1⟩ := K1.out w2 hb2
  have H2 := Lib.hid hb2
  have CR := Lib.hid (fun X (hX : Below W1.heap.size W1 X) => c_Run_no _ c _ inp X (HC.out.below (below_two H1.out hX) (Nat.le_refl _)) (Hi.out.below (below_two H1.out hX) (Nat.le_refl _)) Hbad.out)
  have CP := Lib.hid (fun X (hX : Below W1.heap.size W1 X) => c_Print_bad _ c X (HC.out.below (below_two H1.out hX) (Nat.le_refl _)) (by have := Hbad.out; simpa using this))
  have CK := Lib.hid (fun X (hX : Below W1.heap.size W1 X) => c_Check _ c X (HC.out.below (below_two H1.out hX) (Nat.le_refl _)))
  obtain ⟨E, hE⟩ : ∃ E : Int, E = (checkC c : Int) := ⟨_, rfl⟩
  rw [← hE] at CR CP CK ⊢
  have hne : (E == 0) = false := by rw [hE]; have := Hbad.out; simpa using this
  clear hE hb2
  go_wp2_with (fail)
  refine (CR.out w2 H2.out).mono ?_
  rintro e w3 ⟨rfl, hb3⟩
  have H3 := Lib.hid (below_two H2.out hb3)
  clear q0 q1
  obtain ⟨q0, q1⟩ := K1.out w3 H3.out
  clear hb3 CR
  go_wp2_with (fail)
  refine (CP.out w3 H3.out).mono ?_
  rintro e w4 ⟨rfl, hb4⟩
  have H4 := Lib.hid (below_two H3.out hb4)
  clear q0 q1
  obtain ⟨q0, q1⟩ := K1.out w4 H4.out
  clear hb4 CP
  go_wp2_with (fail)
  refine (CK.out w4 H4.out).mono ?_
  rintro e w5 ⟨rfl, hb5⟩
  have H5 := Lib.hid (below_two H4.out hb5)
  clear hb5 CK q0 q1
  have CS := Lib.hid (fun X => law_same [] (.slice none 0 0) (.slice none 0 0) X ⟨by simp, none, 0, rfl, fun h => by simp at h⟩ ⟨by simp, none, 0, rfl, fun h => by simp at h⟩)
  go_wp2_with (go_at_call 12; refine (CS.out _).mono ?_; rintro e w6 ⟨rfl, hd6⟩)
  go_wp2
  go_ret
  exact ⟨rfl, (below_two H1.out H5.out).trans (hd6.below.mono (below_two H1.out H5.out).size)⟩
theorem one_nil (w : World) : RowUU w (.slice none 0 0) [] := ⟨by simp, none, 0, rfl, fun h => by simp at h⟩
set_option maxRecDepth 100000 in
set_option maxHeartbeats 8000000 in
theorem circuitSays_form (w : World) (vc : Value) (c : Ci) (hc : IsC w vc c) (vi : Value) (inp : List Int) (hi : RowU w vi inp) (hc0 : checkC c = 0) (hl : inp.length ≠ 2 ^ c.log.toNat) :
    Calls Tryd.prog 3 #[vc, vi] w fun e w' => e = .returned (.bool true) ∧ Below w.heap.size w w' := by
  have HC := Lib.hid hc; have Hi := Lib.hid hi; have Hc0 := Lib.hid hc0; have Hl := Lib.hid hl
  have HG := Lib.hid (good_of_check hc0)
  have h0 := HG.out.log0
  have h4 := HG.out.log4
  obtain ⟨ac, cc, rfl⟩ := shapeV hc
  obtain ⟨_, hil, ai, ci, rfl, _⟩ := hi
  clear hc hc0 hl
  go_enter Tryd.func3, Tryd.ntmps3
  go_wp2_with (fail)
  obtain ⟨W1, hW, k0, k1, B1, s1⟩ := copied2' w (.int .i64 c.log) (.slice ac c.layers.length cc) 24
  rw [hW]
  have H1 := Lib.hid B1
  have L1 : w.heap.size < W1.heap.size := by omega
  have K1 := Lib.hid (show ∀ X, Below W1.heap.size W1 X → X.cell? ⟨w.heap.size, 0, none⟩ = some (.int .i64 c.log) ∧ X.cell? ⟨w.heap.size, 1, none⟩ = some (.slice ac c.layers.length cc) from fun X hX => ⟨(hX.cell (p := ⟨w.heap.size, 0, none⟩) L1).trans k0, (hX.cell (p := ⟨w.heap.size, 1, none⟩) L1).trans k1⟩)
  clear hW s1 B1 k0 k1 L1
  refine (rc_Circuit _ c _ (HC.out.below H1.out (Nat.le_refl _))).mono ?_
  rintro e w2 ⟨rfl, hb2⟩
  obtain ⟨q0, q1⟩ := K1.out w2 hb2
  have H2 := Lib.hid hb2
  have CT := Lib.hid (fun X (hX : Below W1.heap.size W1 X) => ref_CircuitText _ c X (HC.out.below (below_two H1.out hX) (Nat.le_refl _)) HG.out)
  have CR := Lib.hid (fun X (hX : Below W1.heap.size W1 X) => c_Run_form _ c _ inp X (HC.out.below (below_two H1.out hX) (Nat.le_refl _)) (Hi.out.below (below_two H1.out hX) (Nat.le_refl _)) HG.out Hc0.out Hl.out)
  have CP := Lib.hid (fun X (hX : Below W1.heap.size W1 X) => c_Print _ c X (HC.out.below (below_two H1.out hX) (Nat.le_refl _)) HG.out Hc0.out)
  have CK := Lib.hid (fun X (hX : Below W1.heap.size W1 X) => c_Check _ c X (HC.out.below (below_two H1.out hX) (Nat.le_refl _)))
  have CS := Lib.hid (fun X => law_same [] (.slice none 0 0) (.slice none 0 0) X (one_nil X) (one_nil X))
  obtain ⟨TX, hTX⟩ : ∃ TX, TX = circB c := ⟨_, rfl⟩
  rw [← hTX] at CT CP
  rw [Hc0.out] at CK ⊢
  clear hTX hb2
  go_wp2_with (fail)
  refine (CT.out w2 H2.out).mono ?_
  rintro e w3 ⟨rfl, hb3⟩
  have H3 := Lib.hid (below_two H2.out hb3)
  clear q0 q1
  obtain ⟨q0, q1⟩ := K1.out w3 H3.out
  clear hb3 CT
  obtain ⟨P, hP⟩ : ∃ P, wrap64 (2 ^ c.log.toNat) = P := ⟨_, rfl⟩
  have hbn : ((inp.length : Int) == P) = false := by
    have hw := wrap4 h4
    rw [← hP, hw]
    simpa using fun e => Hl.out (Int.ofNat_inj.mp e)
  go_wp2_with (fail)
  clear hbn
  refine (CR.out w3 H3.out).mono ?_
  rintro e w4 ⟨rfl, hb4⟩
  have H4 := Lib.hid (below_two H3.out hb4)
  clear q0 q1
  obtain ⟨q0, q1⟩ := K1.out w4 H4.out
  clear hb4 CR
  rw [hP]
  clear hP
  go_wp2_with (fail)
  refine (CP.out w4 H4.out).mono ?_
  rintro e w5 ⟨rfl, hb5⟩
  have H5 := Lib.hid (below_two H4.out hb5)
  clear q0 q1
  obtain ⟨q0, q1⟩ := K1.out w5 H5.out
  clear hb5 CP
  go_wp2_with (fail)
  refine (CK.out w5 H5.out).mono ?_
  rintro e w6 ⟨rfl, hb6⟩
  have H6 := Lib.hid (below_two H5.out hb6)
  clear hb6 CK q0 q1
  go_wp2_with (go_at_call 12; refine (CS.out _).mono ?_; rintro e w7 ⟨rfl, hd7⟩)
  go_wp2
  go_ret
  exact ⟨by simp, (below_two H1.out H6.out).trans (hd7.below.mono (below_two H1.out H6.out).size)⟩
set_option maxRecDepth 100000 in
set_option maxHeartbeats 8000000 in
theorem circuitSays_right (w : World) (vc : Value) (c : Ci) (hc : IsC w vc c) (vi : Value) (inp : List Int) (hi : RowU w vi inp) (hc0 : checkC c = 0) (hl : inp.length = 2 ^ c.log.toNat) :
    Calls Tryd.prog 3 #[vc, vi] w fun e w' => e = .returned (.bool true) ∧ Below w.heap.size w w' := by
  have HC := Lib.hid hc; have Hi := Lib.hid hi; have Hc0 := Lib.hid hc0; have Hl := Lib.hid hl
  have HG := Lib.hid (good_of_check hc0)
  have h0 := HG.out.log0
  have h4 := HG.out.log4
  have hn4 := HG.out.n4
  obtain ⟨ac, cc, rfl⟩ := shapeV hc
  obtain ⟨_, hil, ai, ci, rfl, _⟩ := hi
  clear hc hc0 hl
  go_enter Tryd.func3, Tryd.ntmps3
  go_wp2_with (fail)
  obtain ⟨W1, hW, k0, k1, B1, s1⟩ := copied2' w (.int .i64 c.log) (.slice ac c.layers.length cc) 24
  rw [hW]
  have H1 := Lib.hid B1
  have L1 : w.heap.size < W1.heap.size := by omega
  have K1 := Lib.hid (show ∀ X, Below W1.heap.size W1 X → X.cell? ⟨w.heap.size, 0, none⟩ = some (.int .i64 c.log) ∧ X.cell? ⟨w.heap.size, 1, none⟩ = some (.slice ac c.layers.length cc) from fun X hX => ⟨(hX.cell (p := ⟨w.heap.size, 0, none⟩) L1).trans k0, (hX.cell (p := ⟨w.heap.size, 1, none⟩) L1).trans k1⟩)
  clear hW s1 B1 k0 k1 L1
  refine (rc_Circuit _ c _ (HC.out.below H1.out (Nat.le_refl _))).mono ?_
  rintro e w2 ⟨rfl, hb2⟩
  obtain ⟨q0, q1⟩ := K1.out w2 hb2
  have H2 := Lib.hid hb2
  obtain ⟨I, hI⟩ : ∃ I, I = inp.map phi := ⟨_, rfl⟩
  have CT := Lib.hid (fun X (hX : Below W1.heap.size W1 X) => ref_CircuitText _ c X (HC.out.below (below_two H1.out hX) (Nat.le_refl _)) HG.out)
  have CV := Lib.hid (fun X (hX : Below W1.heap.size W1 X) q (hq : q ≤ c.layers.length) => ref_Values c inp HG.out Hl.out q hq _ _ X (HC.out.below (below_two H1.out hX) (Nat.le_refl _)) (Hi.out.below (below_two H1.out hX) (Nat.le_refl _)))
  have CR := Lib.hid (fun X (hX : Below W1.heap.size W1 X) => c_Run _ c _ inp X (HC.out.below (below_two H1.out hX) (Nat.le_refl _)) (Hi.out.below (below_two H1.out hX) (Nat.le_refl _)) HG.out Hc0.out Hl.out)
  have CP := Lib.hid (fun X (hX : Below W1.heap.size W1 X) => c_Print _ c X (HC.out.below (below_two H1.out hX) (Nat.le_refl _)) HG.out Hc0.out)
  have CK := Lib.hid (fun X (hX : Below W1.heap.size W1 X) => c_Check _ c X (HC.out.below (below_two H1.out hX) (Nat.le_refl _)))
  obtain ⟨TX, hTX⟩ : ∃ TX, TX = circB c := ⟨_, rfl⟩
  rw [← hTX] at CT CP
  rw [← hI] at CV CR
  rw [show valsI c I c.layers.length = vlist c I (c.layers.length + 1) from rfl] at CR
  rw [Hc0.out] at CK ⊢
  have HIl := Lib.hid (fun k (hk : k ≤ c.layers.length) => show ((valF c I k).map psi).length ≤ 16 by rw [List.length_map, valF_length HG.out I (by rw [hI, List.length_map]; exact Hl.out) k hk]; exact (pow4 (HG.out.below4 hk)).2)
  clear hTX hb2 hI
  go_wp2_with (fail)
  refine (CT.out w2 H2.out).mono ?_
  rintro e w3 ⟨rfl, hb3⟩
  have H3 := Lib.hid (below_two H2.out hb3)
  clear q0 q1
  obtain ⟨q0, q1⟩ := K1.out w3 H3.out
  clear hb3 CT
  obtain ⟨P, hP⟩ : ∃ P, wrap64 (2 ^ c.log.toNat) = P := ⟨_, rfl⟩
  have hbn : ((inp.length : Int) == P) = true := by
    have hw := wrap4 h4
    rw [← hP, hw, ← Hl.out]
    simp
  go_wp2_with (fail)
  rw [hP]
  clear hP hbn
  go_loopw [8, 31] (fun o i wr => ∃ k : Nat, k ≤ c.layers.length + 1 ∧ i = .int .i64 (k : Int) ∧ Hid (NewUU w3.heap.size wr o (vlist c I k)) ∧ Hid (Below w3.heap.size w3 wr)) (fun _ i _ => c.layers.length + 1 - (intOf i).toNat)
  case atStart => exact ⟨0, by omega, rfl, NewUU.nil _ _, Below.refl _ _⟩
  case round =>
    obtain ⟨k, hk, rfl, HO, HB⟩ := hrel
    have HBw := Lib.hid (below_two H3.out HB.out)
    clear q0 q1
    obtain ⟨q0, q1⟩ := K1.out _ HBw.out
    by_cases hz : k < c.layers.length + 1
    · have hz1 : (k : Int) < (c.layers.length : Int) + 1 := by omega
      have CV1 := Lib.hid (CV.out _ HBw.out k (by omega))
      have Hl16 := HIl.out k (by omega)
      have HS := Lib.hid (vlist_succ c I k)
      obtain ⟨LV, hLV⟩ : ∃ LV, LV = (valF c I k).map psi := ⟨_, rfl⟩
      rw [← hLV] at CV1 Hl16 HS
      clear hLV
      obtain ⟨wo, rfl⟩ : ∃ x : World, x = wr := ⟨_, rfl⟩
      go_wp2_with (fail)
      refine CV1.out.mono ?_
      rintro e w4 ⟨vn, rfl, hn4v, hb4⟩
      have HOi := Lib.hid (HO.out.below hb4 (Nat.le_refl _))
      have HNi := Lib.hid (hn4v.mono HB.out.size)
      have hsz := HB.out.size
      have hlo := Lib.hid (show ∀ g, u8.ownBlock = some g → vn.ownBlock ≠ some g from fun g h1 h2 => by
        have a1 := (HO.out.lt h1).2
        have a2 := (hn4v.lt h2).1
        omega)
      have hcapo : (vlist c I k).length + 1 ≤ 5864062014634 := by rw [vlist_length]; omega
      have hszo : w3.heap.size ≤ w4.heap.size := by have := hb4.size; omega
      have HB4 := Lib.hid (below_two HB.out hb4)
      obtain ⟨an, cn', rfl⟩ := HNi.out.isSlice
      clear hn4v hb4 CV1 q0 q1
      go_wp2_with (at_builtin; refine wpList_appUU rfl _ _ rfl w3.heap.size u8 _ rfl HOi.out _ _ HNi.out hlo.out rfl hcapo hszo ?_; intro v5 w5 hn5 hu5 hb5; have Hn5 := Lib.hid hn5; have HB5 := Lib.hid (HB4.out.trans hb5); clear hn5 hu5 hb5)
      go_roundw
      case rel => exact ⟨k + 1, by omega, by go_num, by rw [HS.out]; exact Hn5.out, HB5.out⟩
      case measure => simp [intOf]; omega
    · obtain rfl : k = c.layers.length + 1 := by omega
      obtain ⟨ao, co, en⟩ := HO.out.isSlice
      rw [vlist_length] at en
      subst en
      have HBk := Lib.hid HB.out
      obtain ⟨wo, rfl⟩ : ∃ x : World, x = wr := ⟨_, rfl⟩
      go_wp2_with (fail)
      refine (CR.out _ HBw.out).mono ?_
      rintro e w4 ⟨vl, rfl, hnl, hb4⟩
      have H4 := Lib.hid (below_two HBw.out hb4)
      have HO4 := Lib.hid (NewUU.rows (HO.out.below hb4 (Nat.le_refl _)))
      have HL4 := Lib.hid hnl.rows
      clear q0 q1 hnl hb4 CR HB
      obtain ⟨q0, q1⟩ := K1.out _ H4.out
      go_wp2_with (fail)
      refine (CP.out w4 H4.out).mono ?_
      rintro e w5 ⟨rfl, hb5⟩
      have H5 := Lib.hid (below_two H4.out hb5)
      have HO5 := Lib.hid (HO4.out.below hb5 (Nat.le_refl _))
      have HL5 := Lib.hid (HL4.out.below hb5 (Nat.le_refl _))
      clear q0 q1
      obtain ⟨q0, q1⟩ := K1.out w5 H5.out
      clear hb5 CP
      go_wp2_with (fail)
      refine (CK.out w5 H5.out).mono ?_
      rintro e w6 ⟨rfl, hb6⟩
      have H6 := Lib.hid (below_two H5.out hb6)
      have CS := Lib.hid (law_same _ _ _ _ (HL5.out.below hb6 (Nat.le_refl _)) (HO5.out.below hb6 (Nat.le_refl _)))
      clear hb6 CK q0 q1
      go_wp2_with (fail)
      refine CS.out.mono ?_
      rintro e w7 ⟨rfl, hd7⟩
      go_wp2
      go_ret
      exact ⟨by simp, (below_two H1.out H6.out).trans (hd7.below.mono (below_two H1.out H6.out).size)⟩
theorem circuitSays_walk (w : World) (vc : Value) (c : Ci) (hc : IsC w vc c) (vi : Value) (inp : List Int) (hi : RowU w vi inp) :
    Calls Tryd.prog 3 #[vc, vi] w fun e w' => e = .returned (.bool true) ∧ Below w.heap.size w w' := by
  by_cases h : checkC c = 0
  · by_cases hl : inp.length = 2 ^ c.log.toNat
    · exact circuitSays_right w vc c hc vi inp hi h hl
    · exact circuitSays_form w vc c hc vi inp hi h hl
  · exact circuitSays_bad w vc c hc vi inp hi (by simpa using h)
end Go.Proofs.YtopmlieadcpdmaaDoor
