/- The walk of the law GkrVerifies: it returns true, whatever is handed in; gkr's Form and Verify of wrong circuits and wrong sizes. The table of bits lies as its initialiser lays it. -/
import Derived.Test.YtnleihjdllpniaaDoorRHolds
namespace Go.Proofs.YtnleihjdllpniaaDoor
set_option maxRecDepth 100000
set_option linter.unusedVariables false
open Go.RowKit Tally
open Go.Sort (grow)
set_option maxRecDepth 100000 in
set_option maxHeartbeats 4000000 in
theorem gkr_Form_no (v : Value) (c : Ci) (vp : Value) (ps : List Pi) (w : World) (h : IsC w v c) (hne : (checkC c != 0) = true) (hp : IsP w vp ps) :
    Calls Tryd.prog 42 #[v, vp] w fun e w' => e = .returned (.int .i64 (checkC c)) ∧ Below w.heap.size w w' := by
  have HC := Lib.hid h
  obtain ⟨ac, cc, rfl⟩ := h.shape
  obtain ⟨vs, rfl, hps⟩ := hp
  obtain ⟨_, aP, cP, rfl, -⟩ := hps
  obtain ⟨E, hE⟩ : ∃ E, E = checkC c := ⟨_, rfl⟩
  rw [← hE] at hne ⊢
  have HE := Lib.hid hE
  clear h hE
  go_enter Tryd.func42, Tryd.ntmps42
  go_wp2_with (fail)
  obtain ⟨W, tb, hW, htb, hb1, hb2, s1, B1⟩ := two_blocks' w #[.int .i64 c.log, .slice ac c.layers.length cc] #[.slice aP ps.length cP] 24 37
  rw [hW]
  have H1 := Lib.hid B1
  clear hW htb hb1 hb2 s1 B1
  refine (c_Check _ c _ (HC.out.go H1.out)).mono ?_
  rintro e w2 ⟨rfl, bw2⟩
  rw [← HE.out]
  have H2 := Lib.hid (below_two H1.out bw2)
  clear bw2
  go_wp2
  go_ret
  exact ⟨rfl, H2.out⟩
set_option maxRecDepth 100000 in
set_option maxHeartbeats 4000000 in
theorem gkr_form_no (v : Value) (c : Ci) (vi vo vp vd : Value) (ps : List Pi) (w : World) (h : IsC w v c) (hne : (checkC c != 0) = true) (hp : IsP w vp ps) :
    Calls Tryd.prog 58 #[v, vi, vo, vp, vd] w fun e w' => e = .returned (.int .i64 (checkC c)) ∧ Below w.heap.size w w' := by
  have HC := Lib.hid h
  obtain ⟨ac, cc, rfl⟩ := h.shape
  obtain ⟨vs, rfl, hps⟩ := hp
  obtain ⟨_, aP, cP, rfl, -⟩ := hps
  obtain ⟨E, hE⟩ : ∃ E, E = checkC c := ⟨_, rfl⟩
  rw [← hE] at hne ⊢
  have HE := Lib.hid hE
  clear h hE
  go_enter Tryd.func58, Tryd.ntmps58
  go_wp2_with (fail)
  obtain ⟨W, tb, hW, htb, hb1, hb2, s1, B1⟩ := two_blocks' w #[.int .i64 c.log, .slice ac c.layers.length cc] #[.slice aP ps.length cP] 24 37
  rw [hW]
  have H1 := Lib.hid B1
  clear hW htb hb1 hb2 s1 B1
  refine (c_Check _ c _ (HC.out.go H1.out)).mono ?_
  rintro e w2 ⟨rfl, bw2⟩
  rw [← HE.out]
  have H2 := Lib.hid (below_two H1.out bw2)
  clear bw2
  go_wp2
  go_ret
  exact ⟨rfl, H2.out⟩
set_option maxRecDepth 100000 in
set_option maxHeartbeats 4000000 in
theorem gkr_Verify_no (v : Value) (c : Ci) (vi vo vp vd : Value) (ps : List Pi) (w : World) (h : IsC w v c) (hne : (checkC c != 0) = true) (hp : IsP w vp ps) :
    Calls Tryd.prog 20 #[v, vi, vo, vp, vd] w fun e w' => e = .returned (.tuple #[.bool false, .int .i64 (checkC c)]) ∧ Below w.heap.size w w' := by
  have HC := Lib.hid h; have HP := Lib.hid hp; have HN := Lib.hid hne
  obtain ⟨ac, cc, rfl⟩ := h.shape
  obtain ⟨vs, rfl, hps⟩ := hp
  obtain ⟨_, aP, cP, rfl, -⟩ := hps
  obtain ⟨E, hE⟩ : ∃ E, E = checkC c := ⟨_, rfl⟩
  rw [← hE] at hne ⊢
  have HE := Lib.hid hE
  clear h hE
  go_enter Tryd.func20, Tryd.ntmps20
  go_wp2_with (fail)
  obtain ⟨W, tb, hW, htb, hb1, hb2, s1, B1⟩ := two_blocks' w #[.int .i64 c.log, .slice ac c.layers.length cc] #[.slice aP ps.length cP] 24 37
  rw [hW]
  have H1 := Lib.hid B1
  clear hW htb hb1 hb2 s1 B1
  refine (gkr_form_no _ c _ _ _ _ ps _ (HC.out.go H1.out) HN.out (HP.out.go H1.out)).mono ?_
  rintro e w2 ⟨rfl, bw2⟩
  rw [← HE.out]
  have H2 := Lib.hid (below_two H1.out bw2)
  clear bw2
  go_wp2
  go_ret2
  exact ⟨rfl, H2.out⟩
set_option maxRecDepth 100000 in
set_option maxHeartbeats 4000000 in
theorem gkr_Verify_bad (v : Value) (c : Ci) (vi vo vp vd : Value) (inp out : List Int) (ps : List Pi) (d : List Int) (w : World) (h : IsC w v c) (hc0 : checkC c = 0) (hne : (verE c inp out ps d != 0) = true) (hi : RowU w vi inp) (ho : RowU w vo out) (hp : IsP w vp ps) (hd : RowU w vd d) :
    Calls Tryd.prog 20 #[v, vi, vo, vp, vd] w fun e w' => e = .returned (.tuple #[.bool false, .int .i64 (verE c inp out ps d)]) ∧ Below w.heap.size w w' := by
  have HC := Lib.hid h; have HP := Lib.hid hp; have HN := Lib.hid hne
  have Hc0 := Lib.hid hc0; have Hi := Lib.hid hi; have Ho := Lib.hid ho; have Hd := Lib.hid hd
  obtain ⟨ac, cc, rfl⟩ := h.shape
  obtain ⟨vs, rfl, hps⟩ := hp
  obtain ⟨_, aP, cP, rfl, -⟩ := hps
  obtain ⟨E, hE⟩ : ∃ E, E = verE c inp out ps d := ⟨_, rfl⟩
  rw [← hE] at hne ⊢
  have HE := Lib.hid hE
  clear h hE hi ho hd hc0
  go_enter Tryd.func20, Tryd.ntmps20
  go_wp2_with (fail)
  obtain ⟨W, tb, hW, htb, hb1, hb2, s1, B1⟩ := two_blocks' w #[.int .i64 c.log, .slice ac c.layers.length cc] #[.slice aP ps.length cP] 24 37
  rw [hW]
  have H1 := Lib.hid B1
  clear hW htb hb1 hb2 s1 B1
  refine (gkr_form _ c _ _ _ _ inp out ps d _ (HC.out.go H1.out) Hc0.out (Hi.out.go H1.out) (Ho.out.go H1.out) (HP.out.go H1.out) (Hd.out.go H1.out)).mono ?_
  rintro e w2 ⟨rfl, bw2⟩
  rw [← HE.out]
  have H2 := Lib.hid (below_two H1.out bw2)
  clear bw2
  go_wp2
  go_ret2
  exact ⟨rfl, H2.out⟩
set_option maxRecDepth 100000 in
set_option maxHeartbeats 8000000 in
theorem gkrVerifies_walk (w : World) (hT : Tab w) (v : Value) (c : Ci) (h : IsC w v c) (vi : Value) (inp : List Int) (hi : RowU w vi inp) (vo : Value) (out : List Int) (ho : RowU w vo out) (vp : Value) (ps : List Pi) (hp : IsP w vp ps) (vd : Value) (d : List Int) (hd : RowU w vd d) (hcd : CapOk vd) :
    Calls Tryd.prog 8 #[v, vi, vo, vp, vd] w fun e w' => e = .returned (.bool true) ∧ Below w.heap.size w w' := by
  have HT := Lib.hid hT; have HC := Lib.hid h; have HP := Lib.hid hp; have Hi := Lib.hid hi; have Ho := Lib.hid ho; have Hd := Lib.hid hd; have Hcd := Lib.hid hcd
  obtain ⟨hlog, uu, rfl, hls, hll, aC, cc, rfl, hr⟩ := h
  have Hr := Lib.hid hr
  obtain ⟨vs, rfl, hps⟩ := hp
  obtain ⟨_, aP, cP, rfl, -⟩ := hps
  obtain ⟨nP, hnP⟩ : ∃ nP, nP = ps.length := ⟨_, rfl⟩
  rw [← hnP] at HP ⊢
  obtain ⟨_, _, ai, ci, rfl, -⟩ := hi
  obtain ⟨_, _, ao, co, rfl, -⟩ := ho
  obtain ⟨_, _, ad, cd, rfl, -⟩ := hd
  clear hT hr hls hnP hcd
  go_enter Tryd.func8, Tryd.ntmps8
  go_wp2_with (fail)
  obtain ⟨W, tb, hW, htb, hb1, hb2, s1, B1⟩ := two_blocks' w #[.int .i64 c.log, .slice aC c.layers.length cc] #[.slice aP nP cP] 24 37
  rw [hW, ← htb]
  have H1 := Lib.hid B1
  have C1 := Lib.hid (show ∀ X, Below W.heap.size W X → X.cell? ⟨tb, 0, none⟩ = some (.int .i64 c.log) ∧ X.cell? ⟨tb, 1, none⟩ = some (.slice aC c.layers.length cc) ∧ X.cell? ⟨tb + 1, 0, none⟩ = some (.slice aP nP cP) from fun X hX =>
    ⟨cell_blk ((hX.block _ (blk_lt hb1)).trans hb1) 0, cell_blk ((hX.block _ (blk_lt hb1)).trans hb1) 1, cell_blk ((hX.block _ (blk_lt hb2)).trans hb2) 0⟩)
  clear hW htb hb1 hb2 s1 B1
  refine (rc_Circuit _ c _ (HC.out.go H1.out)).mono ?_
  rintro e w2 ⟨rfl, hb2⟩
  have HB2 := Lib.hid hb2
  have H2 := Lib.hid (below_two H1.out hb2)
  obtain ⟨q0, q1, q2⟩ := C1.out w2 hb2
  clear hb2
  by_cases hc : checkC c = 0
  · have HG := Lib.hid (good_of_check hc)
    have Hc := Lib.hid hc
    rw [hc]
    have hn1 := HG.out.n1; have hn4 := HG.out.n4
    have hl0 := HG.out.log0; have hl4 := HG.out.log4
    have hDN := drawsN_le HG.out
    obtain ⟨m, hm⟩ : ∃ m, c.layers.length = m + 1 := ⟨c.layers.length - 1, by omega⟩
    obtain ⟨bC, oC, rfl, hCl, hcell⟩ := Hr.out (by omega)
    obtain ⟨c1, _⟩ := hcell m (by omega)
    have hbl : belowLog c c.layers.length = (aty c.layers m).log := by rw [hm, belowLog_succ]
    have t0 := HG.out.below0 (k := c.layers.length) (Nat.le_refl _)
    have t4 := HG.out.below4 (k := c.layers.length) (Nat.le_refl _)
    rw [← hbl] at c1
    obtain ⟨TL, hTL⟩ : ∃ TL, TL = belowLog c c.layers.length := ⟨_, rfl⟩
    rw [← hTL] at c1 t0 t4
    have HTL := Lib.hid hTL
    have Hc1 := Lib.hid c1
    have hs1 : (c.layers.length : Int) - 1 = (m : Int) := by omega
    have hml : (m : Int) < (c.layers.length : Int) := by omega
    have hm0 : (0 : Int) ≤ (m : Int) := by omega
    have hL1 : (1 : Int) ≤ (c.layers.length : Int) := by omega
    have Hm := Lib.hid hm
    obtain ⟨P, hP⟩ : ∃ P, wrap64 (2 ^ c.log.toNat) = P := ⟨_, rfl⟩
    have HPe := Lib.hid (show P = ((2 ^ c.log.toNat : Nat) : Int) by rw [← hP]; exact wrap4 hl4)
    obtain ⟨PT, hPT⟩ : ∃ PT, wrap64 (2 ^ TL.toNat) = PT := ⟨_, rfl⟩
    have HPT := Lib.hid (show PT = ((2 ^ (belowLog c c.layers.length).toNat : Nat) : Int) by rw [← hPT, hTL]; exact wrap4 (by rw [← hTL]; exact t4))
    clear hc hcell hbl hTL c1 hm
    go_wp2_with (fail)
    refine (ref_Shaped _ c _ ps _ (HC.out.go H2.out) Hc.out (HP.out.go H2.out)).mono ?_
    rintro e w3 ⟨rfl, hb3⟩
    have HB3 := Lib.hid (HB2.out.trans (hb3.mono HB2.out.size))
    have H3 := Lib.hid (below_two H2.out hb3)
    clear q0 q1 q2 hb3
    obtain ⟨q0, q1, q2⟩ := C1.out w3 HB3.out
    cases hsh : shapeB c ps with
    | false =>
      have HS := Lib.hid (show ¬ ShapedI c ps from fun e => by rw [shapeB_yes e] at hsh; cases hsh)
      clear hsh
      go_wp2_with (fail)
      refine (gkr_Form _ c _ ps _ (HC.out.go H3.out) Hc.out (HP.out.go H3.out)).mono ?_
      rintro e w4 ⟨rfl, hb4⟩
      rw [shapeE_no HS.out]
      have HB4 := Lib.hid (HB3.out.trans (hb4.mono HB3.out.size))
      have H4 := Lib.hid (below_two H3.out hb4)
      clear q0 q1 q2 hb4
      obtain ⟨q0, q1, q2⟩ := C1.out w4 HB4.out
      have cT := (H4.out.cell (p := ⟨bC, oC + m * 2, none⟩) hCl).trans Hc1.out
      by_cases h1 : inp.length = 2 ^ c.log.toNat
      · have hb1 := neqb HPe.out h1
        by_cases h2 : out.length = 2 ^ (belowLog c c.layers.length).toNat
        · have hb2 := neqb HPT.out h2
          have HVe := Lib.hid (verE_form (d := d) h1 h2 HS.out)
          have HV := Lib.hid (show (verE c inp out ps d != 0) = true by rw [HVe.out]; rfl)
          clear h1 h2
          go_wp2_with (fail)
          refine (gkr_Verify_bad _ c _ _ _ _ inp out ps d _ (HC.out.go H4.out) Hc.out HV.out (Hi.out.go H4.out) (Ho.out.go H4.out) (HP.out.go H4.out) (Hd.out.go H4.out)).mono ?_
          rintro e w9 ⟨rfl, hb9⟩
          rw [HVe.out]
          have H9 := Lib.hid (below_two H4.out hb9)
          clear hb9
          go_wp2
          go_ret
          exact ⟨rfl, H9.out⟩
        · have hb2 := neqt HPT.out h2
          have HVe := Lib.hid (verE_size (c := c) (inp := inp) (out := out) (ps := ps) (d := d) fun e => h2 e.2)
          have HV := Lib.hid (show (verE c inp out ps d != 0) = true by rw [HVe.out]; rfl)
          clear h1 h2
          go_wp2_with (fail)
          refine (gkr_Verify_bad _ c _ _ _ _ inp out ps d _ (HC.out.go H4.out) Hc.out HV.out (Hi.out.go H4.out) (Ho.out.go H4.out) (HP.out.go H4.out) (Hd.out.go H4.out)).mono ?_
          rintro e w9 ⟨rfl, hb9⟩
          rw [HVe.out]
          have H9 := Lib.hid (below_two H4.out hb9)
          clear hb9
          go_wp2
          go_ret
          exact ⟨rfl, H9.out⟩
      · have hb1 := neqt HPe.out h1
        have HVe := Lib.hid (verE_size (c := c) (inp := inp) (out := out) (ps := ps) (d := d) fun e => h1 e.1)
        have HV := Lib.hid (show (verE c inp out ps d != 0) = true by rw [HVe.out]; rfl)
        clear h1
        go_wp2_with (fail)
        refine (gkr_Verify_bad _ c _ _ _ _ inp out ps d _ (HC.out.go H4.out) Hc.out HV.out (Hi.out.go H4.out) (Ho.out.go H4.out) (HP.out.go H4.out) (Hd.out.go H4.out)).mono ?_
        rintro e w9 ⟨rfl, hb9⟩
        rw [HVe.out]
        have H9 := Lib.hid (below_two H4.out hb9)
        clear hb9
        go_wp2
        go_ret
        exact ⟨rfl, H9.out⟩
    | true =>
      have HS := Lib.hid (shapeB_is hsh)
      clear hsh
      go_wp2_with (fail)
      refine (gkr_Form _ c _ ps _ (HC.out.go H3.out) Hc.out (HP.out.go H3.out)).mono ?_
      rintro e w4 ⟨rfl, hb4⟩
      rw [shapeE_yes HS.out]
      have HB4 := Lib.hid (HB3.out.trans (hb4.mono HB3.out.size))
      have H4 := Lib.hid (below_two H3.out hb4)
      clear q0 q1 q2 hb4
      obtain ⟨q0, q1, q2⟩ := C1.out w4 HB4.out
      have cT := (H4.out.cell (p := ⟨bC, oC + m * 2, none⟩) hCl).trans Hc1.out
      by_cases h1 : inp.length = 2 ^ c.log.toNat
      · have hb1 := neqb HPe.out h1
        by_cases h2 : out.length = 2 ^ (belowLog c c.layers.length).toNat
        · have hb2 := neqb HPT.out h2
          have Hh1 := Lib.hid h1; have Hh2 := Lib.hid h2
          clear h1 h2
          go_wp2_with (fail)
          refine (ref_Need _ c _ (HC.out.go H4.out) HG.out).mono ?_
          rintro e w5 ⟨rfl, hb5⟩
          obtain ⟨DN, hDNe⟩ : ∃ DN, DN = drawsN c := ⟨_, rfl⟩
          rw [← hDNe] at hDN ⊢
          have HDNe := Lib.hid hDNe
          have HB5 := Lib.hid (HB4.out.trans (hb5.mono HB4.out.size))
          have H5 := Lib.hid (below_two H4.out hb5)
          clear q0 q1 q2 hb5 hDNe
          obtain ⟨q0, q1, q2⟩ := C1.out w5 HB5.out
          by_cases h3 : d.length = DN
          · have hb3 := neqb (P := (DN : Int)) rfl h3
            have Hdl := Lib.hid (h3.trans HDNe.out)
            clear h3
            go_wp2_with (fail)
            refine (gkr_Verify _ c _ _ _ _ inp out ps d _ (HT.out.below H5.out) (HC.out.go H5.out) Hc.out (Hi.out.go H5.out) (Ho.out.go H5.out) (HP.out.go H5.out) (Hd.out.go H5.out) Hcd.out Hh1.out Hh2.out HS.out Hdl.out).mono ?_
            rintro e w6 ⟨rfl, hb6⟩
            have HB6 := Lib.hid (HB5.out.trans (hb6.mono HB5.out.size))
            have H6 := Lib.hid (below_two H5.out hb6)
            clear q0 q1 q2 hb6
            obtain ⟨q0, q1, q2⟩ := C1.out w6 HB6.out
            go_wp2_with (fail)
            refine (ref_Holds _ c _ _ _ _ inp out ps d _ (HC.out.go H6.out) Hc.out (Hi.out.go H6.out) (Ho.out.go H6.out) (HP.out.go H6.out) (Hd.out.go H6.out) Hcd.out Hh1.out Hh2.out HS.out Hdl.out).mono ?_
            rintro e w7 ⟨rfl, hb7⟩
            have H7 := Lib.hid (below_two H6.out hb7)
            clear hb7
            generalize verB c inp out ps d = B
            go_wp2
            go_ret
            exact ⟨ret_b (by simp), H7.out⟩
          · have hb3 := neqt (P := (DN : Int)) rfl h3
            have HVe := Lib.hid (verE_arg Hh1.out Hh2.out HS.out (fun e => h3 (e.trans HDNe.out.symm)))
            have HV := Lib.hid (show (verE c inp out ps d != 0) = true by rw [HVe.out]; rfl)
            clear h3
            go_wp2_with (fail)
            refine (gkr_Verify_bad _ c _ _ _ _ inp out ps d _ (HC.out.go H5.out) Hc.out HV.out (Hi.out.go H5.out) (Ho.out.go H5.out) (HP.out.go H5.out) (Hd.out.go H5.out)).mono ?_
            rintro e w9 ⟨rfl, hb9⟩
            rw [HVe.out]
            have H9 := Lib.hid (below_two H5.out hb9)
            clear hb9
            go_wp2
            go_ret
            exact ⟨rfl, H9.out⟩
        · have hb2 := neqt HPT.out h2
          have HVe := Lib.hid (verE_size (c := c) (inp := inp) (out := out) (ps := ps) (d := d) fun e => h2 e.2)
          have HV := Lib.hid (show (verE c inp out ps d != 0) = true by rw [HVe.out]; rfl)
          clear h1 h2
          go_wp2_with (fail)
          refine (gkr_Verify_bad _ c _ _ _ _ inp out ps d _ (HC.out.go H4.out) Hc.out HV.out (Hi.out.go H4.out) (Ho.out.go H4.out) (HP.out.go H4.out) (Hd.out.go H4.out)).mono ?_
          rintro e w9 ⟨rfl, hb9⟩
          rw [HVe.out]
          have H9 := Lib.hid (below_two H4.out hb9)
          clear hb9
          go_wp2
          go_ret
          exact ⟨rfl, H9.out⟩
      · have hb1 := neqt HPe.out h1
        have HVe := Lib.hid (verE_size (c := c) (inp := inp) (out := out) (ps := ps) (d := d) fun e => h1 e.1)
        have HV := Lib.hid (show (verE c inp out ps d != 0) = true by rw [HVe.out]; rfl)
        clear h1
        go_wp2_with (fail)
        refine (gkr_Verify_bad _ c _ _ _ _ inp out ps d _ (HC.out.go H4.out) Hc.out HV.out (Hi.out.go H4.out) (Ho.out.go H4.out) (HP.out.go H4.out) (Hd.out.go H4.out)).mono ?_
        rintro e w9 ⟨rfl, hb9⟩
        rw [HVe.out]
        have H9 := Lib.hid (below_two H4.out hb9)
        clear hb9
        go_wp2
        go_ret
        exact ⟨rfl, H9.out⟩
  · have hne : (checkC c != 0) = true := by rw [bne_iff_ne]; exact hc
    have hne2 : (checkC c == 0) = false := by rw [beq_eq_false_iff_ne]; exact hc
    have HN := Lib.hid hne
    obtain ⟨E, hE⟩ : ∃ E, E = checkC c := ⟨_, rfl⟩
    rw [← hE] at hne hne2 ⊢
    have HE := Lib.hid hE
    clear hc hE
    go_wp2_with (fail)
    refine (gkr_Form_no _ c _ ps _ (HC.out.go H2.out) HN.out (HP.out.go H2.out)).mono ?_
    rintro e w4 ⟨rfl, hb4⟩
    rw [← HE.out]
    have HB4 := Lib.hid (HB2.out.trans (hb4.mono HB2.out.size))
    have H4 := Lib.hid (below_two H2.out hb4)
    clear q0 q1 q2 hb4
    obtain ⟨q0, q1, q2⟩ := C1.out w4 HB4.out
    go_wp2_with (fail)
    refine (gkr_Verify_no _ c _ _ _ _ ps _ (HC.out.go H4.out) HN.out (HP.out.go H4.out)).mono ?_
    rintro e w5 ⟨rfl, hb5⟩
    rw [← HE.out]
    have H5 := Lib.hid (below_two H4.out hb5)
    clear hb5
    go_wp2
    go_ret
    exact ⟨rfl, H5.out⟩
end Go.Proofs.YtnleihjdllpniaaDoor
