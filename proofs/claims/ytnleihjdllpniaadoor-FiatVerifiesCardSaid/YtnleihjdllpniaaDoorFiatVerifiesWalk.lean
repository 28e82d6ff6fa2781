/- The walk of the law FiatVerifies: it returns true, whatever is handed in; fiat's Verify of wrong circuits and wrong sizes. The table of bits lies as its initialiser lays it. -/
import Derived.Test.YtnleihjdllpniaaDoorGkrVerifiesWalk
import Derived.Test.YtnleihjdllpniaaDoorRDrawnW
namespace Go.Proofs.YtnleihjdllpniaaDoor
set_option maxRecDepth 100000
set_option linter.unusedVariables false
open Go.RowKit Tally
open Go.Sort (grow)
set_option maxRecDepth 100000 in
set_option maxHeartbeats 4000000 in
theorem fiat_Verify_no (v : Value) (c : Ci) (vi vo vp : Value) (ps : List Pi) (w : World) (h : IsC w v c) (hne : (checkC c != 0) = true) (hp : IsP w vp ps) :
    Calls Tryd.prog 22 #[v, vi, vo, vp] w fun e w' => e = .returned (.tuple #[.bool false, .int .i64 (checkC c)]) ∧ Below w.heap.size w w' := by
  have HC := Lib.hid h; have HN := Lib.hid hne
  obtain ⟨ac, cc, rfl⟩ := h.shape
  obtain ⟨vs, rfl, hps⟩ := hp
  obtain ⟨_, aP, cP, rfl, -⟩ := hps
  obtain ⟨E, hE⟩ : ∃ E, E = checkC c := ⟨_, rfl⟩
  rw [← hE] at hne ⊢
  have HE := Lib.hid hE
  clear h hE
  go_enter Tryd.func22, Tryd.ntmps22
  go_wp2_with (fail)
  obtain ⟨W, tb, hW, htb, hb1, hb2, s1, B1⟩ := two_blocks' w #[.int .i64 c.log, .slice ac c.layers.length cc] #[.slice aP ps.length cP] 24 37
  rw [hW]
  have H1 := Lib.hid B1
  clear hW htb hb1 hb2 s1 B1
  refine (gkr_Draws_no _ c _ (HC.out.go H1.out) HN.out).mono ?_
  rintro e w2 ⟨rfl, bw2⟩
  rw [← HE.out]
  have H2 := Lib.hid (below_two H1.out bw2)
  clear bw2
  go_wp2
  go_ret2
  exact ⟨rfl, H2.out⟩
theorem verE_zero {c : Ci} {inp out : List Int} {ps : List Pi} {d : List Int} (hd : d.length = drawsN c) (h : ¬ (inp.length = 2 ^ c.log.toNat ∧ out.length = 2 ^ (belowLog c c.layers.length).toNat ∧ ShapedI c ps)) : verE c inp out ps d = 4 := by
  by_cases h1 : inp.length = 2 ^ c.log.toNat ∧ out.length = 2 ^ (belowLog c c.layers.length).toNat
  · exact verE_form h1.1 h1.2 fun e => h ⟨h1.1, h1.2, e⟩
  · exact verE_size h1
set_option maxRecDepth 100000 in
set_option maxHeartbeats 8000000 in
theorem fiat_Verify_bad (v : Value) (c : Ci) (vi vo vp : Value) (inp out : List Int) (ps : List Pi) (w : World) (h : IsC w v c) (hc0 : checkC c = 0) (hi : RowU w vi inp) (ho : RowU w vo out) (hp : IsP w vp ps)
    (hbad : ¬ (inp.length = 2 ^ c.log.toNat ∧ out.length = 2 ^ (belowLog c c.layers.length).toNat ∧ ShapedI c ps)) :
    Calls Tryd.prog 22 #[v, vi, vo, vp] w fun e w' => e = .returned (.tuple #[.bool false, .int .i64 4]) ∧ Below w.heap.size w w' := by
  have HC := Lib.hid h; have HG := Lib.hid (good_of_check hc0); have Hp := Lib.hid hp; have Hc0 := Lib.hid hc0; have Hi := Lib.hid hi; have Ho := Lib.hid ho
  have HB := Lib.hid hbad
  have hDN := drawsN_le HG.out
  obtain ⟨ac, cc, rfl⟩ := h.shape
  obtain ⟨vs, rfl, hps⟩ := hp
  obtain ⟨_, aP, cP, rfl, -⟩ := hps
  obtain ⟨nP, hnP⟩ : ∃ nP, nP = ps.length := ⟨_, rfl⟩
  rw [← hnP] at Hp ⊢
  clear h hc0 hi ho hbad hnP
  go_enter Tryd.func22, Tryd.ntmps22
  go_wp2_with (fail)
  obtain ⟨W2, cb, hW, hcb, hb1, hb2, s1, B1⟩ := two_blocks' w #[.int .i64 c.log, .slice ac c.layers.length cc] #[.slice aP nP cP] 24 37
  rw [hW, ← hcb]
  have H2 := Lib.hid B1
  have HX2 := Lib.hid (show Boxed cb (.int .i64 c.log) (.slice ac c.layers.length cc) W2 from ⟨cell_blk hb1 0, cell_blk hb1 1, blk_lt hb1⟩)
  have KP2 := Lib.hid (show W2.cell? ⟨cb + 1, 0, none⟩ = some (.slice aP nP cP) from cell_blk hb2 0)
  have lp2 : cb + 1 < W2.heap.size := blk_lt hb2
  clear hW hb1 hb2 s1 B1 hcb
  refine (gkr_Draws _ c _ (HC.out.go H2.out) Hc0.out).mono ?_
  rintro e w3 ⟨rfl, hb3⟩
  obtain ⟨DN, hDN'⟩ : ∃ DN, DN = drawsN c := ⟨_, rfl⟩
  rw [← hDN'] at hDN ⊢
  have HDN := Lib.hid hDN'
  have H3 := Lib.hid (below_two H2.out hb3)
  have HX3 := Lib.hid (HX2.out.go hb3)
  have r0 := HX3.out.c0; have r1 := HX3.out.c1
  have kp3 := (hb3.cell (p := ⟨cb + 1, 0, none⟩) lp2).trans KP2.out
  have lp3 : cb + 1 < w3.heap.size := Nat.lt_of_lt_of_le lp2 hb3.size
  clear hb3 hDN'
  have HV := Lib.hid (verE_zero (inp := inp) (out := out) (ps := ps) (show (List.replicate DN (0 : Int)).length = drawsN c by rw [List.length_replicate, HDN.out]) HB.out)
  have CV := Lib.hid (fun W (hB : Below w3.heap.size w3 W) n (hn : n = DN) g (hg : RowU W (.slice (some ⟨g, 0, none⟩) n n) (List.replicate DN 0)) => show Calls Tryd.prog 20 #[.agg #[.int .i64 c.log, .slice ac c.layers.length cc], vi, vo, .agg #[.slice aP nP cP], .slice (some ⟨g, 0, none⟩) n n] W fun e w' => e = .returned (.tuple #[.bool false, .int .i64 4]) ∧ Below W.heap.size W w' from by
    have := gkr_Verify_bad _ c _ _ _ _ inp out ps (List.replicate DN 0) W (HC.out.go (below_two H3.out hB)) Hc0.out (by rw [HV.out]; rfl) (Hi.out.go (below_two H3.out hB)) (Ho.out.go (below_two H3.out hB)) (Hp.out.go (below_two H3.out hB)) hg
    rwa [HV.out] at this)
  have K3 := Lib.hid (show ∀ X, Below w3.heap.size w3 X → Below w3.heap.size w3 X ∧ X.cell? ⟨cb, 0, none⟩ = some (.int .i64 c.log) ∧ X.cell? ⟨cb, 1, none⟩ = some (.slice ac c.layers.length cc) ∧ X.cell? ⟨cb + 1, 0, none⟩ = some (.slice aP nP cP) from fun X hz =>
    ⟨hz, (HX3.out.go hz).c0, (HX3.out.go hz).c1, (hz.cell (p := ⟨cb + 1, 0, none⟩) lp3).trans kp3⟩)
  have hmk : ∀ w : World, (Instr.makeSlice 25 (.int .i64 (DN : Int)) (.int .i64 (DN : Int))).run Tryd.prog w = .ok (.slice (some ⟨w.heap.size, 0, none⟩) DN DN) (w.alloc (.cells (madeCells #[.int .u64 0] DN) 46)) := fun w =>
    run_make_row' 25 46 (.int .u64 0) 8 Tryd.underlying25 Tryd.infoU rfl .i64 .i64 DN (by omega) (by omega) w
  go_wp2_with (fail)
  go_region_held3 (fun w' => Below w3.heap.size w3 w' ∧ w'.cell? ⟨cb, 0, none⟩ = some (.int .i64 c.log) ∧ w'.cell? ⟨cb, 1, none⟩ = some (.slice ac c.layers.length cc) ∧ w'.cell? ⟨cb + 1, 0, none⟩ = some (.slice aP nP cP))
    (first
      | (refine K3.out _ ?_; (repeat (first | assumption | (with_reducible exact Below.refl _ _) | (with_reducible refine below_dw ?_) | (with_reducible refine below_al' ?_) | (with_reducible refine below_two ?_ (by assumption))))))
    (first
      | (go_at_call 20; (refine (CV.out _ (by (repeat (first | assumption | (with_reducible exact Below.refl _ _) | (with_reducible refine below_dw ?_) | (with_reducible refine below_al' ?_) | (with_reducible refine below_two ?_ (by assumption))))) _ rfl _ (by (first | exact row_made _ _ _ (by simp) (by omega)))).mono ?_); rintro e wv ⟨rfl, hbv⟩))
  have H4 := Lib.hid (show Below w3.heap.size w3 wv by (repeat (first | assumption | (with_reducible exact Below.refl _ _) | (with_reducible refine below_dw ?_) | (with_reducible refine below_al' ?_) | (with_reducible refine below_two ?_ (by assumption)))))
  have H5 := Lib.hid (below_two H3.out H4.out)
  clear hbv hmk kp3 lp3 CV K3
  go_wp2
  go_ret2
  exact ⟨rfl, H5.out⟩
set_option maxRecDepth 100000 in
set_option maxHeartbeats 8000000 in
theorem fiatVerifies_walk (w : World) (hT : Tab w) (v : Value) (c : Ci) (h : IsC w v c) (vi : Value) (inp : List Int) (hi : RowU w vi inp) (vo : Value) (out : List Int) (ho : RowU w vo out) (vp : Value) (ps : List Pi) (hp : IsP w vp ps) :
    Calls Tryd.prog 10 #[v, vi, vo, vp] w fun e w' => e = .returned (.bool true) ∧ Below w.heap.size w w' := by
  have HT := Lib.hid hT; have HC := Lib.hid h; have HP := Lib.hid hp; have Hi := Lib.hid hi; have Ho := Lib.hid ho
  obtain ⟨hlog, uu, rfl, hls, hll, aC, cc, rfl, hr⟩ := h
  have Hr := Lib.hid hr
  obtain ⟨vs, rfl, hps⟩ := hp
  obtain ⟨_, aP, cP, rfl, -⟩ := hps
  obtain ⟨nP, hnP⟩ : ∃ nP, nP = ps.length := ⟨_, rfl⟩
  rw [← hnP] at HP ⊢
  obtain ⟨_, _, ai, ci, rfl, -⟩ := hi
  obtain ⟨_, _, ao, co, rfl, -⟩ := ho
  clear hT hr hls hnP
  go_enter Tryd.func10, Tryd.ntmps10
  go_wp2_with (fail)
  obtain ⟨W, tb, hW, htb, hb1, hb2, s1, B1⟩ := two_blocks' w #[.int .i64 c.log, .slice aC c.layers.length cc] #[.slice aP nP cP] 24 37
  rw [hW, ← htb]
  have H1 := Lib.hid B1
  have C1 := Lib.hid (show ∀ X, Below W.heap.size W X → X.cell? ⟨tb, 0, none⟩ = some (.int .i64 c.log) ∧ X.cell? ⟨tb, 1, none⟩ = some (.slice aC c.layers.length cc) ∧ X.cell? ⟨tb + 1, 0, none⟩ = some (.slice aP nP cP) from fun X hX =>
    ⟨cell_blk ((hX.block _ (blk_lt hb1)).trans hb1) 0, cell_blk ((hX.block _ (blk_lt hb1)).trans hb1) 1, cell_blk ((hX.block _ (blk_lt hb2)).trans hb2) 0⟩)
  clear hW htb hb1 hb2 s1 B1
  refine (rc_Circuit _ c _ (HC.out.go H1.out)).mono ?_
  rintro e w2 ⟨rfl, hb2⟩
  have HB2 := Lib.hid hb2
  have H2 := Lib.hid (below_two H1.out hb2)
  obtain ⟨q0, q1, q2⟩ := C1.out w2 hb2
  clear hb2
  by_cases hc : checkC c = 0
  · have HG := Lib.hid (good_of_check hc)
    have Hc := Lib.hid hc
    rw [hc]
    have hn1 := HG.out.n1; have hn4 := HG.out.n4
    have hl0 := HG.out.log0; have hl4 := HG.out.log4
    obtain ⟨m, hm⟩ : ∃ m, c.layers.length = m + 1 := ⟨c.layers.length - 1, by omega⟩
    obtain ⟨bC, oC, rfl, hCl, hcell⟩ := Hr.out (by omega)
    obtain ⟨c1, _⟩ := hcell m (by omega)
    have hbl : belowLog c c.layers.length = (aty c.layers m).log := by rw [hm, belowLog_succ]
    have t0 := HG.out.below0 (k := c.layers.length) (Nat.le_refl _)
    have t4 := HG.out.below4 (k := c.layers.length) (Nat.le_refl _)
    rw [← hbl] at c1
    obtain ⟨TL, hTL⟩ : ∃ TL, TL = belowLog c c.layers.length := ⟨_, rfl⟩
    rw [← hTL] at c1 t0 t4
    have hs1 : (c.layers.length : Int) - 1 = (m : Int) := by omega
    have hml : (m : Int) < (c.layers.length : Int) := by omega
    have hm0 : (0 : Int) ≤ (m : Int) := by omega
    have hL1 : (1 : Int) ≤ (c.layers.length : Int) := by omega
    obtain ⟨P, hP⟩ : ∃ P, wrap64 (2 ^ c.log.toNat) = P := ⟨_, rfl⟩
    have HPe := Lib.hid (show P = ((2 ^ c.log.toNat : Nat) : Int) by rw [← hP]; exact wrap4 hl4)
    obtain ⟨PT, hPT⟩ : ∃ PT, wrap64 (2 ^ TL.toNat) = PT := ⟨_, rfl⟩
    have HPT := Lib.hid (show PT = ((2 ^ (belowLog c c.layers.length).toNat : Nat) : Int) by rw [← hPT, hTL]; exact wrap4 (by rw [← hTL]; exact t4))
    have cT := (H2.out.cell (p := ⟨bC, oC + m * 2, none⟩) hCl).trans c1
    clear hc hcell hbl hTL c1 hm
    by_cases h1 : inp.length = 2 ^ c.log.toNat
    · have hb1 := neqb HPe.out h1
      by_cases h2 : out.length = 2 ^ (belowLog c c.layers.length).toNat
      · have hb2 := neqb HPT.out h2
        have Hh1 := Lib.hid h1; have Hh2 := Lib.hid h2
        clear h1 h2
        go_wp2_with (fail)
        refine (ref_Shaped _ c _ ps _ (HC.out.go H2.out) Hc.out (HP.out.go H2.out)).mono ?_
        rintro e w3 ⟨rfl, hb3⟩
        have HB3 := Lib.hid (HB2.out.trans (hb3.mono HB2.out.size))
        have H3 := Lib.hid (below_two H2.out hb3)
        clear q0 q1 q2 hb3 cT
        obtain ⟨q0, q1, q2⟩ := C1.out w3 HB3.out
        cases hsh : shapeB c ps with
        | false =>
          have HBad := Lib.hid (show ¬ (inp.length = 2 ^ c.log.toNat ∧ out.length = 2 ^ (belowLog c c.layers.length).toNat ∧ ShapedI c ps) from fun e => by rw [shapeB_yes e.2.2] at hsh; cases hsh)
          clear hsh
          go_wp2_with (fail)
          refine (fiat_Verify_bad _ c _ _ _ inp out ps _ (HC.out.go H3.out) Hc.out (Hi.out.go H3.out) (Ho.out.go H3.out) (HP.out.go H3.out) HBad.out).mono ?_
          rintro e w9 ⟨rfl, hb9⟩
          have H9 := Lib.hid (below_two H3.out hb9)
          clear hb9
          go_wp2_with (fail)
          go_quiet (fail)
          go_wp2
          go_ret
          exact ⟨rfl, below_drewN H9.out _⟩
        | true =>
          have HS := Lib.hid (shapeB_is hsh)
          clear hsh
          go_wp2_with (fail)
          refine (fiat_Verify _ c _ _ _ inp out ps _ (HT.out.below H3.out) (HC.out.go H3.out) Hc.out (Hi.out.go H3.out) (Ho.out.go H3.out) (HP.out.go H3.out) Hh1.out Hh2.out HS.out).mono ?_
          rintro e w4 ⟨rfl, hb4⟩
          have HB4 := Lib.hid (HB3.out.trans (hb4.mono HB3.out.size))
          have H4 := Lib.hid (below_two H3.out hb4)
          obtain ⟨B, hB⟩ : ∃ B, B = verB c inp out ps (drawnI c inp out ps) := ⟨_, rfl⟩
          rw [← hB]
          have CD := Lib.hid (fun W' (hB : Below w4.heap.size w4 W') => (ref_Drawn _ c _ _ _ inp out ps W' (HC.out.go (below_two H4.out hB)) HG.out (Hi.out.go (below_two H4.out hB)) (Ho.out.go (below_two H4.out hB)) (HP.out.go (below_two H4.out hB)) HS.out (by rw [Hh1.out]; have := (pow4 HG.out.log4).2; omega) (by rw [Hh2.out]; have := (pow4 (HG.out.below4 (k := c.layers.length) (Nat.le_refl _))).2; omega)).mono (show ∀ (e : Ending) (w' : World), _ → ∃ a n cp, e = .returned (.slice a n cp) ∧ RowU w' (.slice a n cp) (drawnI c inp out ps) ∧ CapOk (.slice a n cp) ∧ Below W'.heap.size W' w' from fun e w' ⟨vd, he, hn, hb⟩ => by
            obtain ⟨a, cp, rfl⟩ := hn.isSlice
            exact ⟨_, _, _, he, hn.row, hn.cap, hb⟩))
          have CH := Lib.hid (fun W' (hB' : Below w4.heap.size w4 W') vd (hd : RowU W' vd (drawnI c inp out ps)) (hcd : CapOk vd) => show Calls Tryd.prog 43 #[.agg #[.int .i64 c.log, .slice (some ⟨bC, oC, none⟩) c.layers.length cc], .slice ai inp.length ci, .slice ao out.length co, .agg #[.slice aP nP cP], vd] W' fun e w' => e = .returned (.bool B) ∧ Below W'.heap.size W' w' from by
            rw [hB]
            exact ref_Holds _ c _ _ _ _ inp out ps _ W' (HC.out.go (below_two H4.out hB')) Hc.out (Hi.out.go (below_two H4.out hB')) (Ho.out.go (below_two H4.out hB')) (HP.out.go (below_two H4.out hB')) hd hcd Hh1.out Hh2.out HS.out (drawnI_length _ _ HS.out))
          have K4 := Lib.hid (show ∀ X, Below w4.heap.size w4 X → Below w4.heap.size w4 X ∧ X.cell? ⟨tb, 0, none⟩ = some (.int .i64 c.log) ∧ X.cell? ⟨tb, 1, none⟩ = some (.slice (some ⟨bC, oC, none⟩) c.layers.length cc) ∧ X.cell? ⟨tb + 1, 0, none⟩ = some (.slice aP nP cP) from fun X hz => ⟨hz, C1.out X (HB4.out.trans (hz.mono HB4.out.size))⟩)
          clear q0 q1 q2 hb4 hB
          go_wp2_with (fail)
          go_region_held3 (fun w' => Below w4.heap.size w4 w' ∧ w'.cell? ⟨tb, 0, none⟩ = some (.int .i64 c.log) ∧ w'.cell? ⟨tb, 1, none⟩ = some (.slice (some ⟨bC, oC, none⟩) c.layers.length cc) ∧ w'.cell? ⟨tb + 1, 0, none⟩ = some (.slice aP nP cP))
            (first
              | (refine K4.out _ ?_; (repeat (first | assumption | (with_reducible exact Below.refl _ _) | (with_reducible refine below_dw ?_) | (with_reducible refine below_al' ?_) | (with_reducible refine below_two ?_ (by assumption))))))
            (first
              | (go_at_call 48; (with_reducible refine (CD.out _ (by (repeat (first | assumption | (with_reducible exact Below.refl _ _) | (with_reducible refine below_dw ?_) | (with_reducible refine below_al' ?_) | (with_reducible refine below_two ?_ (by assumption)))))).mono ?_); rintro e w5 ⟨a5, n5, c5, rfl, hr5, hc5, hb5⟩)
              | (go_at_call 43; (with_reducible refine (CH.out _ (by (repeat (first | assumption | (with_reducible exact Below.refl _ _) | (with_reducible refine below_dw ?_) | (with_reducible refine below_al' ?_) | (with_reducible refine below_two ?_ (by assumption))))) _ hr5 hc5).mono ?_); rintro e w6 ⟨rfl, hb6⟩))
          all_goals
            have H6 := Lib.hid (below_two H4.out (show Below w4.heap.size w4 w6 by (repeat (first | assumption | (with_reducible exact Below.refl _ _) | (with_reducible refine below_dw ?_) | (with_reducible refine below_al' ?_) | (with_reducible refine below_two ?_ (by assumption))))))
            go_wp2
            go_ret
            exact ⟨ret_b (by simp), H6.out⟩
      · have hb2 := neqt HPT.out h2
        have HBad := Lib.hid (show ¬ (inp.length = 2 ^ c.log.toNat ∧ out.length = 2 ^ (belowLog c c.layers.length).toNat ∧ ShapedI c ps) from fun e => h2 e.2.1)
        clear h1 h2
        go_wp2_with (fail)
        refine (fiat_Verify_bad _ c _ _ _ inp out ps _ (HC.out.go H2.out) Hc.out (Hi.out.go H2.out) (Ho.out.go H2.out) (HP.out.go H2.out) HBad.out).mono ?_
        rintro e w9 ⟨rfl, hb9⟩
        have H9 := Lib.hid (below_two H2.out hb9)
        clear hb9
        go_wp2_with (fail)
        go_quiet (fail)
        go_wp2
        go_ret
        exact ⟨rfl, below_drewN H9.out _⟩
    · have hb1 := neqt HPe.out h1
      have HBad := Lib.hid (show ¬ (inp.length = 2 ^ c.log.toNat ∧ out.length = 2 ^ (belowLog c c.layers.length).toNat ∧ ShapedI c ps) from fun e => h1 e.1)
      clear h1
      go_wp2_with (fail)
      refine (fiat_Verify_bad _ c _ _ _ inp out ps _ (HC.out.go H2.out) Hc.out (Hi.out.go H2.out) (Ho.out.go H2.out) (HP.out.go H2.out) HBad.out).mono ?_
      rintro e w9 ⟨rfl, hb9⟩
      have H9 := Lib.hid (below_two H2.out hb9)
      clear hb9
      go_wp2_with (fail)
      go_quiet (fail)
      go_wp2
      go_ret
      exact ⟨rfl, below_drewN H9.out _⟩
  · have hne : (checkC c != 0) = true := by rw [bne_iff_ne]; exact hc
    have hne2 : (checkC c == 0) = false := by rw [beq_eq_false_iff_ne]; exact hc
    have HN := Lib.hid hne
    obtain ⟨E, hE⟩ : ∃ E, E = checkC c := ⟨_, rfl⟩
    rw [← hE] at hne hne2 ⊢
    have HE := Lib.hid hE
    clear hc hE
    go_wp2_with (fail)
    refine (fiat_Verify_no _ c _ _ _ ps _ (HC.out.go H2.out) HN.out (HP.out.go H2.out)).mono ?_
    rintro e w5 ⟨rfl, hb5⟩
    rw [← HE.out]
    have H5 := Lib.hid (below_two H2.out hb5)
    clear hb5 q0 q1 q2
    go_wp2_with (fail)
    go_quiet (fail)
    go_wp2
    go_ret
    exact ⟨rfl, below_drewN H5.out _⟩
end Go.Proofs.YtnleihjdllpniaaDoor
