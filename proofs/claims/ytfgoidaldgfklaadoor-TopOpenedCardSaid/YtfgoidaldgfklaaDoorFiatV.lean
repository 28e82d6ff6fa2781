/- The walk of fiat.Verify. The circuit is right, the proof has its shape, the lists have the circuit's sizes; the table of bits lies as its initialiser lays it. -/
import Derived.Test.YtfgoidaldgfklaaDoorFiatW
import Derived.Deep.OwnRows
namespace Go.Proofs.YtfgoidaldgfklaaDoor
set_option maxRecDepth 100000
set_option linter.unusedVariables false
open Go.RowKit Tally
open Go.Sort (grow)
theorem shaped_len {c : Ci} {ps : List Pi} (hG : Good c) (h : ShapedI c ps) {j : Nat} (hj : j < c.layers.length) : (atp ps j).rounds.length ≤ 8 ∧ (∀ i, i < (atp ps j).rounds.length → (atl (atp ps j).rounds i).length ≤ 1000) ∧ (atp ps j).line.length ≤ 1000 := by
  have hp := h.2 j (by rw [h.1]; omega)
  have h4 := hG.below4 (k := c.layers.length - 1 - j) (by omega)
  refine ⟨by rw [hp.n]; omega, fun i hi => ?_, by rw [hp.l]; omega⟩
  have := hp.r i (by rw [← hp.n]; exact hi)
  omega
/-- a made row of noughts -/
theorem row_made (w : World) (n g : Nat) (hg : g = w.heap.size) (hn : n ≤ 1000000) : RowU (w.alloc (.cells (madeCells #[.int .u64 0] n) 23)) (.slice (some ⟨g, 0, none⟩) n n) (List.replicate n 0) := by
  subst hg
  refine NewU.row (B := w.heap.size) ⟨fun x hx => by rw [List.eq_of_mem_replicate hx]; exact U64.zero, by simp; omega, ?_⟩
  have := World.ownsRow_lit w (madeCells #[.int .u64 0] n) n (e := 23) (base := w.heap.size) (size := 1) (Nat.le_refl _) (by unfold maxLen; omega) (by rw [size_madeCells, Nat.mul_one])
  rw [toList_madeCells_one] at this
  rw [List.length_replicate, List.map_replicate]
  exact this
set_option maxRecDepth 100000 in
set_option maxHeartbeats 8000000 in
theorem fiat_Verify (v : Value) (c : Ci) (vi vo vp : Value) (inp out : List Int) (ps : List Pi) (w : World) (hT : Tab w) (h : IsC w v c) (hc0 : checkC c = 0) (hi : RowU w vi inp) (ho : RowU w vo out) (hp : IsP w vp ps)
    (hil : inp.length = 2 ^ c.log.toNat) (hol : out.length = 2 ^ (belowLog c c.layers.length).toNat) (hS : ShapedI c ps) :
    Calls Tryd.prog 21 #[v, vi, vo, vp] w fun e w' => e = .returned (.tuple #[.bool (verB c inp out ps (drawnI c inp out ps)), .int .i64 0]) ∧ Below w.heap.size w w' := by
  have HT := Lib.hid hT; have HC := Lib.hid h; have HG := Lib.hid (good_of_check hc0); have Hp := Lib.hid hp; have Hc0 := Lib.hid hc0; have Hi := Lib.hid hi; have Ho := Lib.hid ho
  have Hil := Lib.hid hil; have Hol := Lib.hid hol; have HS := Lib.hid hS
  have hn4 := HG.out.n4
  have hn1 := HG.out.n1
  have HpsL := Lib.hid hS.1
  have hDN := drawsN_le HG.out
  obtain ⟨ac, cc, rfl⟩ := h.shape
  obtain ⟨vs, rfl, hps⟩ := hp
  obtain ⟨_, aP, cP, rfl, hpr⟩ := hps
  have Hpr := Lib.hid hpr
  obtain ⟨nP, hnP⟩ : ∃ nP, nP = ps.length := ⟨_, rfl⟩
  rw [← hnP] at Hp ⊢
  have HnP := Lib.hid hnP
  clear hT h hc0 hi ho hil hol hS hpr hnP
  go_enter Tryd.func21, Tryd.ntmps21
  go_wp2_with (fail)
  obtain ⟨W2, cb, hW, hcb, hb1, hb2, s1, B1⟩ := two_blocks' w #[.int .i64 c.log, .slice ac c.layers.length cc] #[.slice aP nP cP] 61 56
  rw [hW, ← hcb]
  have H2 := Lib.hid B1
  have HX2 := Lib.hid (show Boxed cb (.int .i64 c.log) (.slice ac c.layers.length cc) W2 from ⟨cell_blk hb1 0, cell_blk hb1 1, blk_lt hb1⟩)
  have KP2 := Lib.hid (show W2.cell? ⟨cb + 1, 0, none⟩ = some (.slice aP nP cP) from cell_blk hb2 0)
  have lp2 : cb + 1 < W2.heap.size := blk_lt hb2
  clear hW hb1 hb2 s1 B1 hcb
  refine (gkr_Draws _ c _ (HC.out.go H2.out) Hc0.out).mono ?_
  rintro e w3 ⟨rfl, hb3⟩
  obtain ⟨DN, hDN'⟩ : ∃ DN, DN = drawsN c := ⟨_, rfl⟩
  rw [← hDN'] at hDN ⊢
  have HDN := Lib.hid hDN'
  have H3 := Lib.hid (below_two H2.out hb3)
  have HX3 := Lib.hid (HX2.out.go hb3)
  have r0 := HX3.out.c0; have r1 := HX3.out.c1
  have kp3 := (hb3.cell (p := ⟨cb + 1, 0, none⟩) lp2).trans KP2.out
  have lp3 : cb + 1 < w3.heap.size := Nat.lt_of_lt_of_le lp2 hb3.size
  clear hb3 hDN'
  have CV := Lib.hid (fun W (hB : Below w3.heap.size w3 W) n (hn : n = DN) g (hg : RowU W (.slice (some ⟨g, 0, none⟩) n n) (List.replicate DN 0)) => show Calls Tryd.prog 39 #[.agg #[.int .i64 c.log, .slice ac c.layers.length cc], vi, vo, .agg #[.slice aP nP cP], .slice (some ⟨g, 0, none⟩) n n] W fun e w' => ∃ b, e = .returned (.tuple #[.bool b, .int .i64 0]) ∧ Below W.heap.size W w' from
    (gkr_Verify _ c _ _ _ _ inp out ps (List.replicate DN 0) W (HT.out.below (below_two H3.out hB)) (HC.out.go (below_two H3.out hB)) Hc0.out (Hi.out.go (below_two H3.out hB)) (Ho.out.go (below_two H3.out hB)) (Hp.out.go (below_two H3.out hB)) hg (CapOk.mk (Nat.le_refl _) (by omega)) Hil.out Hol.out HS.out (by rw [List.length_replicate, HDN.out])).mono fun e w' ⟨he, hb⟩ => ⟨_, he, hb⟩)
  have K3 := Lib.hid (show ∀ X, Below w3.heap.size w3 X → Below w3.heap.size w3 X ∧ X.cell? ⟨cb, 0, none⟩ = some (.int .i64 c.log) ∧ X.cell? ⟨cb, 1, none⟩ = some (.slice ac c.layers.length cc) ∧ X.cell? ⟨cb + 1, 0, none⟩ = some (.slice aP nP cP) from fun X hz =>
    ⟨hz, (HX3.out.go hz).c0, (HX3.out.go hz).c1, (hz.cell (p := ⟨cb + 1, 0, none⟩) lp3).trans kp3⟩)
  have hmk : ∀ w : World, (Instr.makeSlice 22 (.int .i64 (DN : Int)) (.int .i64 (DN : Int))).run Tryd.prog w = .ok (.slice (some ⟨w.heap.size, 0, none⟩) DN DN) (w.alloc (.cells (madeCells #[.int .u64 0] DN) 23)) := fun w =>
    run_make_row' 22 23 (.int .u64 0) 8 Tryd.underlying22 Tryd.infoU rfl .i64 .i64 DN (by omega) (by omega) w
  go_wp2_with (fail)
  go_region_held3 (fun w' => Below w3.heap.size w3 w' ∧ w'.cell? ⟨cb, 0, none⟩ = some (.int .i64 c.log) ∧ w'.cell? ⟨cb, 1, none⟩ = some (.slice ac c.layers.length cc) ∧ w'.cell? ⟨cb + 1, 0, none⟩ = some (.slice aP nP cP))
    (first
      | (refine K3.out _ ?_; (repeat (first | assumption | (with_reducible exact Below.refl _ _) | (with_reducible refine below_dw ?_) | (with_reducible refine below_al' ?_) | (with_reducible refine below_two ?_ (by assumption))))))
    (first
      | (go_at_call 39; (refine (CV.out _ (by (repeat (first | assumption | (with_reducible exact Below.refl _ _) | (with_reducible refine below_dw ?_) | (with_reducible refine below_al' ?_) | (with_reducible refine below_two ?_ (by assumption))))) _ rfl _ (by (first | exact row_made _ _ _ (by simp) (by omega)))).mono ?_); rintro e wv ⟨b, rfl, hbv⟩))
  have H4 := Lib.hid (show Below w3.heap.size w3 wv by (repeat (first | assumption | (with_reducible exact Below.refl _ _) | (with_reducible refine below_dw ?_) | (with_reducible refine below_al' ?_) | (with_reducible refine below_two ?_ (by assumption)))))
  have H5 := Lib.hid (below_two H3.out H4.out)
  have HX5 := Lib.hid (HX3.out.go H4.out)
  have r0 := HX5.out.c0; have r1 := HX5.out.c1
  have kp5 := (H4.out.cell (p := ⟨cb + 1, 0, none⟩) lp3).trans kp3
  have KP5 := Lib.hid kp5
  have LP5 := Lib.hid (show cb + 1 < wv.heap.size from Nat.lt_of_lt_of_le lp3 H4.out.size)
  clear hbv hmk kp3 lp3 kp5 CV K3
  go_wp2_with (fail)
  refine (fiat_begun _ _ _ _ c inp out (HC.out.go H5.out) HG.out (Hi.out.go H5.out) (Ho.out.go H5.out) (by rw [Hil.out]; have := (pow4 HG.out.log4).2; omega) (by rw [Hol.out]; have := (pow4 (HG.out.below4 (k := c.layers.length) (Nat.le_refl _))).2; omega)).mono ?_
  rintro e w6 ⟨tb, sb, vd, rfl, hA6, hb6⟩
  have HA6 := Lib.hid hA6
  have H6 := Lib.hid hb6
  have kp6 := (hb6.cell (p := ⟨cb + 1, 0, none⟩) LP5.out).trans KP5.out
  clear hA6 hb6 r0 r1
  go_wp2_with (fail)
  clear kp6
  have hnP4 : nP ≤ 4 := by rw [HnP.out, HpsL.out]; exact hn4
  go_loopw [45] (fun i wr => ∃ j : Nat, j ≤ nP ∧ i = .int .i64 (j : Int) ∧ Hid (∃ vd', TellA wr wv.heap.size tb sb vd' (tellL (flatP (ps.take j)) (begT c inp out))) ∧ Hid (Below wv.heap.size wv wr)) (fun i _ => nP - (intOf i).toNat)
  case atStart => exact ⟨0, by omega, rfl, ⟨vd, HA6.out⟩, H6.out⟩
  case round =>
    obtain ⟨j, hj, rfl, HAj, HBj⟩ := hrel
    have HBw := Lib.hid (H5.out.trans (HBj.out.mono H5.out.size))
    by_cases hz : j < nP
    · obtain ⟨vj, haj⟩ := HAj.out
      obtain ⟨b, off, rfl, hblt, hcell⟩ := Hpr.out (by rw [← HnP.out]; omega)
      obtain ⟨u, u2, c1, c2, hu, hu2⟩ := hcell j (by rw [← HnP.out]; exact hz)
      have Hu := Lib.hid hu; have Hu2 := Lib.hid hu2
      obtain ⟨_, aR, cR, rfl, -⟩ := hu
      obtain ⟨_, _, aL, cL, rfl, -⟩ := hu2
      obtain ⟨nR, hnR⟩ : ∃ nR, nR = (atp ps j).rounds.length := ⟨_, rfl⟩
      obtain ⟨nL, hnL⟩ : ∃ nL, nL = (atp ps j).line.length := ⟨_, rfl⟩
      rw [← hnR] at Hu c1; rw [← hnL] at Hu2 c2
      have d1 := (HBw.out.cell (p := ⟨b, off + j * 2, none⟩) hblt).trans c1
      have d2 := (HBw.out.cell (p := ⟨b, off + j * 2 + 1, none⟩) hblt).trans c2
      have HAj' := Lib.hid haj
      have HpsN := Lib.hid (show nP = c.layers.length by rw [HnP.out, HpsL.out])
      have Hlen := Lib.hid (show (tellL (flatP (ps.take j)) (begT c inp out)).ds.length + (atp ps j).rounds.length + 1 ≤ 100 by
        rw [tellL_length, begT_length, flatP_take_length HS.out j (by rw [← HpsN.out]; omega), (HS.out.2 j (by rw [← HnP.out]; exact hz)).n]
        have h1 := offP_le c (j := j) (by rw [← HpsN.out]; exact hz)
        have h2 := drawsN_le HG.out
        unfold drawsN at h2
        omega)
      have hsl := Lib.hid (shaped_len HG.out HS.out (j := j) (by rw [← HpsN.out]; exact hz))
      obtain ⟨W, hW, q0, q1, hWr, hWs⟩ := copied2' wr (.slice aR nR cR) (.slice aL nL cL) 91
      have HWr := Lib.hid hWr
      have HnR := Lib.hid hnR; have HnL := Lib.hid hnL
      clear hcell c1 c2 haj hWr hWs hnR hnL
      go_wp2_with (fail)
      try rw [hW]
      have HW := Lib.hid hW
      clear hW
      refine (fiat_part wv W tb sb _ _ _ _ (atp ps j) (HAj'.out.go HWr.out) (HBj.out.trans (HWr.out.mono HBj.out.size)) (Hu.out.go H5.out) (Hu2.out.go H5.out) Hlen.out hsl.out.2.1 hsl.out.2.2).mono ?_
      rintro e w8 ⟨rfl, ht8, hb8⟩
      have HT8 := Lib.hid (show ∃ vd', TellA w8 wv.heap.size tb sb vd' (tellL (flatP (ps.take (j + 1))) (begT c inp out)) by
        obtain ⟨v8, h8⟩ := ht8
        refine ⟨v8, ?_⟩
        rw [flatP_take_succ _ _ (by rw [← HnP.out]; exact hz), tellL_append]; exact h8)
      have HB8 := Lib.hid hb8
      clear ht8 hb8
      go_wp2
      go_roundw
      case rel => exact ⟨j + 1, by omega, by go_num, HT8.out, HB8.out⟩
      case measure => simp [intOf]; omega
    · obtain rfl : j = nP := by omega
      obtain ⟨vj, haj⟩ := HAj.out
      have Heq := Lib.hid (show (tellL (flatP (ps.take j)) (begT c inp out)).ds = drawnI c inp out ps by
        rw [List.take_of_length_le (by rw [HnP.out]; exact Nat.le_refl _)]; rfl)
      have HD := Lib.hid (show RowU wr vj (drawnI c inp out ps) by rw [← Heq.out]; exact haj.row.row)
      have hdc := haj.row.cap
      have HDc := Lib.hid hdc
      have HXr := Lib.hid (HX5.out.go HBj.out)
      have q0 := HXr.out.c0; have q1 := HXr.out.c1
      have kpr := (HBj.out.cell (p := ⟨cb + 1, 0, none⟩) LP5.out).trans KP5.out
      have tc1 : wr.cell? ⟨tb, 1, none⟩ = some vj := cell_blk haj.blk 1
      have CV := (show Calls Tryd.prog 39 #[.agg #[.int .i64 c.log, .slice ac c.layers.length cc], vi, vo, .agg #[.slice aP j cP], vj] wr.drew fun e w' => e = .returned (.tuple #[.bool (verB c inp out ps (drawnI c inp out ps)), .int .i64 0]) ∧ Below wr.drew.heap.size wr.drew w' from
        gkr_Verify _ c _ _ _ _ inp out ps (drawnI c inp out ps) wr.drew (HT.out.below (below_dw HBw.out)) ((HC.out.go HBw.out).dw) Hc0.out ((Hi.out.go HBw.out).dw) ((Ho.out.go HBw.out).dw) (Hp.out.go (below_dw HBw.out)) HD.out.dw HDc.out Hil.out Hol.out HS.out (drawnI_length _ _ HS.out))
      obtain ⟨BB, hBB⟩ : ∃ BB, BB = verB c inp out ps (drawnI c inp out ps) := ⟨_, rfl⟩
      rw [← hBB] at CV
      have HBB := Lib.hid hBB
      have HTlt := Lib.hid haj.lt.1
      have HCV := Lib.hid CV
      clear haj hdc hBB CV
      go_wp2_with (fail)
      have K9 := Lib.hid (show ∀ X, Below wr.heap.size wr X → Below wr.heap.size wr X ∧ X.cell? ⟨cb, 0, none⟩ = some (.int .i64 c.log) ∧ X.cell? ⟨cb, 1, none⟩ = some (.slice ac c.layers.length cc) ∧ X.cell? ⟨cb + 1, 0, none⟩ = some (.slice aP j cP) ∧ X.cell? ⟨tb, 1, none⟩ = some vj from fun X hz =>
        ⟨hz, (hz.cell (p := ⟨cb, 0, none⟩) HXr.out.lt).trans q0, (hz.cell (p := ⟨cb, 1, none⟩) HXr.out.lt).trans q1, (hz.cell (p := ⟨cb + 1, 0, none⟩) (Nat.lt_of_lt_of_le LP5.out HBj.out.size)).trans kpr, (hz.cell (p := ⟨tb, 1, none⟩) HTlt.out).trans tc1⟩)
      go_region_held3 (fun w' => Below wr.heap.size wr w' ∧ w'.cell? ⟨cb, 0, none⟩ = some (.int .i64 c.log) ∧ w'.cell? ⟨cb, 1, none⟩ = some (.slice ac c.layers.length cc) ∧ w'.cell? ⟨cb + 1, 0, none⟩ = some (.slice aP j cP) ∧ w'.cell? ⟨tb, 1, none⟩ = some vj)
        (first
          | (refine K9.out _ ?_; (repeat (first | assumption | (with_reducible exact Below.refl _ _) | (with_reducible refine below_dw ?_) | (with_reducible refine below_al' ?_) | (with_reducible refine below_two ?_ (by assumption))))))
        (first
          | (go_at_call 39; (refine HCV.out.mono ?_); rintro e w9 ⟨rfl, hb9⟩))
      have H9 := Lib.hid (below_two (below_dw HBw.out) hb9)
      clear hb9
      go_wp2
      go_ret2
      exact ⟨ret_b2 HBB.out, H9.out⟩
end Go.Proofs.YtfgoidaldgfklaaDoor
