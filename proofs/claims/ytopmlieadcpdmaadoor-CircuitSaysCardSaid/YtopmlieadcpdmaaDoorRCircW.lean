/- The walk of the reference's Circuit: it answers what Check answers. The circuit is a value that reads as data. -/
import Derived.Test.YtopmlieadcpdmaaDoorCircM
namespace Go.Proofs.YtopmlieadcpdmaaDoor
set_option maxRecDepth 100000
set_option linter.unusedVariables false
open Go.RowKit Tally
set_option maxRecDepth 100000 in
set_option maxHeartbeats 4000000 in
theorem rc_Circuit_mid (v : Value) (c : Ci) (w : World) (h : IsC w v c) (h0 : 0 ≤ c.log) (h4 : c.log ≤ 4) (hl1 : 0 < c.layers.length) (hl4 : c.layers.length ≤ 4) :
    Calls Tryd.prog 6 #[v] w fun e w' => e = .returned (.int .i64 (checkL (2 ^ c.log.toNat) c.layers)) ∧ Below w.heap.size w w' := by
  have HC0 := Lib.hid h
  obtain ⟨hlog, u, rfl, hL⟩ := h
  obtain ⟨hls, hll, a, cap, rfl, hr⟩ := hL
  have Hr := Lib.hid hr
  have Hls := Lib.hid hls
  have hn0 : ((c.layers.length : Int) == 0) = false := beq_false_of_ne (by omega)
  obtain ⟨R, hR⟩ : ∃ R, R = checkL (2 ^ c.log.toNat) c.layers := ⟨_, rfl⟩
  rw [← hR]
  have HR := Lib.hid hR
  clear hr hls hR
  go_enter Tryd.func6, Tryd.ntmps6
  go_wp2_with (go_at_call 17; (with_reducible refine (rc_In_y _ _ _ _ h0 h4).mono ?_); rintro e w' ⟨rfl, rfl⟩)
  obtain ⟨k0, k1⟩ := circ_cell w (.int .i64 c.log) (.slice a c.layers.length cap) 24
  have B1 : Below w.heap.size w (w.alloc (.cells #[.int .i64 c.log, .slice a c.layers.length cap] 24)) := (Below.refl _ _).alloc (Nat.le_refl _) _
  have L1 : w.heap.size < (w.alloc (.cells #[.int .i64 c.log, .slice a c.layers.length cap] 24)).heap.size := by simp
  generalize w.alloc (.cells #[.int .i64 c.log, .slice a c.layers.length cap] 24) = W1 at *
  go_loopw [3] (fun i wr => ∃ (k : Nat), k ≤ c.layers.length ∧ i = .int .i64 (k : Int) ∧ Below W1.heap.size W1 wr ∧ Hid (R = checkL (2 ^ (belowLog c k).toNat) (c.layers.drop k) ∧ 0 ≤ belowLog c k ∧ belowLog c k ≤ 4)) (fun i _ => c.layers.length - (intOf i).toNat)
  case atStart => exact ⟨0, by omega, rfl, Below.refl _ _, HR.out, h0, h4⟩
  case round =>
    obtain ⟨k, hk, rfl, hb1, HC⟩ := hrel
    have r0 := (hb1.cell (p := ⟨w.heap.size, 0, none⟩) L1).trans k0
    have r1 := (hb1.cell (p := ⟨w.heap.size, 1, none⟩) L1).trans k1
    have hbr : Below w.heap.size w wr := B1.trans (hb1.mono B1.size)
    by_cases hz : k < c.layers.length
    · obtain ⟨b, off, rfl, hblt, hcell⟩ := Hr.out hl1
      obtain ⟨c1, u, c2, hg⟩ := hcell k hz
      have d1 := (hbr.cell (p := ⟨b, off + k * 2, none⟩) (by exact hblt)).trans c1
      have d2 := (hbr.cell (p := ⟨b, off + k * 2 + 1, none⟩) (by exact hblt)).trans c2
      obtain ⟨hgi, hgl, ag, cg, rfl, hgr⟩ := hg.below hbr (Nat.le_refl _)
      have Hg := Lib.hid hgr
      have Hgi := Lib.hid hgi
      clear hcell c1 c2 hg hgr hgi
      obtain ⟨HC1, hB0, hB4⟩ := HC.out
      rw [drop_aty _ _ hz] at HC1
      have HC := Lib.hid HC1
      have Hbl := Lib.hid (belowLog_succ c k)
      obtain ⟨BL, hBL⟩ : ∃ x, x = belowLog c k := ⟨_, rfl⟩
      rw [← hBL] at HC hB0 hB4
      have HBL := Lib.hid hBL
      clear HC1 hBL
      generalize aty c.layers k = l at *
      by_cases hlg : 0 ≤ l.log ∧ l.log ≤ 4
      · obtain ⟨hg0, hg4⟩ := hlg
        obtain ⟨hq1, hq2⟩ := pow4 hg4
        have Hwl := Lib.hid (wrap4 hg4)
        have HC2 := Lib.hid (show R = if l.gates.length = 2 ^ l.log.toNat then (if l.gates.all (gateOk (2 ^ BL.toNat)) then checkL l.gates.length (c.layers.drop (k + 1)) else 1) else 4 by
          rw [HC.out]; show (if logOk l.log then _ else _) = _; rw [if_pos (log_yes ⟨hg0, hg4⟩)])
        by_cases hn : l.gates.length = 2 ^ l.log.toNat
        · have HC3 := Lib.hid (show R = if l.gates.all (gateOk (2 ^ BL.toNat)) then checkL l.gates.length (c.layers.drop (k + 1)) else 1 by rw [HC2.out, if_pos hn])
          have Hn := Lib.hid hn
          have hlen16 : l.gates.length ≤ 16 := by rw [hn]; exact hq2
          have hbn : ((l.gates.length : Int) != wrap64 (2 ^ l.log.toNat)) = false := by rw [Hwl.out, hn]; simp
          obtain ⟨hm1, hm2⟩ := pow4 hB4
          have Hwm := Lib.hid (wrap4 hB4)
          obtain ⟨m, hm⟩ : ∃ m, m = 2 ^ BL.toNat := ⟨_, rfl⟩
          rw [← hm] at HC3 hm1 hm2 Hwm
          obtain ⟨Q, hQ⟩ : ∃ Q, wrap64 (2 ^ BL.toNat) = Q := ⟨_, rfl⟩
          have hQm := Hwm.out
          rw [hQ] at hQm
          have hQ1 : 1 ≤ Q := by omega
          have hQ16 : Q ≤ 16 := by omega
          have HQm := Lib.hid hQm
          have HB0 := Lib.hid hB0
          clear hn hq1 hq2 hm hm1 hm2 hQm
          generalize hP : wrap64 (2 ^ l.log.toNat) = P at *
          have HP := Lib.hid hP
          go_wp2_with (go_at_call 17; (with_reducible refine (rc_In_y _ _ _ _ hg0 hg4).mono ?_); rintro e w' ⟨rfl, rfl⟩)
          go_quiet (fail)
          obtain ⟨wo, rfl⟩ : ∃ x : World, x = wr := ⟨_, rfl⟩
          obtain ⟨W, hW, e0, e1, hWr, hWs⟩ := copied2 wo (.int .i64 l.log) (.slice ag l.gates.length cg) 46 nq
          rw [hW]
          have HWs := Lib.hid hWs
          have hWs1 : wo.heap.size < W.heap.size := by omega
          have q0 := (hWr.cell (p := ⟨w.heap.size, 0, none⟩) (by have := hb1.size; exact Nat.lt_of_lt_of_le L1 this)).trans r0
          have q1 := (hWr.cell (p := ⟨w.heap.size, 1, none⟩) (by have := hb1.size; exact Nat.lt_of_lt_of_le L1 this)).trans r1
          clear hW hWs
          go_wp2_with (fail)
          refine (ref_Below _ c k _ (HC0.out.below (hbr.trans (hWr.mono hbr.size)) (Nat.le_refl _)) (by omega) hl4).mono ?_
          rintro e w2 ⟨rfl, hb2⟩
          rw [← HBL.out]
          have e0' := (hb2.cell (p := ⟨wo.heap.size, 0, none⟩) hWs1).trans e0
          have e1' := (hb2.cell (p := ⟨wo.heap.size, 1, none⟩) hWs1).trans e1
          have hb3 : Below wo.heap.size wo w2 := hWr.trans (hb2.mono hWr.size)
          clear e0 e1 d1 d2 r0 r1 q0 q1
          go_wp2_with (fail)
          rw [hQ]
          go_loop [6] (fun i => ∃ j : Nat, j ≤ l.gates.length ∧ i = .int .i64 (j : Int) ∧ Hid (∀ n, n < j → gateOk m (atg l.gates n) = true)) (fun i => l.gates.length - (intOf i).toNat)
          case atStart => exact ⟨0, by omega, rfl, fun n hn => absurd hn (Nat.not_lt_zero _)⟩
          case round =>
            obtain ⟨j, hj, rfl, HG⟩ := hrel
            by_cases hjz : j < l.gates.length
            · obtain ⟨b2, off2, rfl, hb2lt, hgc⟩ := Hg.out (by omega)
              obtain ⟨c1, c2, c3⟩ := hgc j hjz
              have f2 := (hb3.cell (p := ⟨b2, off2 + j * 3 + 1, none⟩) (by exact hb2lt)).trans c2
              have f3 := (hb3.cell (p := ⟨b2, off2 + j * 3 + 2, none⟩) (by exact hb2lt)).trans c3
              obtain ⟨hia, hib⟩ := Hgi.out _ (atg_mem hjz)
              have Hstep := Lib.hid (show gateOk m (atg l.gates j) = true → ∀ n, n < j + 1 → gateOk m (atg l.gates n) = true from fun hgj n hn => by
                rcases Nat.lt_or_ge n j with h | h
                · exact HG.out n h
                · obtain rfl : n = j := by omega
                  exact hgj)
              have Hbad := Lib.hid (show gateOk m (atg l.gates j) = false → R = 1 from fun hgj => by rw [HC3.out, if_neg (by rw [not_all hjz hgj]; decide)])
              have hjl : (j : Int) < (l.gates.length : Int) := by omega
              clear hgc c1 c2 c3
              generalize atg l.gates j = g at *
              have Hback := Lib.hid (show Below w.heap.size w w2 from hbr.trans (hb3.mono hbr.size))
              by_cases ha : 0 ≤ g.a ∧ g.a ≤ Q - 1
              · obtain ⟨ha1, ha2⟩ := ha
                by_cases hb : 0 ≤ g.b ∧ g.b ≤ Q - 1
                · obtain ⟨hbb1, hbb2⟩ := hb
                  have HS1 := Lib.hid (Hstep.out (by have := HQm.out; unfold gateOk; exact decide_eq_true (by omega)))
                  clear hia hib
                  go_wp2_with (go_at_call 17; (with_reducible refine (rc_In_y _ _ _ _ (by assumption) (by assumption)).mono ?_); rintro e w' ⟨rfl, rfl⟩)
                  go_round
                  case rel => exact ⟨j + 1, by omega, by go_num, HS1.out⟩
                  case measure => simp [intOf]; omega
                · have HR1 := Lib.hid (Hbad.out (by have := HQm.out; unfold gateOk; exact decide_eq_false (by omega)))
                  have hb' : g.b < 0 ∨ Q - 1 < g.b := by omega
                  clear hia hib hb
                  go_wp2_with (first | (go_at_call 17; (with_reducible refine (rc_In_y _ _ _ _ ha1 ha2).mono ?_); rintro e w' ⟨rfl, rfl⟩) | (go_at_call 17; (with_reducible refine (rc_In_n _ _ _ _ hb').mono ?_); rintro e w' ⟨rfl, rfl⟩))
                  go_ret
                  exact ⟨ret_i _ _ HR1.out.symm, Hback.out⟩
              · have HR1 := Lib.hid (Hbad.out (by have := HQm.out; unfold gateOk; exact decide_eq_false (by omega)))
                have ha' : g.a < 0 ∨ Q - 1 < g.a := by omega
                clear hia hib ha
                go_wp2_with (go_at_call 17; (with_reducible refine (rc_In_n _ _ _ _ ha').mono ?_); rintro e w' ⟨rfl, rfl⟩)
                go_ret
                exact ⟨ret_i _ _ HR1.out.symm, Hback.out⟩
            · obtain rfl : j = l.gates.length := by omega
              have HC7 := Lib.hid (show R = checkL (2 ^ (belowLog c (k + 1)).toNat) (c.layers.drop (k + 1)) by rw [HC3.out, if_pos (all_gates HG.out), Hbl.out, ← Hn.out])
              have hngt : ¬ (l.gates.length : Int) < (l.gates.length : Int) := by omega
              have Hb5 := Lib.hid (show Below W1.heap.size W1 w2 from hb1.trans (hb3.mono hb1.size))
              have Hl5 := Lib.hid (show 0 ≤ belowLog c (k + 1) ∧ belowLog c (k + 1) ≤ 4 by rw [Hbl.out]; exact ⟨hg0, hg4⟩)
              go_wp2
              go_roundw
              case rel => exact ⟨k + 1, by omega, by go_num, Hb5.out, HC7.out, Hl5.out⟩
              case measure => simp [intOf]; omega
        · have hbn : ((l.gates.length : Int) != wrap64 (2 ^ l.log.toNat)) = true := by rw [Hwl.out, bne_iff_ne]; exact fun e => hn (Int.ofNat_inj.mp e)
          have HC4 := Lib.hid (show R = 4 by rw [HC2.out, if_neg hn])
          clear hn hq1 hq2
          generalize hP : wrap64 (2 ^ l.log.toNat) = P at *
          have HP := Lib.hid hP
          go_wp2_with (go_at_call 17; (with_reducible refine (rc_In_y _ _ _ _ hg0 hg4).mono ?_); rintro e w' ⟨rfl, rfl⟩)
          go_quiet (fail)
          go_wp2
          go_ret
          exact ⟨ret_i _ _ HC4.out.symm, below_drewN (hbr.alloc hbr.size _) _⟩
      · have HC5 := Lib.hid (show R = 1 by rw [HC.out]; show (if logOk l.log then _ else _) = _; rw [if_neg (by rw [log_no hlg]; decide)])
        have hlg' : l.log < 0 ∨ 4 < l.log := by omega
        clear hlg
        go_wp2_with (go_at_call 17; (with_reducible refine (rc_In_n _ _ _ _ hlg').mono ?_); rintro e w' ⟨rfl, rfl⟩)
        go_ret
        exact ⟨ret_i _ _ HC5.out.symm, hbr.alloc hbr.size _⟩
    · obtain rfl : k = c.layers.length := by omega
      have HC6 := Lib.hid (show R = 0 by rw [HC.out.1, List.drop_of_length_le (Nat.le_refl _)]; rfl)
      go_wp2
      go_ret
      exact ⟨ret_i _ _ HC6.out.symm, hbr⟩
set_option maxRecDepth 100000 in
set_option maxHeartbeats 2000000 in
theorem rc_Circuit (v : Value) (c : Ci) (w : World) (h : IsC w v c) :
    Calls Tryd.prog 6 #[v] w fun e w' => e = .returned (.int .i64 (checkC c)) ∧ Below w.heap.size w w' := by
  by_cases hlg : 0 ≤ c.log ∧ c.log ≤ 4
  · by_cases hl0 : c.layers.length = 0
    · have HR := Lib.hid (show checkC c = 1 by unfold checkC; rw [if_neg (fun h => h.2 hl0)])
      obtain ⟨hlog, u, rfl, hL⟩ := h
      obtain ⟨hls, hll, a, cap, rfl, hr⟩ := hL
      have hn0 : ((c.layers.length : Int) == 0) = true := by rw [hl0]; rfl
      clear hr hls hl0
      obtain ⟨h0, h4⟩ := hlg
      go_enter Tryd.func6, Tryd.ntmps6
      go_wp2_with (go_at_call 17; (with_reducible refine (rc_In_y _ _ _ _ h0 h4).mono ?_); rintro e w' ⟨rfl, rfl⟩)
      go_ret
      exact ⟨ret_i _ _ HR.out.symm, (Below.refl _ _).alloc (Nat.le_refl _) _⟩
    · by_cases hl4 : c.layers.length ≤ 4
      · have HR := Lib.hid (show checkC c = checkL (2 ^ c.log.toNat) c.layers by unfold checkC; rw [if_pos ⟨log_yes hlg, hl0⟩, if_pos hl4])
        rw [HR.out]
        exact rc_Circuit_mid v c w h hlg.1 hlg.2 (by omega) hl4
      · have HR := Lib.hid (show checkC c = 2 by unfold checkC; rw [if_pos ⟨log_yes hlg, hl0⟩, if_neg hl4])
        obtain ⟨hlog, u, rfl, hL⟩ := h
        obtain ⟨hls, hll, a, cap, rfl, hr⟩ := hL
        have hn0 : ((c.layers.length : Int) == 0) = false := beq_false_of_ne (by omega)
        have hn4 : (4 : Int) < (c.layers.length : Int) := by omega
        clear hr hls hl0 hl4
        obtain ⟨h0, h4⟩ := hlg
        go_enter Tryd.func6, Tryd.ntmps6
        go_wp2_with (go_at_call 17; (with_reducible refine (rc_In_y _ _ _ _ h0 h4).mono ?_); rintro e w' ⟨rfl, rfl⟩)
        go_ret
        exact ⟨ret_i _ _ HR.out.symm, (Below.refl _ _).alloc (Nat.le_refl _) _⟩
  · have HR := Lib.hid (show checkC c = 1 by unfold checkC; rw [if_neg (fun h => by rw [log_no hlg] at h; exact absurd h.1 (by decide))])
    have hlg' : c.log < 0 ∨ 4 < c.log := by omega
    obtain ⟨hlog, u, rfl, hL⟩ := h
    obtain ⟨hls, hll, a, cap, rfl, hr⟩ := hL
    clear hr hls hlg
    go_enter Tryd.func6, Tryd.ntmps6
    go_wp2_with (go_at_call 17; (with_reducible refine (rc_In_n _ _ _ _ hlg').mono ?_); rintro e w' ⟨rfl, rfl⟩)
    go_ret
    exact ⟨ret_i _ _ HR.out.symm, (Below.refl _ _).alloc (Nat.le_refl _) _⟩
end Go.Proofs.YtopmlieadcpdmaaDoor
