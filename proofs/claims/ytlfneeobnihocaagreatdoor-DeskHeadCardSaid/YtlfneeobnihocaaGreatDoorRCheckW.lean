/- Several texts in one: CheckW, RCheckW. What each says, and its conditions, stands at its head. -/
import Derived.Test.YtlfneeobnihocaaGreatDoorOpen
import Derived.Test.YtlfneeobnihocaaGreatDoorUni
import Derived.IntWalk
/- The walk of circuit.Check: which error is first. The circuit is a value that reads as data. -/
namespace Go.Proofs.YtlfneeobnihocaaGreatDoor
set_option maxRecDepth 100000
set_option linter.unusedVariables false
open Go.RowKit Tally
/-- is it a Log? -/
def logOk (n : Int) : Bool := decide (0 ≤ n ∧ n ≤ 4)
/-- is a gate one above so many? -/
def gateOk (m : Nat) (g : Gt) : Bool := decide (0 ≤ g.a ∧ g.a < (m : Int) ∧ 0 ≤ g.b ∧ g.b < (m : Int))
/-- what Check tells of layers above so many -/
def checkL : Nat → List Ly → Int
  | _, [] => 0
  | m, l :: ls => if logOk l.log then (if l.gates.length = 2 ^ l.log.toNat then (if l.gates.all (gateOk m) then checkL l.gates.length ls else 1) else 4) else 1
/-- what Check tells -/
def checkC (c : Ci) : Int := if logOk c.log = true ∧ c.layers.length ≠ 0 then (if c.layers.length ≤ 4 then checkL (2 ^ c.log.toNat) c.layers else 2) else 1
theorem ret_i (a b : Int) (h : a = b) : Ending.returned (.int .i64 a) = .returned (.int .i64 b) := by rw [h]
theorem pow4 {n : Int} (h4 : n ≤ 4) : 1 ≤ 2 ^ n.toNat ∧ 2 ^ n.toNat ≤ 16 := by
  have h1 : (2 : Nat) ^ n.toNat ≤ 2 ^ 4 := Nat.pow_le_pow_right (by decide) (by omega)
  exact ⟨Nat.pow_pos (by decide), h1⟩
theorem wrap4 {n : Int} (h4 : n ≤ 4) : wrap64 (2 ^ n.toNat) = ((2 ^ n.toNat : Nat) : Int) := by
  have h1 := pow4 h4
  have e : ((2 : Int) ^ n.toNat) = ((2 ^ n.toNat : Nat) : Int) := by simp
  rw [e]; generalize 2 ^ n.toNat = m at *; exact IntWalk.wrap64_in _ ⟨by omega, by omega⟩
set_option maxHeartbeats 1000000 in
theorem c_logged (n : Int) (w : World) (h0 : 0 ≤ n) (h4 : n ≤ 4) :
    Calls Tryz.prog 133 #[.int .i64 n] w fun e w' => e = .returned (.bool true) ∧ w = w' := by
  go_enter Tryz.func133, Tryz.ntmps133
  go_wp2
  go_ret
  exact ⟨rfl, rfl⟩
set_option maxHeartbeats 1000000 in
theorem c_logged_no (n : Int) (w : World) (h : ¬ (0 ≤ n ∧ n ≤ 4)) :
    Calls Tryz.prog 133 #[.int .i64 n] w fun e w' => e = .returned (.bool false) ∧ w = w' := by
  by_cases h0 : n < 0
  · go_enter Tryz.func133, Tryz.ntmps133
    go_wp2
    go_ret
    exact ⟨rfl, rfl⟩
  · have h0 : 0 ≤ n := by omega
    have hd : decide (n ≤ 4) = false := by simp; omega
    clear h
    go_enter Tryz.func133, Tryz.ntmps133
    go_wp2
    go_ret
    exact ⟨rfl, rfl⟩
theorem copied2 (w : World) (x y : Value) (t n : Nat) : ∃ W, (w.alloc (.cells #[x, y] t)).drewN n = W ∧ W.cell? ⟨w.heap.size, 0, none⟩ = some x ∧ W.cell? ⟨w.heap.size, 1, none⟩ = some y ∧ Below w.heap.size w W ∧ W.heap.size = w.heap.size + 1 := by
  refine ⟨_, rfl, ?_, ?_, below_drewN ((Below.refl _ _).alloc (Nat.le_refl _) _) n, ?_⟩
  · show (w.alloc (.cells #[x, y] t)).cell? _ = _
    rw [World.cell?_alloc_at _ _ _ _ rfl]; rfl
  · show (w.alloc (.cells #[x, y] t)).cell? _ = _
    rw [World.cell?_alloc_at _ _ _ _ rfl]; rfl
  · show (w.alloc (.cells #[x, y] t)).heap.size = _
    simp
theorem log_no {n : Int} (h : ¬ (0 ≤ n ∧ n ≤ 4)) : logOk n = false := by unfold logOk; exact decide_eq_false h
theorem log_yes {n : Int} (h : 0 ≤ n ∧ n ≤ 4) : logOk n = true := by unfold logOk; exact decide_eq_true h
theorem all_gates {m : Nat} {l : List Gt} (h : ∀ q, q < l.length → gateOk m (atg l q) = true) : l.all (gateOk m) = true := by
  rw [List.all_eq_true]
  intro g hg
  obtain ⟨i, hi, rfl⟩ := List.getElem_of_mem hg
  have := h i hi
  rwa [show atg l i = l[i] by simp [atg, hi]] at this
theorem not_all {m : Nat} {l : List Gt} {j : Nat} (hj : j < l.length) (h : gateOk m (atg l j) = false) : l.all (gateOk m) = false := by
  rw [List.all_eq_false]
  exact ⟨atg l j, atg_mem hj, by rw [h]; decide⟩
set_option maxRecDepth 100000 in
set_option maxHeartbeats 4000000 in
theorem c_Check_mid (v : Value) (c : Ci) (w : World) (h : IsC w v c) (h0 : 0 ≤ c.log) (h4 : c.log ≤ 4) (hl1 : 0 < c.layers.length) (hl4 : c.layers.length ≤ 4) :
    Calls Tryz.prog 94 #[v] w fun e w' => e = .returned (.int .i64 (checkL (2 ^ c.log.toNat) c.layers)) ∧ Below w.heap.size w w' := by
  obtain ⟨hlog, u, rfl, hL⟩ := h
  obtain ⟨hls, hll, a, cap, rfl, hr⟩ := hL
  have Hr := Lib.hid hr
  have Hls := Lib.hid hls
  have hw := wrap4 h4
  obtain ⟨hp1, hp2⟩ := pow4 h4
  have hn0 : ((c.layers.length : Int) == 0) = false := beq_false_of_ne (by omega)
  obtain ⟨R, hR⟩ : ∃ R, R = checkL (2 ^ c.log.toNat) c.layers := ⟨_, rfl⟩
  rw [← hR]
  have HR := Lib.hid hR
  obtain ⟨N, hN⟩ : ∃ N, N = 2 ^ c.log.toNat := ⟨_, rfl⟩
  rw [← hN] at hw hp1 hp2
  have HN := Lib.hid hN
  have Hw := Lib.hid hw
  clear hr hls hR hN hw
  go_enter Tryz.func94, Tryz.ntmps94
  go_wp2_with (go_at_call 133; (with_reducible refine (c_logged _ _ h0 h4).mono ?_); rintro e w' ⟨rfl, rfl⟩)
  go_loopw [3, 28] (fun bb i wr => ∃ (k m : Nat), k ≤ c.layers.length ∧ m ≤ 16 ∧ i = .int .i64 (k : Int) ∧ bb = .int .i64 (m : Int) ∧ Below w.heap.size w wr ∧ Hid (R = checkL m (c.layers.drop k))) (fun _ i _ => c.layers.length - (intOf i).toNat)
  case atStart => exact ⟨0, N, by omega, hp2, rfl, by rw [← Hw.out], (Below.refl _ _).alloc (Nat.le_refl _) _, by rw [HN.out]; exact HR.out⟩
  case round =>
    obtain ⟨k, m, hk, hm16, rfl, rfl, hbr, HC⟩ := hrel
    by_cases hz : k < c.layers.length
    · obtain ⟨b, off, rfl, hblt, hcell⟩ := Hr.out hl1
      obtain ⟨c1, u, c2, hg⟩ := hcell k hz
      have d1 := (hbr.cell (p := ⟨b, off + k * 2, none⟩) (by exact hblt)).trans c1
      have d2 := (hbr.cell (p := ⟨b, off + k * 2 + 1, none⟩) (by exact hblt)).trans c2
      obtain ⟨hgi, hgl, ag, cg, rfl, hgr⟩ := hg.below hbr (Nat.le_refl _)
      have Hg := Lib.hid hgr
      have Hgi := Lib.hid hgi
      clear hcell c1 c2 hg hgr hgi
      have hdrop : c.layers.drop k = aty c.layers k :: c.layers.drop (k + 1) := by rw [List.drop_eq_getElem_cons hz]; simp [aty, List.getElem?_eq_getElem hz]
      rw [hdrop] at HC
      clear hdrop
      generalize aty c.layers k = l at *
      by_cases hlg : 0 ≤ l.log ∧ l.log ≤ 4
      · obtain ⟨hg0, hg4⟩ := hlg
        obtain ⟨hq1, hq2⟩ := pow4 hg4
        have Hwl := Lib.hid (wrap4 hg4)
        have HC2 := Lib.hid (show R = if l.gates.length = 2 ^ l.log.toNat then (if l.gates.all (gateOk m) then checkL l.gates.length (c.layers.drop (k + 1)) else 1) else 4 by
          rw [HC.out]; show (if logOk l.log then _ else _) = _; rw [if_pos (log_yes ⟨hg0, hg4⟩)])
        by_cases hn : l.gates.length = 2 ^ l.log.toNat
        · have HC3 := Lib.hid (show R = if l.gates.all (gateOk m) then checkL l.gates.length (c.layers.drop (k + 1)) else 1 by rw [HC2.out, if_pos hn])
          have hlen16 : l.gates.length ≤ 16 := by rw [hn]; exact hq2
          have hbn : ((l.gates.length : Int) != wrap64 (2 ^ l.log.toNat)) = false := by rw [Hwl.out, hn]; simp
          clear hn hq1 hq2
          generalize hP : wrap64 (2 ^ l.log.toNat) = P at *
          have HP := Lib.hid hP
          go_wp2_with (go_at_call 133; (with_reducible refine (c_logged _ _ hg0 hg4).mono ?_); rintro e w' ⟨rfl, rfl⟩)
          go_quiet (fail)
          go_wp2
          obtain ⟨wo, rfl⟩ : ∃ x : World, x = wr := ⟨_, rfl⟩
          obtain ⟨W, hW, e0, e1, hWr, hWs⟩ := copied2 wo (.int .i64 l.log) (.slice ag l.gates.length cg) 124 nq
          rw [hW]
          have HWs := Lib.hid hWs
          clear hW hWs
          go_loopw [46] (fun i w2 => ∃ j : Nat, j ≤ l.gates.length ∧ i = .int .i64 (j : Int) ∧ Below W.heap.size W w2 ∧ Hid (∀ n, n < j → gateOk m (atg l.gates n) = true)) (fun i _ => l.gates.length - (intOf i).toNat)
          case atStart => exact ⟨0, by omega, rfl, Below.refl _ _, fun n hn => absurd hn (Nat.not_lt_zero _)⟩
          case round =>
            obtain ⟨j, hj, rfl, hb2, HG⟩ := hrel
            by_cases hjz : j < l.gates.length
            · obtain ⟨b2, off2, rfl, hb2lt, hgc⟩ := Hg.out (by omega)
              obtain ⟨c1, c2, c3⟩ := hgc j hjz
              have hbW : Below wo.heap.size wo wr := hWr.trans (hb2.mono (by have := hWr.size; exact this))
              have f1 := (hbW.cell (p := ⟨b2, off2 + j * 3, none⟩) (by exact hb2lt)).trans c1
              have f2 := (hbW.cell (p := ⟨b2, off2 + j * 3 + 1, none⟩) (by exact hb2lt)).trans c2
              have f3 := (hbW.cell (p := ⟨b2, off2 + j * 3 + 2, none⟩) (by exact hb2lt)).trans c3
              obtain ⟨hia, hib⟩ := Hgi.out _ (atg_mem hjz)
              have Hstep := Lib.hid (show gateOk m (atg l.gates j) = true → ∀ n, n < j + 1 → gateOk m (atg l.gates n) = true from fun hgj n hn => by
                rcases Nat.lt_or_ge n j with h | h
                · exact HG.out n h
                · obtain rfl : n = j := by omega
                  exact hgj)
              have Hbad := Lib.hid (show gateOk m (atg l.gates j) = false → R = 1 from fun hgj => by rw [HC3.out, if_neg (by rw [not_all hjz hgj]; decide)])
              have hjl : (j : Int) < (l.gates.length : Int) := by omega
              clear hgc c1 c2 c3
              generalize atg l.gates j = g at *
              have hback : Below w.heap.size w (wr.alloc (.cells #[.bool g.mul, .int .i64 g.a, .int .i64 g.b] 126)) := (hbr.trans (hbW.mono hbr.size)).alloc (by have := hbr.size; have := hbW.size; omega) _
              have Hback := Lib.hid hback
              clear hback
              by_cases ha0 : g.a < 0
              · have HR1 := Lib.hid (Hbad.out (by unfold gateOk; exact decide_eq_false (by omega)))
                clear hia hib
                go_wp2
                go_ret
                exact ⟨ret_i _ _ HR1.out.symm, Hback.out⟩
              · by_cases ha1 : (m : Int) ≤ g.a
                · have HR1 := Lib.hid (Hbad.out (by unfold gateOk; exact decide_eq_false (by omega)))
                  clear hia hib
                  go_wp2
                  go_ret
                  exact ⟨ret_i _ _ HR1.out.symm, Hback.out⟩
                · by_cases hb0 : g.b < 0
                  · have HR1 := Lib.hid (Hbad.out (by unfold gateOk; exact decide_eq_false (by omega)))
                    have hd1 : decide ((m : Int) ≤ g.a) = false := by simp; omega
                    clear hia hib
                    go_wp2
                    go_ret
                    exact ⟨ret_i _ _ HR1.out.symm, Hback.out⟩
                  · by_cases hb1 : (m : Int) ≤ g.b
                    · have HR1 := Lib.hid (Hbad.out (by unfold gateOk; exact decide_eq_false (by omega)))
                      have hd1 : decide ((m : Int) ≤ g.a) = false := by simp; omega
                      clear hia hib
                      go_wp2
                      go_ret
                      exact ⟨ret_i _ _ HR1.out.symm, Hback.out⟩
                    · have HS1 := Lib.hid (Hstep.out (by unfold gateOk; exact decide_eq_true (by omega)))
                      have hd1 : decide ((m : Int) ≤ g.a) = false := by simp; omega
                      have hd2 : decide ((m : Int) ≤ g.b) = false := by simp; omega
                      clear hia hib
                      go_wp2
                      go_roundw
                      case rel => exact ⟨j + 1, by omega, by go_num, hb2.alloc (by have := hb2.size; omega) _, HS1.out⟩
                      case measure => simp [intOf]; omega
            · obtain rfl : j = l.gates.length := by omega
              have HC7 := Lib.hid (show R = checkL l.gates.length (c.layers.drop (k + 1)) by rw [HC3.out, if_pos (all_gates HG.out)])
              have g1 := (hb2.cell (p := ⟨wo.heap.size, 1, none⟩) (by have := HWs.out; show wo.heap.size < _; omega)).trans e1
              have hfin : Below w.heap.size w wr := hbr.trans ((hWr.trans (hb2.mono hWr.size)).mono hbr.size)
              have hngt : ¬ (l.gates.length : Int) < (l.gates.length : Int) := by omega
              go_wp2
              go_roundw
              case rel => exact ⟨k + 1, l.gates.length, by omega, hlen16, by go_num, rfl, hfin, HC7.out⟩
              case measure => simp [intOf]; omega
        · have hbn : ((l.gates.length : Int) != wrap64 (2 ^ l.log.toNat)) = true := by rw [Hwl.out, bne_iff_ne]; exact fun e => hn (Int.ofNat_inj.mp e)
          have HC4 := Lib.hid (show R = 4 by rw [HC2.out, if_neg hn])
          clear hn hq1 hq2
          generalize hP : wrap64 (2 ^ l.log.toNat) = P at *
          have HP := Lib.hid hP
          go_wp2_with (go_at_call 133; (with_reducible refine (c_logged _ _ hg0 hg4).mono ?_); rintro e w' ⟨rfl, rfl⟩)
          go_quiet (fail)
          go_wp2
          go_ret
          exact ⟨ret_i _ _ HC4.out.symm, below_drewN (hbr.alloc hbr.size _) _⟩
      · have HC5 := Lib.hid (show R = 1 by rw [HC.out]; show (if logOk l.log then _ else _) = _; rw [if_neg (by rw [log_no hlg]; decide)])
        go_wp2_with (go_at_call 133; (with_reducible refine (c_logged_no _ _ hlg).mono ?_); rintro e w' ⟨rfl, rfl⟩)
        go_ret
        exact ⟨ret_i _ _ HC5.out.symm, hbr.alloc hbr.size _⟩
    · obtain rfl : k = c.layers.length := by omega
      have HC6 := Lib.hid (show R = 0 by rw [HC.out, List.drop_of_length_le (Nat.le_refl _)]; rfl)
      go_wp2
      go_ret
      exact ⟨ret_i _ _ HC6.out.symm, hbr⟩
set_option maxRecDepth 100000 in
set_option maxHeartbeats 2000000 in
theorem c_Check (v : Value) (c : Ci) (w : World) (h : IsC w v c) :
    Calls Tryz.prog 94 #[v] w fun e w' => e = .returned (.int .i64 (checkC c)) ∧ Below w.heap.size w w' := by
  by_cases hlg : 0 ≤ c.log ∧ c.log ≤ 4
  · by_cases hl0 : c.layers.length = 0
    · have HR := Lib.hid (show checkC c = 1 by unfold checkC; rw [if_neg (fun h => h.2 hl0)])
      obtain ⟨hlog, u, rfl, hL⟩ := h
      obtain ⟨hls, hll, a, cap, rfl, hr⟩ := hL
      have hn0 : ((c.layers.length : Int) == 0) = true := by rw [hl0]; rfl
      clear hr hls hl0
      obtain ⟨h0, h4⟩ := hlg
      go_enter Tryz.func94, Tryz.ntmps94
      go_wp2_with (go_at_call 133; (with_reducible refine (c_logged _ _ h0 h4).mono ?_); rintro e w' ⟨rfl, rfl⟩)
      go_ret
      exact ⟨ret_i _ _ HR.out.symm, (Below.refl _ _).alloc (Nat.le_refl _) _⟩
    · by_cases hl4 : c.layers.length ≤ 4
      · have HR := Lib.hid (show checkC c = checkL (2 ^ c.log.toNat) c.layers by unfold checkC; rw [if_pos ⟨log_yes hlg, hl0⟩, if_pos hl4])
        rw [HR.out]
        exact c_Check_mid v c w h hlg.1 hlg.2 (by omega) hl4
      · have HR := Lib.hid (show checkC c = 2 by unfold checkC; rw [if_pos ⟨log_yes hlg, hl0⟩, if_neg hl4])
        obtain ⟨hlog, u, rfl, hL⟩ := h
        obtain ⟨hls, hll, a, cap, rfl, hr⟩ := hL
        have hn0 : ((c.layers.length : Int) == 0) = false := beq_false_of_ne (by omega)
        have hn4 : (4 : Int) < (c.layers.length : Int) := by omega
        clear hr hls hl0 hl4
        obtain ⟨h0, h4⟩ := hlg
        go_enter Tryz.func94, Tryz.ntmps94
        go_wp2_with (go_at_call 133; (with_reducible refine (c_logged _ _ h0 h4).mono ?_); rintro e w' ⟨rfl, rfl⟩)
        go_ret
        exact ⟨ret_i _ _ HR.out.symm, (Below.refl _ _).alloc (Nat.le_refl _) _⟩
  · have HR := Lib.hid (show checkC c = 1 by unfold checkC; rw [if_neg (fun h => by rw [log_no hlg] at h; exact absurd h.1 (by decide))])
    obtain ⟨hlog, u, rfl, hL⟩ := h
    obtain ⟨hls, hll, a, cap, rfl, hr⟩ := hL
    clear hr hls
    go_enter Tryz.func94, Tryz.ntmps94
    go_wp2_with (go_at_call 133; (with_reducible refine (c_logged_no _ _ hlg).mono ?_); rintro e w' ⟨rfl, rfl⟩)
    go_ret
    exact ⟨ret_i _ _ HR.out.symm, (Below.refl _ _).alloc (Nat.le_refl _) _⟩
end Go.Proofs.YtlfneeobnihocaaGreatDoor
/- The walks of the reference's Circuit and Below, and of wiring.Below. The circuit is a value that reads as data. -/
namespace Go.Proofs.YtlfneeobnihocaaGreatDoor
set_option maxRecDepth 100000
set_option linter.unusedVariables false
open Go.RowKit Tally
set_option maxHeartbeats 1000000 in
theorem rc_In_y (n lo hi : Int) (w : World) (h1 : lo ≤ n) (h2 : n ≤ hi) :
    Calls Tryz.prog 153 #[.int .i64 n, .int .i64 lo, .int .i64 hi] w fun e w' => e = .returned (.bool true) ∧ w = w' := by
  go_enter Tryz.func153, Tryz.ntmps153
  go_wp2
  go_ret
  exact ⟨rfl, rfl⟩
set_option maxHeartbeats 1000000 in
theorem rc_In_n (n lo hi : Int) (w : World) (h : n < lo ∨ hi < n) :
    Calls Tryz.prog 153 #[.int .i64 n, .int .i64 lo, .int .i64 hi] w fun e w' => e = .returned (.bool false) ∧ w = w' := by
  by_cases h1 : n < lo
  · clear h
    have hd : decide (lo ≤ n) = false := by simp; omega
    go_enter Tryz.func153, Tryz.ntmps153
    go_wp2
    go_ret
    exact ⟨rfl, rfl⟩
  · have h2 : decide (n ≤ hi) = false := by simp; omega
    have h3 : lo ≤ n := by omega
    clear h h1
    go_enter Tryz.func153, Tryz.ntmps153
    go_wp2
    go_ret
    exact ⟨rfl, rfl⟩
/-- the Log of the layer below -/
def belowLog (c : Ci) (i : Nat) : Int := if i = 0 then c.log else (aty c.layers (i - 1)).log
theorem circ_cell (w : World) (x y : Value) (t : Nat) : (w.alloc (.cells #[x, y] t)).cell? ⟨w.heap.size, 0, none⟩ = some x ∧ (w.alloc (.cells #[x, y] t)).cell? ⟨w.heap.size, 1, none⟩ = some y := by
  refine ⟨?_, ?_⟩
  · rw [World.cell?_alloc_at _ _ _ _ rfl]; rfl
  · rw [World.cell?_alloc_at _ _ _ _ rfl]; rfl
set_option maxHeartbeats 1000000 in
theorem ref_Below (v : Value) (c : Ci) (i : Nat) (w : World) (h : IsC w v c) (hi : i ≤ c.layers.length) (hl4 : c.layers.length ≤ 4) :
    Calls Tryz.prog 121 #[v, .int .i64 i] w fun e w' => e = .returned (.int .i64 (belowLog c i)) ∧ Below w.heap.size w w' := by
  obtain ⟨hlog, u, rfl, hL⟩ := h
  obtain ⟨hls, hll, a, cap, rfl, hr⟩ := hL
  by_cases h0 : i = 0
  · subst h0
    have HR := Lib.hid (show belowLog c 0 = c.log from rfl)
    clear hr hls
    go_enter Tryz.func121, Tryz.ntmps121
    go_wp2
    go_ret
    exact ⟨ret_i _ _ HR.out.symm, (Below.refl _ _).alloc (Nat.le_refl _) _⟩
  · obtain ⟨j, rfl⟩ : ∃ j, i = j + 1 := ⟨i - 1, by omega⟩
    have HR := Lib.hid (show belowLog c (j + 1) = (aty c.layers j).log from by unfold belowLog; rw [if_neg (by omega)]; rfl)
    obtain ⟨b, off, rfl, hblt, hcell⟩ := hr (by omega)
    obtain ⟨c1, _⟩ := hcell j (by omega)
    have hz : (((j + 1 : Nat) : Int) == 0) = false := beq_false_of_ne (by omega)
    have hs : ((j + 1 : Nat) : Int) - 1 = (j : Int) := by omega
    have hjl : (j : Int) < (c.layers.length : Int) := by omega
    have hm1 : (1 : Int) ≤ ((j + 1 : Nat) : Int) := by omega
    have hm2 : ((j + 1 : Nat) : Int) ≤ 100 := by omega
    generalize ((j + 1 : Nat) : Int) = M at *
    clear hcell hr hls
    go_enter Tryz.func121, Tryz.ntmps121
    go_wp2
    go_ret
    exact ⟨ret_i _ _ HR.out.symm, (Below.refl _ _).alloc (Nat.le_refl _) _⟩
set_option maxHeartbeats 1000000 in
theorem wiring_Below (v : Value) (c : Ci) (i : Nat) (w : World) (h : IsC w v c) (hi : i ≤ c.layers.length) (hl4 : c.layers.length ≤ 4) :
    Calls Tryz.prog 101 #[v, .int .i64 i] w fun e w' => e = .returned (.int .i64 (belowLog c i)) ∧ Below w.heap.size w w' := by
  obtain ⟨hlog, u, rfl, hL⟩ := h
  obtain ⟨hls, hll, a, cap, rfl, hr⟩ := hL
  by_cases h0 : i = 0
  · subst h0
    have HR := Lib.hid (show belowLog c 0 = c.log from rfl)
    clear hr hls
    go_enter Tryz.func101, Tryz.ntmps101
    go_wp2
    go_ret
    exact ⟨ret_i _ _ HR.out.symm, (Below.refl _ _).alloc (Nat.le_refl _) _⟩
  · obtain ⟨j, rfl⟩ : ∃ j, i = j + 1 := ⟨i - 1, by omega⟩
    have HR := Lib.hid (show belowLog c (j + 1) = (aty c.layers j).log from by unfold belowLog; rw [if_neg (by omega)]; rfl)
    obtain ⟨b, off, rfl, hblt, hcell⟩ := hr (by omega)
    obtain ⟨c1, _⟩ := hcell j (by omega)
    have hz : (((j + 1 : Nat) : Int) == 0) = false := beq_false_of_ne (by omega)
    have hs : ((j + 1 : Nat) : Int) - 1 = (j : Int) := by omega
    have hjl : (j : Int) < (c.layers.length : Int) := by omega
    have hm1 : (1 : Int) ≤ ((j + 1 : Nat) : Int) := by omega
    have hm2 : ((j + 1 : Nat) : Int) ≤ 100 := by omega
    generalize ((j + 1 : Nat) : Int) = M at *
    clear hcell hr hls
    go_enter Tryz.func101, Tryz.ntmps101
    go_wp2
    go_ret
    exact ⟨ret_i _ _ HR.out.symm, (Below.refl _ _).alloc (Nat.le_refl _) _⟩
end Go.Proofs.YtlfneeobnihocaaGreatDoor
