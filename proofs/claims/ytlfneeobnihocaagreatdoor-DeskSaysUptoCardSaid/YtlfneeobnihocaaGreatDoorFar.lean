/- Several texts in one: RCheckW, RCircW, Pcs, Far. What each says, and its conditions, stands at its head. -/
import Derived.Test.YtlfneeobnihocaaGreatDoorUni
import Derived.IntWalk
import Derived.Lib.ItoaNum
import Derived.Lib.SplitLaws
import Derived.Lib.CutLaws
import Derived.Maps.AppendAt
import Derived.Deep.AppendLies
import Derived.Lib.QuietBelow
import Derived.BigQuiet
/- Several texts in one: CheckW, RCheckW. What each says, and its conditions, stands at its head. -/
/- The walk of circuit.Check: which error is first. The circuit is a value that reads as data. -/
namespace Go.Proofs.YtlfneeobnihocaaGreatDoor
set_option maxRecDepth 100000
set_option linter.unusedVariables false
open Go.RowKit Tally
def logOk (n : Int) : Bool := decide (0 ≤ n ∧ n ≤ 4)
def gateOk (m : Nat) (g : Gt) : Bool := decide (0 ≤ g.a ∧ g.a < (m : Int) ∧ 0 ≤ g.b ∧ g.b < (m : Int))
def checkL : Nat → List Ly → Int
 | _, [] => 0
 | m, l :: ls => if logOk l.log then (if l.gates.length = 2 ^ l.log.toNat then (if l.gates.all (gateOk m) then checkL l.gates.length ls else 1) else 4) else 1
def checkC (c : Ci) : Int := if logOk c.log = true ∧ c.layers.length ≠ 0 then (if c.layers.length ≤ 4 then checkL (2 ^ c.log.toNat) c.layers else 2) else 1
theorem ret_i (a b : Int) (h : a = b) : Ending.returned (.int .i64 a) = .returned (.int .i64 b) := by rw [h]
theorem pow4 {n : Int} (h4 : n ≤ 4) : 1 ≤ 2 ^ n.toNat ∧ 2 ^ n.toNat ≤ 16 := by
 have h1 : (2 : Nat) ^ n.toNat ≤ 2 ^ 4 := Nat.pow_le_pow_right (by decide) (by omega)
 exact ⟨Nat.pow_pos (by decide), h1⟩
theorem wrap4 {n : Int} (h4 : n ≤ 4) : wrap64 (2 ^ n.toNat) = ((2 ^ n.toNat : Nat) : Int) := by
 have h1 := pow4 h4
 have e : ((2 : Int) ^ n.toNat) = ((2 ^ n.toNat : Nat) : Int) := by simp
 rw [e]; generalize 2 ^ n.toNat = m at *; exact IntWalk.wrap64_in _ ⟨by omega, by omega⟩
set_option maxHeartbeats 1000000 in
theorem c_logged (n : Int) (w : World) (h0 : 0 ≤ n) (h4 : n ≤ 4) :
  Calls Tryz.prog 133 #[.int .i64 n] w fun e w' => e = .returned (.bool true) ∧ w = w' := by
 go_enter Tryz.func133, Tryz.ntmps133
 go_wp2
 go_ret
 exact ⟨rfl, rfl⟩
set_option maxHeartbeats 1000000 in
theorem c_logged_no (n : Int) (w : World) (h : ¬ (0 ≤ n ∧ n ≤ 4)) :
  Calls Tryz.prog 133 #[.int .i64 n] w fun e w' => e = .returned (.bool false) ∧ w = w' := by
 by_cases h0 : n < 0
 ·go_enter Tryz.func133, Tryz.ntmps133
  go_wp2
  go_ret
  exact ⟨rfl, rfl⟩
 ·have h0 : 0 ≤ n := by omega
  have hd : decide (n ≤ 4) = false := by simp; omega
  clear h
  go_enter Tryz.func133, Tryz.ntmps133
  go_wp2
  go_ret
  exact ⟨rfl, rfl⟩
theorem copied2 (w : World) (x y : Value) (t n : Nat) : ∃ W, (w.alloc (.cells #[x, y] t)).drewN n = W ∧ W.cell? ⟨w.heap.size, 0, none⟩ = some x ∧ W.cell? ⟨w.heap.size, 1, none⟩ = some y ∧ Below w.heap.size w W ∧ W.heap.size = w.heap.size + 1 := by
 refine ⟨_, rfl, ?_, ?_, below_drewN ((Below.refl _ _).alloc (Nat.le_refl _) _) n, ?_⟩
 ·show (w.alloc (.cells #[x, y] t)).cell? _ = _
  rw [World.cell?_alloc_at _ _ _ _ rfl]; rfl
 ·show (w.alloc (.cells #[x, y] t)).cell? _ = _
  rw [World.cell?_alloc_at _ _ _ _ rfl]; rfl
 ·show (w.alloc (.cells #[x, y] t)).heap.size = _
  simp
theorem log_no {n : Int} (h : ¬ (0 ≤ n ∧ n ≤ 4)) : logOk n = false := by unfold logOk; exact decide_eq_false h
theorem log_yes {n : Int} (h : 0 ≤ n ∧ n ≤ 4) : logOk n = true := by unfold logOk; exact decide_eq_true h
theorem all_gates {m : Nat} {l : List Gt} (h : ∀ q, q < l.length → gateOk m (atg l q) = true) : l.all (gateOk m) = true := by
 rw [List.all_eq_true]
 intro g hg
 obtain ⟨i, hi, rfl⟩ := List.getElem_of_mem hg
 have := h i hi
 rwa [show atg l i = l[i] by simp [atg, hi]] at this
theorem not_all {m : Nat} {l : List Gt} {j : Nat} (hj : j < l.length) (h : gateOk m (atg l j) = false) : l.all (gateOk m) = false := by
 rw [List.all_eq_false]
 exact ⟨atg l j, atg_mem hj, by rw [h]; decide⟩
set_option maxHeartbeats 4000000 in
theorem c_Check_mid (v : Value) (c : Ci) (w : World) (h : IsC w v c) (h0 : 0 ≤ c.log) (h4 : c.log ≤ 4) (hl1 : 0 < c.layers.length) (hl4 : c.layers.length ≤ 4) :
  Calls Tryz.prog 94 #[v] w fun e w' => e = .returned (.int .i64 (checkL (2 ^ c.log.toNat) c.layers)) ∧ Below w.heap.size w w' := by
 obtain ⟨hlog, u, rfl, hL⟩ := h
 obtain ⟨hls, hll, a, cap, rfl, hr⟩ := hL
 have Hr := zH hr
 have Hls := zH hls
 have hw := wrap4 h4
 obtain ⟨hp1, hp2⟩ := pow4 h4
 have hn0 : ((c.layers.length : Int) == 0) = false := beq_false_of_ne (by omega)
 obtain ⟨R, hR⟩ : ∃ R, R = checkL (2 ^ c.log.toNat) c.layers := ⟨_, rfl⟩
 rw [← hR]
 have HR := zH hR
 obtain ⟨N, hN⟩ : ∃ N, N = 2 ^ c.log.toNat := ⟨_, rfl⟩
 rw [← hN] at hw hp1 hp2
 have HN := zH hN
 have Hw := zH hw
 clear hr hls hR hN hw
 go_enter Tryz.func94, Tryz.ntmps94
 go_wp2_with (go_at_call 133; (with_reducible refine (c_logged _ _ h0 h4).mono ?_); rintro e w' ⟨rfl, rfl⟩)
 go_loopw [3, 28] (fun bb i wr => ∃ (k m : Nat), k ≤ c.layers.length ∧ m ≤ 16 ∧ i = .int .i64 (k : Int) ∧ bb = .int .i64 (m : Int) ∧ Below w.heap.size w wr ∧ Hid (R = checkL m (c.layers.drop k))) (fun _ i _ => c.layers.length - (intOf i).toNat)
 case atStart => exact ⟨0, N, by omega, hp2, rfl, by rw [← Hw.out], (Below.refl _ _).alloc (Nat.le_refl _) _, by rw [HN.out]; exact HR.out⟩
 case round =>
  obtain ⟨k, m, hk, hm16, rfl, rfl, hbr, HC⟩ := hrel
  by_cases hz : k < c.layers.length
  ·obtain ⟨b, off, rfl, hblt, hcell⟩ := Hr.out hl1
   obtain ⟨c1, u, c2, hg⟩ := hcell k hz
   have d1 := (hbr.cell (p := ⟨b, off + k * 2, none⟩) (by exact hblt)).trans c1
   have d2 := (hbr.cell (p := ⟨b, off + k * 2 + 1, none⟩) (by exact hblt)).trans c2
   obtain ⟨hgi, hgl, ag, cg, rfl, hgr⟩ := hg.below hbr (Nat.le_refl _)
   have Hg := zH hgr
   have Hgi := zH hgi
   clear hcell c1 c2 hg hgr hgi
   have hdrop : c.layers.drop k = aty c.layers k :: c.layers.drop (k + 1) := by rw [List.drop_eq_getElem_cons hz]; simp [aty, List.getElem?_eq_getElem hz]
   rw [hdrop] at HC
   clear hdrop
   generalize aty c.layers k = l at *
   by_cases hlg : 0 ≤ l.log ∧ l.log ≤ 4
   ·obtain ⟨hg0, hg4⟩ := hlg
    obtain ⟨hq1, hq2⟩ := pow4 hg4
    have Hwl := zH (wrap4 hg4)
    have HC2 := zH (show R = if l.gates.length = 2 ^ l.log.toNat then (if l.gates.all (gateOk m) then checkL l.gates.length (c.layers.drop (k + 1)) else 1) else 4 by
     rw [HC.out]; show (if logOk l.log then _ else _) = _; rw [if_pos (log_yes ⟨hg0, hg4⟩)])
    by_cases hn : l.gates.length = 2 ^ l.log.toNat
    ·have HC3 := zH (show R = if l.gates.all (gateOk m) then checkL l.gates.length (c.layers.drop (k + 1)) else 1 by rw [HC2.out, if_pos hn])
     have hlen16 : l.gates.length ≤ 16 := by rw [hn]; exact hq2
     have hbn : ((l.gates.length : Int) != wrap64 (2 ^ l.log.toNat)) = false := by rw [Hwl.out, hn]; simp
     clear hn hq1 hq2
     generalize hP : wrap64 (2 ^ l.log.toNat) = P at *
     have HP := zH hP
     go_wp2_with (go_at_call 133; (with_reducible refine (c_logged _ _ hg0 hg4).mono ?_); rintro e w' ⟨rfl, rfl⟩)
     go_quiet (fail)
     go_wp2
     obtain ⟨wo, rfl⟩ : ∃ x : World, x = wr := ⟨_, rfl⟩
     obtain ⟨W, hW, e0, e1, hWr, hWs⟩ := copied2 wo (.int .i64 l.log) (.slice ag l.gates.length cg) 124 nq
     rw [hW]
     have HWs := zH hWs
     clear hW hWs
     go_loopw [46] (fun i w2 => ∃ j : Nat, j ≤ l.gates.length ∧ i = .int .i64 (j : Int) ∧ Below W.heap.size W w2 ∧ Hid (∀ n, n < j → gateOk m (atg l.gates n) = true)) (fun i _ => l.gates.length - (intOf i).toNat)
     case atStart => exact ⟨0, by omega, rfl, Below.refl _ _, fun n hn => absurd hn (Nat.not_lt_zero _)⟩
     case round =>
      obtain ⟨j, hj, rfl, hb2, HG⟩ := hrel
      by_cases hjz : j < l.gates.length
      ·obtain ⟨b2, off2, rfl, hb2lt, hgc⟩ := Hg.out (by omega)
       obtain ⟨c1, c2, c3⟩ := hgc j hjz
       have hbW : Below wo.heap.size wo wr := hWr.trans (hb2.mono (by have := hWr.size; exact this))
       have f1 := (hbW.cell (p := ⟨b2, off2 + j * 3, none⟩) (by exact hb2lt)).trans c1
       have f2 := (hbW.cell (p := ⟨b2, off2 + j * 3 + 1, none⟩) (by exact hb2lt)).trans c2
       have f3 := (hbW.cell (p := ⟨b2, off2 + j * 3 + 2, none⟩) (by exact hb2lt)).trans c3
       obtain ⟨hia, hib⟩ := Hgi.out _ (atg_mem hjz)
       have Hstep := zH (show gateOk m (atg l.gates j) = true → ∀ n, n < j + 1 → gateOk m (atg l.gates n) = true from fun hgj n hn => by
        rcases Nat.lt_or_ge n j with h | h
        ·exact HG.out n h
        ·obtain rfl : n = j := by omega
         exact hgj)
       have Hbad := zH (show gateOk m (atg l.gates j) = false → R = 1 from fun hgj => by rw [HC3.out, if_neg (by rw [not_all hjz hgj]; decide)])
       have hjl : (j : Int) < (l.gates.length : Int) := by omega
       clear hgc c1 c2 c3
       generalize atg l.gates j = g at *
       have hback : Below w.heap.size w (wr.alloc (.cells #[.bool g.mul, .int .i64 g.a, .int .i64 g.b] 126)) := (hbr.trans (hbW.mono hbr.size)).alloc (by have := hbr.size; have := hbW.size; omega) _
       have Hback := zH hback
       clear hback
       by_cases ha0 : g.a < 0
       ·have HR1 := zH (Hbad.out (by unfold gateOk; exact decide_eq_false (by omega)))
        clear hia hib
        go_wp2
        go_ret
        exact ⟨ret_i _ _ HR1.out.symm, Hback.out⟩
       ·by_cases ha1 : (m : Int) ≤ g.a
        ·have HR1 := zH (Hbad.out (by unfold gateOk; exact decide_eq_false (by omega)))
         clear hia hib
         go_wp2
         go_ret
         exact ⟨ret_i _ _ HR1.out.symm, Hback.out⟩
        ·by_cases hb0 : g.b < 0
         ·have HR1 := zH (Hbad.out (by unfold gateOk; exact decide_eq_false (by omega)))
          have hd1 : decide ((m : Int) ≤ g.a) = false := by simp; omega
          clear hia hib
          go_wp2
          go_ret
          exact ⟨ret_i _ _ HR1.out.symm, Hback.out⟩
         ·by_cases hb1 : (m : Int) ≤ g.b
          ·have HR1 := zH (Hbad.out (by unfold gateOk; exact decide_eq_false (by omega)))
           have hd1 : decide ((m : Int) ≤ g.a) = false := by simp; omega
           clear hia hib
           go_wp2
           go_ret
           exact ⟨ret_i _ _ HR1.out.symm, Hback.out⟩
          ·have HS1 := zH (Hstep.out (by unfold gateOk; exact decide_eq_true (by omega)))
           have hd1 : decide ((m : Int) ≤ g.a) = false := by simp; omega
           have hd2 : decide ((m : Int) ≤ g.b) = false := by simp; omega
           clear hia hib
           go_wp2
           go_roundw
           case rel => exact ⟨j + 1, by omega, by go_num, hb2.alloc (by have := hb2.size; omega) _, HS1.out⟩
           case measure => simp [intOf]; omega
      ·obtain rfl : j = l.gates.length := by omega
       have HC7 := zH (show R = checkL l.gates.length (c.layers.drop (k + 1)) by rw [HC3.out, if_pos (all_gates HG.out)])
       have g1 := (hb2.cell (p := ⟨wo.heap.size, 1, none⟩) (by have := HWs.out; show wo.heap.size < _; omega)).trans e1
       have hfin : Below w.heap.size w wr := hbr.trans ((hWr.trans (hb2.mono hWr.size)).mono hbr.size)
       have hngt : ¬ (l.gates.length : Int) < (l.gates.length : Int) := by omega
       go_wp2
       go_roundw
       case rel => exact ⟨k + 1, l.gates.length, by omega, hlen16, by go_num, rfl, hfin, HC7.out⟩
       case measure => simp [intOf]; omega
    ·have hbn : ((l.gates.length : Int) != wrap64 (2 ^ l.log.toNat)) = true := by rw [Hwl.out, bne_iff_ne]; exact fun e => hn (Int.ofNat_inj.mp e)
     have HC4 := zH (show R = 4 by rw [HC2.out, if_neg hn])
     clear hn hq1 hq2
     generalize hP : wrap64 (2 ^ l.log.toNat) = P at *
     have HP := zH hP
     go_wp2_with (go_at_call 133; (with_reducible refine (c_logged _ _ hg0 hg4).mono ?_); rintro e w' ⟨rfl, rfl⟩)
     go_quiet (fail)
     go_wp2
     go_ret
     exact ⟨ret_i _ _ HC4.out.symm, below_drewN (hbr.alloc hbr.size _) _⟩
   ·have HC5 := zH (show R = 1 by rw [HC.out]; show (if logOk l.log then _ else _) = _; rw [if_neg (by rw [log_no hlg]; decide)])
    go_wp2_with (go_at_call 133; (with_reducible refine (c_logged_no _ _ hlg).mono ?_); rintro e w' ⟨rfl, rfl⟩)
    go_ret
    exact ⟨ret_i _ _ HC5.out.symm, hbr.alloc hbr.size _⟩
  ·obtain rfl : k = c.layers.length := by omega
   have HC6 := zH (show R = 0 by rw [HC.out, List.drop_of_length_le (Nat.le_refl _)]; rfl)
   go_wp2
   go_ret
   exact ⟨ret_i _ _ HC6.out.symm, hbr⟩
set_option maxHeartbeats 2000000 in
theorem c_Check (v : Value) (c : Ci) (w : World) (h : IsC w v c) :
  Calls Tryz.prog 94 #[v] w fun e w' => e = .returned (.int .i64 (checkC c)) ∧ Below w.heap.size w w' := by
 by_cases hlg : 0 ≤ c.log ∧ c.log ≤ 4
 ·by_cases hl0 : c.layers.length = 0
  ·have HR := zH (show checkC c = 1 by unfold checkC; rw [if_neg (fun h => h.2 hl0)])
   obtain ⟨hlog, u, rfl, hL⟩ := h
   obtain ⟨hls, hll, a, cap, rfl, hr⟩ := hL
   have hn0 : ((c.layers.length : Int) == 0) = true := by rw [hl0]; rfl
   clear hr hls hl0
   obtain ⟨h0, h4⟩ := hlg
   go_enter Tryz.func94, Tryz.ntmps94
   go_wp2_with (go_at_call 133; (with_reducible refine (c_logged _ _ h0 h4).mono ?_); rintro e w' ⟨rfl, rfl⟩)
   go_ret
   exact ⟨ret_i _ _ HR.out.symm, (Below.refl _ _).alloc (Nat.le_refl _) _⟩
  ·by_cases hl4 : c.layers.length ≤ 4
   ·have HR := zH (show checkC c = checkL (2 ^ c.log.toNat) c.layers by unfold checkC; rw [if_pos ⟨log_yes hlg, hl0⟩, if_pos hl4])
    rw [HR.out]
    exact c_Check_mid v c w h hlg.1 hlg.2 (by omega) hl4
   ·have HR := zH (show checkC c = 2 by unfold checkC; rw [if_pos ⟨log_yes hlg, hl0⟩, if_neg hl4])
    obtain ⟨hlog, u, rfl, hL⟩ := h
    obtain ⟨hls, hll, a, cap, rfl, hr⟩ := hL
    have hn0 : ((c.layers.length : Int) == 0) = false := beq_false_of_ne (by omega)
    have hn4 : (4 : Int) < (c.layers.length : Int) := by omega
    clear hr hls hl0 hl4
    obtain ⟨h0, h4⟩ := hlg
    go_enter Tryz.func94, Tryz.ntmps94
    go_wp2_with (go_at_call 133; (with_reducible refine (c_logged _ _ h0 h4).mono ?_); rintro e w' ⟨rfl, rfl⟩)
    go_ret
    exact ⟨ret_i _ _ HR.out.symm, (Below.refl _ _).alloc (Nat.le_refl _) _⟩
 ·have HR := zH (show checkC c = 1 by unfold checkC; rw [if_neg (fun h => by rw [log_no hlg] at h; exact absurd h.1 (by decide))])
  obtain ⟨hlog, u, rfl, hL⟩ := h
  obtain ⟨hls, hll, a, cap, rfl, hr⟩ := hL
  clear hr hls
  go_enter Tryz.func94, Tryz.ntmps94
  go_wp2_with (go_at_call 133; (with_reducible refine (c_logged_no _ _ hlg).mono ?_); rintro e w' ⟨rfl, rfl⟩)
  go_ret
  exact ⟨ret_i _ _ HR.out.symm, (Below.refl _ _).alloc (Nat.le_refl _) _⟩
end Go.Proofs.YtlfneeobnihocaaGreatDoor
/- The walks of the reference's Circuit and Below, and of wiring.Below. The circuit is a value that reads as data. -/
namespace Go.Proofs.YtlfneeobnihocaaGreatDoor
set_option maxRecDepth 100000
set_option linter.unusedVariables false
open Go.RowKit Tally
set_option maxHeartbeats 1000000 in
theorem rc_In_y (n lo hi : Int) (w : World) (h1 : lo ≤ n) (h2 : n ≤ hi) :
  Calls Tryz.prog 153 #[.int .i64 n, .int .i64 lo, .int .i64 hi] w fun e w' => e = .returned (.bool true) ∧ w = w' := by
 go_enter Tryz.func153, Tryz.ntmps153
 go_wp2
 go_ret
 exact ⟨rfl, rfl⟩
set_option maxHeartbeats 1000000 in
theorem rc_In_n (n lo hi : Int) (w : World) (h : n < lo ∨ hi < n) :
  Calls Tryz.prog 153 #[.int .i64 n, .int .i64 lo, .int .i64 hi] w fun e w' => e = .returned (.bool false) ∧ w = w' := by
 by_cases h1 : n < lo
 ·clear h
  have hd : decide (lo ≤ n) = false := by simp; omega
  go_enter Tryz.func153, Tryz.ntmps153
  go_wp2
  go_ret
  exact ⟨rfl, rfl⟩
 ·have h2 : decide (n ≤ hi) = false := by simp; omega
  have h3 : lo ≤ n := by omega
  clear h h1
  go_enter Tryz.func153, Tryz.ntmps153
  go_wp2
  go_ret
  exact ⟨rfl, rfl⟩
def belowLog (c : Ci) (i : Nat) : Int := if i = 0 then c.log else (aty c.layers (i - 1)).log
theorem circ_cell (w : World) (x y : Value) (t : Nat) : (w.alloc (.cells #[x, y] t)).cell? ⟨w.heap.size, 0, none⟩ = some x ∧ (w.alloc (.cells #[x, y] t)).cell? ⟨w.heap.size, 1, none⟩ = some y := by
 refine ⟨?_, ?_⟩
 ·rw [World.cell?_alloc_at _ _ _ _ rfl]; rfl
 ·rw [World.cell?_alloc_at _ _ _ _ rfl]; rfl
set_option maxHeartbeats 1000000 in
theorem ref_Below (v : Value) (c : Ci) (i : Nat) (w : World) (h : IsC w v c) (hi : i ≤ c.layers.length) (hl4 : c.layers.length ≤ 4) :
  Calls Tryz.prog 121 #[v, .int .i64 i] w fun e w' => e = .returned (.int .i64 (belowLog c i)) ∧ Below w.heap.size w w' := by
 obtain ⟨hlog, u, rfl, hL⟩ := h
 obtain ⟨hls, hll, a, cap, rfl, hr⟩ := hL
 by_cases h0 : i = 0
 ·subst h0
  have HR := zH (show belowLog c 0 = c.log from rfl)
  clear hr hls
  go_enter Tryz.func121, Tryz.ntmps121
  go_wp2
  go_ret
  exact ⟨ret_i _ _ HR.out.symm, (Below.refl _ _).alloc (Nat.le_refl _) _⟩
 ·obtain ⟨j, rfl⟩ : ∃ j, i = j + 1 := ⟨i - 1, by omega⟩
  have HR := zH (show belowLog c (j + 1) = (aty c.layers j).log from by unfold belowLog; rw [if_neg (by omega)]; rfl)
  obtain ⟨b, off, rfl, hblt, hcell⟩ := hr (by omega)
  obtain ⟨c1, _⟩ := hcell j (by omega)
  have hz : (((j + 1 : Nat) : Int) == 0) = false := beq_false_of_ne (by omega)
  have hs : ((j + 1 : Nat) : Int) - 1 = (j : Int) := by omega
  have hjl : (j : Int) < (c.layers.length : Int) := by omega
  have hm1 : (1 : Int) ≤ ((j + 1 : Nat) : Int) := by omega
  have hm2 : ((j + 1 : Nat) : Int) ≤ 100 := by omega
  generalize ((j + 1 : Nat) : Int) = M at *
  clear hcell hr hls
  go_enter Tryz.func121, Tryz.ntmps121
  go_wp2
  go_ret
  exact ⟨ret_i _ _ HR.out.symm, (Below.refl _ _).alloc (Nat.le_refl _) _⟩
set_option maxHeartbeats 1000000 in
theorem wiring_Below (v : Value) (c : Ci) (i : Nat) (w : World) (h : IsC w v c) (hi : i ≤ c.layers.length) (hl4 : c.layers.length ≤ 4) :
  Calls Tryz.prog 101 #[v, .int .i64 i] w fun e w' => e = .returned (.int .i64 (belowLog c i)) ∧ Below w.heap.size w w' := by
 obtain ⟨hlog, u, rfl, hL⟩ := h
 obtain ⟨hls, hll, a, cap, rfl, hr⟩ := hL
 by_cases h0 : i = 0
 ·subst h0
  have HR := zH (show belowLog c 0 = c.log from rfl)
  clear hr hls
  go_enter Tryz.func101, Tryz.ntmps101
  go_wp2
  go_ret
  exact ⟨ret_i _ _ HR.out.symm, (Below.refl _ _).alloc (Nat.le_refl _) _⟩
 ·obtain ⟨j, rfl⟩ : ∃ j, i = j + 1 := ⟨i - 1, by omega⟩
  have HR := zH (show belowLog c (j + 1) = (aty c.layers j).log from by unfold belowLog; rw [if_neg (by omega)]; rfl)
  obtain ⟨b, off, rfl, hblt, hcell⟩ := hr (by omega)
  obtain ⟨c1, _⟩ := hcell j (by omega)
  have hz : (((j + 1 : Nat) : Int) == 0) = false := beq_false_of_ne (by omega)
  have hs : ((j + 1 : Nat) : Int) - 1 = (j : Int) := by omega
  have hjl : (j : Int) < (c.layers.length : Int) := by omega
  have hm1 : (1 : Int) ≤ ((j + 1 : Nat) : Int) := by omega
  have hm2 : ((j + 1 : Nat) : Int) ≤ 100 := by omega
  generalize ((j + 1 : Nat) : Int) = M at *
  clear hcell hr hls
  go_enter Tryz.func101, Tryz.ntmps101
  go_wp2
  go_ret
  exact ⟨ret_i _ _ HR.out.symm, (Below.refl _ _).alloc (Nat.le_refl _) _⟩
end Go.Proofs.YtlfneeobnihocaaGreatDoor
/- Several texts in one: CircM, RCircW. What each says, and its conditions, stands at its head. -/
/- Plain law: what a right circuit is, what its layers compute, how they are wired. No condition. -/
namespace Go.Proofs.YtlfneeobnihocaaGreatDoor
set_option maxRecDepth 100000
set_option linter.unusedVariables false
open Go.RowKit Tally
structure Good (c : Ci) : Prop where
 log0 : 0 ≤ c.log
 log4 : c.log ≤ 4
 n1 : 0 < c.layers.length
 n4 : c.layers.length ≤ 4
 l0 : ∀ k, k < c.layers.length → 0 ≤ (aty c.layers k).log
 l4 : ∀ k, k < c.layers.length → (aty c.layers k).log ≤ 4
 len : ∀ k, k < c.layers.length → (aty c.layers k).gates.length = 2 ^ (aty c.layers k).log.toNat
 gate : ∀ k, k < c.layers.length → ∀ j, j < (aty c.layers k).gates.length → gateOk (2 ^ (belowLog c k).toNat) (atg (aty c.layers k).gates j) = true
theorem belowLog_zero (c : Ci) : belowLog c 0 = c.log := rfl
theorem belowLog_succ (c : Ci) (k : Nat) : belowLog c (k + 1) = (aty c.layers k).log := by unfold belowLog; rw [if_neg (by omega)]; rfl
theorem Good.below0 {c : Ci} (h : Good c) {k : Nat} (hk : k ≤ c.layers.length) : 0 ≤ belowLog c k := by
 cases k with
 | zero => exact h.log0
 | succ k => rw [belowLog_succ]; exact h.l0 k (by omega)
theorem Good.below4 {c : Ci} (h : Good c) {k : Nat} (hk : k ≤ c.layers.length) : belowLog c k ≤ 4 := by
 cases k with
 | zero => exact h.log4
 | succ k => rw [belowLog_succ]; exact h.l4 k (by omega)
theorem drop_aty (l : List Ly) (k : Nat) (h : k < l.length) : l.drop k = aty l k :: l.drop (k + 1) := by
 rw [List.drop_eq_getElem_cons h]; simp [aty, List.getElem?_eq_getElem h]
theorem checkL_cons {m : Nat} {l : Ly} {ls : List Ly} (h : checkL m (l :: ls) = 0) : (0 ≤ l.log ∧ l.log ≤ 4) ∧ l.gates.length = 2 ^ l.log.toNat ∧ l.gates.all (gateOk m) = true ∧ checkL l.gates.length ls = 0 := by
 unfold checkL at h
 split at h
 ·rename_i h1
  split at h
  ·rename_i h2
   split at h
   ·rename_i h3
    exact ⟨of_decide_eq_true h1, h2, h3, h⟩
   ·omega
  ·omega
 ·omega
theorem gate_at {m : Nat} {l : List Gt} (h : l.all (gateOk m) = true) {j : Nat} (hj : j < l.length) : gateOk m (atg l j) = true := by
 rw [List.all_eq_true] at h
 exact h _ (atg_mem hj)
theorem good_from (c : Ci) (k : Nat) (hk : k ≤ c.layers.length) (h : checkL (2 ^ (belowLog c k).toNat) (c.layers.drop k) = 0) :
  ∀ q, k ≤ q → q < c.layers.length → (0 ≤ (aty c.layers q).log ∧ (aty c.layers q).log ≤ 4) ∧ (aty c.layers q).gates.length = 2 ^ (aty c.layers q).log.toNat ∧ (aty c.layers q).gates.all (gateOk (2 ^ (belowLog c q).toNat)) = true := by
 obtain ⟨n, hn⟩ : ∃ n, n = c.layers.length - k := ⟨_, rfl⟩
 induction n generalizing k with
 | zero => intro q h1 h2; omega
 | succ n ih =>
  intro q h1 h2
  rw [drop_aty _ _ (by omega)] at h
  obtain ⟨g1, g2, g3, g4⟩ := checkL_cons h
  by_cases e : q = k
  ·subst e; exact ⟨g1, g2, g3⟩
  ·rw [g2] at g4
   exact ih (k + 1) (by omega) (by rw [belowLog_succ]; exact g4) (by omega) q (by omega) h2
theorem good_of_check {c : Ci} (h : checkC c = 0) : Good c := by
 unfold checkC at h
 split at h
 ·rename_i h1
  obtain ⟨hl, h0⟩ := h1
  split at h
  ·rename_i h4
   have hl' : 0 ≤ c.log ∧ c.log ≤ 4 := of_decide_eq_true hl
   have hall := good_from c 0 (by omega) (by rw [belowLog_zero, List.drop_zero]; exact h)
   exact ⟨hl'.1, hl'.2, by omega, h4, fun k hk => (hall k (by omega) hk).1.1, fun k hk => (hall k (by omega) hk).1.2, fun k hk => (hall k (by omega) hk).2.1, fun k hk j hj => gate_at (hall k (by omega) hk).2.2 hj⟩
  ·omega
 ·omega
theorem gateOk_bd {m : Nat} {g : Gt} (h : gateOk m g = true) : 0 ≤ g.a ∧ g.a < (m : Int) ∧ 0 ≤ g.b ∧ g.b < (m : Int) := of_decide_eq_true h
def gateF (V : List F) (g : Gt) : F := if g.mul then atF V g.a.toNat * atF V g.b.toNat else atF V g.a.toNat + atF V g.b.toNat
def layF (V : List F) (gs : List Gt) : List F := gs.map (gateF V)
def valF (c : Ci) (inp : List F) : Nat → List F
 | 0 => inp
 | k + 1 => layF (valF c inp k) (aty c.layers k).gates
theorem layF_length (V : List F) (gs : List Gt) : (layF V gs).length = gs.length := by unfold layF; exact List.length_map _
theorem valF_length {c : Ci} (h : Good c) (inp : List F) (hi : inp.length = 2 ^ c.log.toNat) (k : Nat) (hk : k ≤ c.layers.length) : (valF c inp k).length = 2 ^ (belowLog c k).toNat := by
 cases k with
 | zero => exact hi
 | succ k => show (layF _ _).length = _; rw [layF_length, belowLog_succ]; exact h.len k (by omega)
theorem layF_at (V : List F) (gs : List Gt) (j : Nat) (h : j < gs.length) : atF (layF V gs) j = gateF V (atg gs j) := by
 simp [atF, layF, atg, h]
def wireT (gs : List Gt) (mul : Bool) (z x y : List F) (k : Nat) : F := if (atg gs k).mul = mul then eqAt z k * (eqAt x (atg gs k).a.toNat * eqAt y (atg gs k).b.toNat) else 0
def wiredF (gs : List Gt) (mul : Bool) (z x y : List F) : F := sumTo (wireT gs mul z x y) gs.length
def stepF (gs : List Gt) (z x y : List F) (vx vy : F) : F := wiredF gs false z x y * (vx + vy) + wiredF gs true z x y * (vx * vy)
end Go.Proofs.YtlfneeobnihocaaGreatDoor
/- The walk of the reference's Circuit: it answers what Check answers. The circuit is a value that reads as data. -/
namespace Go.Proofs.YtlfneeobnihocaaGreatDoor
set_option maxRecDepth 100000
set_option linter.unusedVariables false
open Go.RowKit Tally
set_option maxHeartbeats 4000000 in
theorem rc_Circuit_mid (v : Value) (c : Ci) (w : World) (h : IsC w v c) (h0 : 0 ≤ c.log) (h4 : c.log ≤ 4) (hl1 : 0 < c.layers.length) (hl4 : c.layers.length ≤ 4) :
  Calls Tryz.prog 118 #[v] w fun e w' => e = .returned (.int .i64 (checkL (2 ^ c.log.toNat) c.layers)) ∧ Below w.heap.size w w' := by
 have HC0 := zH h
 obtain ⟨hlog, u, rfl, hL⟩ := h
 obtain ⟨hls, hll, a, cap, rfl, hr⟩ := hL
 have Hr := zH hr
 have Hls := zH hls
 have hn0 : ((c.layers.length : Int) == 0) = false := beq_false_of_ne (by omega)
 obtain ⟨R, hR⟩ : ∃ R, R = checkL (2 ^ c.log.toNat) c.layers := ⟨_, rfl⟩
 rw [← hR]
 have HR := zH hR
 clear hr hls hR
 go_enter Tryz.func118, Tryz.ntmps118
 go_wp2_with (go_at_call 153; (with_reducible refine (rc_In_y _ _ _ _ h0 h4).mono ?_); rintro e w' ⟨rfl, rfl⟩)
 obtain ⟨k0, k1⟩ := circ_cell w (.int .i64 c.log) (.slice a c.layers.length cap) 62
 have B1 : Below w.heap.size w (w.alloc (.cells #[.int .i64 c.log, .slice a c.layers.length cap] 62)) := (Below.refl _ _).alloc (Nat.le_refl _) _
 have L1 : w.heap.size < (w.alloc (.cells #[.int .i64 c.log, .slice a c.layers.length cap] 62)).heap.size := by simp
 generalize w.alloc (.cells #[.int .i64 c.log, .slice a c.layers.length cap] 62) = W1 at *
 go_loopw [3] (fun i wr => ∃ (k : Nat), k ≤ c.layers.length ∧ i = .int .i64 (k : Int) ∧ Below W1.heap.size W1 wr ∧ Hid (R = checkL (2 ^ (belowLog c k).toNat) (c.layers.drop k) ∧ 0 ≤ belowLog c k ∧ belowLog c k ≤ 4)) (fun i _ => c.layers.length - (intOf i).toNat)
 case atStart => exact ⟨0, by omega, rfl, Below.refl _ _, HR.out, h0, h4⟩
 case round =>
  obtain ⟨k, hk, rfl, hb1, HC⟩ := hrel
  have r0 := (hb1.cell (p := ⟨w.heap.size, 0, none⟩) L1).trans k0
  have r1 := (hb1.cell (p := ⟨w.heap.size, 1, none⟩) L1).trans k1
  have hbr : Below w.heap.size w wr := B1.trans (hb1.mono B1.size)
  by_cases hz : k < c.layers.length
  ·obtain ⟨b, off, rfl, hblt, hcell⟩ := Hr.out hl1
   obtain ⟨c1, u, c2, hg⟩ := hcell k hz
   have d1 := (hbr.cell (p := ⟨b, off + k * 2, none⟩) (by exact hblt)).trans c1
   have d2 := (hbr.cell (p := ⟨b, off + k * 2 + 1, none⟩) (by exact hblt)).trans c2
   obtain ⟨hgi, hgl, ag, cg, rfl, hgr⟩ := hg.below hbr (Nat.le_refl _)
   have Hg := zH hgr
   have Hgi := zH hgi
   clear hcell c1 c2 hg hgr hgi
   obtain ⟨HC1, hB0, hB4⟩ := HC.out
   rw [drop_aty _ _ hz] at HC1
   have HC := zH HC1
   have Hbl := zH (belowLog_succ c k)
   obtain ⟨BL, hBL⟩ : ∃ x, x = belowLog c k := ⟨_, rfl⟩
   rw [← hBL] at HC hB0 hB4
   have HBL := zH hBL
   clear HC1 hBL
   generalize aty c.layers k = l at *
   by_cases hlg : 0 ≤ l.log ∧ l.log ≤ 4
   ·obtain ⟨hg0, hg4⟩ := hlg
    obtain ⟨hq1, hq2⟩ := pow4 hg4
    have Hwl := zH (wrap4 hg4)
    have HC2 := zH (show R = if l.gates.length = 2 ^ l.log.toNat then (if l.gates.all (gateOk (2 ^ BL.toNat)) then checkL l.gates.length (c.layers.drop (k + 1)) else 1) else 4 by
     rw [HC.out]; show (if logOk l.log then _ else _) = _; rw [if_pos (log_yes ⟨hg0, hg4⟩)])
    by_cases hn : l.gates.length = 2 ^ l.log.toNat
    ·have HC3 := zH (show R = if l.gates.all (gateOk (2 ^ BL.toNat)) then checkL l.gates.length (c.layers.drop (k + 1)) else 1 by rw [HC2.out, if_pos hn])
     have Hn := zH hn
     have hlen16 : l.gates.length ≤ 16 := by rw [hn]; exact hq2
     have hbn : ((l.gates.length : Int) != wrap64 (2 ^ l.log.toNat)) = false := by rw [Hwl.out, hn]; simp
     obtain ⟨hm1, hm2⟩ := pow4 hB4
     have Hwm := zH (wrap4 hB4)
     obtain ⟨m, hm⟩ : ∃ m, m = 2 ^ BL.toNat := ⟨_, rfl⟩
     rw [← hm] at HC3 hm1 hm2 Hwm
     obtain ⟨Q, hQ⟩ : ∃ Q, wrap64 (2 ^ BL.toNat) = Q := ⟨_, rfl⟩
     have hQm := Hwm.out
     rw [hQ] at hQm
     have hQ1 : 1 ≤ Q := by omega
     have hQ16 : Q ≤ 16 := by omega
     have HQm := zH hQm
     have HB0 := zH hB0
     clear hn hq1 hq2 hm hm1 hm2 hQm
     generalize hP : wrap64 (2 ^ l.log.toNat) = P at *
     have HP := zH hP
     go_wp2_with (go_at_call 153; (with_reducible refine (rc_In_y _ _ _ _ hg0 hg4).mono ?_); rintro e w' ⟨rfl, rfl⟩)
     go_quiet (fail)
     obtain ⟨wo, rfl⟩ : ∃ x : World, x = wr := ⟨_, rfl⟩
     obtain ⟨W, hW, e0, e1, hWr, hWs⟩ := copied2 wo (.int .i64 l.log) (.slice ag l.gates.length cg) 124 nq
     rw [hW]
     have HWs := zH hWs
     have hWs1 : wo.heap.size < W.heap.size := by omega
     have q0 := (hWr.cell (p := ⟨w.heap.size, 0, none⟩) (by have := hb1.size; exact Nat.lt_of_lt_of_le L1 this)).trans r0
     have q1 := (hWr.cell (p := ⟨w.heap.size, 1, none⟩) (by have := hb1.size; exact Nat.lt_of_lt_of_le L1 this)).trans r1
     clear hW hWs
     go_wp2_with (fail)
     refine (ref_Below _ c k _ (HC0.out.below (hbr.trans (hWr.mono hbr.size)) (Nat.le_refl _)) (by omega) hl4).mono ?_
     rintro e w2 ⟨rfl, hb2⟩
     rw [← HBL.out]
     have e0' := (hb2.cell (p := ⟨wo.heap.size, 0, none⟩) hWs1).trans e0
     have e1' := (hb2.cell (p := ⟨wo.heap.size, 1, none⟩) hWs1).trans e1
     have hb3 : Below wo.heap.size wo w2 := hWr.trans (hb2.mono hWr.size)
     clear e0 e1 d1 d2 r0 r1 q0 q1
     go_wp2_with (fail)
     rw [hQ]
     go_loop [6] (fun i => ∃ j : Nat, j ≤ l.gates.length ∧ i = .int .i64 (j : Int) ∧ Hid (∀ n, n < j → gateOk m (atg l.gates n) = true)) (fun i => l.gates.length - (intOf i).toNat)
     case atStart => exact ⟨0, by omega, rfl, fun n hn => absurd hn (Nat.not_lt_zero _)⟩
     case round =>
      obtain ⟨j, hj, rfl, HG⟩ := hrel
      by_cases hjz : j < l.gates.length
      ·obtain ⟨b2, off2, rfl, hb2lt, hgc⟩ := Hg.out (by omega)
       obtain ⟨c1, c2, c3⟩ := hgc j hjz
       have f2 := (hb3.cell (p := ⟨b2, off2 + j * 3 + 1, none⟩) (by exact hb2lt)).trans c2
       have f3 := (hb3.cell (p := ⟨b2, off2 + j * 3 + 2, none⟩) (by exact hb2lt)).trans c3
       obtain ⟨hia, hib⟩ := Hgi.out _ (atg_mem hjz)
       have Hstep := zH (show gateOk m (atg l.gates j) = true → ∀ n, n < j + 1 → gateOk m (atg l.gates n) = true from fun hgj n hn => by
        rcases Nat.lt_or_ge n j with h | h
        ·exact HG.out n h
        ·obtain rfl : n = j := by omega
         exact hgj)
       have Hbad := zH (show gateOk m (atg l.gates j) = false → R = 1 from fun hgj => by rw [HC3.out, if_neg (by rw [not_all hjz hgj]; decide)])
       have hjl : (j : Int) < (l.gates.length : Int) := by omega
       clear hgc c1 c2 c3
       generalize atg l.gates j = g at *
       have Hback := zH (show Below w.heap.size w w2 from hbr.trans (hb3.mono hbr.size))
       by_cases ha : 0 ≤ g.a ∧ g.a ≤ Q - 1
       ·obtain ⟨ha1, ha2⟩ := ha
        by_cases hb : 0 ≤ g.b ∧ g.b ≤ Q - 1
        ·obtain ⟨hbb1, hbb2⟩ := hb
         have HS1 := zH (Hstep.out (by have := HQm.out; unfold gateOk; exact decide_eq_true (by omega)))
         clear hia hib
         go_wp2_with (go_at_call 153; (with_reducible refine (rc_In_y _ _ _ _ (by assumption) (by assumption)).mono ?_); rintro e w' ⟨rfl, rfl⟩)
         go_round
         case rel => exact ⟨j + 1, by omega, by go_num, HS1.out⟩
         case measure => simp [intOf]; omega
        ·have HR1 := zH (Hbad.out (by have := HQm.out; unfold gateOk; exact decide_eq_false (by omega)))
         have hb' : g.b < 0 ∨ Q - 1 < g.b := by omega
         clear hia hib hb
         go_wp2_with (first | (go_at_call 153; (with_reducible refine (rc_In_y _ _ _ _ ha1 ha2).mono ?_); rintro e w' ⟨rfl, rfl⟩) | (go_at_call 153; (with_reducible refine (rc_In_n _ _ _ _ hb').mono ?_); rintro e w' ⟨rfl, rfl⟩))
         go_ret
         exact ⟨ret_i _ _ HR1.out.symm, Hback.out⟩
       ·have HR1 := zH (Hbad.out (by have := HQm.out; unfold gateOk; exact decide_eq_false (by omega)))
        have ha' : g.a < 0 ∨ Q - 1 < g.a := by omega
        clear hia hib ha
        go_wp2_with (go_at_call 153; (with_reducible refine (rc_In_n _ _ _ _ ha').mono ?_); rintro e w' ⟨rfl, rfl⟩)
        go_ret
        exact ⟨ret_i _ _ HR1.out.symm, Hback.out⟩
      ·obtain rfl : j = l.gates.length := by omega
       have HC7 := zH (show R = checkL (2 ^ (belowLog c (k + 1)).toNat) (c.layers.drop (k + 1)) by rw [HC3.out, if_pos (all_gates HG.out), Hbl.out, ← Hn.out])
       have hngt : ¬ (l.gates.length : Int) < (l.gates.length : Int) := by omega
       have Hb5 := zH (show Below W1.heap.size W1 w2 from hb1.trans (hb3.mono hb1.size))
       have Hl5 := zH (show 0 ≤ belowLog c (k + 1) ∧ belowLog c (k + 1) ≤ 4 by rw [Hbl.out]; exact ⟨hg0, hg4⟩)
       go_wp2
       go_roundw
       case rel => exact ⟨k + 1, by omega, by go_num, Hb5.out, HC7.out, Hl5.out⟩
       case measure => simp [intOf]; omega
    ·have hbn : ((l.gates.length : Int) != wrap64 (2 ^ l.log.toNat)) = true := by rw [Hwl.out, bne_iff_ne]; exact fun e => hn (Int.ofNat_inj.mp e)
     have HC4 := zH (show R = 4 by rw [HC2.out, if_neg hn])
     clear hn hq1 hq2
     generalize hP : wrap64 (2 ^ l.log.toNat) = P at *
     have HP := zH hP
     go_wp2_with (go_at_call 153; (with_reducible refine (rc_In_y _ _ _ _ hg0 hg4).mono ?_); rintro e w' ⟨rfl, rfl⟩)
     go_quiet (fail)
     go_wp2
     go_ret
     exact ⟨ret_i _ _ HC4.out.symm, below_drewN (hbr.alloc hbr.size _) _⟩
   ·have HC5 := zH (show R = 1 by rw [HC.out]; show (if logOk l.log then _ else _) = _; rw [if_neg (by rw [log_no hlg]; decide)])
    have hlg' : l.log < 0 ∨ 4 < l.log := by omega
    clear hlg
    go_wp2_with (go_at_call 153; (with_reducible refine (rc_In_n _ _ _ _ hlg').mono ?_); rintro e w' ⟨rfl, rfl⟩)
    go_ret
    exact ⟨ret_i _ _ HC5.out.symm, hbr.alloc hbr.size _⟩
  ·obtain rfl : k = c.layers.length := by omega
   have HC6 := zH (show R = 0 by rw [HC.out.1, List.drop_of_length_le (Nat.le_refl _)]; rfl)
   go_wp2
   go_ret
   exact ⟨ret_i _ _ HC6.out.symm, hbr⟩
set_option maxHeartbeats 2000000 in
theorem rc_Circuit (v : Value) (c : Ci) (w : World) (h : IsC w v c) :
  Calls Tryz.prog 118 #[v] w fun e w' => e = .returned (.int .i64 (checkC c)) ∧ Below w.heap.size w w' := by
 by_cases hlg : 0 ≤ c.log ∧ c.log ≤ 4
 ·by_cases hl0 : c.layers.length = 0
  ·have HR := zH (show checkC c = 1 by unfold checkC; rw [if_neg (fun h => h.2 hl0)])
   obtain ⟨hlog, u, rfl, hL⟩ := h
   obtain ⟨hls, hll, a, cap, rfl, hr⟩ := hL
   have hn0 : ((c.layers.length : Int) == 0) = true := by rw [hl0]; rfl
   clear hr hls hl0
   obtain ⟨h0, h4⟩ := hlg
   go_enter Tryz.func118, Tryz.ntmps118
   go_wp2_with (go_at_call 153; (with_reducible refine (rc_In_y _ _ _ _ h0 h4).mono ?_); rintro e w' ⟨rfl, rfl⟩)
   go_ret
   exact ⟨ret_i _ _ HR.out.symm, (Below.refl _ _).alloc (Nat.le_refl _) _⟩
  ·by_cases hl4 : c.layers.length ≤ 4
   ·have HR := zH (show checkC c = checkL (2 ^ c.log.toNat) c.layers by unfold checkC; rw [if_pos ⟨log_yes hlg, hl0⟩, if_pos hl4])
    rw [HR.out]
    exact rc_Circuit_mid v c w h hlg.1 hlg.2 (by omega) hl4
   ·have HR := zH (show checkC c = 2 by unfold checkC; rw [if_pos ⟨log_yes hlg, hl0⟩, if_neg hl4])
    obtain ⟨hlog, u, rfl, hL⟩ := h
    obtain ⟨hls, hll, a, cap, rfl, hr⟩ := hL
    have hn0 : ((c.layers.length : Int) == 0) = false := beq_false_of_ne (by omega)
    have hn4 : (4 : Int) < (c.layers.length : Int) := by omega
    clear hr hls hl0 hl4
    obtain ⟨h0, h4⟩ := hlg
    go_enter Tryz.func118, Tryz.ntmps118
    go_wp2_with (go_at_call 153; (with_reducible refine (rc_In_y _ _ _ _ h0 h4).mono ?_); rintro e w' ⟨rfl, rfl⟩)
    go_ret
    exact ⟨ret_i _ _ HR.out.symm, (Below.refl _ _).alloc (Nat.le_refl _) _⟩
 ·have HR := zH (show checkC c = 1 by unfold checkC; rw [if_neg (fun h => by rw [log_no hlg] at h; exact absurd h.1 (by decide))])
  have hlg' : c.log < 0 ∨ 4 < c.log := by omega
  obtain ⟨hlog, u, rfl, hL⟩ := h
  obtain ⟨hls, hll, a, cap, rfl, hr⟩ := hL
  clear hr hls hlg
  go_enter Tryz.func118, Tryz.ntmps118
  go_wp2_with (go_at_call 153; (with_reducible refine (rc_In_n _ _ _ _ hlg').mono ?_); rintro e w' ⟨rfl, rfl⟩)
  go_ret
  exact ⟨ret_i _ _ HR.out.symm, (Below.refl _ _).alloc (Nat.le_refl _) _⟩
end Go.Proofs.YtlfneeobnihocaaGreatDoor
/- Several texts in one: TextM, Pcs. What each says, and its conditions, stands at its head. -/
/- Plain law: the text of a circuit, as bytes, and how long it is. No condition. -/
namespace Go.Proofs.YtlfneeobnihocaaGreatDoor
set_option maxRecDepth 100000
set_option linter.unusedVariables false
open Go.RowKit Tally
def numB (n : Int) : ByteArray := ⟨(Lib.decDigits n.toNat).toArray⟩
theorem numB_size {n : Int} (h0 : 0 ≤ n) (h : n < 100) : (numB n).size ≤ 2 := by
 show (Lib.decDigits n.toNat).toArray.size ≤ 2
 rw [List.size_toArray]
 by_cases h1 : n.toNat < 10
 ·rw [Lib.decDigits_one h1]; simp
 ·rw [Lib.decDigits_two h1 (by omega)]; simp
def inB (n : Int) : ByteArray := ⟨#[105, 110, 112, 117, 116, 115, 32]⟩ ++ numB n ++ ⟨#[10]⟩
def headB (n : Int) : ByteArray := ⟨#[108, 97, 121, 101, 114, 32]⟩ ++ numB n ++ ⟨#[10]⟩
def wordB (m : Bool) : ByteArray := if m then ⟨#[109, 117, 108, 32]⟩ else ⟨#[97, 100, 100, 32]⟩
def gateB (g : Gt) : ByteArray := wordB g.mul ++ numB g.a ++ ⟨#[32]⟩ ++ numB g.b ++ ⟨#[10]⟩
def gatesB (gs : List Gt) : Nat → ByteArray
 | 0 => ByteArray.empty
 | j + 1 => gatesB gs j ++ gateB (atg gs j)
def layB (l : Ly) : ByteArray := headB l.log ++ gatesB l.gates l.gates.length
def laysB (ls : List Ly) : Nat → ByteArray
 | 0 => ByteArray.empty
 | k + 1 => laysB ls k ++ layB (aty ls k)
def circB (c : Ci) : ByteArray := inB c.log ++ laysB c.layers c.layers.length
theorem wordB_size (m : Bool) : (wordB m).size = 4 := by cases m <;> rfl
theorem inB_size {n : Int} (h0 : 0 ≤ n) (h : n < 100) : (inB n).size ≤ 10 := by
 have := numB_size h0 h
 have e1 : (⟨#[105, 110, 112, 117, 116, 115, 32]⟩ : ByteArray).size = 7 := rfl
 have e2 : (⟨#[10]⟩ : ByteArray).size = 1 := rfl
 unfold inB; rw [ByteArray.size_append, ByteArray.size_append, e1, e2]; omega
theorem headB_size {n : Int} (h0 : 0 ≤ n) (h : n < 100) : (headB n).size ≤ 9 := by
 have := numB_size h0 h
 have e1 : (⟨#[108, 97, 121, 101, 114, 32]⟩ : ByteArray).size = 6 := rfl
 have e2 : (⟨#[10]⟩ : ByteArray).size = 1 := rfl
 unfold headB; rw [ByteArray.size_append, ByteArray.size_append, e1, e2]; omega
theorem gateB_size {g : Gt} (ha : 0 ≤ g.a) (ha2 : g.a < 100) (hb : 0 ≤ g.b) (hb2 : g.b < 100) : (gateB g).size ≤ 10 := by
 have h1 := numB_size ha ha2
 have h2 := numB_size hb hb2
 have e1 : (⟨#[32]⟩ : ByteArray).size = 1 := rfl
 have e2 : (⟨#[10]⟩ : ByteArray).size = 1 := rfl
 unfold gateB; rw [ByteArray.size_append, ByteArray.size_append, ByteArray.size_append, ByteArray.size_append, wordB_size, e1, e2]; omega
theorem gatesB_size {gs : List Gt} (h : ∀ j, j < gs.length → 0 ≤ (atg gs j).a ∧ (atg gs j).a < 100 ∧ 0 ≤ (atg gs j).b ∧ (atg gs j).b < 100) : ∀ j, j ≤ gs.length → (gatesB gs j).size ≤ 10 * j
 | 0, _ => by simp [gatesB]
 | j + 1, hj => by
  have h1 := gatesB_size h j (by omega)
  obtain ⟨a, b, c, d⟩ := h j (by omega)
  have h2 := gateB_size a b c d
  show (gatesB gs j ++ gateB (atg gs j)).size ≤ _
  rw [ByteArray.size_append]; omega
theorem Good.gates100 {c : Ci} (h : Good c) {k : Nat} (hk : k < c.layers.length) {j : Nat} (hj : j < (aty c.layers k).gates.length) :
  0 ≤ (atg (aty c.layers k).gates j).a ∧ (atg (aty c.layers k).gates j).a < 100 ∧ 0 ≤ (atg (aty c.layers k).gates j).b ∧ (atg (aty c.layers k).gates j).b < 100 := by
 obtain ⟨h1, h2, h3, h4⟩ := gateOk_bd (h.gate k hk j hj)
 have := (pow4 (h.below4 (k := k) (by omega))).2
 omega
theorem Good.len16 {c : Ci} (h : Good c) {k : Nat} (hk : k < c.layers.length) : (aty c.layers k).gates.length ≤ 16 := by
 rw [h.len k hk]; exact (pow4 (h.l4 k hk)).2
theorem layB_size {c : Ci} (h : Good c) {k : Nat} (hk : k < c.layers.length) : (layB (aty c.layers k)).size ≤ 169 := by
 have h1 := headB_size (h.l0 k hk) (by have := h.l4 k hk; omega)
 have h2 := gatesB_size (fun j hj => h.gates100 hk hj) _ (Nat.le_refl _)
 have h3 := h.len16 hk
 unfold layB; rw [ByteArray.size_append]; omega
theorem laysB_size {c : Ci} (h : Good c) : ∀ k, k ≤ c.layers.length → (laysB c.layers k).size ≤ 169 * k
 | 0, _ => by simp [laysB]
 | k + 1, hk => by
  have h1 := laysB_size h k (by omega)
  have h2 := layB_size h (k := k) (by omega)
  show (laysB c.layers k ++ layB (aty c.layers k)).size ≤ _
  rw [ByteArray.size_append]; omega
theorem circB_size {c : Ci} (h : Good c) : (circB c).size ≤ 700 := by
 have h1 := laysB_size h _ (Nat.le_refl _)
 have h2 := inB_size h.log0 (by have := h.log4; omega)
 have := h.n4
 unfold circB; rw [ByteArray.size_append]; omega
end Go.Proofs.YtlfneeobnihocaaGreatDoor
/- Plain law: the pieces of a text between bytes of one sort, numerals, what a circuit's text says. No condition. -/
namespace Go.Proofs.YtlfneeobnihocaaGreatDoor
set_option maxRecDepth 100000
set_option linter.unusedVariables false
open Go.RowKit Tally
def pcs (c : UInt8) : List UInt8 → List (List UInt8)
 | [] => [[]]
 | b :: r => if b = c then [] :: pcs c r else
  match pcs c r with
  | [] => [[b]]
  | p :: ps => (b :: p) :: ps
theorem pcs_ne (c : UInt8) (l : List UInt8) : pcs c l ≠ [] := by
 cases l with
 | nil => simp [pcs]
 | cons b r =>
  unfold pcs
  split
  ·simp
  ·split <;> simp
theorem pcs_head (c : UInt8) (r : List UInt8) : ∃ p ps, pcs c r = p :: ps := by
 match h : pcs c r with
 | [] => exact absurd h (pcs_ne c r)
 | p :: ps => exact ⟨p, ps, rfl⟩
theorem pcs_cons (c b : UInt8) (r : List UInt8) (h : b ≠ c) {p : List UInt8} {ps : List (List UInt8)} (hp : pcs c r = p :: ps) : pcs c (b :: r) = (b :: p) :: ps := by
 show (if b = c then _ else _) = _
 rw [if_neg h, hp]
theorem pcs_append (c : UInt8) : ∀ (l r : List UInt8), (∀ x ∈ l, x ≠ c) → ∀ {p ps}, pcs c r = p :: ps → pcs c (l ++ r) = (l ++ p) :: ps
 | [], r, _, p, ps, h => by simpa using h
 | b :: l, r, hl, p, ps, h => by
  rw [List.cons_append, pcs_cons c b (l ++ r) (hl b (by simp)) (pcs_append c l r (fun x hx => hl x (by simp [hx])) h)]
  rfl
theorem pcs_none (c : UInt8) (l : List UInt8) (h : ∀ x ∈ l, x ≠ c) : pcs c l = [l] := by
 have := pcs_append c l [] h (p := []) (ps := []) rfl
 simpa using this
theorem pcs_sep (c : UInt8) (l r : List UInt8) (h : ∀ x ∈ l, x ≠ c) : pcs c (l ++ c :: r) = l :: pcs c r := by
 have := pcs_append c l (c :: r) h (p := []) (ps := pcs c r) (by show (if c = c then _ else _) = _; rw [if_pos rfl])
 simpa using this
theorem pcs_snoc_eq (c : UInt8) : ∀ l : List UInt8, pcs c (l ++ [c]) = pcs c l ++ [[]]
 | [] => by show (if c = c then _ else _) = _; rw [if_pos rfl]; rfl
 | b :: l => by
  have ih := pcs_snoc_eq c l
  by_cases h : b = c
  ·show (if b = c then [] :: pcs c (l ++ [c]) else _) = (if b = c then _ else _) ++ _
   rw [if_pos h, if_pos h, ih]; rfl
  ·obtain ⟨p, ps, hp⟩ := pcs_head c l
   rw [hp, List.cons_append] at ih
   rw [List.cons_append, pcs_cons c b _ h ih, pcs_cons c b l h hp]; rfl
theorem pcs_snoc_ne (c b : UInt8) (hb : b ≠ c) : ∀ l : List UInt8, ∃ q x, pcs c l = q ++ [x] ∧ pcs c (l ++ [b]) = q ++ [x ++ [b]]
 | [] => ⟨[], [], rfl, pcs_none c [b] (by simpa using hb)⟩
 | a :: l => by
  obtain ⟨q, x, h1, h2⟩ := pcs_snoc_ne c b hb l
  by_cases h : a = c
  ·refine ⟨[] :: q, x, ?_, ?_⟩
   ·show (if a = c then _ else _) = _
    rw [if_pos h, h1]; rfl
   ·show (if a = c then [] :: pcs c (l ++ [b]) else _) = _
    rw [if_pos h, h2]; rfl
  ·cases q with
   | nil => exact ⟨[], a :: x, pcs_cons c a l h h1, pcs_cons c a (l ++ [b]) h h2⟩
   | cons p ps => exact ⟨(a :: p) :: ps, x, pcs_cons c a l h h1, pcs_cons c a (l ++ [b]) h h2⟩
theorem pcs_length (c : UInt8) : ∀ l : List UInt8, (pcs c l).length = l.count c + 1
 | [] => rfl
 | b :: l => by
  have ih := pcs_length c l
  by_cases h : b = c
  ·show (if b = c then _ else _ : List (List UInt8)).length = _
   rw [if_pos h, List.length_cons, ih, h, List.count_cons_self]
  ·obtain ⟨p, ps, hp⟩ := pcs_head c l
   rw [pcs_cons c b l h hp, List.count_cons_of_ne h]
   rw [hp] at ih
   exact ih
theorem index_split (c : UInt8) : ∀ l : List UInt8, (Lib.index l [c] = -1 ∧ ∀ x ∈ l, x ≠ c) ∨ ∃ a r, l = a ++ c :: r ∧ (∀ x ∈ a, x ≠ c) ∧ Lib.index l [c] = (a.length : Int)
 | [] => Or.inl ⟨rfl, by simp⟩
 | b :: l => by
  by_cases h : b = c
  ·subst h
   exact Or.inr ⟨[], l, rfl, by simp, by unfold Lib.index; rw [if_pos (by simp [List.isPrefixOf])]; rfl⟩
  ·have hp : ([c] : List UInt8).isPrefixOf (b :: l) = false := by simp [List.isPrefixOf, Ne.symm h]
   have hix : Lib.index (b :: l) [c] = if Lib.index l [c] == -1 then -1 else Lib.index l [c] + 1 := by rw [Lib.index, hp]; simp
   rcases index_split c l with ⟨h1, h2⟩ | ⟨a, r, rfl, h2, h3⟩
   ·refine Or.inl ⟨by rw [hix, h1]; rfl, fun x hx => ?_⟩
    rcases List.mem_cons.mp hx with rfl | hx
    ·exact h
    ·exact h2 x hx
   ·refine Or.inr ⟨b :: a, r, rfl, fun x hx => ?_, ?_⟩
    ·rcases List.mem_cons.mp hx with rfl | hx
     ·exact h
     ·exact h2 x hx
    ·rw [hix, h3, if_neg (by simp)]
     simp
theorem splitK_pcs (c : UInt8) : ∀ (k : Nat) (l : List UInt8), l.count c = k → Lib.splitK [c] 0 k l = pcs c l
 | 0, l, h => by
  have : ∀ x ∈ l, x ≠ c := fun x hx e => by
   have := List.count_eq_zero.mp h
   exact this (e ▸ hx)
  rw [pcs_none c l this]; rfl
 | k + 1, l, h => by
  rcases index_split c l with ⟨h1, h2⟩ | ⟨a, r, rfl, h2, h3⟩
  ·have : l.count c = 0 := List.count_eq_zero.mpr fun hm => h2 c hm rfl
   omega
  ·have hc : r.count c = k := by
    rw [List.count_append, List.count_cons_self, List.count_eq_zero.mpr (fun hm => h2 c hm rfl)] at h; omega
   unfold Lib.splitK
   rw [h3, if_neg (by simp)]
   have e1 : ((a.length : Int).toNat + 0) = a.length := by omega
   have e2 : ((a.length : Int).toNat + [c].length) = a.length + 1 := by simp
   rw [e1, e2, show (a ++ c :: r).take a.length = a by simp, show (a ++ c :: r).drop (a.length + 1) = r by
    rw [List.drop_append]; simp, splitK_pcs c k r hc, pcs_sep c a r h2]
abbrev mkB (l : List UInt8) : ByteArray := ⟨l.toArray⟩
theorem splitB_pcs (c : UInt8) (s : ByteArray) : Lib.splitB ⟨#[c]⟩ 0 (Lib.countB s ⟨#[c]⟩) s = (pcs c s.data.toList).map mkB := by
 have h1 := Lib.splitB_data ⟨#[c]⟩ 0 (Lib.countB s ⟨#[c]⟩) s
 have h2 : Lib.countB s ⟨#[c]⟩ = s.data.toList.count c := by
  have := Lib.count_one c s.data.toList
  exact this
 rw [h2, splitK_pcs c _ _ rfl] at h1
 have h3 := congrArg (List.map mkB) h1
 rw [List.map_map, show (mkB ∘ fun x : ByteArray => x.data.toList) = id from rfl, List.map_id] at h3
 rw [h2]
 exact h3
end Go.Proofs.YtlfneeobnihocaaGreatDoor
/- Several texts in one: MemU, Grown, Far. What each says, and its conditions, stands at its head. -/
/- Memory: a list of lists that a call makes, and appends to. No condition. -/
namespace Go.Proofs.YtlfneeobnihocaaGreatDoor
set_option maxRecDepth 100000
set_option linter.unusedVariables false
open Go.RowKit Tally
theorem Tryz.infoUU : (Tryz.prog.info? 53).map (fun i => (i.zero, i.size, i.bytes)) = some (some (.slice none 0 0), 1, 24) := by kernel_rfl
def NewUU (B : Nat) (w : World) (v : Value) (ll : List (List Int)) : Prop :=
 ll.length * 24 ≤ 140737488351232 ∧ ∃ us : List Value, us.length = ll.length ∧ w.ownsRow B 53 1 v ll.length us ∧
  ∀ j, j < ll.length → ∃ u, us[j]? = some u ∧ NewU B w u (atl ll j) ∧ ∀ g, v.ownBlock = some g → u.ownBlock ≠ some g
theorem NewU.isSlice {B : Nat} {w : World} {v : Value} {l : List Int} (h : NewU B w v l) : ∃ a c, v = .slice a l.length c := by
 rcases h.2.2.2 with ⟨rfl, h0⟩ | ⟨g, cap, cur, rfl, _⟩
 ·exact ⟨none, 0, by rw [h0]⟩
 ·exact ⟨_, _, rfl⟩
theorem NewU.lt {B : Nat} {w : World} {v : Value} {l : List Int} (h : NewU B w v l) {g : Nat} (hg : v.ownBlock = some g) : B ≤ g ∧ g < w.heap.size := h.2.2.lt g hg
theorem NewUU.lt {B : Nat} {w : World} {v : Value} {ll : List (List Int)} (h : NewUU B w v ll) {g : Nat} (hg : v.ownBlock = some g) : B ≤ g ∧ g < w.heap.size := by
 obtain ⟨_, us, _, ho, _⟩ := h
 exact ho.lt g hg
theorem ownsRow_grown {w w' : World} {B : Nat} {e : TypeId} {s : Nat} {v : Value} {n : Nat} {xs : List Value} {r : Option Nat} (h : w.ownsRow B e s v n xs) (hg : w.grownBy w' r) (hne : ∀ g, v.ownBlock = some g → r ≠ some g) : w'.ownsRow B e s v n xs := by
 have hlt := h.lt
 obtain ⟨h1, h2⟩ := h
 refine ⟨h1, ?_⟩
 rcases h2 with h2 | ⟨g, cap, cur, rfl, hg1, hh, r1⟩
 ·exact .inl h2
 ·refine .inr ⟨g, cap, cur, rfl, hg1, ?_, r1⟩
  rw [hg.block g (hlt g rfl).2 (fun e => hne g rfl e.symm)]; exact hh
theorem NewU.grownOther {B : Nat} {w w' : World} {v : Value} {l : List Int} {r : Option Nat} (h : NewU B w v l) (hg : w.grownBy w' r) (hne : ∀ g, v.ownBlock = some g → r ≠ some g) : NewU B w' v l :=
 ⟨h.1, h.2.1, ownsRow_grown h.2.2 hg hne⟩
theorem NewUU.below {B K : Nat} {w w' : World} {v : Value} {ll : List (List Int)} (h : NewUU B w v ll) (hb : Below K w w') (hK : w.heap.size ≤ K) : NewUU B w' v ll := by
 obtain ⟨h1, us, h2, h3, h4⟩ := h
 refine ⟨h1, us, h2, ownsRow_below h3 hb hK, fun j hj => ?_⟩
 obtain ⟨u, e, hu, hn⟩ := h4 j hj
 exact ⟨u, e, hu.below hb hK, hn⟩
theorem NewUU.mono {B B' : Nat} {w : World} {v : Value} {ll : List (List Int)} (h : NewUU B w v ll) (hB : B' ≤ B) : NewUU B' w v ll := by
 obtain ⟨h1, us, h2, h3, h4⟩ := h
 refine ⟨h1, us, h2, ownsRow_mono h3 hB, fun j hj => ?_⟩
 obtain ⟨u, e, hu, hn⟩ := h4 j hj
 exact ⟨u, e, hu.mono hB, hn⟩
theorem NewUU.nil (B : Nat) (w : World) : NewUU B w (.slice none 0 0) [] := ⟨by simp, [], rfl, World.ownsRow_nil w B _ _, fun j hj => absurd hj (by simp)⟩
theorem NewUU.len {B : Nat} {w : World} {v : Value} {ll : List (List Int)} (h : NewUU B w v ll) : ll.length ≤ 5864062014634 := by have := h.1; omega
theorem NewUU.isSlice {B : Nat} {w : World} {v : Value} {ll : List (List Int)} (h : NewUU B w v ll) : ∃ a c, v = .slice a ll.length c := by
 obtain ⟨_, us, _, h3, _⟩ := h
 rcases h3.2 with ⟨rfl, h0⟩ | ⟨g, cap, cur, rfl, _⟩
 ·exact ⟨none, 0, by rw [h0]⟩
 ·exact ⟨_, _, rfl⟩
theorem NewUU.rows {B : Nat} {w : World} {v : Value} {ll : List (List Int)} (h : NewUU B w v ll) : RowUU w v ll := by
 obtain ⟨h1, us, h2, h3, h4⟩ := h
 have h3' := h3
 refine ⟨by omega, ?_⟩
 rcases h3.2 with ⟨rfl, h0⟩ | ⟨g, cap, cur, rfl, hg, hh, hn, hcap, hs, ht⟩
 ·exact ⟨none, 0, by rw [h0], fun hl => by omega⟩
 ·refine ⟨_, cap, rfl, fun hl => ⟨g, 0, rfl, (h3'.lt g rfl).2, fun j hj => ?_⟩⟩
  obtain ⟨u, e, hu, _⟩ := h4 j hj
  refine ⟨u, ?_, hu.row⟩
  have := h3'.cellAt j (by omega)
  rw [Nat.zero_add, this]; exact e
theorem NewUU.lit1 (B : Nat) (w : World) (u : Value) (l : List Int) (h : NewU B w u l) (hB : B ≤ w.heap.size) : NewUU B (w.alloc (.cells #[u] 53)) (.slice (some ⟨w.heap.size, 0, none⟩) 1 1) [l] := by
 refine ⟨by simp, [u], rfl, ?_, fun j hj => ?_⟩
 ·exact ownsRow_mono (World.ownsRow_lit w #[u] 1 (Nat.le_refl _) (by unfold maxLen; omega) rfl) hB
 ·obtain rfl : j = 0 := by simp at hj; omega
  refine ⟨u, rfl, h.below ((Below.refl _ _).alloc (Nat.le_refl _) _) (Nat.le_refl _), fun g hg hu => ?_⟩
  have := (h.lt hu).2
  have hg' : w.heap.size = g := by simpa [Value.ownBlock] using hg
  omega
theorem atl_append_left (ll : List (List Int)) (l : List Int) (j : Nat) (h : j < ll.length) : atl (ll ++ [l]) j = atl ll j := by
 simp [atl, List.getElem?_append_left h]
theorem atl_append_last (ll : List (List Int)) (l : List Int) : atl (ll ++ [l]) ll.length = l := by simp [atl]
theorem wpList_appUU {ops : Array Oper} {rest : List Oper} {o : Oper} {a : Act} {Q : Exit → Act → World → Prop} {w0 : World} (hgd : o.guard = none) (s x : Operand)
  (ho : o.op = .call { callee := .builtin .append, args := #[s, x], argTypes := #[76, 76] })
  (B : Nat) (v : Value) (ll : List (List Int)) (hs : a.eval s = v) (hown : NewUU B w0 v ll) (u : Value) (l : List Int) (hu : NewU B w0 u l) (hne : ∀ g, v.ownBlock = some g → u.ownBlock ≠ some g)
  (hx : a.eval x = .slice (some ⟨w0.heap.size, 0, none⟩) 1 1) (hlen : ll.length + 1 ≤ 5864062014634) (hB : B ≤ w0.heap.size)
  (h : ∀ v' w', NewUU B w' v' (ll ++ [l]) → NewU B w' u l → Below B w0 w' → wpList Tryz.prog ops Q rest (a.put o.dst v') w') : wpList Tryz.prog ops Q (o :: rest) a (w0.alloc (.cells #[u] 53)) := by
 obtain ⟨i0, hi1, hz0, hz1, hz2⟩ := info_parts Tryz.infoUU
 obtain ⟨h1, us, h2, h3, h4⟩ := hown
 have hlt := h3.lt
 have h1c : u.oneCell' = true := by
  obtain ⟨_, _, ho⟩ := hu
  rcases ho.2 with ⟨rfl, _⟩ | ⟨g, cap, cur, rfl, _⟩ <;> rfl
 refine wpList_append_own_at _ hgd s x _ ho B 53 i0 (.slice none 0 0) 1 24 Tryz.underlying76 hi1 hz0 hz1 hz2 rfl (by decide) v ll.length us hs (h3.alloc _) ⟨w0.heap.size, 0, none⟩ 1 1 [u] hx (by simp) ?_ (by simpa using h1c) (by unfold maxLen; omega) (by omega) (by simp; omega) ?_
 ·intro j y hj
  have hj0 : j = 0 := by
   rcases Nat.eq_zero_or_pos j with h | h
   ·exact h
   ·rw [List.getElem?_eq_none (by simp; omega)] at hj; cases hj
  subst hj0
  have e1 : ((⟨w0.heap.size, 0, none⟩ : Addr).add 0) = ⟨w0.heap.size, 0, none⟩ := by rw [Addr.add_lit]
  rw [e1, World.cell?_alloc_at _ _ _ _ rfl]
  simpa using hj
 ·intro v' w' h5 h6 _ h8
  have hal : Below w0.heap.size w0 (w0.alloc (.cells #[u] 53)) := (Below.refl _ _).alloc (Nat.le_refl _) _
  have hbl : Below B w0 w' := ((Below.refl B w0).alloc hB _).grown h6 (by simp; omega) fun k hk => (hlt k hk).1
  have hu' : NewU B w' u l := (hu.below hal (Nat.le_refl _)).grownOther h6 (fun g hg hr => hne g hr hg)
  refine h v' w' ⟨by simp; omega, us ++ [u], by simp [h2], by simpa using h5, fun j hj => ?_⟩ hu' hbl
  have hsz : (w0.alloc (.cells #[u] 53)).heap.size = w0.heap.size + 1 := by simp
  have apart : ∀ y : Value, (∀ g, v.ownBlock = some g → y.ownBlock ≠ some g) → (∀ g, y.ownBlock = some g → g < w0.heap.size) → ∀ g, v'.ownBlock = some g → y.ownBlock ≠ some g := by
   intro y hy1 hy2 g hg hyg
   rcases h8 with h8 | h8
   ·rw [h8] at hg; exact hy1 g hg hyg
   ·rw [h8, hsz] at hg
    have := hy2 g hyg
    cases hg; omega
  by_cases hj2 : j < ll.length
  ·obtain ⟨y, e, hy, hyn⟩ := h4 j hj2
   refine ⟨y, by rw [List.getElem?_append_left (by omega)]; exact e, ?_, apart y hyn (fun g hg => (hy.lt hg).2)⟩
   rw [atl_append_left _ _ _ hj2]
   exact (hy.below hal (Nat.le_refl _)).grownOther h6 (fun g hg hr => hyn g hr hg)
  ·obtain rfl : j = ll.length := by simp at hj; omega
   refine ⟨u, by rw [← h2]; simp, ?_, apart u hne (fun g hg => (hu.lt hg).2)⟩
   rw [atl_append_last]; exact hu'
theorem step_appU {ops : Array Oper} {o : Oper} {a : Act} {K : Act → World → Prop} {Q : Exit → Act → World → Prop} {E : Prop} {w0 : World} (hgd : o.guard = none) (s x : Operand)
  (ho : o.op = .call { callee := .builtin .append, args := #[s, x], argTypes := #[53, 53] })
  (B : Nat) (v : Value) (l : List Int) (hs : a.eval s = v) (hown : NewU B w0 v l) (y : Int) (hx : a.eval x = .slice (some ⟨w0.heap.size, 0, none⟩) 1 1) (hy : U64 y)
  (hlen : l.length + 1 ≤ 17592186043904) (hB : B ≤ w0.heap.size)
  (h : ∀ v' w', NewU B w' v' (l ++ [y]) → Below B w0 w' → K (a.put o.dst v') w') :
  if Region.wanted o (yielded ops a.tmps) = true then Oper.wp Tryz.prog o a (w0.alloc (.cells #[.int .u64 y] 57)) K Q else E := by
 obtain ⟨i0, hi1, hz0, hz1, hz2⟩ := info_parts Tryz.infoU
 have hlt := hown.2.2.lt
 refine step_append_lies _ hgd s x _ ho B 57 i0 (.int .u64 0) 1 8 Tryz.underlying53 hi1 hz0 hz1 hz2 rfl (by decide) v l.length _ hs (hown.2.2.alloc _) ⟨w0.heap.size, 0, none⟩ 1 1 [.int .u64 y] hx rfl
  (World.news_of_block (cs := #[.int .u64 y]) (t := 57) (fr := (0, 0)) (alloc_blk w0 _)) (by simp [Value.oneCell']) (by decide) (by unfold maxLen; omega) (by omega) (by simp; omega) (w0.heap.size + 1) (by simp) ?_
 intro g cap w' h1 h2 _ _
 refine h _ w' ⟨?_, by simp; omega, by simpa using h1⟩ (((Below.refl B w0).alloc hB _).grown h2 (by simp; omega) fun k hk => (hlt k hk).1)
 intro z hz
 rcases List.mem_append.mp hz with hz | hz
 ·exact hown.1 z hz
 ·rw [List.mem_singleton.mp hz]; exact hy
end Go.Proofs.YtlfneeobnihocaaGreatDoor
/- Regions that draw their order and whose callees make memory: the contracts, met in a world of the class of Derived.Lib.QuietBelow; worlds with a struct copied. No condition. -/
namespace Go.Proofs.YtlfneeobnihocaaGreatDoor
set_option maxRecDepth 100000
set_option linter.unusedVariables false
open Go.RowKit Tally
open Go.Sort (grow)
theorem regrown_same {Pr : Program} {f : FuncId} {args : Array Value} {w : World} {d : Nat} {os : Array Obj} {v : Value}
  (h : Calls Pr f args (grow (redrawn w d) os) fun e w' => e = .returned v ∧ grow (redrawn w d) os = w') : Calls Pr f args (grow (redrawn w d) os) fun e w'' => e = .returned v ∧ ∃ p : Regrown, w'' = grow (redrawn w p.d) p.os :=
 h.mono fun _ _ ⟨he, hw⟩ => ⟨he, ⟨d, os⟩, hw.symm⟩
theorem copied1' (w : World) (x : Value) (t : Nat) : ∃ W, w.alloc (.cells #[x] t) = W ∧ W.cell? ⟨w.heap.size, 0, none⟩ = some x ∧ Below w.heap.size w W ∧ W.heap.size = w.heap.size + 1 := by
 refine ⟨_, rfl, ?_, (Below.refl _ _).alloc (Nat.le_refl _) _, by simp⟩
 rw [World.cell?_alloc_at _ _ _ _ rfl]; rfl
theorem copied2' (w : World) (x y : Value) (t : Nat) : ∃ W, w.alloc (.cells #[x, y] t) = W ∧ W.cell? ⟨w.heap.size, 0, none⟩ = some x ∧ W.cell? ⟨w.heap.size, 1, none⟩ = some y ∧ Below w.heap.size w W ∧ W.heap.size = w.heap.size + 1 := by
 refine ⟨_, rfl, ?_, ?_, (Below.refl _ _).alloc (Nat.le_refl _) _, by simp⟩
 ·rw [World.cell?_alloc_at _ _ _ _ rfl]; rfl
 ·rw [World.cell?_alloc_at _ _ _ _ rfl]; rfl
theorem copied3' (w : World) (x y z : Value) (t : Nat) : ∃ W, w.alloc (.cells #[x, y, z] t) = W ∧ W.cell? ⟨w.heap.size, 0, none⟩ = some x ∧ W.cell? ⟨w.heap.size, 1, none⟩ = some y ∧ W.cell? ⟨w.heap.size, 2, none⟩ = some z ∧ Below w.heap.size w W ∧ W.heap.size = w.heap.size + 1 := by
 refine ⟨_, rfl, ?_, ?_, ?_, (Below.refl _ _).alloc (Nat.le_refl _) _, by simp⟩
 ·rw [World.cell?_alloc_at _ _ _ _ rfl]; rfl
 ·rw [World.cell?_alloc_at _ _ _ _ rfl]; rfl
 ·rw [World.cell?_alloc_at _ _ _ _ rfl]; rfl
theorem below_two {a b c : World} (h : Below a.heap.size a b) (k : Below b.heap.size b c) : Below a.heap.size a c := h.trans (k.mono h.size)
theorem RowU.go {w w' : World} {v : Value} {l : List Int} (h : RowU w v l) (hb : Below w.heap.size w w') : RowU w' v l := h.below hb (Nat.le_refl _)
end Go.Proofs.YtlfneeobnihocaaGreatDoor
/- What stays whatever is written to some blocks; append of a list, with what lies in other blocks. No condition. -/
namespace Go.Proofs.YtlfneeobnihocaaGreatDoor
set_option maxRecDepth 100000
set_option linter.unusedVariables false
open Go.RowKit Tally
def Far (S : Nat → Prop) (Q : World → Prop) (w : World) : Prop := ∀ w' : World, w.heap.size ≤ w'.heap.size → (∀ b, b < w.heap.size → ¬ S b → w'.heap[b]? = w.heap[b]?) → Q w'
theorem Far.now {S : Nat → Prop} {Q : World → Prop} {w : World} (h : Far S Q w) : Q w := h w (Nat.le_refl _) fun _ _ _ => rfl
theorem Far.fresh {S S' : Nat → Prop} {Q : World → Prop} {w w' : World} (h : Far S Q w) (hs : w.heap.size ≤ w'.heap.size) (hk : ∀ b, b < w.heap.size → ¬ S b → w'.heap[b]? = w.heap[b]?) (hS : ∀ b, b < w.heap.size → S' b → S b) : Far S' Q w' :=
 fun w'' h2 k2 => h w'' (Nat.le_trans hs h2) fun b hb hn => (k2 b (Nat.lt_of_lt_of_le hb hs) fun e => hn (hS b hb e)).trans (hk b hb hn)
theorem Far.step {S : Nat → Prop} {Q : World → Prop} {w w' : World} (h : Far S Q w) (hs : w.heap.size ≤ w'.heap.size) (hk : ∀ b, b < w.heap.size → ¬ S b → w'.heap[b]? = w.heap[b]?) : Far S Q w' := h.fresh hs hk fun _ _ e => e
theorem Far.go {S : Nat → Prop} {Q : World → Prop} {w w' : World} (h : Far S Q w) (hb : Below w.heap.size w w') : Far S Q w' := h.step hb.size fun b hlt _ => hb.block b hlt
theorem Far.less {S S' : Nat → Prop} {Q : World → Prop} {w : World} (h : Far S Q w) (hS : ∀ b, b < w.heap.size → S' b → S b) : Far S' Q w := h.fresh (Nat.le_refl _) (fun _ _ _ => rfl) hS
theorem Far.grown {S : Nat → Prop} {Q : World → Prop} {w w' : World} {r : Option Nat} (h : Far S Q w) (hg : w.grownBy w' r) (hr : ∀ g, r = some g → g < w.heap.size → S g) : Far S Q w' :=
 h.step hg.size fun b hlt hn => hg.block b hlt fun e => hn (hr b e.symm hlt)
theorem Far.set {S : Nat → Prop} {Q : World → Prop} {w : World} {b : Nat} (h : Far S Q w) (hb : S b) (j : Nat) (u : Value) : Far S Q (w.setCell ⟨b, j, none⟩ u) :=
 h.grown (grownBy_setCell _ _ _ _) fun g e _ => by cases e; exact hb
theorem Far.imp {S : Nat → Prop} {Q Q' : World → Prop} {w : World} (h : Far S Q w) (hq : ∀ w, Q w → Q' w) : Far S Q' w := fun w' a b => hq w' (h w' a b)
theorem Far.and {S : Nat → Prop} {Q Q' : World → Prop} {w : World} (h : Far S Q w) (k : Far S Q' w) : Far S (fun w => Q w ∧ Q' w) w := fun w' a b => ⟨h w' a b, k w' a b⟩
theorem ownsRow_same {w w' : World} {B : Nat} {e : TypeId} {s : Nat} {v : Value} {n : Nat} {xs : List Value} (h : w.ownsRow B e s v n xs) (hb : ∀ g, v.ownBlock = some g → w'.heap[g]? = w.heap[g]?) : w'.ownsRow B e s v n xs := by
 obtain ⟨h1, h2⟩ := h
 refine ⟨h1, ?_⟩
 rcases h2 with h2 | ⟨g, cap, cur, hv, hg, hh, r⟩
 ·exact .inl h2
 ·exact .inr ⟨g, cap, cur, hv, hg, by rw [hb g (by rw [hv]; rfl)]; exact hh, r⟩
theorem NewU.far {B : Nat} {w : World} {v : Value} {l : List Int} {S : Nat → Prop} (h : NewU B w v l) (hS : ∀ g, v.ownBlock = some g → ¬ S g) : Far S (fun w => NewU B w v l) w :=
 fun _ _ k => ⟨h.1, h.2.1, ownsRow_same h.2.2 fun g hg => k g (h.lt hg).2 (hS g hg)⟩
theorem NewU.farRow {B : Nat} {w : World} {v : Value} {l : List Int} {S : Nat → Prop} (h : NewU B w v l) (hS : ∀ g, v.ownBlock = some g → ¬ S g) : Far S (fun w => RowU w v l) w :=
 (h.far hS).imp fun _ h => h.row
theorem NewUU.far {B : Nat} {w : World} {v : Value} {ll : List (List Int)} {S : Nat → Prop} (h : NewUU B w v ll) (hS : ∀ b, B ≤ b → b < w.heap.size → ¬ S b) : Far S (fun w => NewUU B w v ll) w := by
 intro w' _ k
 have hlt := fun g (hg : v.ownBlock = some g) => h.lt hg
 obtain ⟨h1, us, h2, h3, h4⟩ := h
 refine ⟨h1, us, h2, ownsRow_same h3 fun g hg => k g (hlt g hg).2 (hS g (hlt g hg).1 (hlt g hg).2), fun j hj => ?_⟩
 obtain ⟨u, e, hu, hn⟩ := h4 j hj
 exact ⟨u, e, ⟨hu.1, hu.2.1, ownsRow_same hu.2.2 fun g hg => k g (hu.lt hg).2 (hS g (hu.lt hg).1 (hu.lt hg).2)⟩, hn⟩
theorem NewUU.farRow {B : Nat} {w : World} {v : Value} {ll : List (List Int)} {S : Nat → Prop} (h : NewUU B w v ll) (hS : ∀ b, B ≤ b → b < w.heap.size → ¬ S b) : Far S (fun w => RowUU w v ll) w :=
 (h.far hS).imp fun _ h => h.rows
theorem wpList_appUUg {ops : Array Oper} {rest : List Oper} {o : Oper} {a : Act} {Q : Exit → Act → World → Prop} {w0 : World} (hgd : o.guard = none) (s x : Operand)
  (ho : o.op = .call { callee := .builtin .append, args := #[s, x], argTypes := #[76, 76] })
  (B : Nat) (v : Value) (ll : List (List Int)) (hs : a.eval s = v) (hown : NewUU B w0 v ll) (u : Value) (l : List Int) (hu : NewU B w0 u l) (hne : ∀ g, v.ownBlock = some g → u.ownBlock ≠ some g)
  (hx : a.eval x = .slice (some ⟨w0.heap.size, 0, none⟩) 1 1) (hlen : ll.length + 1 ≤ 5864062014634) (hB : B ≤ w0.heap.size)
  (h : ∀ v' w', NewUU B w' v' (ll ++ [l]) → NewU B w' u l → Below B w0 w' → w0.grownBy w' v.ownBlock → wpList Tryz.prog ops Q rest (a.put o.dst v') w') : wpList Tryz.prog ops Q (o :: rest) a (w0.alloc (.cells #[u] 53)) := by
 obtain ⟨i0, hi1, hz0, hz1, hz2⟩ := info_parts Tryz.infoUU
 obtain ⟨h1, us, h2, h3, h4⟩ := hown
 have hlt := h3.lt
 have h1c : u.oneCell' = true := by
  obtain ⟨_, _, ho⟩ := hu
  rcases ho.2 with ⟨rfl, _⟩ | ⟨g, cap, cur, rfl, _⟩ <;> rfl
 refine wpList_append_own_at _ hgd s x _ ho B 53 i0 (.slice none 0 0) 1 24 Tryz.underlying76 hi1 hz0 hz1 hz2 rfl (by decide) v ll.length us hs (h3.alloc _) ⟨w0.heap.size, 0, none⟩ 1 1 [u] hx (by simp) ?_ (by simpa using h1c) (by unfold maxLen; omega) (by omega) (by simp; omega) ?_
 ·intro j y hj
  have hj0 : j = 0 := by
   rcases Nat.eq_zero_or_pos j with h | h
   ·exact h
   ·rw [List.getElem?_eq_none (by simp; omega)] at hj; cases hj
  subst hj0
  have e1 : ((⟨w0.heap.size, 0, none⟩ : Addr).add 0) = ⟨w0.heap.size, 0, none⟩ := by rw [Addr.add_lit]
  rw [e1, World.cell?_alloc_at _ _ _ _ rfl]
  simpa using hj
 ·intro v' w' h5 h6 _ h8
  have hal : Below w0.heap.size w0 (w0.alloc (.cells #[u] 53)) := (Below.refl _ _).alloc (Nat.le_refl _) _
  have hbl : Below B w0 w' := ((Below.refl B w0).alloc hB _).grown h6 (by simp; omega) fun k hk => (hlt k hk).1
  have hu' : NewU B w' u l := (hu.below hal (Nat.le_refl _)).grownOther h6 (fun g hg hr => hne g hr hg)
  refine h v' w' ⟨by simp; omega, us ++ [u], by simp [h2], by simpa using h5, fun j hj => ?_⟩ hu' hbl (grownBy_trans (World.grownBy_alloc _ _ _) h6)
  have hsz : (w0.alloc (.cells #[u] 53)).heap.size = w0.heap.size + 1 := by simp
  have apart : ∀ y : Value, (∀ g, v.ownBlock = some g → y.ownBlock ≠ some g) → (∀ g, y.ownBlock = some g → g < w0.heap.size) → ∀ g, v'.ownBlock = some g → y.ownBlock ≠ some g := by
   intro y hy1 hy2 g hg hyg
   rcases h8 with h8 | h8
   ·rw [h8] at hg; exact hy1 g hg hyg
   ·rw [h8, hsz] at hg
    have := hy2 g hyg
    cases hg; omega
  by_cases hj2 : j < ll.length
  ·obtain ⟨y, e, hy, hyn⟩ := h4 j hj2
   refine ⟨y, by rw [List.getElem?_append_left (by omega)]; exact e, ?_, apart y hyn (fun g hg => (hy.lt hg).2)⟩
   rw [atl_append_left _ _ _ hj2]
   exact (hy.below hal (Nat.le_refl _)).grownOther h6 (fun g hg hr => hyn g hr hg)
  ·obtain rfl : j = ll.length := by simp at hj; omega
   refine ⟨u, by rw [← h2]; simp, ?_, apart u hne (fun g hg => (hu.lt hg).2)⟩
   rw [atl_append_last]; exact hu'
theorem wpList_appUg {ops : Array Oper} {rest : List Oper} {o : Oper} {a : Act} {Q : Exit → Act → World → Prop} {w0 : World} (hgd : o.guard = none) (s x : Operand)
  (ho : o.op = .call { callee := .builtin .append, args := #[s, x], argTypes := #[53, 53] })
  (B : Nat) (v : Value) (l : List Int) (hs : a.eval s = v) (hown : NewU B w0 v l) (y : Int) (hx : a.eval x = .slice (some ⟨w0.heap.size, 0, none⟩) 1 1) (hy : U64 y)
  (hlen : l.length + 1 ≤ 17592186043904) (hB : B ≤ w0.heap.size)
  (h : ∀ v' w', NewU B w' v' (l ++ [y]) → Below B w0 w' → w0.grownBy w' v.ownBlock → wpList Tryz.prog ops Q rest (a.put o.dst v') w') : wpList Tryz.prog ops Q (o :: rest) a (w0.alloc (.cells #[.int .u64 y] 57)) := by
 obtain ⟨i0, hi1, hz0, hz1, hz2⟩ := info_parts Tryz.infoU
 have hlt := hown.2.2.lt
 refine wpList_append_own _ hgd s x _ ho B 57 i0 (.int .u64 0) 1 8 Tryz.underlying53 hi1 hz0 hz1 hz2 rfl (by decide) v l.length _ hs (hown.2.2.alloc _) ⟨w0.heap.size, 0, none⟩ 1 1 [.int .u64 y] hx rfl ?_ (by simp [Value.oneCell']) (by unfold maxLen; omega) (by omega) (by simp; omega) ?_
 ·exact World.news_of_block (cs := #[.int .u64 y]) (t := 57) (fr := (0, 0)) (alloc_blk w0 _)
 ·intro v' w' h2 h3 _
  refine h v' w' ⟨?_, by simp; omega, by simpa using h2⟩ (((Below.refl B w0).alloc hB _).grown h3 (by simp; omega) fun k hk => (hlt k hk).1) (grownBy_trans (World.grownBy_alloc _ _ _) h3)
  intro z hz
  rcases List.mem_append.mp hz with hz | hz
  ·exact hown.1 z hz
  ·rw [List.mem_singleton.mp hz]; exact hy
end Go.Proofs.YtlfneeobnihocaaGreatDoor
