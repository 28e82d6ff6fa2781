/- Several texts in one: CircM, RCircW. What each says, and its conditions, stands at its head. -/
import Derived.Test.YtlfneeobnihocaaGreatDoorRCheckW
import Derived.Test.YtlfneeobnihocaaGreatDoorPoly
/- Plain law: what a right circuit is, what its layers compute, how they are wired. No condition. -/
namespace Go.Proofs.YtlfneeobnihocaaGreatDoor
set_option maxRecDepth 100000
set_option linter.unusedVariables false
open Go.RowKit Tally
/-- a circuit that Check lets by -/
structure Good (c : Ci) : Prop where
  log0 : 0 ≤ c.log
  log4 : c.log ≤ 4
  n1 : 0 < c.layers.length
  n4 : c.layers.length ≤ 4
  l0 : ∀ k, k < c.layers.length → 0 ≤ (aty c.layers k).log
  l4 : ∀ k, k < c.layers.length → (aty c.layers k).log ≤ 4
  len : ∀ k, k < c.layers.length → (aty c.layers k).gates.length = 2 ^ (aty c.layers k).log.toNat
  gate : ∀ k, k < c.layers.length → ∀ j, j < (aty c.layers k).gates.length → gateOk (2 ^ (belowLog c k).toNat) (atg (aty c.layers k).gates j) = true
theorem belowLog_zero (c : Ci) : belowLog c 0 = c.log := rfl
theorem belowLog_succ (c : Ci) (k : Nat) : belowLog c (k + 1) = (aty c.layers k).log := by unfold belowLog; rw [if_neg (by omega)]; rfl
theorem Good.below0 {c : Ci} (h : Good c) {k : Nat} (hk : k ≤ c.layers.length) : 0 ≤ belowLog c k := by
  cases k with
  | zero => exact h.log0
  | succ k => rw [belowLog_succ]; exact h.l0 k (by omega)
theorem Good.below4 {c : Ci} (h : Good c) {k : Nat} (hk : k ≤ c.layers.length) : belowLog c k ≤ 4 := by
  cases k with
  | zero => exact h.log4
  | succ k => rw [belowLog_succ]; exact h.l4 k (by omega)
theorem drop_aty (l : List Ly) (k : Nat) (h : k < l.length) : l.drop k = aty l k :: l.drop (k + 1) := by
  rw [List.drop_eq_getElem_cons h]; simp [aty, List.getElem?_eq_getElem h]
theorem checkL_cons {m : Nat} {l : Ly} {ls : List Ly} (h : checkL m (l :: ls) = 0) : (0 ≤ l.log ∧ l.log ≤ 4) ∧ l.gates.length = 2 ^ l.log.toNat ∧ l.gates.all (gateOk m) = true ∧ checkL l.gates.length ls = 0 := by
  unfold checkL at h
  split at h
  · rename_i h1
    split at h
    · rename_i h2
      split at h
      · rename_i h3
        exact ⟨of_decide_eq_true h1, h2, h3, h⟩
      · omega
    · omega
  · omega
theorem gate_at {m : Nat} {l : List Gt} (h : l.all (gateOk m) = true) {j : Nat} (hj : j < l.length) : gateOk m (atg l j) = true := by
  rw [List.all_eq_true] at h
  exact h _ (atg_mem hj)
theorem good_from (c : Ci) (k : Nat) (hk : k ≤ c.layers.length) (h : checkL (2 ^ (belowLog c k).toNat) (c.layers.drop k) = 0) :
    ∀ q, k ≤ q → q < c.layers.length → (0 ≤ (aty c.layers q).log ∧ (aty c.layers q).log ≤ 4) ∧ (aty c.layers q).gates.length = 2 ^ (aty c.layers q).log.toNat ∧ (aty c.layers q).gates.all (gateOk (2 ^ (belowLog c q).toNat)) = true := by
  obtain ⟨n, hn⟩ : ∃ n, n = c.layers.length - k := ⟨_, rfl⟩
  induction n generalizing k with
  | zero => intro q h1 h2; omega
  | succ n ih =>
    intro q h1 h2
    rw [drop_aty _ _ (by omega)] at h
    obtain ⟨g1, g2, g3, g4⟩ := checkL_cons h
    by_cases e : q = k
    · subst e; exact ⟨g1, g2, g3⟩
    · rw [g2] at g4
      exact ih (k + 1) (by omega) (by rw [belowLog_succ]; exact g4) (by omega) q (by omega) h2
theorem good_of_check {c : Ci} (h : checkC c = 0) : Good c := by
  unfold checkC at h
  split at h
  · rename_i h1
    obtain ⟨hl, h0⟩ := h1
    split at h
    · rename_i h4
      have hl' : 0 ≤ c.log ∧ c.log ≤ 4 := of_decide_eq_true hl
      have hall := good_from c 0 (by omega) (by rw [belowLog_zero, List.drop_zero]; exact h)
      exact ⟨hl'.1, hl'.2, by omega, h4, fun k hk => (hall k (by omega) hk).1.1, fun k hk => (hall k (by omega) hk).1.2, fun k hk => (hall k (by omega) hk).2.1, fun k hk j hj => gate_at (hall k (by omega) hk).2.2 hj⟩
    · omega
  · omega
theorem checkL_range (m : Nat) (ls : List Ly) : checkL m ls = 0 ∨ checkL m ls = 1 ∨ checkL m ls = 4 := by
  induction ls generalizing m with
  | nil => left; rfl
  | cons l ls ih =>
    unfold checkL
    split
    · split
      · split
        · exact ih _
        · omega
      · omega
    · omega
theorem checkC_range (c : Ci) : checkC c = 0 ∨ checkC c = 1 ∨ checkC c = 2 ∨ checkC c = 4 := by
  unfold checkC
  split
  · split
    · rcases checkL_range (2 ^ c.log.toNat) c.layers with h | h | h <;> omega
    · omega
  · omega
theorem gateOk_bd {m : Nat} {g : Gt} (h : gateOk m g = true) : 0 ≤ g.a ∧ g.a < (m : Int) ∧ 0 ≤ g.b ∧ g.b < (m : Int) := of_decide_eq_true h
/-- what a layer computes of the values below it -/
def gateF (V : List F) (g : Gt) : F := if g.mul then atF V g.a.toNat * atF V g.b.toNat else atF V g.a.toNat + atF V g.b.toNat
def layF (V : List F) (gs : List Gt) : List F := gs.map (gateF V)
/-- the values of a circuit: of its inputs, of its layers -/
def valF (c : Ci) (inp : List F) : Nat → List F
  | 0 => inp
  | k + 1 => layF (valF c inp k) (aty c.layers k).gates
theorem layF_length (V : List F) (gs : List Gt) : (layF V gs).length = gs.length := by unfold layF; exact List.length_map _
theorem valF_length {c : Ci} (h : Good c) (inp : List F) (hi : inp.length = 2 ^ c.log.toNat) (k : Nat) (hk : k ≤ c.layers.length) : (valF c inp k).length = 2 ^ (belowLog c k).toNat := by
  cases k with
  | zero => exact hi
  | succ k => show (layF _ _).length = _; rw [layF_length, belowLog_succ]; exact h.len k (by omega)
theorem layF_at (V : List F) (gs : List Gt) (j : Nat) (h : j < gs.length) : atF (layF V gs) j = gateF V (atg gs j) := by
  simp [atF, layF, atg, h]
/-- how much of a sort of gates stands between z, x and y -/
def wireT (gs : List Gt) (mul : Bool) (z x y : List F) (k : Nat) : F := if (atg gs k).mul = mul then eqAt z k * (eqAt x (atg gs k).a.toNat * eqAt y (atg gs k).b.toNat) else 0
def wiredF (gs : List Gt) (mul : Bool) (z x y : List F) : F := sumTo (wireT gs mul z x y) gs.length
def stepF (gs : List Gt) (z x y : List F) (vx vy : F) : F := wiredF gs false z x y * (vx + vy) + wiredF gs true z x y * (vx * vy)
end Go.Proofs.YtlfneeobnihocaaGreatDoor

/- The walk of the reference's Circuit: it answers what Check answers. The circuit is a value that reads as data. -/
namespace Go.Proofs.YtlfneeobnihocaaGreatDoor
set_option maxRecDepth 100000
set_option linter.unusedVariables false
open Go.RowKit Tally
set_option maxRecDepth 100000 in
set_option maxHeartbeats 4000000 in
theorem rc_Circuit_mid (v : Value) (c : Ci) (w : World) (h : IsC w v c) (h0 : 0 ≤ c.log) (h4 : c.log ≤ 4) (hl1 : 0 < c.layers.length) (hl4 : c.layers.length ≤ 4) :
    Calls Tryz.prog 118 #[v] w fun e w' => e = .returned (.int .i64 (checkL (2 ^ c.log.toNat) c.layers)) ∧ Below w.heap.size w w' := by
  have HC0 := Lib.hid h
  obtain ⟨hlog, u, rfl, hL⟩ := h
  obtain ⟨hls, hll, a, cap, rfl, hr⟩ := hL
  have Hr := Lib.hid hr
  have Hls := Lib.hid hls
  have hn0 : ((c.layers.length : Int) == 0) = false := beq_false_of_ne (by omega)
  obtain ⟨R, hR⟩ : ∃ R, R = checkL (2 ^ c.log.toNat) c.layers := ⟨_, rfl⟩
  rw [← hR]
  have HR := Lib.hid hR
  clear hr hls hR
  go_enter Tryz.func118, Tryz.ntmps118
  go_wp2_with (go_at_call 153; (with_reducible refine (rc_In_y _ _ _ _ h0 h4).mono ?_); rintro e w' ⟨rfl, rfl⟩)
  obtain ⟨k0, k1⟩ := circ_cell w (.int .i64 c.log) (.slice a c.layers.length cap) 62
  have B1 : Below w.heap.size w (w.alloc (.cells #[.int .i64 c.log, .slice a c.layers.length cap] 62)) := (Below.refl _ _).alloc (Nat.le_refl _) _
  have L1 : w.heap.size < (w.alloc (.cells #[.int .i64 c.log, .slice a c.layers.length cap] 62)).heap.size := by simp
  generalize w.alloc (.cells #[.int .i64 c.log, .slice a c.layers.length cap] 62) = W1 at *
  go_loopw [3] (fun i wr => ∃ (k : Nat), k ≤ c.layers.length ∧ i = .int .i64 (k : Int) ∧ Below W1.heap.size W1 wr ∧ Hid (R = checkL (2 ^ (belowLog c k).toNat) (c.layers.drop k) ∧ 0 ≤ belowLog c k ∧ belowLog c k ≤ 4)) (fun i _ => c.layers.length - (intOf i).toNat)
  case atStart => exact ⟨0, by omega, rfl, Below.refl _ _, HR.out, h0, h4⟩
  case round =>
    obtain ⟨k, hk, rfl, hb1, HC⟩ := hrel
    have r0 := (hb1.cell (p := ⟨w.heap.size, 0, none⟩) L1).trans k0
    have r1 := (hb1.cell (p := ⟨w.heap.size, 1, none⟩) L1).trans k1
    have hbr : Below w.heap.size w wr := B1.trans (hb1.mono B1.size)
    by_cases hz : k < c.layers.length
    · obtain ⟨b, off, rfl, hblt, hcell⟩ := Hr.out hl1
      obtain ⟨c1, u, c2, hg⟩ := hcell k hz
      have d1 := (hbr.cell (p := ⟨b, off + k * 2, none⟩) (by exact hblt)).trans c1
      have d2 := (hbr.cell (p := ⟨b, off + k * 2 + 1, none⟩) (by exact hblt)).trans c2
      obtain ⟨hgi, hgl, ag, cg, rfl, hgr⟩ := hg.below hbr (Nat.le_refl _)
      have Hg := Lib.hid hgr
      have Hgi := Lib.hid hgi
      clear hcell c1 c2 hg hgr hgi
      obtain ⟨HC1, hB0, hB4⟩ := HC.out
      rw [drop_aty _ _ hz] at HC1
      have HC := Lib.hid HC1
      have Hbl := Lib.hid (belowLog_succ c k)
      obtain ⟨BL, hBL⟩ : ∃ x, x = belowLog c k := ⟨_, rfl⟩
      rw [← hBL] at HC hB0 hB4
      have HBL := Lib.hid hBL
      clear HC1 hBL
      generalize aty c.layers k = l at *
      by_cases hlg : 0 ≤ l.log ∧ l.log ≤ 4
      · obtain ⟨hg0, hg4⟩ := hlg
        obtain ⟨hq1, hq2⟩ := pow4 hg4
        have Hwl := Lib.hid (wrap4 hg4)
        have HC2 := Lib.hid (show R = if l.gates.length = 2 ^ l.log.toNat then (if l.gates.all (gateOk (2 ^ BL.toNat)) then checkL l.gates.length (c.layers.drop (k + 1)) else 1) else 4 by
          rw [HC.out]; show (if logOk l.log then _ else _) = _; rw [if_pos (log_yes ⟨hg0, hg4⟩)])
        by_cases hn : l.gates.length = 2 ^ l.log.toNat
        · have HC3 := Lib.hid (show R = if l.gates.all (gateOk (2 ^ BL.toNat)) then checkL l.gates.length (c.layers.drop (k + 1)) else 1 by rw [HC2.out, if_pos hn])
          have Hn := Lib.hid hn
          have hlen16 : l.gates.length ≤ 16 := by rw [hn]; exact hq2
          have hbn : ((l.gates.length : Int) != wrap64 (2 ^ l.log.toNat)) = false := by rw [Hwl.out, hn]; simp
          obtain ⟨hm1, hm2⟩ := pow4 hB4
          have Hwm := Lib.hid (wrap4 hB4)
          obtain ⟨m, hm⟩ : ∃ m, m = 2 ^ BL.toNat := ⟨_, rfl⟩
          rw [← hm] at HC3 hm1 hm2 Hwm
          obtain ⟨Q, hQ⟩ : ∃ Q, wrap64 (2 ^ BL.toNat) = Q := ⟨_, rfl⟩
          have hQm := Hwm.out
          rw [hQ] at hQm
          have hQ1 : 1 ≤ Q := by omega
          have hQ16 : Q ≤ 16 := by omega
          have HQm := Lib.hid hQm
          have HB0 := Lib.hid hB0
          clear hn hq1 hq2 hm hm1 hm2 hQm
          generalize hP : wrap64 (2 ^ l.log.toNat) = P at *
          have HP := Lib.hid hP
          go_wp2_with (go_at_call 153; (with_reducible refine (rc_In_y _ _ _ _ hg0 hg4).mono ?_); rintro e w' ⟨rfl, rfl⟩)
          go_quiet (fail)
          obtain ⟨wo, rfl⟩ : ∃ x : World, x = wr := ⟨_, rfl⟩
          obtain ⟨W, hW, e0, e1, hWr, hWs⟩ := copied2 wo (.int .i64 l.log) (.slice ag l.gates.length cg) 124 nq
          rw [hW]
          have HWs := Lib.hid hWs
          have hWs1 : wo.heap.size < W.heap.size := by omega
          have q0 := (hWr.cell (p := ⟨w.heap.size, 0, none⟩) (by have := hb1.size; exact Nat.lt_of_lt_of_le L1 this)).trans r0
          have q1 := (hWr.cell (p := ⟨w.heap.size, 1, none⟩) (by have := hb1.size; exact Nat.lt_of_lt_of_le L1 this)).trans r1
          clear hW hWs
          go_wp2_with (fail)
          refine (ref_Below _ c k _ (HC0.out.below (hbr.trans (hWr.mono hbr.size)) (Nat.le_refl _)) (by omega) hl4).mono ?_
          rintro e w2 ⟨rfl, hb2⟩
          rw [← HBL.out]
          have e0' := (hb2.cell (p := ⟨wo.heap.size, 0, none⟩) hWs1).trans e0
          have e1' := (hb2.cell (p := ⟨wo.heap.size, 1, none⟩) hWs1).trans e1
          have hb3 : Below wo.heap.size wo w2 := hWr.trans (hb2.mono hWr.size)
          clear e0 e1 d1 d2 r0 r1 q0 q1
          go_wp2_with (fail)
          rw [hQ]
          go_loop [6] (fun i => ∃ j : Nat, j ≤ l.gates.length ∧ i = .int .i64 (j : Int) ∧ Hid (∀ n, n < j → gateOk m (atg l.gates n) = true)) (fun i => l.gates.length - (intOf i).toNat)
          case atStart => exact ⟨0, by omega, rfl, fun n hn => absurd hn (Nat.not_lt_zero _)⟩
          case round =>
            obtain ⟨j, hj, rfl, HG⟩ := hrel
            by_cases hjz : j < l.gates.length
            · obtain ⟨b2, off2, rfl, hb2lt, hgc⟩ := Hg.out (by omega)
              obtain ⟨c1, c2, c3⟩ := hgc j hjz
              have f2 := (hb3.cell (p := ⟨b2, off2 + j * 3 + 1, none⟩) (by exact hb2lt)).trans c2
              have f3 := (hb3.cell (p := ⟨b2, off2 + j * 3 + 2, none⟩) (by exact hb2lt)).trans c3
              obtain ⟨hia, hib⟩ := Hgi.out _ (atg_mem hjz)
              have Hstep := Lib.hid (show gateOk m (atg l.gates j) = true → ∀ n, n < j + 1 → gateOk m (atg l.gates n) = true from fun hgj n hn => by
                rcases Nat.lt_or_ge n j with h | h
                · exact HG.out n h
                · obtain rfl : n = j := by omega
                  exact hgj)
              have Hbad := Lib.hid (show gateOk m (atg l.gates j) = false → R = 1 from fun hgj => by rw [HC3.out, if_neg (by rw [not_all hjz hgj]; decide)])
              have hjl : (j : Int) < (l.gates.length : Int) := by omega
              clear hgc c1 c2 c3
              generalize atg l.gates j = g at *
              have Hback := Lib.hid (show Below w.heap.size w w2 from hbr.trans (hb3.mono hbr.size))
              by_cases ha : 0 ≤ g.a ∧ g.a ≤ Q - 1
              · obtain ⟨ha1, ha2⟩ := ha
                by_cases hb : 0 ≤ g.b ∧ g.b ≤ Q - 1
                · obtain ⟨hbb1, hbb2⟩ := hb
                  have HS1 := Lib.hid (Hstep.out (by have := HQm.out; unfold gateOk; exact decide_eq_true (by omega)))
                  clear hia hib
                  go_wp2_with (go_at_call 153; (with_reducible refine (rc_In_y _ _ _ _ (by assumption) (by assumption)).mono ?_); rintro e w' ⟨rfl, rfl⟩)
                  go_round
                  case rel => exact ⟨j + 1, by omega, by go_num, HS1.out⟩
                  case measure => simp [intOf]; omega
                · have HR1 := Lib.hid (Hbad.out (by have := HQm.out; unfold gateOk; exact decide_eq_false (by omega)))
                  have hb' : g.b < 0 ∨ Q - 1 < g.b := by omega
                  clear hia hib hb
                  go_wp2_with (first | (go_at_call 153; (with_reducible refine (rc_In_y _ _ _ _ ha1 ha2).mono ?_); rintro e w' ⟨rfl, rfl⟩) | (go_at_call 153; (with_reducible refine (rc_In_n _ _ _ _ hb').mono ?_); rintro e w' ⟨rfl, rfl⟩))
                  go_ret
                  exact ⟨ret_i _ _ HR1.out.symm, Hback.out⟩
              · have HR1 := Lib.hid (Hbad.out (by have := HQm.out; unfold gateOk; exact decide_eq_false (by omega)))
                have ha' : g.a < 0 ∨ Q - 1 < g.a := by omega
                clear hia hib ha
                go_wp2_with (go_at_call 153; (with_reducible refine (rc_In_n _ _ _ _ ha').mono ?_); rintro e w' ⟨rfl, rfl⟩)
                go_ret
                exact ⟨ret_i _ _ HR1.out.symm, Hback.out⟩
            · obtain rfl : j = l.gates.length := by omega
              have HC7 := Lib.hid (show R = checkL (2 ^ (belowLog c (k + 1)).toNat) (c.layers.drop (k + 1)) by rw [HC3.out, if_pos (all_gates HG.out), Hbl.out, ← Hn.out])
              have hngt : ¬ (l.gates.length : Int) < (l.gates.length : Int) := by omega
              have Hb5 := Lib.hid (show Below W1.heap.size W1 w2 from hb1.trans (hb3.mono hb1.size))
              have Hl5 := Lib.hid (show 0 ≤ belowLog c (k + 1) ∧ belowLog c (k + 1) ≤ 4 by rw [Hbl.out]; exact ⟨hg0, hg4⟩)
              go_wp2
              go_roundw
              case rel => exact ⟨k + 1, by omega, by go_num, Hb5.out, HC7.out, Hl5.out⟩
              case measure => simp [intOf]; omega
        · have hbn : ((l.gates.length : Int) != wrap64 (2 ^ l.log.toNat)) = true := by rw [Hwl.out, bne_iff_ne]; exact fun e => hn (Int.ofNat_inj.mp e)
          have HC4 := Lib.hid (show R = 4 by rw [HC2.out, if_neg hn])
          clear hn hq1 hq2
          generalize hP : wrap64 (2 ^ l.log.toNat) = P at *
          have HP := Lib.hid hP
          go_wp2_with (go_at_call 153; (with_reducible refine (rc_In_y _ _ _ _ hg0 hg4).mono ?_); rintro e w' ⟨rfl, rfl⟩)
          go_quiet (fail)
          go_wp2
          go_ret
          exact ⟨ret_i _ _ HC4.out.symm, below_drewN (hbr.alloc hbr.size _) _⟩
      · have HC5 := Lib.hid (show R = 1 by rw [HC.out]; show (if logOk l.log then _ else _) = _; rw [if_neg (by rw [log_no hlg]; decide)])
        have hlg' : l.log < 0 ∨ 4 < l.log := by omega
        clear hlg
        go_wp2_with (go_at_call 153; (with_reducible refine (rc_In_n _ _ _ _ hlg').mono ?_); rintro e w' ⟨rfl, rfl⟩)
        go_ret
        exact ⟨ret_i _ _ HC5.out.symm, hbr.alloc hbr.size _⟩
    · obtain rfl : k = c.layers.length := by omega
      have HC6 := Lib.hid (show R = 0 by rw [HC.out.1, List.drop_of_length_le (Nat.le_refl _)]; rfl)
      go_wp2
      go_ret
      exact ⟨ret_i _ _ HC6.out.symm, hbr⟩
set_option maxRecDepth 100000 in
set_option maxHeartbeats 2000000 in
theorem rc_Circuit (v : Value) (c : Ci) (w : World) (h : IsC w v c) :
    Calls Tryz.prog 118 #[v] w fun e w' => e = .returned (.int .i64 (checkC c)) ∧ Below w.heap.size w w' := by
  by_cases hlg : 0 ≤ c.log ∧ c.log ≤ 4
  · by_cases hl0 : c.layers.length = 0
    · have HR := Lib.hid (show checkC c = 1 by unfold checkC; rw [if_neg (fun h => h.2 hl0)])
      obtain ⟨hlog, u, rfl, hL⟩ := h
      obtain ⟨hls, hll, a, cap, rfl, hr⟩ := hL
      have hn0 : ((c.layers.length : Int) == 0) = true := by rw [hl0]; rfl
      clear hr hls hl0
      obtain ⟨h0, h4⟩ := hlg
      go_enter Tryz.func118, Tryz.ntmps118
      go_wp2_with (go_at_call 153; (with_reducible refine (rc_In_y _ _ _ _ h0 h4).mono ?_); rintro e w' ⟨rfl, rfl⟩)
      go_ret
      exact ⟨ret_i _ _ HR.out.symm, (Below.refl _ _).alloc (Nat.le_refl _) _⟩
    · by_cases hl4 : c.layers.length ≤ 4
      · have HR := Lib.hid (show checkC c = checkL (2 ^ c.log.toNat) c.layers by unfold checkC; rw [if_pos ⟨log_yes hlg, hl0⟩, if_pos hl4])
        rw [HR.out]
        exact rc_Circuit_mid v c w h hlg.1 hlg.2 (by omega) hl4
      · have HR := Lib.hid (show checkC c = 2 by unfold checkC; rw [if_pos ⟨log_yes hlg, hl0⟩, if_neg hl4])
        obtain ⟨hlog, u, rfl, hL⟩ := h
        obtain ⟨hls, hll, a, cap, rfl, hr⟩ := hL
        have hn0 : ((c.layers.length : Int) == 0) = false := beq_false_of_ne (by omega)
        have hn4 : (4 : Int) < (c.layers.length : Int) := by omega
        clear hr hls hl0 hl4
        obtain ⟨h0, h4⟩ := hlg
        go_enter Tryz.func118, Tryz.ntmps118
        go_wp2_with (go_at_call 153; (with_reducible refine (rc_In_y _ _ _ _ h0 h4).mono ?_); rintro e w' ⟨rfl, rfl⟩)
        go_ret
        exact ⟨ret_i _ _ HR.out.symm, (Below.refl _ _).alloc (Nat.le_refl _) _⟩
  · have HR := Lib.hid (show checkC c = 1 by unfold checkC; rw [if_neg (fun h => by rw [log_no hlg] at h; exact absurd h.1 (by decide))])
    have hlg' : c.log < 0 ∨ 4 < c.log := by omega
    obtain ⟨hlog, u, rfl, hL⟩ := h
    obtain ⟨hls, hll, a, cap, rfl, hr⟩ := hL
    clear hr hls hlg
    go_enter Tryz.func118, Tryz.ntmps118
    go_wp2_with (go_at_call 153; (with_reducible refine (rc_In_n _ _ _ _ hlg').mono ?_); rintro e w' ⟨rfl, rfl⟩)
    go_ret
    exact ⟨ret_i _ _ HR.out.symm, (Below.refl _ _).alloc (Nat.le_refl _) _⟩
end Go.Proofs.YtlfneeobnihocaaGreatDoor
