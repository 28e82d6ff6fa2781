/- The walks of the laws' small: is a circuit right, of layers of at most four gates? The circuit is a value that reads as data. -/
import Derived.Test.YtcihkechphldcaaDoorLayM
import Derived.Test.YtcihkechphldcaaDoorRCircW
import Derived.Test.YtcihkechphldcaaDoorWireS
namespace Go.Proofs.YtcihkechphldcaaDoor
set_option maxRecDepth 100000
set_option linter.unusedVariables false
open Go.RowKit Tally
/-- a right circuit of layers of at most four gates -/
structure SmallC (c : Ci) : Prop where
  layers : ∀ j, j < c.layers.length → (aty c.layers j).log ≤ 2
  right : checkC c = 0
  log : c.log ≤ 2
noncomputable instance (c : Ci) : Decidable (SmallC c) := Classical.propDecidable _
noncomputable def smallB (c : Ci) : Bool := decide (SmallC c)
theorem smallB_layer {c : Ci} {j : Nat} (hj : j < c.layers.length) (h : ¬ (aty c.layers j).log ≤ 2) : smallB c = false := (decide_eq_false_iff_not ..).2 fun e => h (e.layers j hj)
theorem smallB_check {c : Ci} (h : ¬ checkC c = 0) : smallB c = false := (decide_eq_false_iff_not ..).2 fun e => h e.right
theorem smallB_end {c : Ci} (h : ∀ q, q < c.layers.length → (aty c.layers q).log ≤ 2) (hc : checkC c = 0) : smallB c = decide (c.log ≤ 2) := by
  by_cases h2 : c.log ≤ 2
  · rw [decide_eq_true h2]; exact (decide_eq_true_iff ..).2 ⟨h, hc, h2⟩
  · rw [decide_eq_false h2]; exact (decide_eq_false_iff_not ..).2 fun e => h2 e.log
theorem smallB_yes {c : Ci} (h : smallB c = true) : SmallC c := (decide_eq_true_iff ..).1 h
theorem ret_b {a b : Bool} (h : a = b) : Ending.returned (.bool a) = .returned (.bool b) := by rw [h]
set_option maxRecDepth 100000 in
set_option maxHeartbeats 4000000 in
theorem keep_small (v : Value) (c : Ci) (w : World) (h : IsC w v c) :
    Calls Tryd.prog 21 #[v] w fun e w' => e = .returned (.bool (smallB c)) ∧ Below w.heap.size w w' := by
  have HC := Lib.hid h
  obtain ⟨ac, cc, rfl⟩ := h.shape
  obtain ⟨hlog, u, e, hL⟩ := h
  cases e
  obtain ⟨hls, hll, a', cap', e, hr⟩ := hL
  cases e
  have Hr := Lib.hid hr; have Hls := Lib.hid hls; have Hlog := Lib.hid hlog
  clear hr hls hlog
  go_enter Tryd.func21, Tryd.ntmps21
  go_wp2_with (fail)
  obtain ⟨W1, hW, k0, k1, B1, s1⟩ := copied2' w (.int .i64 c.log) (.slice ac c.layers.length cc) 25
  rw [hW]
  have HX1 := Lib.hid (show Boxed w.heap.size (.int .i64 c.log) (.slice ac c.layers.length cc) W1 from ⟨k0, k1, by omega⟩)
  have H1 := Lib.hid B1
  clear hW s1 B1 k0
  go_wp2_with (fail)
  clear k1
  obtain ⟨tb, htb⟩ : ∃ tb, tb = w.heap.size := ⟨_, rfl⟩
  rw [← htb] at HX1 ⊢
  clear htb
  go_loopw [8] (fun i wr => ∃ j : Nat, j ≤ c.layers.length ∧ i = .int .i64 (j : Int) ∧ Hid (∀ q, q < j → (aty c.layers q).log ≤ 2) ∧ Hid (Below W1.heap.size W1 wr)) (fun i _ => c.layers.length - (intOf i).toNat)
  case atStart => exact ⟨0, by omega, rfl, fun q hq => absurd hq (by omega), Below.refl _ _⟩
  case round =>
    obtain ⟨j, hj, rfl, HJ, HB⟩ := hrel
    have HXr := Lib.hid (HX1.out.go HB.out)
    have hbr := Lib.hid (below_two H1.out HB.out)
    by_cases hz : j < c.layers.length
    · obtain ⟨b, off, rfl, hblt, hcell⟩ := Hr.out (by omega)
      obtain ⟨c0, ug, c1, hg⟩ := hcell j hz
      obtain ⟨_, _, ag, cg, rfl, -⟩ := hg
      have q0 := (hbr.out.cell (p := ⟨b, off + j * 2, none⟩) hblt).trans c0
      have q1 := (hbr.out.cell (p := ⟨b, off + j * 2 + 1, none⟩) hblt).trans c1
      have hji : (j : Int) < (c.layers.length : Int) := by omega
      obtain ⟨G, hG⟩ : ∃ G, G = (aty c.layers j).log := ⟨_, rfl⟩
      rw [← hG] at q0
      have HG := Lib.hid hG
      clear c0 c1 hcell hG
      by_cases h2 : G ≤ 2
      · have hb2 : decide (2 < G) = false := decide_eq_false (by omega)
        have Hok := Lib.hid (show (aty c.layers j).log ≤ 2 by rw [← HG.out]; exact h2)
        clear h2
        go_wp2
        go_roundw
        case rel => exact ⟨j + 1, by omega, by go_num, fun q hq => if e : q = j then by subst e; exact Hok.out else HJ.out q (by omega), HB.out.alloc HB.out.size _⟩
        case measure => simp [intOf]; omega
      · have hb2 : decide (2 < G) = true := decide_eq_true (by omega)
        have HN := Lib.hid (smallB_layer (c := c) hz (by rw [← HG.out]; omega))
        clear h2
        go_wp2
        go_ret
        exact ⟨ret_b HN.out.symm, hbr.out.alloc hbr.out.size _⟩
    · obtain rfl : j = c.layers.length := by omega
      have q0 := HXr.out.c0; have q1 := HXr.out.c1
      go_wp2_with (fail)
      refine (rc_Circuit _ c _ (HC.out.go hbr.out)).mono ?_
      rintro e w2 ⟨rfl, hb2⟩
      have H2 := Lib.hid (below_two hbr.out hb2)
      have HX2 := Lib.hid (HXr.out.go hb2)
      clear q0 q1 hb2
      have q0 := HX2.out.c0
      by_cases hc : checkC c = 0
      · rw [hc]
        have HF := Lib.hid (smallB_end HJ.out hc)
        clear hc
        go_wp2
        all_goals
          go_ret
          exact ⟨ret_b (by rw [HF.out]), H2.out⟩
      · have hcb : (checkC c == 0) = false := by rw [beq_eq_false_iff_ne]; exact hc
        have HF := Lib.hid (smallB_check hc)
        clear hc
        go_wp2
        go_ret
        exact ⟨ret_b HF.out.symm, H2.out⟩
end Go.Proofs.YtcihkechphldcaaDoor
