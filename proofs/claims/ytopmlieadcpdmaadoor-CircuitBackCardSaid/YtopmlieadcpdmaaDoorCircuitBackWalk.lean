/- The walk of the law CircuitBack: it returns true, whatever is handed in. -/
import Derived.Test.YtopmlieadcpdmaaDoorBackM
import Derived.Test.YtopmlieadcpdmaaDoorSameC
import Derived.Test.YtopmlieadcpdmaaDoorPrintW
import Derived.Test.YtopmlieadcpdmaaDoorLayM
import Derived.Deep.DeepCutAuto
namespace Go.Proofs.YtopmlieadcpdmaaDoor
set_option maxRecDepth 100000
set_option linter.unusedVariables false
open Go.RowKit Tally
theorem heapC3 (w : World) (x y : Value) (t : Nat) : ∃ W, w.alloc (.cells #[x, y] t) = W ∧ W.heap[w.heap.size]? = some (.cells #[x, y] t (0, 0)) ∧ Below w.heap.size w W ∧ W.heap.size = w.heap.size + 1 :=
  ⟨_, rfl, alloc_blk w _, (Below.refl _ _).alloc (Nat.le_refl _) _, by simp⟩
def tinyL : List UInt8 := [105, 110, 112, 117, 116, 115, 32, 49, 10, 108, 97, 121, 101, 114, 32, 49, 10, 109, 117, 108, 32, 48, 32, 49, 10, 97, 100, 100, 32, 48, 32, 49, 10]
theorem tiny_text : (circB tinyC).toList = tinyL := by
  rw [ByteArray.toList_eq, circB_list]
  have d0 : numL 0 = [48] := by unfold numL; rw [Lib.decDigits_one (by decide)]; rfl
  have d1 : numL 1 = [49] := by unfold numL; rw [Lib.decDigits_one (by decide)]; rfl
  simp [unl, linesOf, bodyLines, layLines, tinyC, lnI, lnL, lnG, wordL, d0, d1, inputsL, layerL, mulL, addL, tinyL]
set_option maxRecDepth 100000 in
set_option maxHeartbeats 8000000 in
theorem circuitBack_walk (w : World) (vc : Value) (c : Ci) (hc : IsC w vc c) (s : ByteArray) (hs : s.size ≤ 9223372036854775807) :
    Calls Tryd.prog 5 #[vc, .string s] w fun e w' => e = .returned (.bool true) ∧ Below w.heap.size w w' := by
  have HC := Lib.hid hc
  obtain ⟨_, _, rfl, _, _, ac, cc, rfl, _⟩ := hc
  have HR := Lib.hid (fun w => c_Parse s w hs)
  obtain ⟨R, hR⟩ : ∃ R, R = parseR s.data.toList := ⟨_, rfl⟩
  rw [← hR] at HR
  have HB := Lib.hid (show R.2.2 ≠ 0 → R.1 = emptyC ∧ 0 ≤ R.2.1 by rw [hR]; exact bad_read)
  have HG := Lib.hid (show R.2.2 = 0 → checkC R.1 = 0 ∧ circB R.1 = s by rw [hR]; exact back_read)
  obtain ⟨TX, hTX⟩ : ∃ TX, TX = circB tinyC := ⟨_, rfl⟩
  have hTL : (TX.toList == tinyL) = true := by rw [hTX, tiny_text]; exact beq_self_eq_true tinyL
  unfold tinyL at hTL
  have CT := Lib.hid (fun v w h => c_Print v tinyC w h (good_of_check tiny_check) tiny_check)
  rw [← hTX] at CT
  clear hs hR hTX
  go_enter Tryd.func5, Tryd.ntmps5
  go_wp2_with (fail)
  obtain ⟨W1, hW1, k1, B1, s1⟩ := heapC3 w (.int .i64 c.log) (.slice ac c.layers.length cc) 24
  rw [hW1]
  have H1 := Lib.hid B1
  have K1 := Lib.hid k1
  clear hW1 B1 k1 s1
  refine (keep_tiny W1).mono ?_
  rintro e w2 ⟨vt, rfl, ht, hb⟩
  have H2 := Lib.hid (below_two H1.out hb)
  have K2 := Lib.hid ((hb.block w.heap.size (blk_lt K1.out)).trans K1.out)
  clear hb
  go_wp2_with (fail)
  refine (CT.out vt w2 ht).mono ?_
  rintro e w3 ⟨rfl, hb⟩
  have H3 := Lib.hid (below_two H2.out hb)
  have k3 := (hb.block w.heap.size (blk_lt K2.out)).trans K2.out
  have K3 := Lib.hid k3
  have y0 : w3.cell? ⟨w.heap.size, 0, none⟩ = some (.int .i64 c.log) := cell_blk k3 0
  have y1 : w3.cell? ⟨w.heap.size, 1, none⟩ = some (.slice ac c.layers.length cc) := cell_blk k3 1
  have HC3 := Lib.hid (HC.out.below H3.out (Nat.le_refl _))
  clear hb k3 ht
  go_upto_region 4 with (fail)
  go_cut [7, 8] (fun x y wx => ∃ (T : ByteArray) (E : Int), x = .string T ∧ y = .int .i64 E ∧ Hid (E = 0 → checkC c = 0 ∧ T = circB c) ∧ Hid (Below w3.heap.size w3 wx))
  case first =>
    by_cases e0 : checkC c = 0
    · have CP := Lib.hid (c_Print _ c w3 HC3.out (good_of_check e0) e0)
      have E0 := Lib.hid e0
      clear e0
      go_wp2_with (fail)
      refine CP.out.mono ?_
      rintro e w4 ⟨rfl, hb⟩
      have Hb := Lib.hid hb
      clear hb
      go_wp2_with (fail)
      go_meet
      case rel => exact ⟨_, _, rfl, rfl, fun _ => ⟨E0.out, rfl⟩, Hb.out⟩
    · have CP := Lib.hid (c_Print_bad _ c w3 HC3.out (by omega))
      have E0 := Lib.hid e0
      clear e0
      go_wp2_with (fail)
      refine CP.out.mono ?_
      rintro e w4 ⟨rfl, hb⟩
      have Hb := Lib.hid hb
      clear hb
      go_wp2_with (fail)
      go_meet
      case rel => exact ⟨_, _, rfl, rfl, fun e => absurd e (by have := E0.out; omega), Hb.out⟩
  case rest =>
    obtain ⟨T, E, rfl, rfl, HE, HB4⟩ := hcut
    obtain ⟨w4, rfl⟩ : ∃ x : World, x = wc := ⟨_, rfl⟩
    have H4 := Lib.hid (below_two H3.out HB4.out)
    have K4 := Lib.hid ((HB4.out.block w.heap.size (blk_lt K3.out)).trans K3.out)
    have HC4 := Lib.hid (HC.out.below H4.out (Nat.le_refl _))
    clear y0 y1
    go_upto_if 33 with (fail)
    go_cut [9, 10, 11] (fun _ _ _ wx => Hid (Below w.heap.size w wx))
    case first =>
      by_cases eE : E = 0
      · subst eE
        obtain ⟨hc0, rfl⟩ := HE.out rfl
        have CP := Lib.hid (c_Parse (circB c) w4 (by have := circB_size (good_of_check hc0); omega))
        rw [back_print hc0] at CP
        clear hc0
        go_wp2_with (fail)
        refine CP.out.mono ?_
        rintro e w5 ⟨v, rfl, hC, hb⟩
        dsimp only at hC ⊢
        obtain ⟨hl, u, rfl, hL⟩ := hC
        obtain ⟨_, _, a2, p2, rfl, _⟩ := id hL
        have HCx := Lib.hid (show IsC w5 (.agg #[.int .i64 c.log, .slice a2 c.layers.length p2]) c from ⟨hl, _, rfl, hL⟩)
        have H5 := Lib.hid (below_two H4.out hb)
        have K5 := Lib.hid ((hb.block w.heap.size (blk_lt K4.out)).trans K4.out)
        have hlt := blk_lt K5.out
        clear hl hL hb
        go_upto_region 7 with (fail)
        obtain ⟨W2, hW2, k2, B2, s2⟩ := heapC3 w5 (.int .i64 c.log) (.slice a2 c.layers.length p2) 24
        rw [hW2]
        have k3 := (B2.block w.heap.size hlt).trans K5.out
        have x0 : W2.cell? ⟨w.heap.size, 0, none⟩ = some (.int .i64 c.log) := cell_blk k3 0
        have x1 : W2.cell? ⟨w.heap.size, 1, none⟩ = some (.slice ac c.layers.length cc) := cell_blk k3 1
        have x2 : W2.cell? ⟨w5.heap.size, 0, none⟩ = some (.int .i64 c.log) := cell_blk k2 0
        have x3 : W2.cell? ⟨w5.heap.size, 1, none⟩ = some (.slice a2 c.layers.length p2) := cell_blk k2 1
        have HB6 := Lib.hid (below_two H5.out B2)
        have CS := Lib.hid (ref_SameCircuit c _ _ W2 (HCx.out.below B2 (Nat.le_refl _)) (HC.out.below HB6.out (Nat.le_refl _)))
        clear hW2 B2 s2 k2 k3 hlt
        go_wp2_with (fail)
        refine CS.out.mono ?_
        rintro e3 w6 ⟨rfl, hb3⟩
        have HB7 := Lib.hid (below_two HB6.out hb3)
        clear hb3
        go_wp2_with (fail)
        go_meet
        case rel => exact HB7.out
      · have bE : (E == 0) = false := beq_false_of_ne eE
        clear eE
        go_wp2_with (fail)
        go_meet
        case rel => exact H4.out
    case rest =>
      obtain ⟨w7, rfl⟩ : ∃ x : World, x = wc := ⟨_, rfl⟩
      have H7 := hcut
      obtain ⟨r, n, E2⟩ := R
      dsimp only at HR HB HG
      go_wp2_with (fail)
      refine (HR.out w7).mono ?_
      rintro e w8 ⟨v, rfl, hC, hb⟩
      have H8 := Lib.hid (below_two H7.out hb)
      obtain ⟨hl, u, rfl, hL⟩ := hC
      obtain ⟨_, _, a2, p2, rfl, _⟩ := id hL
      have HCx := Lib.hid (show IsC w8 (.agg #[.int .i64 r.log, .slice a2 r.layers.length p2]) r from ⟨hl, _, rfl, hL⟩)
      clear hl hL hb
      go_upto_region 10 with (fail)
      obtain ⟨W2, hW2, k2, B2, s2⟩ := heapC3 w8 (.int .i64 r.log) (.slice a2 r.layers.length p2) 24
      rw [hW2]
      have x2 : W2.cell? ⟨w8.heap.size, 0, none⟩ = some (.int .i64 r.log) := cell_blk k2 0
      have x3 : W2.cell? ⟨w8.heap.size, 1, none⟩ = some (.slice a2 r.layers.length p2) := cell_blk k2 1
      have H9 := Lib.hid (below_two H8.out B2)
      have HCy := Lib.hid (HCx.out.below B2 (Nat.le_refl _))
      clear hW2 B2 s2 k2
      by_cases e2 : E2 = 0
      · subst e2
        obtain ⟨g1, rfl⟩ := HG.out rfl
        have CP := Lib.hid (c_Print _ r W2 HCy.out (good_of_check g1) g1)
        have hss : ((circB r).toList == (circB r).toList) = true := beq_self_eq_true _
        clear g1
        go_wp2_with (fail)
        refine CP.out.mono ?_
        rintro e w9 ⟨rfl, hb⟩
        have H10 := Lib.hid (below_two H9.out hb)
        clear hb
        go_wp2_with (fail)
        go_ret
        exact ⟨rfl, H10.out⟩
      · have bE : (E2 != 0) = true := by simpa using e2
        obtain ⟨g1, g2⟩ := HB.out e2
        subst g1
        have gn : decide (0 ≤ n) = true := decide_eq_true g2
        clear e2
        go_wp2_with (fail)
        go_ret
        exact ⟨rfl, H9.out⟩
end Go.Proofs.YtopmlieadcpdmaaDoor
