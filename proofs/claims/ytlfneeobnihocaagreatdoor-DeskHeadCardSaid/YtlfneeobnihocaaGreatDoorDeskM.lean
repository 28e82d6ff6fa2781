/- Several texts in one: PrintW, DeskM. What each says, and its conditions, stands at its head. -/
import Derived.Test.YtlfneeobnihocaaGreatDoorRTextW
import Derived.StillTailTactics
import Derived.Test.YtlfneeobnihocaaGreatDoorHalvesW
import Derived.Test.YtlfneeobnihocaaGreatDoorBackM
import Derived.Test.YtlfneeobnihocaaGreatDoorFiatM
import Derived.Test.YtlfneeobnihocaaGreatDoorTreeK
import Derived.Lib.Join
/- The walk of circuit.Print: the text of a circuit, or Check's error. The circuit is a value that reads as data. -/
namespace Go.Proofs.YtlfneeobnihocaaGreatDoor
set_option maxRecDepth 100000
set_option linter.unusedVariables false
open Go.RowKit Tally
theorem heapOf_copied2 (w : World) (x y : Value) (t : Nat) : ∃ W, w.alloc (.cells #[x, y] t) = W ∧ W.heap[w.heap.size]? = some (.cells #[x, y] t (0, 0)) ∧ Below w.heap.size w W ∧ W.heap.size = w.heap.size + 1 :=
  ⟨_, rfl, alloc_blk w _, (Below.refl _ _).alloc (Nat.le_refl _) _, by simp⟩
set_option maxRecDepth 100000 in
set_option maxHeartbeats 2000000 in
theorem c_Print_bad (v : Value) (c : Ci) (w : World) (h : IsC w v c) (hc : (checkC c : Int) ≠ 0) :
    Calls Tryz.prog 60 #[v] w fun e w' => e = .returned (.tuple #[.string ⟨#[]⟩, .int .i64 (checkC c)]) ∧ Below w.heap.size w w' := by
  have HC0 := Lib.hid h
  obtain ⟨hlog, u, rfl, hL⟩ := h
  obtain ⟨hls, hll, a, cap, rfl, hr⟩ := hL
  obtain ⟨E, hE⟩ : ∃ E : Int, E = (checkC c : Int) := ⟨_, rfl⟩
  have HE := Lib.hid hE
  rw [← hE] at hc ⊢
  have hne : (E != 0) = true := by simpa using hc
  clear hr hE
  go_enter Tryz.func60, Tryz.ntmps60
  go_wp2_with (fail)
  obtain ⟨W1, hW, k0, k1, B1, s1⟩ := copied2' w (.int .i64 c.log) (.slice a c.layers.length cap) 62
  rw [hW]
  have H1 := Lib.hid B1
  clear hW s1 B1
  refine (c_Check _ c _ (HC0.out.below H1.out (Nat.le_refl _))).mono ?_
  rintro e w2 ⟨rfl, hb2⟩
  rw [← HE.out]
  have H2 := Lib.hid (below_two H1.out hb2)
  clear hb2
  go_wp2
  go_ret2
  exact ⟨rfl, H2.out⟩
set_option maxRecDepth 100000 in
set_option maxHeartbeats 8000000 in
theorem c_Print (v : Value) (c : Ci) (w : World) (h : IsC w v c) (hG : Good c) (hc0 : checkC c = 0) :
    Calls Tryz.prog 60 #[v] w fun e w' => e = .returned (.tuple #[.string (circB c), .int .i64 0]) ∧ Below w.heap.size w w' := by
  have HC0 := Lib.hid h
  obtain ⟨hlog, u, rfl, hL⟩ := h
  obtain ⟨hls, hll, a, cap, rfl, hr⟩ := hL
  have Hr := Lib.hid hr; have Hc := Lib.hid hc0; have HG := Lib.hid hG
  have h0 := hG.log0
  have h4 := hG.log4
  have hln := hG.n4
  clear hr hc0 hG hls
  go_enter Tryz.func60, Tryz.ntmps60
  go_wp2_with (fail)
  obtain ⟨W1, hW, k0, k1, B1, s1⟩ := copied2' w (.int .i64 c.log) (.slice a c.layers.length cap) 62
  rw [hW]
  have L1 : w.heap.size < W1.heap.size := by omega
  have H1 := Lib.hid B1
  clear hW s1 B1
  refine (c_Check _ c _ (HC0.out.below H1.out (Nat.le_refl _))).mono ?_
  rintro e w2 ⟨rfl, hb2⟩
  rw [Hc.out]
  have H2 := Lib.hid (below_two H1.out hb2)
  have r0 := (hb2.cell (p := ⟨w.heap.size, 0, none⟩) L1).trans k0
  have r1 := (hb2.cell (p := ⟨w.heap.size, 1, none⟩) L1).trans k1
  have L2 : w.heap.size < w2.heap.size := by have := hb2.size; omega
  clear k0 k1 hb2 L1
  have Q0 : (w2.alloc (.cells #[.pointer none, .slice none 0 0] 35)).cell? ⟨w.heap.size, 0, none⟩ = some (.int .i64 c.log) := (((Below.refl _ _).alloc (Nat.le_refl _) _ : Below w2.heap.size w2 _).cell (p := ⟨w.heap.size, 0, none⟩) L2).trans r0
  have Q1 : (w2.alloc (.cells #[.pointer none, .slice none 0 0] 35)).cell? ⟨w.heap.size, 1, none⟩ = some (.slice a c.layers.length cap) := (((Below.refl _ _).alloc (Nat.le_refl _) _ : Below w2.heap.size w2 _).cell (p := ⟨w.heap.size, 1, none⟩) L2).trans r1
  clear r0 r1
  have CI := Lib.hid (fun W => itoa_small c.log W h0 (by omega))
  have hn2 := numB_size h0 (show c.log < 100 by omega)
  have HI := Lib.hid (show inB c.log = ⟨#[105, 110, 112, 117, 116, 115, 32]⟩ ++ numB c.log ++ ⟨#[10]⟩ from rfl)
  have HIs := inB_size h0 (show c.log < 100 by omega)
  obtain ⟨NB, hNB⟩ : ∃ NB, NB = numB c.log := ⟨_, rfl⟩
  rw [← hNB] at CI hn2 HI
  clear hNB
  go_wp2_with (go_at_call 39; refine (CI.out _).mono ?_; rintro e w' ⟨rfl, rfl⟩)
  rw [← HI.out]
  refine (b_Write w2.heap.size ByteArray.empty _ _ (Bd.fresh w2) (by simp; omega) (by simp)).mono ?_
  rintro e w3 ⟨rfl, hB3, hb3, -⟩
  have HB3 := Lib.hid (show Bd w2.heap.size (inB c.log ++ laysB c.layers 0) w3 by
    rw [ByteArray.empty_append] at hB3; rw [show laysB c.layers 0 = ByteArray.empty from rfl, ByteArray.append_empty]; exact hB3)
  have H3 := Lib.hid (show Below w2.heap.size w2 w3 from ((Below.refl _ _).alloc (Nat.le_refl _) _).trans hb3)
  have r1 := (hb3.cell (p := ⟨w.heap.size, 1, none⟩) L2).trans Q1
  clear hB3 hb3 Q0 Q1 CI HI hn2
  generalize NB.size = NZ at *
  go_wp2
  go_loopw [25] (fun i wr => ∃ k : Nat, k ≤ c.layers.length ∧ i = .int .i64 (k : Int) ∧ Hid (Bd w2.heap.size (inB c.log ++ laysB c.layers k) wr) ∧ Hid (Below w2.heap.size w2 wr)) (fun i _ => c.layers.length - (intOf i).toNat)
  case atStart => exact ⟨0, by omega, rfl, HB3.out, H3.out⟩
  case round =>
    obtain ⟨k, hk, rfl, HB, HW⟩ := hrel
    by_cases hz : k < c.layers.length
    · obtain ⟨b, off, rfl, hblt, hcell⟩ := Hr.out (by omega)
      obtain ⟨c1, u, c2, hg⟩ := hcell k hz
      have Hbw := Lib.hid (below_two H2.out HW.out)
      have d1 := (Hbw.out.cell (p := ⟨b, off + k * 2, none⟩) (by exact hblt)).trans c1
      have d2 := (Hbw.out.cell (p := ⟨b, off + k * 2 + 1, none⟩) (by exact hblt)).trans c2
      obtain ⟨hgi, hgl, ag, cg, rfl, hgr⟩ := hg
      have Hg := Lib.hid hgr
      have hz1 : (k : Int) < (c.layers.length : Int) := by omega
      have g100 := Lib.hid (fun j hj => HG.out.gates100 hz (j := j) hj)
      have hg16 := HG.out.len16 hz
      have hl0 := HG.out.l0 k hz
      have hl4 := HG.out.l4 k hz
      have HLs := Lib.hid (show laysB c.layers (k + 1) = laysB c.layers k ++ (headB (aty c.layers k).log ++ gatesB (aty c.layers k).gates (aty c.layers k).gates.length) from rfl)
      have hls := laysB_size HG.out k (by omega)
      clear hcell c1 c2 hgr hgi
      generalize aty c.layers k = l at *
      have CI := Lib.hid (fun W => itoa_small l.log W hl0 (by omega))
      have hn2 := numB_size hl0 (show l.log < 100 by omega)
      have HI := Lib.hid (show headB l.log = ⟨#[108, 97, 121, 101, 114, 32]⟩ ++ numB l.log ++ ⟨#[10]⟩ from rfl)
      have hhs := headB_size hl0 (show l.log < 100 by omega)
      obtain ⟨NB, hNB⟩ : ∃ NB, NB = numB l.log := ⟨_, rfl⟩
      rw [← hNB] at CI hn2 HI
      clear hNB
      obtain ⟨S0, hS0⟩ : ∃ S0, S0 = inB c.log ++ laysB c.layers k := ⟨_, rfl⟩
      rw [← hS0] at HB
      have hS0s : S0.size ≤ 700 := by rw [hS0, ByteArray.size_append]; omega
      have HS0 := Lib.hid hS0
      clear hS0
      go_wp2_with (go_at_call 39; refine (CI.out _).mono ?_; rintro e w' ⟨rfl, rfl⟩)
      rw [← HI.out]
      obtain ⟨W4, hW4, h4h, B4, s4⟩ := heapOf_copied2 wr (.int .i64 l.log) (.slice ag l.gates.length cg) 124
      rw [hW4]
      have HB4 := Lib.hid (show Bd w2.heap.size S0 W4 from HB.out.go B4)
      have l4 : wr.heap.size < W4.heap.size := by omega
      have hsz4 : w2.heap.size ≤ W4.heap.size := by have := HW.out.size; omega
      have hne : wr.heap.size ≠ w2.heap.size := by have := HB.out.lt; omega
      refine (b_Write w2.heap.size S0 _ _ HB4.out (by omega) hsz4).mono ?_
      rintro e w5 ⟨rfl, hB5, hb5, ho5⟩
      have H5 := Lib.hid (show Below w2.heap.size w2 w5 from (HW.out.trans (B4.mono HW.out.size)).trans hb5)
      have hb5h : w5.heap[wr.heap.size]? = some (.cells #[.int .i64 l.log, .slice ag l.gates.length cg] 124 (0, 0)) := ho5 _ _ h4h (fun e => hne (by injection e)) (fun c fz e => by injection e with _ e2 _; exact absurd e2 (by decide))
      have e1 : w5.cell? ⟨wr.heap.size, 1, none⟩ = some (.slice ag l.gates.length cg) := cell_blk hb5h 1
      obtain ⟨S1, hS1⟩ : ∃ S1, S1 = S0 ++ headB l.log := ⟨_, rfl⟩
      have HB5 := Lib.hid (show Bd w2.heap.size (S1 ++ gatesB l.gates 0) w5 by
        rw [show gatesB l.gates 0 = ByteArray.empty from rfl, ByteArray.append_empty, hS1]; exact hB5)
      have hS1s : S1.size ≤ 720 := by rw [hS1, ByteArray.size_append]; omega
      have HS1 := Lib.hid hS1
      have hsz5 := hb5.size
      clear hB5 hb5 ho5 hW4 h4h B4 s4 hS1 hb5h CI HI hn2 d1 d2
      generalize (headB l.log).size = HZ at *
      go_wp2
      go_loopw [38] (fun i wq => ∃ j : Nat, j ≤ l.gates.length ∧ i = .int .i64 (j : Int) ∧ Hid (Bd w2.heap.size (S1 ++ gatesB l.gates j) wq) ∧ Hid (Below w2.heap.size w2 wq)) (fun i _ => l.gates.length - (intOf i).toNat)
      case atStart => exact ⟨0, by omega, rfl, HB5.out, H5.out⟩
      case round =>
        obtain ⟨j, hj, rfl, HBj, HWj⟩ := hrel
        by_cases hjz : j < l.gates.length
        · obtain ⟨b2, off2, rfl, hb2lt, hgc⟩ := Hg.out (by omega)
          obtain ⟨f1, f2, f3⟩ := hgc j hjz
          have Hbq := Lib.hid (below_two H2.out HWj.out)
          have q1 := (Hbq.out.cell (p := ⟨b2, off2 + j * 3, none⟩) (by exact hb2lt)).trans f1
          have q2 := (Hbq.out.cell (p := ⟨b2, off2 + j * 3 + 1, none⟩) (by exact hb2lt)).trans f2
          have q3 := (Hbq.out.cell (p := ⟨b2, off2 + j * 3 + 2, none⟩) (by exact hb2lt)).trans f3
          obtain ⟨ga1, ga2, gb1, gb2⟩ := g100.out j hjz
          have hgs := gatesB_size g100.out j (by omega)
          have HGs := Lib.hid (show gatesB l.gates (j + 1) = gatesB l.gates j ++ gateB (atg l.gates j) from rfl)
          have hjl : (j : Int) < (l.gates.length : Int) := by omega
          clear hgc f1 f2 f3
          generalize atg l.gates j = g at *
          have hgz := gateB_size ga1 ga2 gb1 gb2
          have CA := Lib.hid (fun W => itoa_small g.a W ga1 ga2)
          have CB := Lib.hid (fun W => itoa_small g.b W gb1 gb2)
          have na := numB_size ga1 ga2
          have nb := numB_size gb1 gb2
          obtain ⟨S2, hS2⟩ : ∃ S2, S2 = S1 ++ gatesB l.gates j := ⟨_, rfl⟩
          rw [← hS2] at HBj
          have hS2s : S2.size ≤ 880 := by rw [hS2, ByteArray.size_append]; omega
          have HS2 := Lib.hid hS2
          have HWg := Lib.hid (show wordB g.mul ++ numB g.a ++ ⟨#[32]⟩ ++ numB g.b ++ ⟨#[10]⟩ = gateB g from rfl)
          have HW0 := Lib.hid (show wordB true = ⟨#[109, 117, 108, 32]⟩ ∧ wordB false = ⟨#[97, 100, 100, 32]⟩ from ⟨rfl, rfl⟩)
          clear hS2
          obtain ⟨gm, ga, gb⟩ := g
          simp only at q1 q2 q3 CA CB na nb HWg ga1 ga2 gb1 gb2
          obtain ⟨NA, hNA⟩ : ∃ NA, NA = numB ga := ⟨_, rfl⟩
          obtain ⟨NC, hNC⟩ : ∃ NC, NC = numB gb := ⟨_, rfl⟩
          rw [← hNA] at CA na HWg
          rw [← hNC] at CB nb HWg
          clear hNA hNC
          cases gm
          case false =>
            go_wp2_with (fail)
            obtain ⟨wv, rfl⟩ : ∃ x : World, x = wr := ⟨_, rfl⟩
            obtain ⟨X, hX, _, t1, t2, hXb, hXs⟩ := copied3' wv (.bool false) (.int .i64 ga) (.int .i64 gb) 126
            rw [hX]
            have HBX := Lib.hid (HBj.out.go hXb)
            have HWX := Lib.hid (HWj.out.trans (hXb.mono HWj.out.size))
            have hszX := HWX.out.size
            have i1 : ¬ (9223372036854775807 < 4 + NA.size) := by omega
            have i2 : ¬ (9223372036854775807 < 4 + NA.size + 1) := by omega
            have i3 : ¬ (9223372036854775807 < 4 + NA.size + 1 + NC.size) := by omega
            have i4 : ¬ (9223372036854775807 < 4 + NA.size + 1 + NC.size + 1) := by omega
            clear hX hXs hXb q1 q2 q3
            refine wp_region_still_tail 11 (by kernel_rfl) (by kernel_rfl) ?_
            simp only [List.take_succ_cons, List.take_zero, List.drop_succ_cons, List.drop_zero]
            repeat (first | still_step | still_call (still_of (CA.out _)) | still_call (still_of (CB.out _)))
            try refine wpStill_nil ?_
            change wpList _ _ _ _ _ (World.drew _)
            go_wp2_with (fail)
            have eW := HWg.out
            rw [HW0.out.2] at eW
            rw [eW]
            refine (b_Write w2.heap.size S2 _ _ (HBX.out.drewN 1) (by omega) hszX).mono ?_
            rintro e w6 ⟨rfl, hB6, hb6, -⟩
            have HB6 := Lib.hid hB6
            have H6 := Lib.hid (show Below w2.heap.size w2 w6 from (below_drewN HWX.out 1).trans hb6)
            clear hB6 hb6 eW t1 t2
            go_wp2
            go_roundw
            case rel => exact ⟨j + 1, by omega, by go_num, by have := HB6.out; rw [HS2.out, ByteArray.append_assoc] at this; rw [HGs.out]; exact this, H6.out⟩
            case measure => simp [intOf]; omega
          case true =>
            go_wp2_with (fail)
            obtain ⟨wv, rfl⟩ : ∃ x : World, x = wr := ⟨_, rfl⟩
            obtain ⟨X, hX, _, t1, t2, hXb, hXs⟩ := copied3' wv (.bool true) (.int .i64 ga) (.int .i64 gb) 126
            rw [hX]
            have HBX := Lib.hid (HBj.out.go hXb)
            have HWX := Lib.hid (HWj.out.trans (hXb.mono HWj.out.size))
            have hszX := HWX.out.size
            have i1 : ¬ (9223372036854775807 < 4 + NA.size) := by omega
            have i2 : ¬ (9223372036854775807 < 4 + NA.size + 1) := by omega
            have i3 : ¬ (9223372036854775807 < 4 + NA.size + 1 + NC.size) := by omega
            have i4 : ¬ (9223372036854775807 < 4 + NA.size + 1 + NC.size + 1) := by omega
            clear hX hXs hXb q1 q2 q3
            refine wp_region_still_tail 11 (by kernel_rfl) (by kernel_rfl) ?_
            simp only [List.take_succ_cons, List.take_zero, List.drop_succ_cons, List.drop_zero]
            repeat (first | still_step | still_call (still_of (CA.out _)) | still_call (still_of (CB.out _)))
            try refine wpStill_nil ?_
            change wpList _ _ _ _ _ (World.drew _)
            go_wp2_with (fail)
            have eW := HWg.out
            rw [HW0.out.1] at eW
            rw [eW]
            refine (b_Write w2.heap.size S2 _ _ (HBX.out.drewN 1) (by omega) hszX).mono ?_
            rintro e w6 ⟨rfl, hB6, hb6, -⟩
            have HB6 := Lib.hid hB6
            have H6 := Lib.hid (show Below w2.heap.size w2 w6 from (below_drewN HWX.out 1).trans hb6)
            clear hB6 hb6 eW t1 t2
            go_wp2
            go_roundw
            case rel => exact ⟨j + 1, by omega, by go_num, by have := HB6.out; rw [HS2.out, ByteArray.append_assoc] at this; rw [HGs.out]; exact this, H6.out⟩
            case measure => simp [intOf]; omega
        · obtain rfl : j = l.gates.length := by omega
          go_wp2
          go_roundw
          case rel => exact ⟨k + 1, by omega, by go_num, by have := HBj.out; rw [HS1.out, HS0.out, ByteArray.append_assoc, ByteArray.append_assoc] at this; rw [HLs.out]; exact this, HWj.out⟩
          case measure => simp [intOf]; omega
    · obtain rfl : k = c.layers.length := by omega
      go_wp2_with (fail)
      refine (b_String w2.heap.size _ _ HB.out HW.out.size).mono ?_
      rintro e w9 ⟨rfl, hb9⟩
      have H9 := Lib.hid (below_two H2.out (HW.out.trans hb9))
      clear hb9
      go_wp2
      go_ret2
      exact ⟨rfl, H9.out⟩
end Go.Proofs.YtlfneeobnihocaaGreatDoor

/- The desk in plain lists of bytes: the answer of a line, what a text of lines answers. No condition. -/
namespace Go.Proofs.YtlfneeobnihocaaGreatDoor
set_option maxRecDepth 100000
set_option linter.unusedVariables false
open Go.RowKit Tally
abbrev Bs := List UInt8
/-- words, with a byte 32 between them -/
def joinD (ws : List Bs) : Bs := Lib.join ws [32]
theorem joinD_cons (x : Bs) (r : List Bs) : joinD (x :: r) = x ++ Lib.joinTail [32] r := Lib.join_cons x r [32]
theorem joinD_snoc (x : Bs) (r : List Bs) (y : Bs) : joinD (x :: r ++ [y]) = joinD (x :: r) ++ 32 :: y := by
  rw [List.cons_append, joinD_cons, joinD_cons]
  simp [Lib.joinTail]
theorem tail_len (M : Nat) (r : List Bs) (h : ∀ x ∈ r, x.length ≤ M) : (Lib.joinTail [32] r).length ≤ r.length * (M + 1) := by
  induction r with
  | nil => simp [Lib.joinTail]
  | cons x r ih =>
    have h1 := ih fun y hy => h y (List.mem_cons_of_mem _ hy)
    have h2 := h x (List.mem_cons_self ..)
    simp only [Lib.joinTail, List.map_cons, List.flatten_cons, List.length_append, List.length_cons, List.length_nil, Nat.add_mul] at h1 ⊢
    omega
theorem joinD_len (M : Nat) (ws : List Bs) (h : ∀ x ∈ ws, x.length ≤ M) : (joinD ws).length ≤ ws.length * (M + 1) := by
  cases ws with
  | nil => simp [joinD, Lib.join_nil]
  | cons x r =>
    have h1 := tail_len M r fun y hy => h y (List.mem_cons_of_mem _ hy)
    have h2 := h x (List.mem_cons_self ..)
    rw [joinD_cons, List.length_append, List.length_cons, Nat.add_mul]
    omega
def okL : Bs := [111, 107]
def holdsL : Bs := [104, 111, 108, 100, 115]
def failsL : Bs := [102, 97, 105, 108, 115]
def vCircuit : Bs := [99, 105, 114, 99, 117, 105, 116]
def vClear : Bs := [99, 108, 101, 97, 114]
def vShow : Bs := [115, 104, 111, 119]
def vEval : Bs := [101, 118, 97, 108]
def vProve : Bs := [112, 114, 111, 118, 101]
def vSum : Bs := [115, 117, 109]
def vRoot : Bs := [114, 111, 111, 116]
def vRun : Bs := [114, 117, 110]
def vInv : Bs := [105, 110, 118]
def vAdd : Bs := [97, 100, 100]
def vSub : Bs := [115, 117, 98]
def vMul : Bs := [109, 117, 108]
def vPow : Bs := [112, 111, 119]
/-- is a list a table? -/
def IsTab (n : Nat) : Prop := n.log2 ≤ 8 ∧ n = 2 ^ n.log2
instance (n : Nat) : Decidable (IsTab n) := inferInstanceAs (Decidable (_ ∧ _))
noncomputable def sumA (n : List Int) : Bs := if IsTab n.length then decL (psi (sumTo (atF (n.map phi)) n.length)) else errL 4
noncomputable def rootA (n : List Int) : Bs := if IsTab n.length then decL (psi (rootF n n.length.log2)) else errL 4
noncomputable def evalA (a b : List Int) : Bs := if IsTab a.length then (if b.length = a.length.log2 then decL (psi (evalF (a.map phi) (b.map phi))) else errL 1) else errL 4
noncomputable def invA (x : Int) : Bs := if phi x = 0 then errL 1 else decL (psi (inv (phi x)))
noncomputable def netA (t : Bs) (f : Ci → Bs) : Bs := if (parseR t).2.2 = 0 then f (parseR t).1 else errL (parseR t).2.2 ++ 32 :: decL (parseR t).2.1
noncomputable def showA (c : Ci) : Bs := (circB c).data.toList ++ okL
/-- a circuit's outputs -/
noncomputable def outsI (c : Ci) (n : List Int) : List Int := (valF c (n.map phi) c.layers.length).map psi
noncomputable def ranA (c : Ci) (n : List Int) : Bs := if n.length = 2 ^ c.log.toNat then joinD ((outsI c n).map decL) else errL 4
noncomputable def provA (c : Ci) (a b : List Int) : Bs :=
  if a.length = 2 ^ c.log.toNat then
    (if b.length = 2 ^ (belowLog c c.layers.length).toNat then
      (if verB c a b (proveI c a (fiatD c a (outsI c a))) (drawnI c a b (proveI c a (fiatD c a (outsI c a)))) then holdsL else failsL)
    else errL 4)
  else errL 4
/-- a call of field of two numbers -/
noncomputable def twoA (v : Bs) (a b : Int) : Option Bs :=
  if v = vAdd then some (decL (psi (phi a + phi b)))
  else if v = vSub then some (decL (psi (phi a - phi b)))
  else if v = vMul then some (decL (psi (phi a * phi b)))
  else if v = vPow then some (decL (psi (phi a ^ b.toNat)))
  else none
/-- a command of a list of numbers -/
noncomputable def listA (t v : Bs) (n : List Int) : Bs :=
  if v = vSum then sumA n
  else if v = vRoot then rootA n
  else if v = vRun then netA t fun c => ranA c n
  else if v = vInv ∧ n.length = 1 then invA (at0 n 0)
  else if n.length = 2 then (twoA v (at0 n 0) (at0 n 1)).getD (errL 3)
  else errL 3
/-- the answer of a line's words, and the text behind it -/
noncomputable def doA (t v : Bs) (ws : List Bs) : Bs × Bs :=
  if v = vCircuit then
    (if ws = [] then (errL 3, t)
    else if 4096 < t.length + (joinD ws).length + 1 then (errL 2, t)
    else (okL, t ++ joinD ws ++ [10]))
  else if v = vClear then (if ws = [] then (okL, []) else (errL 3, t))
  else if v = vShow then (if ws = [] then (netA t showA, t) else (errL 3, t))
  else if v = vEval then (if halfB ws then (evalA (valsD (ws.take (slashD ws))) (valsD (ws.drop (slashD ws + 1))), t) else (errL 3, t))
  else if v = vProve then (if halfB ws then (netA t fun c => provA c (valsD (ws.take (slashD ws))) (valsD (ws.drop (slashD ws + 1))), t) else (errL 3, t))
  else if ws.all okB then (listA t v (valsD ws), t) else (errL 3, t)
/-- the words of a line -/
def wordsL (l : Bs) : List Bs := (pcs 32 l).filter fun p => !p.isEmpty
/-- the lines of a text -/
def linesL (s : Bs) : List Bs := if (pcs 10 s).getLast? = some [] then (pcs 10 s).dropLast else pcs 10 s
/-- one line: what it adds to what is told, and the text behind it -/
noncomputable def lineA (r : Bs × Bs) (l : Bs) : Bs × Bs :=
  match wordsL l with
  | [] => r
  | v :: ws => if v.head? = some 35 then r else (r.1 ++ (doA r.2 v ws).1 ++ [10], (doA r.2 v ws).2)
noncomputable def runA (ls : List Bs) : Bs × Bs := ls.foldl lineA ([], [])
noncomputable def deskA (s : Bs) : Bs := if 65536 < s.length ∨ 200 < (linesL s).length then [101, 114, 114, 111, 114, 32, 50, 10] else (runA (linesL s)).1
end Go.Proofs.YtlfneeobnihocaaGreatDoor
