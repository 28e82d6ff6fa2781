/- The walk of the reference's SameProof: of two proofs that read alike. No condition. -/
import Derived.Test.YtlkdaobhmijggaaGreatDoorGkrPart
import Derived.Test.YtlkdaobhmijggaaGreatDoorProof
import Derived.Test.YtlkdaobhmijggaaGreatDoorKeepM
import Derived.Test.YtlkdaobhmijggaaGreatDoorGkrProve
namespace Go.Proofs.YtlkdaobhmijggaaGreatDoor
set_option maxRecDepth 100000
set_option linter.unusedVariables false
open Go.RowKit Tally
set_option maxHeartbeats 1000000 in
theorem same_row (l : List Int) (v v2 : Value) (w : World) (hp : RowU w v l) (hp2 : RowU w v2 l) :
    Calls Tryz.prog 35 #[v, v2] w fun e w' => e = .returned (.bool true) ∧ Drawn w w' := by
  have Hp := Lib.hid hp
  have Hp2 := Lib.hid hp2
  clear hp hp2
  go_enter Tryz.func35, Tryz.ntmps35
  go_wp2_with (fail)
  refine (slices_Equal l _ _ _ Hp.out Hp2.out).mono ?_
  rintro e w1 ⟨rfl, hd⟩
  go_wp2
  go_ret
  exact ⟨rfl, hd⟩
set_option maxHeartbeats 2000000 in
theorem eqFuncR (ll : List (List Int)) (v v2 : Value) (w : World) (hp : RowUU w v ll) (hp2 : RowUU w v2 ll) :
    Calls Tryz.prog 34 #[v, v2, .func (.func 35) #[] #[]] w fun e w' => e = .returned (.bool true) ∧ Drawn w w' := by
  obtain ⟨h2, ad, cap, rfl, hr⟩ := hp
  obtain ⟨_, ad2, cap2, rfl, hr2⟩ := hp2
  have Hr := Lib.hid hr
  have Hr2 := Lib.hid hr2
  clear hr hr2
  go_enter Tryz.func34, Tryz.ntmps34
  go_wp2
  go_loopw [17] (fun i wr => ∃ k : Nat, k ≤ ll.length ∧ i = .int .i64 (k : Int) ∧ Drawn w wr) (fun i _ => ll.length - (intOf i).toNat)
  case atStart => exact ⟨0, by omega, rfl, Drawn.refl _⟩
  case round =>
    obtain ⟨k, hk, rfl, hd⟩ := hrel
    by_cases hz : k < ll.length
    · obtain ⟨b, off, rfl, hblt, hcell⟩ := Hr.out (by omega)
      obtain ⟨b2, off2, rfl, hblt2, hcell2⟩ := Hr2.out (by omega)
      obtain ⟨u, hu, hru⟩ := hcell k hz
      obtain ⟨u2, hu2, hru2⟩ := hcell2 k hz
      have c1 := (hd.below.cell (p := ⟨b, off + k, none⟩) hblt).trans hu
      have c2 := (hd.below.cell (p := ⟨b2, off2 + k, none⟩) hblt2).trans hu2
      have H1 := Lib.hid (hru.below hd.below (Nat.le_refl _))
      have H2 := Lib.hid (hru2.below hd.below (Nat.le_refl _))
      have hk1 : (k : Int) < (ll.length : Int) := by omega
      clear hcell hcell2 hru hru2 hu hu2
      go_wp2_with (fail)
      refine (same_row _ _ _ _ H1.out H2.out).mono ?_
      rintro e w1 ⟨rfl, hd1⟩
      have hdw := hd.trans hd1
      clear hd1
      go_wp2
      go_roundw
      case rel => exact ⟨k + 1, by omega, by go_num, hdw⟩
      case measure => simp [intOf]; omega
    · obtain rfl : k = ll.length := by omega
      go_wp2
      go_ret
      exact ⟨rfl, hd⟩
set_option maxHeartbeats 2000000 in
theorem same_part (R : List (List Int)) (L : List Int) (vr vl vr2 vl2 : Value) (w : World) (h1 : RowUU w vr R) (h2 : RowU w vl L) (h3 : RowUU w vr2 R) (h4 : RowU w vl2 L) :
    Calls Tryz.prog 33 #[.agg #[vr, vl], .agg #[vr2, vl2]] w fun e w' => e = .returned (.bool true) ∧ Below w.heap.size w w' := by
  have H1 := Lib.hid h1; have H2 := Lib.hid h2; have H3 := Lib.hid h3; have H4 := Lib.hid h4
  obtain ⟨_, a1, p1, rfl, _⟩ := h1
  obtain ⟨_, _, a2, p2, rfl, _⟩ := h2
  obtain ⟨_, a3, p3, rfl, _⟩ := h3
  obtain ⟨_, _, a4, p4, rfl, _⟩ := h4
  obtain ⟨W, hW, b1, b2, s1, B1⟩ := two_blocks w #[.slice a1 R.length p1, .slice a2 L.length p2] #[.slice a3 R.length p3, .slice a4 L.length p4] 84 84
  have k0 : W.cell? ⟨w.heap.size, 0, none⟩ = some (.slice a1 R.length p1) := cell_blk b1 0
  have k1 : W.cell? ⟨w.heap.size, 1, none⟩ = some (.slice a2 L.length p2) := cell_blk b1 1
  have k2 : W.cell? ⟨w.heap.size + 1, 0, none⟩ = some (.slice a3 R.length p3) := cell_blk b2 0
  have k3 : W.cell? ⟨w.heap.size + 1, 1, none⟩ = some (.slice a4 L.length p4) := cell_blk b2 1
  have HB := Lib.hid B1
  have l0 : w.heap.size < W.heap.size := by omega
  have l1 : w.heap.size + 1 < W.heap.size := by omega
  clear b1 b2 B1 s1
  go_enter Tryz.func33, Tryz.ntmps33
  go_wp2_with (fail)
  refine (slices_Equal L _ _ _ (H2.out.go HB.out) (H4.out.go HB.out)).mono ?_
  rintro e w1 ⟨rfl, hd⟩
  have q0 := (hd.below.cell (p := ⟨w.heap.size, 0, none⟩) l0).trans k0
  have q2 := (hd.below.cell (p := ⟨w.heap.size + 1, 0, none⟩) l1).trans k2
  have HB1 := Lib.hid (below_two HB.out hd.below)
  clear k0 k1 k2 k3 hW
  go_wp2_with (fail)
  refine (eqFuncR R _ _ _ (H1.out.below HB1.out (Nat.le_refl _)) (H3.out.below HB1.out (Nat.le_refl _))).mono ?_
  rintro e w2 ⟨rfl, hd2⟩
  go_wp2
  go_ret
  exact ⟨rfl, below_two HB1.out hd2.below⟩
set_option maxHeartbeats 4000000 in
theorem eqFuncP (ps : List Pi) (v v2 : Value) (w : World) (hp : RowP w v ps) (hp2 : RowP w v2 ps) :
    Calls Tryz.prog 32 #[v, v2, .func (.func 33) #[] #[]] w fun e w' => e = .returned (.bool true) ∧ Below w.heap.size w w' := by
  obtain ⟨h2, ad, cap, rfl, hr⟩ := hp
  obtain ⟨_, ad2, cap2, rfl, hr2⟩ := hp2
  have Hr := Lib.hid hr
  have Hr2 := Lib.hid hr2
  clear hr hr2
  go_enter Tryz.func32, Tryz.ntmps32
  go_wp2
  go_loopw [17] (fun i wr => ∃ k : Nat, k ≤ ps.length ∧ i = .int .i64 (k : Int) ∧ Hid (Below w.heap.size w wr)) (fun i _ => ps.length - (intOf i).toNat)
  case atStart => exact ⟨0, by omega, rfl, Below.refl _ _⟩
  case round =>
    obtain ⟨k, hk, rfl, HB⟩ := hrel
    by_cases hz : k < ps.length
    · obtain ⟨b, off, rfl, hblt, hcell⟩ := Hr.out (by omega)
      obtain ⟨b2, off2, rfl, hblt2, hcell2⟩ := Hr2.out (by omega)
      obtain ⟨u, u1, hu, hu1, hR, hL⟩ := hcell k hz
      obtain ⟨x, x1, hx, hx1, hR2, hL2⟩ := hcell2 k hz
      have c1 := (HB.out.cell (p := ⟨b, off + k * 2, none⟩) hblt).trans hu
      have c2 := (HB.out.cell (p := ⟨b, off + k * 2 + 1, none⟩) hblt).trans hu1
      have c3 := (HB.out.cell (p := ⟨b2, off2 + k * 2, none⟩) hblt2).trans hx
      have c4 := (HB.out.cell (p := ⟨b2, off2 + k * 2 + 1, none⟩) hblt2).trans hx1
      have HR := Lib.hid hR; have HL := Lib.hid hL; have HR2 := Lib.hid hR2; have HL2 := Lib.hid hL2
      obtain ⟨_, au, cu, rfl, _⟩ := hR
      obtain ⟨_, _, al, cl, rfl, _⟩ := hL
      obtain ⟨_, ax, cx, rfl, _⟩ := hR2
      obtain ⟨_, _, ay, cy, rfl, _⟩ := hL2
      have hk1 : (k : Int) < (ps.length : Int) := by omega
      have hb2 : b2 < wr.heap.size := Nat.lt_of_lt_of_le hblt2 HB.out.size
      clear hcell hcell2 hu hu1 hx hx1
      go_wp2_with (fail)
      obtain ⟨W, hW, -, -, -, B1⟩ := two_blocks wr #[.slice au (atp ps k).rounds.length cu, .slice al (atp ps k).line.length cl] #[.slice ax (atp ps k).rounds.length cx, .slice ay (atp ps k).line.length cy] 84 84
      rw [hW]
      have HBW := Lib.hid (below_two HB.out B1)
      clear hW B1 c1 c2 c3 c4
      refine (same_part (atp ps k).rounds (atp ps k).line _ _ _ _ W (HR.out.below HBW.out (Nat.le_refl _)) (HL.out.go HBW.out) (HR2.out.below HBW.out (Nat.le_refl _)) (HL2.out.go HBW.out)).mono ?_
      rintro e w1 ⟨rfl, hb1⟩
      have HB1 := Lib.hid (below_two HBW.out hb1)
      clear hb1
      go_wp2
      go_roundw
      case rel => exact ⟨k + 1, by omega, by go_num, HB1.out⟩
      case measure => simp [intOf]; omega
    · obtain rfl : k = ps.length := by omega
      go_wp2
      go_ret
      exact ⟨rfl, HB.out⟩
set_option maxHeartbeats 2000000 in
theorem ref_SameProof (ps : List Pi) (v v2 : Value) (w : World) (hp : IsP w v ps) (hp2 : IsP w v2 ps) :
    Calls Tryz.prog 12 #[v, v2] w fun e w' => e = .returned (.bool true) ∧ Below w.heap.size w w' := by
  obtain ⟨u, rfl, h1⟩ := hp
  obtain ⟨u2, rfl, h2⟩ := hp2
  have H1 := Lib.hid h1; have H2 := Lib.hid h2
  obtain ⟨_, a1, p1, rfl, _⟩ := h1
  obtain ⟨_, a2, p2, rfl, _⟩ := h2
  obtain ⟨W, hW, b1, b2, s1, B1⟩ := two_blocks w #[.slice a1 ps.length p1] #[.slice a2 ps.length p2] 36 36
  have k0 : W.cell? ⟨w.heap.size, 0, none⟩ = some (.slice a1 ps.length p1) := cell_blk b1 0
  have k2 : W.cell? ⟨w.heap.size + 1, 0, none⟩ = some (.slice a2 ps.length p2) := cell_blk b2 0
  have HB := Lib.hid B1
  clear b1 b2 B1 s1
  go_enter Tryz.func12, Tryz.ntmps12
  go_wp2_with (fail)
  refine (eqFuncP ps _ _ _ (H1.out.below HB.out (Nat.le_refl _)) (H2.out.below HB.out (Nat.le_refl _))).mono ?_
  rintro e w1 ⟨rfl, hb⟩
  have HB1 := Lib.hid (below_two HB.out hb)
  clear hb k0 k2 hW
  go_wp2
  go_ret
  exact ⟨rfl, HB1.out⟩
end Go.Proofs.YtlkdaobhmijggaaGreatDoor
