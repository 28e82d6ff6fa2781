/- The walk of the reference's SameOpening: of two openings that read alike. No condition. -/
import Derived.Test.YtokggifjcbkmnaaDoorOpenHolds
import Derived.Test.YtokggifjcbkmnaaDoorLists
namespace Go.Proofs.YtokggifjcbkmnaaDoor
set_option maxRecDepth 100000
set_option linter.unusedVariables false
open Go.RowKit Tally
/-- what '==' says of two pairs -/
theorem eqPair (a b c d : Int) (w : World) : (Op.equalIn 10000 67 (.agg #[.int .u64 a, .int .u64 b]) (.agg #[.int .u64 c, .int .u64 d])).run Tryd.prog w = .ok (a == c && b == d) w := by
  have u3 := Tryd.underlying23
  have a3 := Tryd.isAgg23
  have z3 := Tryd.sizeOf23
  rw [show (10000 : Nat) = 9999 + 1 from rfl, Op.equalIn]
  simp only [Sem.run_bind, run_underlying Tryd.underlying67, Result.andThen_ok]
  simp only [Std.Legacy.Range.forIn_eq_forIn_range', Std.Legacy.Range.size, Nat.sub_zero, Nat.add_sub_cancel, Nat.div_one, List.range'_succ, List.range'_zero, List.forIn_cons, List.forIn_nil]
  go_simp
  by_cases h1 : a = c <;> by_cases h2 : b = d <;> simp [h1, h2]
set_option maxHeartbeats 2000000 in
theorem slices_EqualA (l : List (Int × Int)) (v v2 : Value) (w : World) (hp : RowA w v l) (hp2 : RowA w v2 l) :
    Calls Tryd.prog 50 #[v, v2] w fun e w' => e = .returned (.bool true) ∧ Below w.heap.size w w' := by
  obtain ⟨h2, ad, cap, rfl, hr⟩ := hp
  obtain ⟨_, ad2, cap2, rfl, hr2⟩ := hp2
  have Hr := Lib.hid hr
  have Hr2 := Lib.hid hr2
  clear hr hr2
  go_enter Tryd.func50, Tryd.ntmps50
  go_wp2
  go_loopw [13] (fun i wr => ∃ k : Nat, k ≤ l.length ∧ i = .int .i64 (k : Int) ∧ Hid (Below w.heap.size w wr)) (fun i _ => l.length - (intOf i).toNat)
  case atStart => exact ⟨0, by omega, rfl, Below.refl _ _⟩
  case round =>
    obtain ⟨k, hk, rfl, HB⟩ := hrel
    by_cases hz : k < l.length
    · obtain ⟨b, off, rfl, hblt, hcell⟩ := Hr.out (by omega)
      obtain ⟨b2, off2, rfl, hblt2, hcell2⟩ := Hr2.out (by omega)
      obtain ⟨-, hu, hu1⟩ := hcell k hz
      obtain ⟨-, hx, hx1⟩ := hcell2 k hz
      have c1 := (HB.out.cell (p := ⟨b, off + k * 2, none⟩) hblt).trans hu
      have c2 := (HB.out.cell (p := ⟨b, off + k * 2 + 1, none⟩) hblt).trans hu1
      have c3 := (HB.out.cell (p := ⟨b2, off2 + k * 2, none⟩) hblt2).trans hx
      have c4 := (HB.out.cell (p := ⟨b2, off2 + k * 2 + 1, none⟩) hblt2).trans hx1
      have hk1 : (k : Int) < (l.length : Int) := by omega
      have hk0 : (0 : Int) ≤ (k : Int) := by omega
      clear hcell hcell2 hu hu1 hx hx1
      generalize (ata l k).1 = x at *
      generalize (ata l k).2 = y at *
      have he := fun w => eqPair x y x y w
      simp only [beq_self_eq_true, Bool.and_self] at he
      go_wp2
      go_quiet (fail)
      go_wp2
      go_roundw
      case rel => exact ⟨k + 1, by omega, by go_num, below_drewN HB.out nq⟩
      case measure => simp [intOf]; omega
    · obtain rfl : k = l.length := by omega
      go_wp2
      go_ret
      exact ⟨rfl, HB.out⟩
set_option maxHeartbeats 4000000 in
theorem same_paths (R L : List Int) (va vb va2 vb2 : Value) (w : World) (h1 : RowU w va R) (h2 : RowU w vb L) (h3 : RowU w va2 R) (h4 : RowU w vb2 L) :
    Calls Tryd.prog 52 #[.agg #[va, vb], .agg #[va2, vb2]] w fun e w' => e = .returned (.bool true) ∧ Below w.heap.size w w' := by
  have H1 := Lib.hid h1; have H2 := Lib.hid h2; have H3 := Lib.hid h3; have H4 := Lib.hid h4
  obtain ⟨_, _, a1, p1, rfl, _⟩ := h1
  obtain ⟨_, _, a2, p2, rfl, _⟩ := h2
  obtain ⟨_, _, a3, p3, rfl, _⟩ := h3
  obtain ⟨_, _, a4, p4, rfl, _⟩ := h4
  obtain ⟨W, hW, b1, b2, s1, B1⟩ := two_blocksO w #[.slice a1 R.length p1, .slice a2 L.length p2] #[.slice a3 R.length p3, .slice a4 L.length p4] 66 66
  have k0 : W.cell? ⟨w.heap.size, 0, none⟩ = some (.slice a1 R.length p1) := cell_blk b1 0
  have k1 : W.cell? ⟨w.heap.size, 1, none⟩ = some (.slice a2 L.length p2) := cell_blk b1 1
  have k2 : W.cell? ⟨w.heap.size + 1, 0, none⟩ = some (.slice a3 R.length p3) := cell_blk b2 0
  have k3 : W.cell? ⟨w.heap.size + 1, 1, none⟩ = some (.slice a4 L.length p4) := cell_blk b2 1
  have HB := Lib.hid B1
  have l0 : w.heap.size < W.heap.size := by omega
  have l1 : w.heap.size + 1 < W.heap.size := by omega
  clear b1 b2 B1 s1
  go_enter Tryd.func52, Tryd.ntmps52
  go_wp2_with (fail)
  refine (slices_Equal R _ _ _ (H1.out.go HB.out) (H3.out.go HB.out)).mono ?_
  rintro e w1 ⟨rfl, hd0⟩
  have hd : Below W.heap.size W w1 := hd0.below
  have q1 := (hd.cell (p := ⟨w.heap.size, 1, none⟩) l0).trans k1
  have q3 := (hd.cell (p := ⟨w.heap.size + 1, 1, none⟩) l1).trans k3
  have HB1 := Lib.hid (below_two HB.out hd)
  clear k0 k1 k2 k3 hW hd0 hd
  go_wp2_with (fail)
  refine (slices_Equal L _ _ _ (H2.out.go HB1.out) (H4.out.go HB1.out)).mono ?_
  rintro e w2 ⟨rfl, hd2⟩
  have hd2' : Below w1.heap.size w1 w2 := hd2.below
  go_wp2
  go_ret
  exact ⟨rfl, below_two HB1.out hd2'⟩
set_option maxHeartbeats 8000000 in
theorem eqFuncB (ps : List (List Int × List Int)) (v v2 : Value) (w : World) (hp : RowB w v ps) (hp2 : RowB w v2 ps) :
    Calls Tryd.prog 51 #[v, v2, .func (.func 52) #[] #[]] w fun e w' => e = .returned (.bool true) ∧ Below w.heap.size w w' := by
  obtain ⟨h2, ad, cap, rfl, hr⟩ := hp
  obtain ⟨_, ad2, cap2, rfl, hr2⟩ := hp2
  have Hr := Lib.hid hr
  have Hr2 := Lib.hid hr2
  clear hr hr2
  go_enter Tryd.func51, Tryd.ntmps51
  go_wp2
  go_loopw [17] (fun i wr => ∃ k : Nat, k ≤ ps.length ∧ i = .int .i64 (k : Int) ∧ Hid (Below w.heap.size w wr)) (fun i _ => ps.length - (intOf i).toNat)
  case atStart => exact ⟨0, by omega, rfl, Below.refl _ _⟩
  case round =>
    obtain ⟨k, hk, rfl, HB⟩ := hrel
    by_cases hz : k < ps.length
    · obtain ⟨b, off, rfl, hblt, hcell⟩ := Hr.out (by omega)
      obtain ⟨b2, off2, rfl, hblt2, hcell2⟩ := Hr2.out (by omega)
      obtain ⟨u, u1, hu, hu1, ⟨hR, -⟩, hL, -⟩ := hcell k hz
      obtain ⟨x, x1, hx, hx1, ⟨hR2, -⟩, hL2, -⟩ := hcell2 k hz
      have c1 := (HB.out.cell (p := ⟨b, off + k * 2, none⟩) hblt).trans hu
      have c2 := (HB.out.cell (p := ⟨b, off + k * 2 + 1, none⟩) hblt).trans hu1
      have c3 := (HB.out.cell (p := ⟨b2, off2 + k * 2, none⟩) hblt2).trans hx
      have c4 := (HB.out.cell (p := ⟨b2, off2 + k * 2 + 1, none⟩) hblt2).trans hx1
      have HR := Lib.hid hR; have HL := Lib.hid hL; have HR2 := Lib.hid hR2; have HL2 := Lib.hid hL2
      obtain ⟨_, _, au, cu, rfl, _⟩ := hR
      obtain ⟨_, _, al, cl, rfl, _⟩ := hL
      obtain ⟨_, _, ax, cx, rfl, _⟩ := hR2
      obtain ⟨_, _, ay, cy, rfl, _⟩ := hL2
      have hk1 : (k : Int) < (ps.length : Int) := by omega
      have hb2 : b2 < wr.heap.size := Nat.lt_of_lt_of_le hblt2 HB.out.size
      clear hcell hcell2 hu hu1 hx hx1
      go_wp2_with (fail)
      obtain ⟨W, hW, -, -, -, B1⟩ := two_blocksO wr #[.slice au (atb ps k).1.length cu, .slice al (atb ps k).2.length cl] #[.slice ax (atb ps k).1.length cx, .slice ay (atb ps k).2.length cy] 66 66
      rw [hW]
      have HBW := Lib.hid (below_two HB.out B1)
      clear hW B1 c1 c2 c3 c4
      refine (same_paths (atb ps k).1 (atb ps k).2 _ _ _ _ W (HR.out.go HBW.out) (HL.out.go HBW.out) (HR2.out.go HBW.out) (HL2.out.go HBW.out)).mono ?_
      rintro e w1 ⟨rfl, hb1⟩
      have HB1 := Lib.hid (below_two HBW.out hb1)
      clear hb1
      go_wp2
      go_roundw
      case rel => exact ⟨k + 1, by omega, by go_num, HB1.out⟩
      case measure => simp [intOf]; omega
    · obtain rfl : k = ps.length := by omega
      go_wp2
      go_ret
      exact ⟨rfl, HB.out⟩
set_option maxHeartbeats 4000000 in
theorem same_look (R : List (Int × Int)) (L : List (List Int × List Int)) (va vb va2 vb2 : Value) (w : World) (h1 : RowA w va R) (h2 : RowB w vb L) (h3 : RowA w va2 R) (h4 : RowB w vb2 L) :
    Calls Tryd.prog 49 #[.agg #[va, vb], .agg #[va2, vb2]] w fun e w' => e = .returned (.bool true) ∧ Below w.heap.size w w' := by
  have H1 := Lib.hid h1; have H2 := Lib.hid h2; have H3 := Lib.hid h3; have H4 := Lib.hid h4
  obtain ⟨_, a1, p1, rfl, _⟩ := h1
  obtain ⟨_, a2, p2, rfl, _⟩ := h2
  obtain ⟨_, a3, p3, rfl, _⟩ := h3
  obtain ⟨_, a4, p4, rfl, _⟩ := h4
  obtain ⟨W, hW, b1, b2, s1, B1⟩ := two_blocksO w #[.slice a1 R.length p1, .slice a2 L.length p2] #[.slice a3 R.length p3, .slice a4 L.length p4] 64 64
  have k0 : W.cell? ⟨w.heap.size, 0, none⟩ = some (.slice a1 R.length p1) := cell_blk b1 0
  have k1 : W.cell? ⟨w.heap.size, 1, none⟩ = some (.slice a2 L.length p2) := cell_blk b1 1
  have k2 : W.cell? ⟨w.heap.size + 1, 0, none⟩ = some (.slice a3 R.length p3) := cell_blk b2 0
  have k3 : W.cell? ⟨w.heap.size + 1, 1, none⟩ = some (.slice a4 L.length p4) := cell_blk b2 1
  have HB := Lib.hid B1
  have l0 : w.heap.size < W.heap.size := by omega
  have l1 : w.heap.size + 1 < W.heap.size := by omega
  clear b1 b2 B1 s1
  go_enter Tryd.func49, Tryd.ntmps49
  go_wp2_with (fail)
  refine (slices_EqualA R _ _ _ (H1.out.go HB.out) (H3.out.go HB.out)).mono ?_
  rintro e w1 ⟨rfl, hd0⟩
  have hd : Below W.heap.size W w1 := hd0
  have q1 := (hd.cell (p := ⟨w.heap.size, 1, none⟩) l0).trans k1
  have q3 := (hd.cell (p := ⟨w.heap.size + 1, 1, none⟩) l1).trans k3
  have HB1 := Lib.hid (below_two HB.out hd)
  clear k0 k1 k2 k3 hW hd0 hd
  go_wp2_with (fail)
  refine (eqFuncB L _ _ _ (H2.out.go HB1.out) (H4.out.go HB1.out)).mono ?_
  rintro e w2 ⟨rfl, hd2⟩
  have hd2' : Below w1.heap.size w1 w2 := hd2
  go_wp2
  go_ret
  exact ⟨rfl, below_two HB1.out hd2'⟩
set_option maxHeartbeats 8000000 in
theorem eqFuncK (ps : List Lk) (v v2 : Value) (w : World) (hp : RowK w v ps) (hp2 : RowK w v2 ps) :
    Calls Tryd.prog 48 #[v, v2, .func (.func 49) #[] #[]] w fun e w' => e = .returned (.bool true) ∧ Below w.heap.size w w' := by
  obtain ⟨h2, ad, cap, rfl, hr⟩ := hp
  obtain ⟨_, ad2, cap2, rfl, hr2⟩ := hp2
  have Hr := Lib.hid hr
  have Hr2 := Lib.hid hr2
  clear hr hr2
  go_enter Tryd.func48, Tryd.ntmps48
  go_wp2
  go_loopw [17] (fun i wr => ∃ k : Nat, k ≤ ps.length ∧ i = .int .i64 (k : Int) ∧ Hid (Below w.heap.size w wr)) (fun i _ => ps.length - (intOf i).toNat)
  case atStart => exact ⟨0, by omega, rfl, Below.refl _ _⟩
  case round =>
    obtain ⟨k, hk, rfl, HB⟩ := hrel
    by_cases hz : k < ps.length
    · obtain ⟨b, off, rfl, hblt, hcell⟩ := Hr.out (by omega)
      obtain ⟨b2, off2, rfl, hblt2, hcell2⟩ := Hr2.out (by omega)
      obtain ⟨u, u1, hu, hu1, hR, hL⟩ := hcell k hz
      obtain ⟨x, x1, hx, hx1, hR2, hL2⟩ := hcell2 k hz
      have c1 := (HB.out.cell (p := ⟨b, off + k * 2, none⟩) hblt).trans hu
      have c2 := (HB.out.cell (p := ⟨b, off + k * 2 + 1, none⟩) hblt).trans hu1
      have c3 := (HB.out.cell (p := ⟨b2, off2 + k * 2, none⟩) hblt2).trans hx
      have c4 := (HB.out.cell (p := ⟨b2, off2 + k * 2 + 1, none⟩) hblt2).trans hx1
      have HR := Lib.hid hR; have HL := Lib.hid hL; have HR2 := Lib.hid hR2; have HL2 := Lib.hid hL2
      obtain ⟨_, au, cu, rfl, _⟩ := hR
      obtain ⟨_, al, cl, rfl, _⟩ := hL
      obtain ⟨_, ax, cx, rfl, _⟩ := hR2
      obtain ⟨_, ay, cy, rfl, _⟩ := hL2
      have hk1 : (k : Int) < (ps.length : Int) := by omega
      have hb2 : b2 < wr.heap.size := Nat.lt_of_lt_of_le hblt2 HB.out.size
      clear hcell hcell2 hu hu1 hx hx1
      go_wp2_with (fail)
      obtain ⟨W, hW, -, -, -, B1⟩ := two_blocksO wr #[.slice au (atk ps k).pairs.length cu, .slice al (atk ps k).paths.length cl] #[.slice ax (atk ps k).pairs.length cx, .slice ay (atk ps k).paths.length cy] 64 64
      rw [hW]
      have HBW := Lib.hid (below_two HB.out B1)
      clear hW B1 c1 c2 c3 c4
      refine (same_look (atk ps k).pairs (atk ps k).paths _ _ _ _ W (HR.out.go HBW.out) (HL.out.go HBW.out) (HR2.out.go HBW.out) (HL2.out.go HBW.out)).mono ?_
      rintro e w1 ⟨rfl, hb1⟩
      have HB1 := Lib.hid (below_two HBW.out hb1)
      clear hb1
      go_wp2
      go_roundw
      case rel => exact ⟨k + 1, by omega, by go_num, HB1.out⟩
      case measure => simp [intOf]; omega
    · obtain rfl : k = ps.length := by omega
      go_wp2
      go_ret
      exact ⟨rfl, HB.out⟩
set_option maxHeartbeats 4000000 in
theorem ref_SameOpening (o : Oi) (v v2 : Value) (w : World) (hp : IsO w v o) (hp2 : IsO w v2 o) :
    Calls Tryd.prog 26 #[v, v2] w fun e w' => e = .returned (.bool true) ∧ Below w.heap.size w w' := by
  obtain ⟨ur, uk, rfl, -, h1, h2⟩ := hp
  obtain ⟨ur2, uk2, rfl, -, h3, h4⟩ := hp2
  have H1 := Lib.hid h1; have H2 := Lib.hid h2; have H3 := Lib.hid h3; have H4 := Lib.hid h4
  obtain ⟨_, _, a1, p1, rfl, _⟩ := h1
  obtain ⟨_, a2, p2, rfl, _⟩ := h2
  obtain ⟨_, _, a3, p3, rfl, _⟩ := h3
  obtain ⟨_, a4, p4, rfl, _⟩ := h4
  obtain ⟨V, hV⟩ : ∃ V, V = o.value := ⟨_, rfl⟩
  rw [← hV]
  clear hV
  obtain ⟨W, hW, b1, b2, s1, B1⟩ := two_blocksO w #[.slice a1 o.roots.length p1, .int .u64 V, .slice a2 o.looks.length p2] #[.slice a3 o.roots.length p3, .int .u64 V, .slice a4 o.looks.length p4] 40 40
  have k0 : W.cell? ⟨w.heap.size, 0, none⟩ = some (.slice a1 o.roots.length p1) := cell_blk b1 0
  have k1 : W.cell? ⟨w.heap.size, 1, none⟩ = some (.int .u64 V) := cell_blk b1 1
  have k2 : W.cell? ⟨w.heap.size, 2, none⟩ = some (.slice a2 o.looks.length p2) := cell_blk b1 2
  have k3 : W.cell? ⟨w.heap.size + 1, 0, none⟩ = some (.slice a3 o.roots.length p3) := cell_blk b2 0
  have k4 : W.cell? ⟨w.heap.size + 1, 1, none⟩ = some (.int .u64 V) := cell_blk b2 1
  have k5 : W.cell? ⟨w.heap.size + 1, 2, none⟩ = some (.slice a4 o.looks.length p4) := cell_blk b2 2
  have HB := Lib.hid B1
  have l0 : w.heap.size < W.heap.size := by omega
  have l1 : w.heap.size + 1 < W.heap.size := by omega
  clear b1 b2 B1 s1
  go_enter Tryd.func26, Tryd.ntmps26
  go_wp2_with (fail)
  refine (slices_Equal o.roots _ _ _ (H1.out.go HB.out) (H3.out.go HB.out)).mono ?_
  rintro e w1 ⟨rfl, hd⟩
  have q1 := (hd.below.cell (p := ⟨w.heap.size, 1, none⟩) l0).trans k1
  have q2 := (hd.below.cell (p := ⟨w.heap.size, 2, none⟩) l0).trans k2
  have q4 := (hd.below.cell (p := ⟨w.heap.size + 1, 1, none⟩) l1).trans k4
  have q5 := (hd.below.cell (p := ⟨w.heap.size + 1, 2, none⟩) l1).trans k5
  have HB1 := Lib.hid (below_two HB.out hd.below)
  clear k0 k1 k2 k3 k4 k5 hW hd
  go_wp2_with (fail)
  refine (eqFuncK o.looks _ _ _ (H2.out.go HB1.out) (H4.out.go HB1.out)).mono ?_
  rintro e w2 ⟨rfl, hd2⟩
  go_wp2
  go_ret
  exact ⟨rfl, below_two HB1.out hd2⟩
end Go.Proofs.YtokggifjcbkmnaaDoor
