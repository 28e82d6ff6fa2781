/- The walk of the law CircuitLayers: it returns true, whatever is handed in. -/
import Derived.Test.YtaaaoljllpbplaaLayM
import Derived.Test.YtaaaoljllpbplaaWireS
import Derived.Test.YtaaaoljllpbplaaCircO
import Derived.Deep.DeepCutAuto
import Derived.StillTailTactics
namespace Go.Proofs.Ytaaaoljllpbplaa
set_option maxRecDepth 100000
set_option linter.unusedVariables false
open Go.RowKit Tally
theorem lit2_row (w : World) (x y : Int) (hx : U64 x) (hy : U64 y) : RowU (w.alloc (.cells #[.int .u64 x, .int .u64 y] 31)) (.slice (some ⟨w.heap.size, 0, none⟩) 2 2) [x, y] := (NewU.lit2 w x y hx hy).row
theorem below_one (w : World) (o : Obj) : Below w.heap.size w (w.alloc o) := (Below.refl _ _).alloc (Nat.le_refl _) _
theorem u64_small (n : Nat) (h : n < 1000) : U64 (n : Int) := ⟨by omega, by omega⟩
theorem wrap4i {n : Int} (h4 : n ≤ 4) : IntKind.i64.wrap (2 ^ n.toNat) = ((2 ^ n.toNat : Nat) : Int) := by
  have h1 := pow4 h4
  have e : ((2 : Int) ^ n.toNat) = ((2 ^ n.toNat : Nat) : Int) := by simp
  rw [e]; generalize 2 ^ n.toNat = m at *; exact IntWalk.i64_in _ (by omega)
theorem RowU.opn {w : World} {v : Value} {l : List Int} (h : RowU w v l) (h0 : 0 < l.length) : ∃ b off cp, v = .slice (some ⟨b, off, none⟩) l.length cp ∧ b < w.heap.size ∧ ∀ j, j < l.length → w.cell? ⟨b, off + j, none⟩ = some (.int .u64 (at0 l j)) := by
  obtain ⟨_, _, a, cp, rfl, hh⟩ := h
  obtain ⟨b, o, rfl, h1, h2⟩ := hh h0
  exact ⟨b, o, cp, rfl, h1, h2⟩
theorem sums_step (a b L : List Int) (j : Nat) (hj : j < L.length) (h : ∀ q, q < j → at0 L q = psi (phi (at0 a q) + phi (at0 b q))) : ∀ q, q < j + 1 → at0 (L.set j (psi (phi (at0 a j) + phi (at0 b j)))) q = psi (phi (at0 a q) + phi (at0 b q)) := by
  intro q hq
  by_cases e : q = j
  · subst e; rw [at0_set_self _ _ _ hj]
  · rw [at0_set_ne _ _ _ _ (by omega)]; exact h q (by omega)
theorem sums_at (a b L : List Int) (hab : a.length = b.length) (hl : L.length = a.length) (h : ∀ q, q < a.length → at0 L q = psi (phi (at0 a q) + phi (at0 b q))) : ∀ j, atF (L.map phi) j = atF (a.map phi) j + atF (b.map phi) j := by
  intro j
  by_cases hj : j < a.length
  · rw [atF_map _ _ (by omega), atF_map _ _ hj, atF_map _ _ (by omega), h j hj, phi_psi]
  · have e1 : atF (L.map phi) j = 0 := by simp [atF, show ¬ j < L.length by omega]
    have e2 : atF (a.map phi) j = 0 := by simp [atF, hj]
    have e3 : atF (b.map phi) j = 0 := by simp [atF, show ¬ j < b.length by omega]
    rw [e1, e2, e3]; exact (add_zero' 0).symm
set_option maxRecDepth 100000 in
set_option maxHeartbeats 16000000 in
theorem circuitLayers_walk (w : World) (v : Value) (c : Ci) (h : IsC w v c) (hcap : CapC v) (va : Value) (a : List Int) (ha : RowU w va a) (vb : Value) (b : List Int) (hb : RowU w vb b) (k : Int) (hk : I64 k) :
    Calls Try.prog 3 #[v, va, vb, .int .i64 k] w fun e w' => e = .returned (.bool true) ∧ Below w.heap.size w w' := by
  obtain ⟨ad, cp, rfl⟩ := h.shape
  have hcp : c.layers.length ≤ cp := by
    obtain ⟨_, _, _, _, e, h1, _⟩ := hcap
    cases e; exact h1
  have HC := Lib.hid h; have Ha := Lib.hid ha; have Hb := Lib.hid hb; have Hk := Lib.hid hk
  clear h hcap ha hb hk
  go_enter Try.func3, Try.ntmps3
  go_wp2_with (fail)
  obtain ⟨W1, hW, k0, k1, B1, s1⟩ := copied2' w (.int .i64 c.log) (.slice ad c.layers.length cp) 24
  rw [hW]
  have HX1 := Lib.hid (show Boxed w.heap.size (.int .i64 c.log) (.slice ad c.layers.length cp) W1 from ⟨k0, k1, by omega⟩)
  have H1 := Lib.hid B1
  clear hW s1 k0 k1 B1
  refine (keep_tiny _).mono ?_
  rintro e w2 ⟨vt, rfl, ht, hb2⟩
  have H2 := Lib.hid (below_two H1.out hb2)
  have HX2 := Lib.hid (HX1.out.go hb2)
  have HT2 := Lib.hid ht
  clear ht hb2
  go_wp2_with (fail)
  refine (c_RunAt _ tinyC _ [3, 4] _ (HT2.out.go (below_one _ _)) (lit2_row w2 3 4 (u64_small 3 (by decide)) (u64_small 4 (by decide))) tiny_check rfl).mono ?_
  rintro e w4 ⟨v4, rfl, hr4, hb4⟩
  have hb24 := below_two (below_one w2 (.cells #[.int .u64 3, .int .u64 4] 31)) hb4
  have H4 := Lib.hid (below_two H2.out hb24)
  have HX4 := Lib.hid (HX2.out.go hb24)
  obtain ⟨b4, o4, cp4, rfl, hlt4, hc4⟩ := hr4
  obtain ⟨u4, hu4, hru4⟩ := hc4 1 (Nat.le_refl _)
  rw [tiny_vals] at hru4
  have Hru4 := Lib.hid hru4
  clear hb4 hb24 hc4 hru4
  rw [show tinyC.layers.length + 1 = 2 from rfl]
  go_wp2_with (fail)
  refine (slices_Equal [12, 7] _ _ _ (Hru4.out.go (below_one _ _)) (lit2_row w4 12 7 (u64_small 12 (by decide)) (u64_small 7 (by decide)))).mono ?_
  rintro e w5 ⟨rfl, hd5⟩
  have hb5 := below_two (below_one w4 (.cells #[.int .u64 12, .int .u64 7] 31)) hd5.below
  have H5 := Lib.hid (below_two H4.out hb5)
  have HX5 := Lib.hid (HX4.out.go hb5)
  have r0 := HX5.out.c0; have r1 := HX5.out.c1
  clear hd5 hb5 hu4
  go_wp2_with (fail)
  refine (c_Check _ c _ (HC.out.go H5.out)).mono ?_
  rintro e w6 ⟨rfl, hb6⟩
  have H6 := Lib.hid (below_two H5.out hb6)
  have HX6 := Lib.hid (HX5.out.go hb6)
  clear hb6 r0 r1
  have r0 := HX6.out.c0; have r1 := HX6.out.c1
  by_cases hc : checkC c = 0
  · have Hc := Lib.hid hc
    rw [hc]
    have HG := Lib.hid (good_of_check hc)
    have hl0 := (good_of_check hc).log0
    have hl4 := (good_of_check hc).log4
    have hn1 := (good_of_check hc).n1
    have hn4 := (good_of_check hc).n4
    obtain ⟨N, hN⟩ : ∃ N, N = 2 ^ c.log.toNat := ⟨_, rfl⟩
    obtain ⟨bL, oL, rfl, hbLlt, hLc⟩ : ∃ bL oL, ad = some ⟨bL, oL, none⟩ ∧ bL < w.heap.size ∧ ∀ j, j < c.layers.length →
      w.cell? ⟨bL, oL + j * 2, none⟩ = some (.int .i64 (aty c.layers j).log) ∧ ∃ u, w.cell? ⟨bL, oL + j * 2 + 1, none⟩ = some u ∧ RowG w u (aty c.layers j).gates := by
      obtain ⟨_, u, e, _, _, a', cp', rfl, hr⟩ := HC.out
      cases e
      obtain ⟨b', o', rfl, h1, h2⟩ := hr hn1
      exact ⟨b', o', rfl, h1, h2⟩
    have HLc := Lib.hid hLc
    clear hLc
    have hN16 : N ≤ 16 := by rw [hN]; exact (pow4 hl4).2
    have hN1 : 1 ≤ N := by rw [hN]; exact (pow4 hl4).1
    have Hw := Lib.hid (show IntKind.i64.wrap (2 ^ c.log.toNat) = (N : Int) by rw [hN]; exact wrap4i hl4)
    have HN := Lib.hid hN
    have hS0 := HX6.out.lt
    have HS0 := Lib.hid hS0
    clear hc hN hS0
    go_upto_region 7 with fail
    go_cut [13, 14] (fun x y wx => ∃ bx by', x = .slice (some ⟨bx, 0, none⟩) N N ∧ y = .slice (some ⟨by', 0, none⟩) N N ∧ Hid (RowU wx x (padTo N a)) ∧ Hid (RowU wx y (padTo N b)) ∧ Hid (Below w6.heap.size w6 wx))
    case first =>
      have hw := Hw.out
      have Ca := Lib.hid (fun W (hB : Below w6.heap.size w6 W) => keep_point a va N W (Ha.out.go (below_two H6.out hB)) (by omega))
      have Cb := Lib.hid (fun W (hB : Below w6.heap.size w6 W) => keep_point b vb N W (Hb.out.go (below_two H6.out hB)) (by omega))
      go_region_held3 (fun w' => Below w6.heap.size w6 w' ∧ w'.cell? ⟨w.heap.size, 0, none⟩ = some (.int .i64 c.log))
        (first
          | exact ⟨below_drewN (Below.refl _ _) 1, r0⟩
          | (go_split_ands; have hz := below_two (a := w6) (by assumption) hbB; exact ⟨hz, (hz.cell (p := ⟨w.heap.size, 0, none⟩) HS0.out).trans r0⟩)
          | (go_split_ands; have hz := below_two (a := w6) (by assumption) hbA; exact ⟨hz, (hz.cell (p := ⟨w.heap.size, 0, none⟩) HS0.out).trans r0⟩))
        (first
          | (go_at_call 9; go_split_ands; (with_reducible refine (Ca.out _ (by assumption)).mono ?_); rintro e wA ⟨rfl, hnA, hbA⟩)
          | (go_at_call 9; go_split_ands; (with_reducible refine (Cb.out _ (by assumption)).mono ?_); rintro e wB ⟨rfl, hnB, hbB⟩))
      all_goals
        go_split_ands
        clear hw
        go_wp2_with fail
        go_meet
        case rel => exact ⟨_, _, rfl, rfl, by first | exact hnA.row | exact hnA.row.go hbB, by first | exact hnB.row | exact hnB.row.go hbA, by assumption⟩
    case rest =>
      obtain ⟨bx, by', rfl, rfl, Hx, Hy, HB7⟩ := hcut
      have H7 := Lib.hid (below_two H6.out HB7.out)
      have HX7 := Lib.hid (HX6.out.go HB7.out)
      clear r0 r1
      have r0 := HX7.out.c0; have r1 := HX7.out.c1
      have Hlx := Lib.hid (padTo_length N a)
      have Hly := Lib.hid (padTo_length N b)
      generalize padTo N a = X at *
      generalize padTo N b = Y at *
      go_wp2_with (fail)
      refine (c_RunAt _ c _ X _ (HC.out.go H7.out) Hx.out Hc.out (by rw [Hlx.out, HN.out])).mono ?_
      rintro e w8 ⟨v8, rfl, hr8, hb8⟩
      have H8 := Lib.hid (below_two H7.out hb8)
      have HX8 := Lib.hid (HX7.out.go hb8)
      have Hx8 := Lib.hid (Hx.out.go hb8)
      have Hy8 := Lib.hid (Hy.out.go hb8)
      obtain ⟨b8, o8, c8, rfl, hlt8, hc8⟩ := hr8
      have Hc8 := Lib.hid hc8
      have Hlt8 := Lib.hid hlt8
      clear hb8 r0 r1 hc8 hlt8
      have r0 := HX8.out.c0; have r1 := HX8.out.c1
      have hlne : (((c.layers.length + 1 : Nat) : Int) != (c.layers.length : Int) + 1) = false := by simp
      go_wp2_with (fail)
      have hm0 : 0 ≤ k % (c.layers.length : Int) := Int.emod_nonneg _ (by omega)
      have hm1 : k % (c.layers.length : Int) < (c.layers.length : Int) := Int.emod_lt_of_pos _ (by omega)
      refine (ref_Rest k (c.layers.length : Int) _ Hk.out (by omega) (by omega)).mono ?_
      rintro e w' ⟨rfl, rfl⟩
      obtain ⟨q, hq⟩ : ∃ q : Nat, k % (c.layers.length : Int) = (q : Int) := ⟨(k % (c.layers.length : Int)).toNat, by omega⟩
      rw [hq] at hm0 hm1 ⊢
      obtain ⟨n, hn⟩ : ∃ n : Nat, n = q + 1 := ⟨_, rfl⟩
      have hqn : (1 : Int) + (q : Int) = (n : Int) := by omega
      have hnl : n ≤ c.layers.length := by omega
      have hn0 : 1 ≤ n := by omega
      have HnL : (cutC c n).layers.length = n := by simp [cutC]; omega
      have Cr := Lib.hid (fun W (hB : Below w8.heap.size w8 W) => c_RunAt (.agg #[.int .i64 c.log, .slice (some ⟨bL, oL, none⟩) n cp]) (cutC c n) (.slice (some ⟨bx, 0, none⟩) N N) X W
        (by
          obtain ⟨g1, u, e, hL⟩ := HC.out.go (below_two H8.out hB)
          cases e
          exact ⟨g1, _, rfl, hL.take n hnl⟩) (Hx8.out.go hB) (check_cut Hc.out hn0 hnl) (by rw [Hlx.out, HN.out]; rfl))
      have hncp : (n : Int) ≤ (cp : Int) := by omega
      have hn00 : (0 : Int) ≤ (n : Int) := by omega
      have HHnL := Lib.hid HnL
      have Hnn : (n : Int) ≤ (c.layers.length : Int) := by omega
      clear hq hm0 hm1 HnL hn
      go_upto_region 12 with fail
      clear hqn
      go_region_held3 (fun w' => Below w8.heap.size w8 w' ∧ w'.cell? ⟨w.heap.size, 0, none⟩ = some (.int .i64 c.log) ∧ w'.cell? ⟨w.heap.size, 1, none⟩ = some (.slice (some ⟨bL, oL, none⟩) c.layers.length cp))
        (first
          | exact ⟨below_drewN (Below.refl _ _) 1, r0, r1⟩
          | (go_split_ands; have hz := below_two (a := w8) (by assumption) hb9; exact ⟨hz, (hz.cell (p := ⟨w.heap.size, 0, none⟩) HX8.out.lt).trans r0, (hz.cell (p := ⟨w.heap.size, 1, none⟩) HX8.out.lt).trans r1⟩))
        ((go_at_call 5; go_split_ands; (with_reducible refine (Cr.out _ (by assumption)).mono ?_); rintro e w9 ⟨v9, rfl, hr9, hb9⟩))
      go_split_ands
      have hbz : Below w8.heap.size w8 w9 := by assumption
      have H9 := Lib.hid (below_two H8.out hbz)
      have HX9 := Lib.hid (HX8.out.go hbz)
      have Hx9 := Lib.hid (Hx8.out.go hbz)
      have Hy9 := Lib.hid (Hy8.out.go hbz)
      obtain ⟨b9, o9, c9, rfl, hlt9, hc9⟩ := hr9
      obtain ⟨u9, hu9, hru9⟩ := hc9 n (by rw [HHnL.out]; exact Nat.le_refl _)
      obtain ⟨u8, hu8, hru8⟩ := Hc8.out n hnl
      rw [val_cut c n _ n (Nat.le_refl _)] at hru9
      have Hru9 := Lib.hid hru9
      have Hru8 := Lib.hid (hru8.go hbz)
      have g8 := (hbz.cell (p := ⟨b8, o8 + n, none⟩) Hlt8.out).trans hu8
      have hlt98 : b8 < w9.heap.size := by have := hbz.size; have := Hlt8.out; omega
      have Hlt98 := Lib.hid hlt98
      have Hc98 := Lib.hid (fun j hj => show ∃ u, w9.cell? ⟨b8, o8 + j, none⟩ = some u ∧ RowU w9 u ((valF c (X.map phi) j).map psi) from by
        obtain ⟨u, h1, h2⟩ := Hc8.out j hj
        exact ⟨u, (hbz.cell (p := ⟨b8, o8 + j, none⟩) Hlt8.out).trans h1, h2.go hbz⟩)
      rw [HHnL.out]
      clear hbz hru9 hru8 hc9 hlt9 hu8 hlt98 r0 r1
      have hn9 : (n : Int) < ((n + 1 : Nat) : Int) := by omega
      have hn8 : (n : Int) < ((c.layers.length + 1 : Nat) : Int) := by omega
      go_wp2_with (fail)
      go_quiet ((go_at_call 7; exact flipD (slices_Equal _ _ _ _ (Hru9.out.drewN _) (Hru8.out.drewN _))))
      have hbq : Below w9.heap.size w9 (w9.drewN nq) := below_drewN (Below.refl _ _) nq
      obtain ⟨wq, hwq⟩ : ∃ x, x = w9.drewN nq := ⟨_, rfl⟩
      rw [← hwq] at hbq ⊢
      have Hq := Lib.hid (below_two H9.out hbq)
      have HXq := Lib.hid (HX9.out.go hbq)
      have Hxq := Lib.hid (Hx9.out.go hbq)
      have Hyq := Lib.hid (Hy9.out.go hbq)
      have Hltq := Lib.hid (show b8 < wq.heap.size by have := hbq.size; have := Hlt98.out; omega)
      have Hcq := Lib.hid (fun j hj => show ∃ u, wq.cell? ⟨b8, o8 + j, none⟩ = some u ∧ RowU wq u ((valF c (X.map phi) j).map psi) from by
        obtain ⟨u, h1, h2⟩ := Hc98.out j hj
        exact ⟨u, (hbq.cell (p := ⟨b8, o8 + j, none⟩) Hlt98.out).trans h1, h2.go hbq⟩)
      clear hwq hbq g8 hu9 hn9 hn8 hn00 Hnn hncp hlne
      have r0 := HXq.out.c0; have r1 := HXq.out.c1
      go_wp2
      clear r0 r1
      go_loopw [124] (fun i wr => ∃ k : Nat, k ≤ c.layers.length ∧ i = .int .i64 (k : Int) ∧ Below wq.heap.size wq wr ∧ Hid (∀ q, q < k → ∀ j, j < (aty c.layers q).gates.length → (atg (aty c.layers q).gates j).mul = false)) (fun i _ => c.layers.length - (intOf i).toNat)
      case atStart => exact ⟨0, by omega, rfl, Below.refl _ _, fun q hq => absurd hq (by omega)⟩
      case round =>
        obtain ⟨k, hk, rfl, hbr, HA⟩ := hrel
        by_cases hz : k < c.layers.length
        · obtain ⟨e1, u, e2, hg⟩ := HLc.out k hz
          have hbw := below_two Hq.out hbr
          have d1 := (hbw.cell (p := ⟨bL, oL + k * 2, none⟩) (by exact hbLlt)).trans e1
          have d2 := (hbw.cell (p := ⟨bL, oL + k * 2 + 1, none⟩) (by exact hbLlt)).trans e2
          obtain ⟨_, hgl, ag, cg, rfl, hgr⟩ := hg.below hbw (Nat.le_refl _)
          have Hg := Lib.hid hgr
          have Hbw := Lib.hid hbw
          have Hstep := Lib.hid (show (∀ j, j < (aty c.layers k).gates.length → (atg (aty c.layers k).gates j).mul = false) → ∀ q, q < k + 1 → ∀ j, j < (aty c.layers q).gates.length → (atg (aty c.layers q).gates j).mul = false from fun hh q hq => by
            rcases Nat.lt_or_ge q k with h | h
            · exact HA.out q h
            · obtain rfl : q = k := by omega
              exact hh)
          clear hgr hg e1 e2 hbw
          generalize (aty c.layers k).gates = gs at *
          generalize (aty c.layers k).log = lg at *
          go_wp2
          obtain ⟨wo, rfl⟩ : ∃ x : World, x = wr := ⟨_, rfl⟩
          obtain ⟨W, hW, _, _, hWr, _⟩ := copied2' wo (.int .i64 lg) (.slice ag gs.length cg) 38
          rw [hW]
          have HWo := Lib.hid hWr
          have HWq := Lib.hid (below_two hbr hWr)
          have HWw := Lib.hid (below_two Hbw.out hWr)
          clear hW hWr d1 d2 hbr
          go_loopw [131] (fun i wi => ∃ j : Nat, j ≤ gs.length ∧ i = .int .i64 (j : Int) ∧ Below W.heap.size W wi ∧ Hid (∀ q, q < j → (atg gs q).mul = false)) (fun i _ => gs.length - (intOf i).toNat)
          case atStart => exact ⟨0, by omega, rfl, Below.refl _ _, fun q hq => absurd hq (by omega)⟩
          case round =>
            obtain ⟨j, hj, rfl, hbi, HM⟩ := hrel
            by_cases hjz : j < gs.length
            · obtain ⟨b2, off2, rfl, hb2lt, hgc⟩ := Hg.out (by omega)
              obtain ⟨e1, e2, e3⟩ := hgc j hjz
              have hbo : Below wo.heap.size wo wr := below_two HWo.out hbi
              have f1 := (hbo.cell (p := ⟨b2, off2 + j * 3, none⟩) (by exact hb2lt)).trans e1
              have f2 := (hbo.cell (p := ⟨b2, off2 + j * 3 + 1, none⟩) (by exact hb2lt)).trans e2
              have f3 := (hbo.cell (p := ⟨b2, off2 + j * 3 + 2, none⟩) (by exact hb2lt)).trans e3
              have hjl : (j : Int) < (gs.length : Int) := by omega
              have Hfin := Lib.hid (below_two HWw.out hbi)
              have Hnx := Lib.hid (show (atg gs j).mul = false → ∀ q, q < j + 1 → (atg gs q).mul = false from fun hh q hq => by
                rcases Nat.lt_or_ge q j with h | h
                · exact HM.out q h
                · obtain rfl : q = j := by omega
                  exact hh)
              clear hgc e1 e2 e3 hbo
              generalize atg gs j = g at *
              obtain ⟨gm, ga, gb⟩ := g
              simp only at f1 f2 f3
              have Hsz := Lib.hid hbi.size
              cases gm with
              | true =>
                go_wp2
                go_ret
                exact ⟨rfl, Hfin.out.trans (((Below.refl _ _).alloc (Nat.le_refl _) _).mono Hfin.out.size)⟩
              | false =>
                have Hn2 := Lib.hid (Hnx.out rfl)
                go_wp2
                go_roundw
                case rel => exact ⟨j + 1, by omega, by go_num, hbi.alloc hbi.size _, Hn2.out⟩
                case measure => simp [intOf]; omega
            · obtain rfl : j = gs.length := by omega
              have Hn3 := Lib.hid (Hstep.out HM.out)
              have Hb3 := Lib.hid (below_two HWq.out hbi)
              go_wp2
              go_roundw
              case rel => exact ⟨k + 1, by omega, by go_num, Hb3.out, Hn3.out⟩
              case measure => simp [intOf]; omega
        · obtain rfl : k = c.layers.length := by omega
          have Hxr := Lib.hid (Hxq.out.go hbr)
          have Hyr := Lib.hid (Hyq.out.go hbr)
          have HXr := Lib.hid (HXq.out.go hbr)
          have Hbr := Lib.hid hbr
          have HBw := Lib.hid (below_two Hq.out hbr)
          have Hcr := Lib.hid (fun j hj => show ∃ u, wr.cell? ⟨b8, o8 + j, none⟩ = some u ∧ RowU wr u ((valF c (X.map phi) j).map psi) from by
            obtain ⟨u, h1, h2⟩ := Hcq.out j hj
            exact ⟨u, (hbr.cell (p := ⟨b8, o8 + j, none⟩) Hltq.out).trans h1, h2.go hbr⟩)
          have Hltr := Lib.hid (show b8 < wr.heap.size by have := hbr.size; have := Hltq.out; omega)
          clear hbr
          obtain ⟨wa, rfl⟩ : ∃ x : World, x = wr := ⟨_, rfl⟩
          go_wp2_with (at_make; refine wpList_makeU _ rfl _ _ rfl _ _ N rfl rfl rfl rfl (by omega) ?_; intro wm hnm hbm)
          have Hxm := Lib.hid (Hxr.out.go hbm)
          have Hym := Lib.hid (Hyr.out.go hbm)
          have Hbm := Lib.hid hbm
          have Hnm := Lib.hid hnm
          obtain ⟨_, hx1, hx2⟩ := Hxm.out.known
          obtain ⟨_, hy1, hy2⟩ := Hym.out.known
          have hx1 := hx1 (by omega)
          have hy1 := hy1 (by omega)
          have Hx2 := Lib.hid hx2; have Hy2 := Lib.hid hy2
          have Hux := Lib.hid Hxm.out.1; have Huy := Lib.hid Hym.out.1
          clear hbm hnm hx2 hy2
          go_loopw [144] (fun i wi => ∃ (j : Nat) (L : List Int), j ≤ N ∧ i = .int .i64 (j : Int) ∧ Hid (NewU wa.heap.size wi (.slice (some ⟨wa.heap.size, 0, none⟩) N N) L) ∧ Below wa.heap.size wa wi ∧ Hid (∀ q, q < j → at0 L q = psi (phi (at0 X q) + phi (at0 Y q)))) (fun i _ => N - (intOf i).toNat)
          case atStart => exact ⟨0, _, by omega, rfl, Hnm.out, Hbm.out, fun q hq => absurd hq (by omega)⟩
          case round =>
            obtain ⟨j, L, hj, rfl, HL, hbs, HQ⟩ := hrel
            have HLl := Lib.hid HL.out.lenEq.symm
            by_cases hzj : j < N
            · have hjX : j < X.length := by rw [Hlx.out]; exact hzj
              have hjY : j < Y.length := by rw [Hly.out]; exact hzj
              have hbx : bx < wa.heap.size := by
                have := Hxr.out.known.2.1 (by omega); exact this
              have hby : by' < wa.heap.size := by
                have := Hyr.out.known.2.1 (by omega); exact this
              have hcj := (hbs.cell (p := ⟨bx, j, none⟩) hbx).trans (Hxr.out.known.2.2 j hjX)
              have hcj2 := (hbs.cell (p := ⟨by', j, none⟩) hby).trans (Hyr.out.known.2.2 j hjY)
              have hu := Hux.out _ (at0_mem hjX)
              have hu2 := Huy.out _ (at0_mem hjY)
              have ho := HL.out.cellAt j (by have := HLl.out; omega)
              have hf := HL.out.freeAt j
              have hja : (j : Int) < (N : Int) := by omega
              have Hstep := Lib.hid (sums_step X Y L j (by have := HLl.out; omega) HQ.out)
              go_wp2
              refine wp_region_still_tail 12 (by kernel_rfl) (by kernel_rfl) ?_
              simp only [List.take_succ_cons, List.take_zero, List.drop_succ_cons, List.drop_zero]
              repeat (first | still_step | still_call (still_of (field_Add _ _ _ hu hu2)))
              try refine wpStill_nil ?_
              change wpList _ _ _ _ _ (World.drew _)
              go_wp2
              go_roundw
              case rel => exact ⟨j + 1, _, by omega, by go_num, (HL.out.set j _ (U64.psi _)).drewN 1, below_drewN (hbs.setCell (by exact Nat.le_refl _) _) 1, Hstep.out⟩
              case measure => simp [intOf]; omega
            · obtain rfl : j = N := by omega
              have Hys := Lib.hid (Hyr.out.go hbs)
              have HXs := Lib.hid (HXr.out.go hbs)
              have HBs := Lib.hid (below_two HBw.out hbs)
              have HLr := Lib.hid HL.out.row
              have HSum := Lib.hid (sums_at X Y L (by rw [Hlx.out, Hly.out]) (by rw [HLl.out, Hlx.out]) (by rw [Hlx.out]; exact HQ.out))
              have Hcs := Lib.hid (fun k hk => show ∃ u, wr.cell? ⟨b8, o8 + k, none⟩ = some u ∧ RowU wr u ((valF c (X.map phi) k).map psi) from by
                obtain ⟨u, h1, h2⟩ := Hcr.out k hk
                exact ⟨u, (hbs.cell (p := ⟨b8, o8 + k, none⟩) Hltr.out).trans h1, h2.go hbs⟩)
              have Hlts := Lib.hid (show b8 < wr.heap.size by have := hbs.size; have := Hltr.out; omega)
              have r0 := HXs.out.c0; have r1 := HXs.out.c1
              clear hbs
              go_wp2_with (fail)
              refine (c_RunAt _ c _ Y _ (HC.out.go HBs.out) Hys.out Hc.out (by rw [Hly.out, HN.out])).mono ?_
              rintro e wb ⟨vb', rfl, hrb, hbb⟩
              have HBb := Lib.hid (below_two HBs.out hbb)
              have HXb := Lib.hid (HXs.out.go hbb)
              have HLb := Lib.hid (HLr.out.go hbb)
              have Hrb := Lib.hid hrb
              obtain ⟨bb, ob, cb, rfl, _, _⟩ := hrb
              have Hcb := Lib.hid (fun k hk => show ∃ u, wb.cell? ⟨b8, o8 + k, none⟩ = some u ∧ RowU wb u ((valF c (X.map phi) k).map psi) from by
                obtain ⟨u, h1, h2⟩ := Hcs.out k hk
                exact ⟨u, (hbb.cell (p := ⟨b8, o8 + k, none⟩) Hlts.out).trans h1, h2.go hbb⟩)
              have Hltb := Lib.hid (show b8 < wb.heap.size by have := hbb.size; have := Hlts.out; omega)
              clear r0 r1 hbb
              have r0 := HXb.out.c0; have r1 := HXb.out.c1
              go_wp2_with (fail)
              refine (c_RunAt _ c _ L _ (HC.out.go HBb.out) HLb.out Hc.out (by rw [HLl.out, HN.out])).mono ?_
              rintro e wd ⟨vd, rfl, hrd, hbd⟩
              have HBd := Lib.hid (below_two HBb.out hbd)
              obtain ⟨u8', hu8', hr8'⟩ := Hcb.out c.layers.length (Nat.le_refl _)
              have g8 := (hbd.cell (p := ⟨b8, o8 + c.layers.length, none⟩) Hltb.out).trans hu8'
              have HR8 := Lib.hid (hr8'.go hbd)
              have hlt8d : b8 < wd.heap.size := by have := hbd.size; have := Hltb.out; omega
              have hrb2 := Hrb.out.go hbd
              obtain ⟨_, _, _, eb, hltbb, hcb⟩ := hrb2
              cases eb
              obtain ⟨ub, hub, hrub⟩ := hcb c.layers.length (Nat.le_refl _)
              obtain ⟨bd', od, cd, rfl, hltd, hcd⟩ := hrd
              obtain ⟨ud, hud, hrud⟩ := hcd c.layers.length (Nat.le_refl _)
              have HRb := Lib.hid hrub
              have HRd := Lib.hid hrud
              have Hlin := Lib.hid (val_linear c (X.map phi) (Y.map phi) (L.map phi) HA.out HSum.out c.layers.length (Nat.le_refl _))
              have hXl := valF_length HG.out (X.map phi) (by rw [List.length_map, Hlx.out, HN.out]) c.layers.length (Nat.le_refl _)
              have hYl := valF_length HG.out (Y.map phi) (by rw [List.length_map, Hly.out, HN.out]) c.layers.length (Nat.le_refl _)
              have hLl := valF_length HG.out (L.map phi) (by rw [List.length_map, HLl.out, HN.out]) c.layers.length (Nat.le_refl _)
              have hM := pow4 (HG.out.below4 (Nat.le_refl c.layers.length))
              clear hu8' hr8' hbd hcb hcd hrub hrud r0 r1
              generalize 2 ^ (belowLog c c.layers.length).toNat = M at *
              generalize valF c (X.map phi) c.layers.length = VX at *
              generalize valF c (Y.map phi) c.layers.length = VY at *
              generalize valF c (L.map phi) c.layers.length = VL at *
              have HlX := Lib.hid hXl; have HlY := Lib.hid hYl; have HlL := Lib.hid hLl
              obtain ⟨hM1, hM16⟩ := hM
              obtain ⟨b1, o1, p1, rfl, lt1, hs1⟩ := HR8.out.opn (by rw [List.length_map, hXl]; exact hM1)
              obtain ⟨b2, o2, p2, rfl, lt2, hs2⟩ := HRb.out.opn (by rw [List.length_map, hYl]; exact hM1)
              obtain ⟨b3, o3, p3, rfl, lt3, hs3⟩ := HRd.out.opn (by rw [List.length_map, hLl]; exact hM1)
              have Hs1 := Lib.hid hs1; have Hs2 := Lib.hid hs2; have Hs3 := Lib.hid hs3
              have hll : (c.layers.length : Int) < ((c.layers.length + 1 : Nat) : Int) := by omega
              have L1 := Lib.hid (show (VX.map psi).length = M by rw [List.length_map, hXl])
              have L2 := Lib.hid (show (VY.map psi).length = M by rw [List.length_map, hYl])
              have L3 := Lib.hid (show (VL.map psi).length = M by rw [List.length_map, hLl])
              rw [L1.out] at g8
              rw [L2.out] at hub
              rw [L3.out] at hud
              clear hs1 hs2 hs3 hXl hYl hLl
              go_wp2
              go_loopw [180] (fun i wi => ∃ j : Nat, j ≤ M ∧ i = .int .i64 (j : Int) ∧ Below wd.heap.size wd wi) (fun i _ => M - (intOf i).toNat)
              case atStart => exact ⟨0, by omega, rfl, Below.refl _ _⟩
              case round =>
                obtain ⟨j, hj, rfl, hbe⟩ := hrel
                have q8 := (hbe.cell (p := ⟨b8, o8 + c.layers.length, none⟩) hlt8d).trans g8
                have qb := (hbe.cell (p := ⟨bb, ob + c.layers.length, none⟩) hltbb).trans hub
                have qd := (hbe.cell (p := ⟨bd', od + c.layers.length, none⟩) hltd).trans hud
                by_cases hzj : j < M
                · have k1 := (hbe.cell (p := ⟨b1, o1 + j, none⟩) lt1).trans (Hs1.out j (by rw [L1.out]; exact hzj))
                  have k2 := (hbe.cell (p := ⟨b2, o2 + j, none⟩) lt2).trans (Hs2.out j (by rw [L2.out]; exact hzj))
                  have k3 := (hbe.cell (p := ⟨b3, o3 + j, none⟩) lt3).trans (Hs3.out j (by rw [L3.out]; exact hzj))
                  have u1 : U64 (at0 (VX.map psi) j) := psis VX _ (at0_mem (by rw [L1.out]; exact hzj))
                  have u2 : U64 (at0 (VY.map psi) j) := psis VY _ (at0_mem (by rw [L2.out]; exact hzj))
                  have hjm : (j : Int) < (M : Int) := by omega
                  have hj00 : (0 : Int) ≤ (j : Int) := by omega
                  have hll2 : (c.layers.length : Int) < (c.layers.length : Int) + 1 := by omega
                  have hl00 : (0 : Int) ≤ (c.layers.length : Int) := by omega
                  have hne : (at0 (VL.map psi) j != psi (phi (at0 (VX.map psi) j) + phi (at0 (VY.map psi) j))) = false := by
                    have e : at0 (VL.map psi) j = psi (phi (at0 (VX.map psi) j) + phi (at0 (VY.map psi) j)) := by
                      rw [at0_psi VX j (by rw [HlX.out]; exact hzj), at0_psi VY j (by rw [HlY.out]; exact hzj), ← Hlin.out j]
                      simp [at0, atF, show j < VL.length by rw [HlL.out]; exact hzj]
                    rw [e]; simp
                  generalize at0 (VX.map psi) j = A1 at *
                  generalize at0 (VY.map psi) j = A2 at *
                  generalize at0 (VL.map psi) j = A3 at *
                  go_wp2
                  go_quiet (first | (go_at_call 11; exact flip (field_Add _ _ _ (by first | assumption | exact U64.psi _ | exact U64.zero | exact U64.one | exact U64.mk (by decide) (by decide)) (by first | assumption | exact U64.psi _ | exact U64.zero | exact U64.one | exact U64.mk (by decide) (by decide)))))
                  go_wp2
                  go_roundw
                  case rel => exact ⟨j + 1, by omega, by go_num, below_drewN hbe _⟩
                  case measure => simp [intOf]; omega
                · obtain rfl : j = M := by omega
                  go_wp2
                  go_ret
                  exact ⟨rfl, below_two HBd.out hbe⟩
  · have hcb : (checkC c != 0) = true := by rw [bne_iff_ne]; exact hc
    have Hcb := Lib.hid hcb
    clear hc
    go_wp2_with (fail)
    refine (c_Run_no _ c _ a _ (HC.out.go H6.out) (Ha.out.go H6.out) Hcb.out).mono ?_
    rintro e w7 ⟨rfl, hb7⟩
    have H7 := Lib.hid (below_two H6.out hb7)
    clear hb7 r0 r1
    go_wp2
    go_ret
    exact ⟨rfl, H7.out⟩
end Go.Proofs.Ytaaaoljllpbplaa
