/- The walk of the law WiringTells: it returns true, whatever is handed in. The table of bits lies as its initialiser lays it. -/
import Derived.Test.YtnleihjdllpniaaDoorGkrV
import Derived.Test.YtnleihjdllpniaaDoorLayM
import Derived.Test.YtnleihjdllpniaaDoorWireS
import Derived.Test.YtnleihjdllpniaaDoorKeepM
import Derived.Deep.DeepCutAuto
import Derived.Deep.RegionHeld3
namespace Go.Proofs.YtnleihjdllpniaaDoor
set_option maxRecDepth 100000
set_option linter.unusedVariables false
open Go.RowKit Tally
theorem wrap4i' {n : Int} (h4 : n ≤ 4) : IntKind.i64.wrap (2 ^ n.toNat) = ((2 ^ n.toNat : Nat) : Int) := by
  have h1 := pow4 h4
  have e : ((2 : Int) ^ n.toNat) = ((2 ^ n.toNat : Nat) : Int) := by simp
  rw [e]; generalize 2 ^ n.toNat = m at *; exact IntWalk.i64_in _ (by omega)
theorem and1s : ∀ i : Nat, i < 16 → bits .and .i64 (i : Int) 1 = ((i % 2 : Nat) : Int) := by decide +kernel
theorem bitsF_at' (b n i : Nat) (h : i < n) : atF (bitsF b n) i = if b / 2 ^ (n - 1 - i) % 2 = 1 then 1 else 0 := by
  induction n generalizing b i with
  | zero => omega
  | succ n ih =>
    show atF (bitsF (b / 2) n ++ [if b % 2 = 1 then 1 else 0]) i = _
    have hl := bitsF_length (b / 2) n
    by_cases e : i = n
    · subst e
      have : atF (bitsF (b / 2) i ++ [if b % 2 = 1 then 1 else 0]) i = if b % 2 = 1 then 1 else 0 := by
        unfold atF; rw [List.getElem?_append_right (by omega), hl]; simp
      rw [this, show i + 1 - 1 - i = 0 by omega, Nat.pow_zero, Nat.div_one]
    · have h1 : atF (bitsF (b / 2) n ++ [if b % 2 = 1 then 1 else 0]) i = atF (bitsF (b / 2) n) i := by
        unfold atF; rw [List.getElem?_append_left (by omega)]
      rw [h1, ih (b / 2) i (by omega), Nat.div_div_eq_div_mul, Nat.mul_comm, ← Nat.pow_succ, show (n - 1 - i).succ = n + 1 - 1 - i by omega]
/-- where the bits stand -/
def BitsAt (q n k : Nat) (L : List Int) : Prop := L.length = n ∧ ∀ j, j < k → at0 L j = ((q / 2 ^ (n - 1 - j) % 2 : Nat) : Int)
theorem bitsAt_step {q n k : Nat} {L : List Int} {v : Int} (hk : k < n) (h : BitsAt q n k L) (hv : v = ((q / 2 ^ (n - 1 - k) % 2 : Nat) : Int)) : BitsAt q n (k + 1) (L.set k v) := by
  refine ⟨by rw [List.length_set]; exact h.1, fun j hj => ?_⟩
  by_cases e : j = k
  · subst e; rw [at0_set_self _ _ _ (by rw [h.1]; exact hk)]; exact hv
  · rw [at0_set_ne _ _ _ _ (by omega)]; exact h.2 j (by omega)
theorem bitsAt_end {q n : Nat} {L : List Int} (h : BitsAt q n n L) : L.map phi = bitsF q n := by
  apply List.ext_getElem?
  intro k
  by_cases hk : k < n
  · have h1 : (L.map phi)[k]? = some (atF (L.map phi) k) := by
      rw [List.getElem?_eq_getElem (by rw [List.length_map, h.1]; exact hk)]; simp [atF, h.1, hk]
    have h2 : (bitsF q n)[k]? = some (atF (bitsF q n) k) := by
      rw [List.getElem?_eq_getElem (by rw [bitsF_length]; exact hk)]; simp [atF, bitsF_length, hk]
    rw [h1, h2, atF_map L k (by rw [h.1]; exact hk), h.2 k hk, bitsF_at' q n k hk]
    have : q / 2 ^ (n - 1 - k) % 2 = 0 ∨ q / 2 ^ (n - 1 - k) % 2 = 1 := by omega
    rcases this with e | e <;> rw [e]
    · rw [if_neg (by decide)]; exact congrArg some phi_zero
    · rw [if_pos rfl]; exact congrArg some phi_one
  · rw [List.getElem?_eq_none (by rw [List.length_map, h.1]; omega), List.getElem?_eq_none (by rw [bitsF_length]; omega)]
set_option maxHeartbeats 2000000 in
theorem wt_corner (q n nb : Nat) (w : World) (hc : w.cell? ⟨nb, 0, none⟩ = some (.int .i64 (n : Int))) (hlt : nb < w.heap.size) (hn : n ≤ 4) (hq : q < 16) :
    Calls Tryd.prog 33 #[.int .i64 q, .pointer (some ⟨nb, 0, none⟩)] w fun e w' => ∃ v' L, e = .returned v' ∧ NewU w.heap.size w' v' L ∧ (L.map phi = bitsF q n ∧ L.length = n) ∧ Below w.heap.size w w' := by
  have Hc := Lib.hid hc
  go_enter Tryd.func33, Tryd.ntmps33
  go_wp2_with (at_make; refine wpList_makeU _ rfl _ _ rfl _ _ n rfl rfl rfl rfl (by omega) ?_; intro w1 hn1 hb1)
  have H1 := Lib.hid hn1
  have HB1 := Lib.hid hb1
  clear hn1 hb1 hc
  go_loopw [10] (fun i wr => ∃ (j : Nat) (L : List Int), j ≤ n ∧ i = .int .i64 (j : Int) ∧ Hid (NewU w.heap.size wr (.slice (some ⟨w.heap.size, 0, none⟩) n n) L) ∧ Hid (BitsAt q n j L) ∧ Hid (Below w.heap.size w wr)) (fun i _ => n - (intOf i).toNat)
  case atStart => exact ⟨0, _, by omega, rfl, H1.out, ⟨by simp, fun j hj => absurd hj (by omega)⟩, HB1.out⟩
  case round =>
    obtain ⟨j, L, hj, rfl, HL, HBA, HBr⟩ := hrel
    have HLl := Lib.hid HL.out.lenEq.symm
    by_cases hz : j < n
    · have hjL : j < L.length := by have := HLl.out; omega
      have hc := (HBr.out.cell (p := ⟨nb, 0, none⟩) hlt).trans Hc.out
      have hf := HL.out.freeAt j
      have hcj := HL.out.cellAt j hjL
      have hj1 : (j : Int) < (n : Int) := by omega
      have hs : (n : Int) - 1 - (j : Int) = ((n - 1 - j : Nat) : Int) := by omega
      have hd : (q : Int) / 2 ^ (n - 1 - j) = ((q / 2 ^ (n - 1 - j) : Nat) : Int) := by simp
      have hdl : q / 2 ^ (n - 1 - j) < 16 := Nat.lt_of_le_of_lt (Nat.div_le_self _ _) hq
      have ha := and1s _ hdl
      have hst := Lib.hid (fun v => @bitsAt_step q n j L v hz HBA.out)
      have hs0 : n - 1 - j ≤ 8 := by omega
      generalize n - 1 - j = s at *
      generalize q / 2 ^ s = m at *
      have hm2 : m % 2 < 2 := Nat.mod_lt _ (by decide)
      generalize m % 2 = z at *
      have uz : U64 (z : Int) := ⟨by omega, by omega⟩
      have hwz : IntKind.u64.wrap (z : Int) = (z : Int) := by rw [IntKind.wrap_u64]; omega
      clear hm2
      go_wp2
      go_roundw
      case rel => exact ⟨j + 1, _, by omega, by go_num, HL.out.set j _ uz, hst.out _ rfl, HBr.out.setCell (by exact Nat.le_refl _) _⟩
      case measure => simp [intOf]; omega
    · obtain rfl : j = n := by omega
      have Hbits := Lib.hid (bitsAt_end HBA.out)
      go_wp2
      go_ret
      exact ⟨_, L, rfl, HL.out, ⟨Hbits.out, HLl.out⟩, HBr.out⟩
theorem add_assocT (a b c : F) : a + b + c = a + (b + c) := by grind
theorem lits3 (w : World) (x y z : Int) (hx : U64 x) (hy : U64 y) (hz : U64 z) : ∃ W, ((w.alloc (.cells #[.int .u64 x] 46)).alloc (.cells #[.int .u64 y] 46)).alloc (.cells #[.int .u64 z] 46) = W ∧
    RowU W (.slice (some ⟨w.heap.size, 0, none⟩) 1 1) [x] ∧ RowU W (.slice (some ⟨w.heap.size + 1, 0, none⟩) 1 1) [y] ∧ RowU W (.slice (some ⟨w.heap.size + 1 + 1, 0, none⟩) 1 1) [z] ∧ Below w.heap.size w W :=
  ⟨_, rfl, ((row1 w _ x hx rfl).more _).more _, (row1 (w.alloc (.cells #[.int .u64 x] 46)) (w.heap.size + 1) y hy (by simp)).more _, row1 ((w.alloc (.cells #[.int .u64 x] 46)).alloc (.cells #[.int .u64 y] 46)) (w.heap.size + 1 + 1) z hz (by simp),
    below_chain (below_chain (below_alloc _ _) (below_alloc _ _)) (below_alloc _ _)⟩
theorem tiny_good : Good tinyC := good_of_check tiny_check
theorem tiny_wire : Wire tinyC 0 [1] [0] [1] := ⟨tiny_good, by decide, rfl, rfl, rfl⟩
theorem tiny_step : psi (stepI tinyC 0 [1] [0] [1] (phi 3) (phi 4)) = 7 := by decide +kernel
theorem padTo_len (n : Nat) (l : List Int) : (padTo n l).length = n := padTo_length n l
set_option maxRecDepth 100000 in
set_option maxHeartbeats 16000000 in
theorem wiringTells_walk (w : World) (hT : Tab w) (v : Value) (c : Ci) (h : IsC w v c) (va : Value) (a : List Int) (ha : RowU w va a) (vz : Value) (z : List Int) (hz : RowU w vz z) (k : Int) (hk : I64 k) :
    Calls Tryd.prog 5 #[v, va, vz, .int .i64 k] w fun e w' => e = .returned (.bool true) ∧ Below w.heap.size w w' := by
  obtain ⟨ad, cp, rfl⟩ := h.shape
  have HT := Lib.hid hT; have HC := Lib.hid h; have Ha := Lib.hid ha; have Hz := Lib.hid hz; have Hk := Lib.hid hk
  clear hT h ha hz hk
  go_enter Tryd.func5, Tryd.ntmps5
  go_wp2_with (fail)
  obtain ⟨W1, hW, k0, k1, B1, s1⟩ := copied2' w (.int .i64 c.log) (.slice ad c.layers.length cp) 24
  rw [hW]
  have HX1 := Lib.hid (show Boxed w.heap.size (.int .i64 c.log) (.slice ad c.layers.length cp) W1 from ⟨k0, k1, by omega⟩)
  have H1 := Lib.hid B1
  clear hW s1 k0 k1 B1
  refine (keep_tiny _).mono ?_
  rintro e w2 ⟨vt, rfl, ht, hb2⟩
  have H2 := Lib.hid (below_two H1.out hb2)
  have HX2 := Lib.hid (HX1.out.go hb2)
  have HT2 := Lib.hid ht
  obtain ⟨atn, ctn, rfl⟩ := ht.shape
  clear ht hb2
  go_wp2_with (fail)
  obtain ⟨W3, hW3, r1, r2, r3, B3⟩ := lits3 w2 1 0 1 U64.one U64.zero U64.one
  rw [hW3]
  have H3 := Lib.hid (below_two H2.out B3)
  refine (w_Step _ tinyC 0 _ _ _ [1] [0] [1] 3 4 _ (HT2.out.go B3) ⟨by decide, by decide⟩ r1 r2 r3 ⟨by decide, by decide⟩ ⟨by decide, by decide⟩ 0 rfl tiny_wire tiny_check).mono ?_
  rintro e w4 ⟨rfl, hb4⟩
  rw [tiny_step]
  have H4 := Lib.hid (below_two H3.out hb4)
  have HX4 := Lib.hid ((HX2.out.go B3).go hb4)
  clear hW3 r1 r2 r3 B3 hb4
  have r0 := HX4.out.c0; have r1 := HX4.out.c1
  go_wp2_with (fail)
  refine (rc_Circuit _ c _ (HC.out.go H4.out)).mono ?_
  rintro e w5 ⟨rfl, hb5⟩
  have H5 := Lib.hid (below_two H4.out hb5)
  have HX5 := Lib.hid (HX4.out.go hb5)
  clear hb5 r0 r1
  have r0 := HX5.out.c0; have r1 := HX5.out.c1
  by_cases hc : checkC c = 0
  · have Hc := Lib.hid hc
    rw [hc]
    have HG := Lib.hid (good_of_check hc)
    have hl0 := (good_of_check hc).log0
    have hl4 := (good_of_check hc).log4
    have hn1 := (good_of_check hc).n1
    have hn4 := (good_of_check hc).n4
    clear hc
    have hm0 : 0 ≤ k % (c.layers.length : Int) := Int.emod_nonneg _ (by omega)
    have hm1 : k % (c.layers.length : Int) < (c.layers.length : Int) := Int.emod_lt_of_pos _ (by omega)
    go_wp2_with (fail)
    refine (ref_Rest k (c.layers.length : Int) _ Hk.out (by omega) (by omega)).mono ?_
    rintro e w' ⟨rfl, rfl⟩
    obtain ⟨i, hi⟩ : ∃ i : Nat, k % (c.layers.length : Int) = (i : Int) := ⟨(k % (c.layers.length : Int)).toNat, by omega⟩
    rw [hi] at hm0 hm1 ⊢
    have hil : i < c.layers.length := by omega
    have hili : (i : Int) < (c.layers.length : Int) := by omega
    have hi0 : (0 : Int) ≤ (i : Int) := by omega
    clear hi hm0 hm1
    obtain ⟨bL, oL, rfl, hbLlt, hLc⟩ : ∃ bL oL, ad = some ⟨bL, oL, none⟩ ∧ bL < w.heap.size ∧ ∀ j, j < c.layers.length →
      w.cell? ⟨bL, oL + j * 2, none⟩ = some (.int .i64 (aty c.layers j).log) := by
      obtain ⟨_, u, e, _, _, a', cp', rfl, hr⟩ := HC.out
      cases e
      obtain ⟨b', o', rfl, h1, h2⟩ := hr hn1
      exact ⟨b', o', rfl, h1, fun j hj => (h2 j hj).1⟩
    have HLc := Lib.hid (hLc i hil)
    clear hLc
    obtain ⟨N, hN⟩ : ∃ N, N = 2 ^ c.log.toNat := ⟨_, rfl⟩
    have hN16 : N ≤ 16 := by rw [hN]; exact (pow4 hl4).2
    have Hw := Lib.hid (show IntKind.i64.wrap (2 ^ c.log.toNat) = (N : Int) by rw [hN]; exact wrap4i' hl4)
    have HN := Lib.hid hN
    have hS0 := HX5.out.lt
    clear hN
    go_wp2_with (fail)
    go_cut [12, 13] (fun x y wx => ∃ bx ox cx, x = .slice (some ⟨bx, ox, none⟩) (c.layers.length + 1) cx ∧ y = .int .i64 0 ∧ Hid (RunAt wx x c ((padTo N a).map phi)) ∧ Hid (Below w5.heap.size w5 wx))
    case first =>
      have hw := Hw.out
      have Ca := Lib.hid (fun W (hB : Below w5.heap.size w5 W) => keep_point a va N W (Ha.out.go (below_two H5.out hB)) (by omega))
      have Cr := Lib.hid (fun W vi (hB : Below w5.heap.size w5 W) (hr : RowU W vi (padTo N a)) => c_RunAt _ c vi (padTo N a) W (HC.out.go (below_two H5.out hB)) hr Hc.out (by rw [padTo_len]; exact HN.out))
      go_region_held3 (fun w' => Below w5.heap.size w5 w' ∧ w'.cell? ⟨w.heap.size, 0, none⟩ = some (.int .i64 c.log) ∧ w'.cell? ⟨w.heap.size, 1, none⟩ = some (.slice (some ⟨bL, oL, none⟩) c.layers.length cp))
        (first
          | exact ⟨below_drewN (Below.refl _ _) 1, r0, r1⟩
          | (go_split_ands; have hz := below_two (a := w5) (by assumption) hbR; exact ⟨hz, (hz.cell (p := ⟨w.heap.size, 0, none⟩) hS0).trans r0, (hz.cell (p := ⟨w.heap.size, 1, none⟩) hS0).trans r1⟩)
          | (go_split_ands; have hz := below_two (a := w5) (by assumption) hbA; exact ⟨hz, (hz.cell (p := ⟨w.heap.size, 0, none⟩) hS0).trans r0, (hz.cell (p := ⟨w.heap.size, 1, none⟩) hS0).trans r1⟩))
        (first
          | (go_at_call 31; go_split_ands; (with_reducible refine (Ca.out _ (by assumption)).mono ?_); rintro e wA ⟨rfl, hnA, hbA⟩; have hnA' : NewU w5.heap.size wA (.slice (some ⟨w5.heap.size, 0, none⟩) N N) (padTo N a) := hnA)
          | (go_at_call 17; go_split_ands; (with_reducible refine (Cr.out _ _ (by assumption) hnA'.row).mono ?_); rintro e wR ⟨vR, rfl, hrR, hbR⟩))
      all_goals
        go_split_ands
        clear hw
        go_wp2_with fail
        go_meet
        case rel => exact (by obtain ⟨b1, o1, c1, rfl, x1, x2⟩ := hrR; exact ⟨_, _, _, rfl, rfl, ⟨b1, o1, c1, rfl, x1, x2⟩, by assumption⟩)
    case rest =>
      obtain ⟨bx, ox, cx, rfl, rfl, HRun, HB6⟩ := hcut
      have H6 := Lib.hid (below_two H5.out HB6.out)
      have HX6 := Lib.hid (HX5.out.go HB6.out)
      clear r0 r1
      have r0 := HX6.out.c0; have r1 := HX6.out.c1
      have l1 := (H6.out.cell (p := ⟨bL, oL + i * 2, none⟩) hbLlt).trans HLc.out
      have hy0 := HG.out.l0 i hil
      have hy4 := HG.out.l4 i hil
      obtain ⟨m, hm⟩ : ∃ m : Nat, (aty c.layers i).log = (m : Int) := ⟨(aty c.layers i).log.toNat, by omega⟩
      rw [hm] at l1
      have hm4 : m ≤ 4 := by omega
      have Hm := Lib.hid hm
      clear hm hy0 hy4
      go_wp2_with (fail)
      refine (keep_point z _ m _ (Hz.out.go H6.out) (by omega)).mono ?_
      rintro e w7 ⟨rfl, hn7, hb7⟩
      have HQ7 := Lib.hid hn7.row
      have H7 := Lib.hid (below_two H6.out hb7)
      have HX7 := Lib.hid (HX6.out.go hb7)
      have HRun7 := Lib.hid (HRun.out.go hb7)
      obtain ⟨Q, hQ⟩ : ∃ Q, Q = padTo m z := ⟨_, rfl⟩
      rw [← hQ] at HQ7
      have HQl := Lib.hid (show Q.length = m by rw [hQ, padTo_len])
      clear hn7 hb7 hQ r0 r1 l1
      have r0 := HX7.out.c0; have r1 := HX7.out.c1
      obtain ⟨gq, hgq⟩ : ∃ gq, gq = wc.heap.size := ⟨_, rfl⟩
      rw [← hgq] at HQ7 ⊢
      clear hgq
      go_wp2_with (fail)
      refine (ref_Below _ c i _ (HC.out.go H7.out) (by omega) hn4).mono ?_
      rintro e w8 ⟨rfl, hb8⟩
      have H8 := Lib.hid (below_two H7.out hb8)
      have HX8 := Lib.hid (HX7.out.go hb8)
      have HRun8 := Lib.hid (HRun7.out.go hb8)
      have HQ8 := Lib.hid (HQ7.out.go hb8)
      have hn0 := HG.out.below0 (k := i) (by omega)
      have hnn4 := HG.out.below4 (k := i) (by omega)
      obtain ⟨n, hn⟩ : ∃ n : Nat, belowLog c i = (n : Int) := ⟨(belowLog c i).toNat, by omega⟩
      have Hn := Lib.hid hn
      rw [hn]
      have hn4' : n ≤ 4 := by omega
      clear hb8 hn hn0 hnn4 r0 r1
      by_cases h3 : (3 : Int) < (n : Int)
      · go_wp2
        go_ret
        exact ⟨rfl, H8.out.alloc H8.out.size _⟩
      · have hn3 : n ≤ 3 := by omega
        obtain ⟨M, hM⟩ : ∃ M, M = 2 ^ n := ⟨_, rfl⟩
        have hMb : 1 ≤ M ∧ M ≤ 8 := by
          rw [hM]; exact ⟨Nat.pow_pos (by decide), Nat.pow_le_pow_right (by decide) hn3⟩
        have HwM := Lib.hid (show wrap64 (2 ^ n) = (M : Int) by
          rw [hM]; have := pow_wrap8 (n := n) (by omega); exact this)
        have HM := Lib.hid hM
        clear hM
        have hwM := HwM.out
        go_wp2_with (fail)
        rw [hwM]
        clear hwM
        obtain ⟨W9, hW9, kn, B9, s9⟩ := copied1' w8 (.int .i64 (n : Int)) 3
        rw [hW9]
        have H9 := Lib.hid (below_two H8.out B9)
        have HX9 := Lib.hid (HX8.out.go B9)
        have HRun9 := Lib.hid (HRun8.out.go B9)
        have HQ9 := Lib.hid (HQ8.out.go B9)
        have lnb : w8.heap.size < W9.heap.size := by omega
        have Kn := Lib.hid kn
        clear hW9 s9 B9 kn
        obtain ⟨nb, hnb⟩ : ∃ nb, nb = w8.heap.size := ⟨_, rfl⟩
        rw [← hnb] at lnb Kn ⊢
        clear hnb
        obtain ⟨I, hI⟩ : ∃ I, I = (padTo N a).map phi := ⟨_, rfl⟩
        have HIl := Lib.hid (show I.length = 2 ^ c.log.toNat by rw [hI, List.length_map, padTo_len]; exact HN.out)
        rw [← hI] at HRun9
        clear hI
        obtain ⟨b1, o1, c1, e1, hblt, hrun⟩ := HRun9.out
        simp only [Value.slice.injEq, Option.some.injEq, Addr.mk.injEq] at e1
        obtain ⟨⟨rfl, rfl, -⟩, -, rfl⟩ := e1
        obtain ⟨ui, cui, rui⟩ := hrun i (by omega)
        obtain ⟨uj, cuj, ruj⟩ := hrun (i + 1) (by omega)
        have HVl := Lib.hid (show (valF c I i).length = M by rw [valF_length HG.out I HIl.out i (by omega), Hn.out, HM.out, Int.toNat_natCast])
        have HVs := Lib.hid (show valF c I (i + 1) = layF (valF c I i) (aty c.layers i).gates from rfl)
        obtain ⟨V, hV⟩ : ∃ V, V = valF c I i := ⟨_, rfl⟩
        rw [← hV] at rui HVl HVs
        obtain ⟨uU, _, au, cu, rfl, hu⟩ := rui
        rw [List.length_map, HVl.out] at cui hu
        obtain ⟨bu, ou, rfl, hbult, hucell⟩ := hu (by omega)
        have Hucell := Lib.hid (show ∀ j, j < M → W9.cell? ⟨bu, ou + j, none⟩ = some (.int .u64 (psi (atF V j))) from fun j hj => by
          rw [hucell j hj]; simp [at0, atF, HVl.out, hj])
        have Hcui := Lib.hid cui; have Hcuj := Lib.hid cuj; have Hruj := Lib.hid ruj
        have Hgl := Lib.hid (show (aty c.layers i).gates.length = 2 ^ Q.length by rw [HG.out.len i hil, HQl.out, Hm.out, Int.toNat_natCast])
        have HgI := Lib.hid (show GatesIn (aty c.layers i).gates (2 ^ n) by have := HG.out.gatesIn hil; rw [Hn.out, Int.toNat_natCast] at this; exact this)
        obtain ⟨SF, hSF⟩ : ∃ SF : Nat → Nat → F, SF = fun a b => stepF (aty c.layers i).gates (Q.map phi) (bitsF a n) (bitsF b n) (atF V a) (atF V b) := ⟨_, rfl⟩
        have HSF := Lib.hid hSF
        have HTot := Lib.hid (show evalF (valF c I (i + 1)) (Q.map phi) = sumTo (fun a => sumTo (SF a) M) M by
          rw [HVs.out, layer_tells _ (Q.map phi) V n HgI.out (by rw [List.length_map]; exact Hgl.out), hSF, HM.out])
        have Hujl := Lib.hid (show (valF c I (i + 1)).length = 2 ^ m by rw [valF_length HG.out I HIl.out (i + 1) (by omega), belowLog_succ, Hm.out, Int.toNat_natCast])
        clear hrun hblt cui cuj ruj hu hucell hV uU hSF
        have hblt := HRun9.out
        obtain ⟨_, _, _, e1, hblt, _⟩ := hblt
        simp only [Value.slice.injEq, Option.some.injEq, Addr.mk.injEq] at e1
        obtain ⟨⟨rfl, rfl, -⟩, -, rfl⟩ := e1
        have ltb := HX9.out.lt
        go_loopw [17, 73] (fun o i wr => ∃ x : Nat, x ≤ M ∧ i = .int .i64 (x : Int) ∧ o = .int .u64 (psi (sumTo (fun a => sumTo (SF a) M) x)) ∧ Hid (Below W9.heap.size W9 wr)) (fun _ i _ => M - (intOf i).toNat)
        case atStart => exact ⟨0, Nat.zero_le _, rfl, congrArg _ psi_zero.symm, Below.refl _ _⟩
        case round =>
          obtain ⟨x, hx, rfl, rfl, HB⟩ := hrel
          by_cases hxM : x < M
          · have hxi : (x : Int) < (M : Int) := by omega
            have kn := (HB.out.cell (p := ⟨nb, 0, none⟩) lnb).trans Kn.out
            have HTs := Lib.hid (show sumTo (fun a => sumTo (SF a) M) (x + 1) = sumTo (fun a => sumTo (SF a) M) x + sumTo (SF x) M from rfl)
            generalize sumTo (fun a => sumTo (SF a) M) x = T at *
            have hwM := HwM.out
            go_wp2_with (fail)
            rw [hwM]
            clear kn hwM
            go_loopw [17, 78] (fun o i wr => ∃ y : Nat, y ≤ M ∧ i = .int .i64 (y : Int) ∧ o = .int .u64 (psi (T + sumTo (SF x) y)) ∧ Hid (Below W9.heap.size W9 wr)) (fun _ i _ => M - (intOf i).toNat)
            case atStart => exact ⟨0, Nat.zero_le _, rfl, congrArg _ (congrArg psi (add_zero' T).symm), HB.out⟩
            case round =>
              rename_i wq
              clear HB
              obtain ⟨y, hy, rfl, rfl, HB⟩ := hrel
              by_cases hyM : y < M
              · have hyi : (y : Int) < (M : Int) := by omega
                obtain ⟨wv, rfl⟩ : ∃ x : World, x = wr := ⟨_, rfl⟩
                have HXv := Lib.hid (show Boxed w.heap.size (.int .i64 c.log) (.slice (some ⟨bL, oL, none⟩) c.layers.length cp) wv from HX9.out.go HB.out)
                have q0 := HXv.out.c0; have q1 := HXv.out.c1
                have q2 := (HB.out.cell (p := ⟨bx, ox + i, none⟩) hblt).trans Hcui.out
                have q3 := (HB.out.cell (p := ⟨bu, ou + x, none⟩) hbult).trans (Hucell.out x hxM)
                have q4 := (HB.out.cell (p := ⟨bu, ou + y, none⟩) hbult).trans (Hucell.out y hyM)
                have kn := Lib.hid ((HB.out.cell (p := ⟨nb, 0, none⟩) lnb).trans Kn.out)
                have hsz := HB.out.size
                have L0 : w.heap.size < wv.heap.size := by omega
                have L2 : bx < wv.heap.size := by omega
                have L3 : bu < wv.heap.size := by omega
                have Ln : nb < wv.heap.size := by omega
                have Hv := Lib.hid (below_two H9.out HB.out)
                have HQv := Lib.hid (HQ9.out.go HB.out)
                have Ca := Lib.hid (fun W (hB : Below wv.heap.size wv W) => wt_corner x n nb W ((hB.cell (p := ⟨nb, 0, none⟩) Ln).trans kn.out) (Nat.lt_of_lt_of_le Ln hB.size) hn4' (by omega))
                have Cb := Lib.hid (fun W (hB : Below wv.heap.size wv W) => wt_corner y n nb W ((hB.cell (p := ⟨nb, 0, none⟩) Ln).trans kn.out) (Nat.lt_of_lt_of_le Ln hB.size) hn4' (by omega))
                have Cs := Lib.hid (fun W vA vB LA LB (hB : Below wv.heap.size wv W) (hA : RowU W vA LA) (hB2 : RowU W vB LB) (lA : LA.length = n) (lB : LB.length = n) => w_Step (.agg #[.int .i64 c.log, .slice (some ⟨bL, oL, none⟩) c.layers.length cp]) c (i : Int) (.slice (some ⟨gq, 0, none⟩) m m) vA vB Q LA LB (psi (atF V x)) (psi (atF V y)) W (HC.out.go (below_two Hv.out hB)) ⟨by omega, by omega⟩ (HQv.out.go hB) hA hB2 (U64.psi _) (U64.psi _) i rfl ⟨HG.out, hil, by rw [HQl.out, Hm.out], by rw [lA, Hn.out], by rw [lB, Hn.out]⟩ Hc.out)
                have hx0 : (0 : Int) ≤ (x : Int) := by omega
                have hy0 : (0 : Int) ≤ (y : Int) := by omega
                have hil1 : (i : Int) < (c.layers.length : Int) + 1 := by omega
                have hil2 : i < c.layers.length + 1 := by omega
                have Hss := Lib.hid (show sumTo (SF x) (y + 1) = sumTo (SF x) y + SF x y from rfl)
                have HSxy := Lib.hid (show ∀ LA LB : List Int, LA.map phi = bitsF x n → LB.map phi = bitsF y n → stepI c i Q LA LB (phi (psi (atF V x))) (phi (psi (atF V y))) = SF x y from fun LA LB h1 h2 => by
                  unfold stepI; rw [h1, h2, phi_psi, phi_psi, HSF.out])
                clear kn
                generalize psi (atF V x) = VX at *
                generalize psi (atF V y) = VY at *
                go_wp2_with (fail)
                go_region_held3 (fun w' => Below wv.heap.size wv w' ∧ w'.cell? ⟨w.heap.size, 0, none⟩ = some (.int .i64 c.log) ∧ w'.cell? ⟨w.heap.size, 1, none⟩ = some (.slice (some ⟨bL, oL, none⟩) c.layers.length cp) ∧ w'.cell? ⟨bx, ox + i, none⟩ = some (.slice (some ⟨bu, ou, none⟩) M cu) ∧ w'.cell? ⟨bu, ou + x, none⟩ = some (.int .u64 VX) ∧ w'.cell? ⟨bu, ou + y, none⟩ = some (.int .u64 VY))
                  (first
                    | exact ⟨below_drewN (Below.refl _ _) 1, q0, q1, q2, q3, q4⟩
                    | (go_split_ands; have hz := below_two (a := wv) (by assumption) hbS; exact ⟨hz, (hz.cell (p := ⟨w.heap.size, 0, none⟩) L0).trans q0, (hz.cell (p := ⟨w.heap.size, 1, none⟩) L0).trans q1, (hz.cell (p := ⟨bx, ox + i, none⟩) L2).trans q2, (hz.cell (p := ⟨bu, ou + x, none⟩) L3).trans q3, (hz.cell (p := ⟨bu, ou + y, none⟩) L3).trans q4⟩)
                    | (go_split_ands; have hz := below_two (a := wv) (by assumption) hbB; exact ⟨hz, (hz.cell (p := ⟨w.heap.size, 0, none⟩) L0).trans q0, (hz.cell (p := ⟨w.heap.size, 1, none⟩) L0).trans q1, (hz.cell (p := ⟨bx, ox + i, none⟩) L2).trans q2, (hz.cell (p := ⟨bu, ou + x, none⟩) L3).trans q3, (hz.cell (p := ⟨bu, ou + y, none⟩) L3).trans q4⟩)
                    | (go_split_ands; have hz := below_two (a := wv) (by assumption) hbA; exact ⟨hz, (hz.cell (p := ⟨w.heap.size, 0, none⟩) L0).trans q0, (hz.cell (p := ⟨w.heap.size, 1, none⟩) L0).trans q1, (hz.cell (p := ⟨bx, ox + i, none⟩) L2).trans q2, (hz.cell (p := ⟨bu, ou + x, none⟩) L3).trans q3, (hz.cell (p := ⟨bu, ou + y, none⟩) L3).trans q4⟩))
                  (first
                    | (go_at_call 33; go_split_ands; (with_reducible refine (Ca.out _ (by assumption)).mono ?_); rintro e wA ⟨vA, LA, rfl, hnA, ⟨hA1, hA2⟩, hbA⟩; have HA1 := Lib.hid hA1; have HA2 := Lib.hid hA2; clear hA1 hA2)
                    | (go_at_call 33; go_split_ands; (with_reducible refine (Cb.out _ (by assumption)).mono ?_); rintro e wB ⟨vB, LB, rfl, hnB, ⟨hB1, hB2⟩, hbB⟩; have HB1 := Lib.hid hB1; have HB2 := Lib.hid hB2; clear hB1 hB2)
                    | (go_at_call 27; go_split_ands; (with_reducible refine (Cs.out _ _ _ LA LB (by assumption) (hnA.row.go hbB) hnB.row HA2.out HB2.out).mono ?_); rintro e wS ⟨rfl, hbS⟩))
                all_goals
                  go_split_ands
                  rw [HSxy.out LA LB HA1.out HB1.out]
                  have hB3 : Below W9.heap.size W9 wS := below_two HB.out (by assumption)
                  go_wp2_with (go_at_call 34; (with_reducible refine (field_Add _ _ _ (U64.psi _) (U64.psi _)).mono ?_); rintro e w' ⟨rfl, rfl⟩; rw [phi_psi, phi_psi, add_assocT, ← Hss.out])
                  go_roundw
                  case rel => exact ⟨y + 1, by omega, by go_num, rfl, hB3⟩
                  case measure => simp [intOf]; omega
              · obtain rfl : y = M := by omega
                go_wp2
                go_roundw
                case rel => exact ⟨x + 1, by omega, by go_num, by rw [HTs.out], HB.out⟩
                case measure => simp [intOf]; omega
          · obtain rfl : x = M := by omega
            have q2 := (HB.out.cell (p := ⟨bx, ox + (i + 1), none⟩) hblt).trans Hcuj.out
            have hi1 : (i : Int) + 1 < (c.layers.length : Int) + 1 := by omega
            have hi2 : (0 : Int) ≤ (i : Int) + 1 := by omega
            have hi3 : i + 1 < c.layers.length + 1 := by omega
            have HTr := Lib.hid (HT.out.below (below_two H9.out HB.out))
            have HRj := Lib.hid (Hruj.out.go HB.out)
            have HQr := Lib.hid (HQ9.out.go HB.out)
            have Hlen := Lib.hid (show ((valF c I (i + 1)).map psi).length = 2 ^ Q.length by rw [List.length_map, Hujl.out, HQl.out])
            have HQ8' := Lib.hid (show Q.length ≤ 8 by rw [HQl.out]; omega)
            have Hfin := Lib.hid (show psi (evalF (((valF c I (i + 1)).map psi).map phi) (Q.map phi)) = psi (sumTo (fun a => sumTo (SF a) x) x) by rw [mapphi_psi, HTot.out])
            have Hend := Lib.hid (below_two H9.out HB.out)
            clear hxM hx
            go_wp2_with (go_at_call 35; (with_reducible refine (mle_Eval _ _ _ _ _ HTr.out HRj.out HQr.out Hlen.out HQ8'.out).mono ?_); rintro e w10 ⟨rfl, hb10⟩; rw [Hfin.out]; have H10 := Lib.hid (below_two Hend.out hb10); clear hb10)
            go_ret
            exact ⟨by simp, H10.out⟩
  · have hcb : (checkC c != 0) = true := by rw [bne_iff_ne]; exact hc
    clear hc
    go_wp2
    go_ret
    exact ⟨rfl, H5.out⟩
end Go.Proofs.YtnleihjdllpniaaDoor
