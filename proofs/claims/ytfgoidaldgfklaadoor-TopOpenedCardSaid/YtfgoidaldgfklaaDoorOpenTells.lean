/- The walk of tells: does another look tell another number at the same place? No condition. -/
import Derived.Test.YtfgoidaldgfklaaDoorOpenedM
import Derived.Test.YtfgoidaldgfklaaDoorOpenHolds
import Derived.Deep.DeepCutAuto
namespace Go.Proofs.YtfgoidaldgfklaaDoor
set_option maxRecDepth 100000
set_option linter.unusedVariables false
open Go.RowKit Tally
/-- the answer of the first k looks, and of u numbers of the next -/
def tellTo (o : Oi) (n j : Nat) (v : Int) (s i k : Nat) : Bool :=
  (List.range k).any fun k => (List.range 2).any fun u => decide (plc (n - j - 1) k u = plc (n - j - 1) i s) && decide (psi (phi (sd (ata (atk o.looks k).pairs j) u)) ≠ psi (phi v))
theorem tl_mod (i : Nat) {H : Nat} (h : 1 ≤ H ∧ H ≤ 4) : i % H < 4 := by have := Nat.mod_lt i (show H > 0 by omega); omega
set_option maxRecDepth 100000 in
set_option maxHeartbeats 8000000 in
theorem top_tells0 (o : Oi) (vo vl : Value) (P : List Int) (n m r j : Nat) (x : Int) (i : Nat) (w : World) (ho : IsO w vo o) (hF : OForm n m o) (hm : m ≤ 4) (hl : RowI w vl P) (hPl : P.length = m) (hP : ∀ i, i < m → at0 P i = (i : Int))
    (hr : n = j + r + 1) (hn : n ≤ 3) (hx : U64 x) (hi : i < m) :
    Calls Tryd.prog 13 #[vo, vl, .int .i64 (j : Int), .int .u64 x, .int .i64 0, .int .i64 (i : Int)] w fun e w' => e = .returned (.bool (tellsB o n m j x 0 i)) ∧ Below w.heap.size w w' := by
  obtain ⟨hF1, hF2, hF3⟩ := hF
  have HF3 := Lib.hid hF3
  obtain ⟨ur, uk, rfl, hvv, h1, h2⟩ := ho
  have HR := Lib.hid h1; have HK := Lib.hid h2
  obtain ⟨_, _, a1, c1, rfl, _⟩ := h1
  obtain ⟨_, a2, c2, rfl, hrk⟩ := h2
  obtain ⟨_, _, al, cl, rfl, hcl⟩ := hl
  have Hcl := Lib.hid hcl; have HPa := Lib.hid hP; have Hrk := Lib.hid hrk
  obtain ⟨V, hV⟩ : ∃ V, V = o.value := ⟨_, rfl⟩
  rw [← hV]
  rw [hF1, hF2, hPl]
  rw [hPl] at Hcl
  rw [hF2] at Hrk
  have HTB := Lib.hid (show tellsB o n m j x 0 i = tellTo o n j x 0 i m from rfl)
  clear hF1 hF2 hF3 hV hcl hP hPl hrk hvv
  obtain ⟨W, hW, k0, k1, k2, B1, s1⟩ := copied3' w (.slice a1 n c1) (.int .u64 V) (.slice a2 m c2) 26
  have H1 := Lib.hid B1
  have KO := Lib.hid (show ∀ X, Below W.heap.size W X → X.cell? ⟨w.heap.size, 0, none⟩ = some (.slice a1 n c1) ∧ X.cell? ⟨w.heap.size, 2, none⟩ = some (.slice a2 m c2) from fun X hX => ⟨(hX.cell (p := ⟨w.heap.size, 0, none⟩) (show w.heap.size < W.heap.size by omega)).trans k0, (hX.cell (p := ⟨w.heap.size, 2, none⟩) (show w.heap.size < W.heap.size by omega)).trans k2⟩)
  subst hr
  obtain ⟨H, hH⟩ : ∃ H, H = 2 ^ r := ⟨_, rfl⟩
  have HH := Lib.hid hH
  have hr2 : r ≤ 2 := by omega
  have hH4 : 1 ≤ H ∧ H ≤ 4 := by rw [hH]; have := Nat.pow_le_pow_right (show 1 ≤ 2 by decide) hr2; exact ⟨Nat.pow_pos (by decide), by omega⟩
  have HwH := Lib.hid (show wrap64 (2 ^ (j + r + 1 - j - 1)) = (H : Int) by
    rw [show j + r + 1 - j - 1 = r by omega]
    have e : (2 : Int) ^ r = ((2 ^ r : Nat) : Int) := by simp
    rw [e, ← hH]; unfold wrap64; omega)
  clear hH B1 k1
  have HH0 := Lib.hid (show ((H : Int) == 0) = false by rw [beq_eq_false_iff_ne]; omega)
  have HIl := Lib.hid (tl_mod i hH4)
  obtain ⟨IQ, hIQ⟩ : ∃ IQ, IQ = i % H := ⟨_, rfl⟩
  rw [← hIQ] at HIl
  have hIl := HIl.out
  have HRI := Lib.hid (show Int.tmod (i : Int) (H : Int) = (IQ : Int) by rw [hIQ]; exact (Int.ofNat_tmod i H).symm)
  have Hpl := Lib.hid (show plc r i 0 = IQ + 0 by unfold plc; rw [← HH.out, hIQ]; simp)
  clear hIQ
  go_enter Tryd.func13, Tryd.ntmps13
  go_wp2_with (fail)
  (try rw [hW]); rw [HwH.out]
  clear hW k0 k2 s1
  go_loopw [29] (fun kv wr => ∃ k : Nat, k ≤ m ∧ kv = .int .i64 (k : Int) ∧ Hid (Below W.heap.size W wr) ∧ Hid (tellTo o (j + r + 1) j x 0 i k = false)) (fun kv _ => m - (intOf kv).toNat)
  case atStart => exact ⟨0, by omega, rfl, Below.refl _ _, rfl⟩
  case round =>
    obtain ⟨k, hk, rfl, HB, HTo⟩ := hrel
    by_cases hz : k < m
    · have hk1 : (k : Int) < (m : Int) := by omega
      have HBw := Lib.hid (below_two H1.out HB.out)
      obtain ⟨b, off, rfl, hblt, hcell⟩ := Hrk.out (by omega)
      obtain ⟨u, u2, hu, hu2, hA, hBB⟩ := hcell k hz
      have c1 := (HBw.out.cell (p := ⟨b, off + k * 2, none⟩) hblt).trans hu
      have c2 := (HBw.out.cell (p := ⟨b, off + k * 2 + 1, none⟩) hblt).trans hu2
      obtain ⟨hpl, -, -⟩ := HF3.out k hz
      obtain ⟨_, a3, c3, rfl, hA3⟩ := id hA
      obtain ⟨_, a4, c4, rfl, _⟩ := hBB
      obtain ⟨LA, hLA⟩ : ∃ LA, LA = (atk o.looks k).pairs := ⟨_, rfl⟩
      obtain ⟨LB, hLB⟩ : ∃ LB, LB = (atk o.looks k).paths.length := ⟨_, rfl⟩
      rw [← hLA] at c1 hA3 hpl
      rw [← hLB] at c2
      have HLA := Lib.hid hLA
      obtain ⟨b3, off3, rfl, hb3, hc3⟩ := hA3 (by omega)
      have HC3 := Lib.hid (hc3 j (by omega))
      rw [hpl] at c1
      obtain ⟨bl, ol, rfl, hbl, hcl⟩ := Hcl.out (by omega)
      have HCk := Lib.hid (hcl k hz)
      have HCi := Lib.hid (hcl i hi)
      rw [HPa.out k hz] at HCk
      rw [HPa.out i hi] at HCi
      clear hcell hu hu2 hA hLA hLB hA3 hc3 hpl hcl
      go_upto_region 6 with (fail)
      obtain ⟨X1, hX1, k0, -, B1, s1⟩ := copied2' wr (.slice (some ⟨b3, off3, none⟩) (j + r + 1) c3) (.slice a4 LB c4) 43
      rw [hX1]
      have HBX := Lib.hid (below_two HB.out B1)
      have HBWX := Lib.hid (below_two HBw.out B1)
      obtain ⟨kb, hkb⟩ : ∃ kb, kb = wr.heap.size := ⟨_, rfl⟩
      rw [← hkb] at k0 ⊢
      have Hkb := Lib.hid (show ∀ X, Below X1.heap.size X1 X → X.cell? ⟨kb, 0, none⟩ = some (.slice (some ⟨b3, off3, none⟩) (j + r + 1) c3) from fun X hX => (hX.cell (p := ⟨kb, 0, none⟩) (by show kb < _; omega)).trans k0)
      clear hX1 B1 s1 k0 hkb c1 c2
      have HKl := Lib.hid (tl_mod k hH4)
      obtain ⟨KQ, hKQ⟩ : ∃ KQ, KQ = k % H := ⟨_, rfl⟩
      rw [← hKQ] at HKl
      have hKl := HKl.out
      have HRK := Lib.hid (show Int.tmod (k : Int) (H : Int) = (KQ : Int) by rw [hKQ]; exact (Int.ofNat_tmod k H).symm)
      have HKQ := Lib.hid hKQ
      clear hKQ
      go_wp2_with (fail)
      go_loopw [34] (fun uv wx => ∃ u : Nat, u ≤ 2 ∧ uv = .int .i64 (u : Int) ∧ Hid (Below X1.heap.size X1 wx) ∧ Hid (∀ u', u' < u → (decide (plc r k u' = plc r i 0) && decide (psi (phi (sd (ata LA j) u')) ≠ psi (phi x))) = false)) (fun uv _ => 2 - (intOf uv).toNat)
      case atStart => exact ⟨0, by omega, rfl, Below.refl _ _, fun u' h => absurd h (by omega)⟩
      case round =>
        obtain ⟨u, hu, rfl, HBu, HTu⟩ := hrel
        by_cases hzu : u < 2
        · have hu1 : (u : Int) < 2 := by omega
          have HBB := Lib.hid (below_two HBWX.out HBu.out)
          have d0 := (HBB.out.cell (p := ⟨b3, off3 + j * 2, none⟩) hb3).trans HC3.out.2.1
          have d1 := (HBB.out.cell (p := ⟨b3, off3 + j * 2 + 1, none⟩) hb3).trans HC3.out.2.2
          have e0 := (HBB.out.cell (p := ⟨bl, ol + k, none⟩) hbl).trans HCk.out
          have e1 := (HBB.out.cell (p := ⟨bl, ol + i, none⟩) hbl).trans HCi.out
          have f0 := Hkb.out _ HBu.out
          have ux := HC3.out.1.1
          have uy := HC3.out.1.2
          have hri := HRI.out; have hh0 := HH0.out; have hrk := HRK.out
          -- ROUND
          have u01 : u = 0 ∨ u = 1 := by omega
          clear hzu hu1
          go_upto_region 9 with (fail)
          rcases u01 with rfl | rfl
          · obtain ⟨y, hy⟩ : ∃ y, y = (ata LA j).1 := ⟨_, rfl⟩
            rw [← hy] at d0 ux
            have Hy := Lib.hid (show sd (ata LA j) 0 = y from hy.symm)
            have Hq := Lib.hid (show plc r k 0 = KQ + 0 from by unfold plc; rw [← HH.out, ← HKQ.out]; simp)
            clear hy
            by_cases hq : KQ + 0 = IQ + 0
            · have hb : ((KQ : Int) == (IQ : Int)) = true := by rw [beq_iff_eq]; omega
              have Hqe := Lib.hid (show plc r k 0 = plc r i 0 from Hq.out.trans (hq.trans Hpl.out.symm))
              clear hq
              by_cases hN : psi (phi y) = psi (phi x)
              · have hb2 : (psi (phi y) != psi (phi x)) = false := by rw [hN]; simp
                have HN := Lib.hid hN
                clear hN
                go_quiet ((go_at_call 12; exact flip (field_Norm _ _ (by assumption))))
                have HBn := Lib.hid (below_drewN HBu.out nq)
                generalize wr.drewN nq = wn at *
                go_wp2_with (fail)
                go_roundw
                case rel => exact ⟨1, by omega, by go_num, HBn.out, fun u' h' => by
                  by_cases hu' : u' = 0
                  · rw [hu', Hy.out]; rw [HN.out]; simp
                  · exact HTu.out u' (by omega)⟩
                case measure => simp [intOf]
              · have hb2 : (psi (phi y) != psi (phi x)) = true := by simpa using hN
                have HN := Lib.hid hN
                clear hN
                go_quiet ((go_at_call 12; exact flip (field_Norm _ _ (by assumption))))
                have HBn := Lib.hid (below_two HBWX.out (below_drewN HBu.out nq))
                generalize wr.drewN nq = wn at *
                go_wp2_with (fail)
                go_ret
                refine ⟨?_, HBn.out⟩
                rw [HTB.out]
                have : tellTo o (j + r + 1) j x 0 i m = true := by
                  unfold tellTo
                  rw [List.any_eq_true]
                  refine ⟨k, List.mem_range.2 hz, ?_⟩
                  rw [List.any_eq_true]
                  refine ⟨0, List.mem_range.2 (by omega), ?_⟩
                  rw [show j + r + 1 - j - 1 = r by omega, Bool.and_eq_true]
                  refine ⟨decide_eq_true Hqe.out, decide_eq_true ?_⟩
                  rw [← HLA.out, Hy.out]
                  exact HN.out
                rw [this]; rfl
            · have hb : ((KQ : Int) == (IQ : Int)) = false := by rw [beq_eq_false_iff_ne]; omega
              have Hqe := Lib.hid (show ¬ plc r k 0 = plc r i 0 from fun e => hq (Hq.out.symm.trans (e.trans Hpl.out)))
              clear hq
              go_quiet ((go_at_call 12; exact flip (field_Norm _ _ (by assumption))))
              have HBn := Lib.hid (below_drewN HBu.out nq)
              generalize wr.drewN nq = wn at *
              go_wp2_with (fail)
              go_roundw
              case rel => exact ⟨1, by omega, by go_num, HBn.out, fun u' h' => by
                by_cases hu' : u' = 0
                · rw [hu', Hy.out]; rw [decide_eq_false Hqe.out]; rfl
                · exact HTu.out u' (by omega)⟩
              case measure => simp [intOf]
          · obtain ⟨y, hy⟩ : ∃ y, y = (ata LA j).2 := ⟨_, rfl⟩
            rw [← hy] at d1 uy
            have Hy := Lib.hid (show sd (ata LA j) 1 = y from hy.symm)
            have Hq := Lib.hid (show plc r k 1 = KQ + H from by unfold plc; rw [← HH.out, ← HKQ.out]; simp)
            clear hy
            by_cases hq : KQ + H = IQ + 0
            · have hb : ((KQ : Int) + (H : Int) == (IQ : Int)) = true := by rw [beq_iff_eq]; omega
              have Hqe := Lib.hid (show plc r k 1 = plc r i 0 from Hq.out.trans (hq.trans Hpl.out.symm))
              clear hq
              by_cases hN : psi (phi y) = psi (phi x)
              · have hb2 : (psi (phi y) != psi (phi x)) = false := by rw [hN]; simp
                have HN := Lib.hid hN
                clear hN
                go_quiet ((go_at_call 12; exact flip (field_Norm _ _ (by assumption))))
                have HBn := Lib.hid (below_drewN HBu.out nq)
                generalize wr.drewN nq = wn at *
                go_wp2_with (fail)
                go_roundw
                case rel => exact ⟨2, by omega, by go_num, HBn.out, fun u' h' => by
                  by_cases hu' : u' = 1
                  · rw [hu', Hy.out]; rw [HN.out]; simp
                  · exact HTu.out u' (by omega)⟩
                case measure => simp [intOf]
              · have hb2 : (psi (phi y) != psi (phi x)) = true := by simpa using hN
                have HN := Lib.hid hN
                clear hN
                go_quiet ((go_at_call 12; exact flip (field_Norm _ _ (by assumption))))
                have HBn := Lib.hid (below_two HBWX.out (below_drewN HBu.out nq))
                generalize wr.drewN nq = wn at *
                go_wp2_with (fail)
                go_ret
                refine ⟨?_, HBn.out⟩
                rw [HTB.out]
                have : tellTo o (j + r + 1) j x 0 i m = true := by
                  unfold tellTo
                  rw [List.any_eq_true]
                  refine ⟨k, List.mem_range.2 hz, ?_⟩
                  rw [List.any_eq_true]
                  refine ⟨1, List.mem_range.2 (by omega), ?_⟩
                  rw [show j + r + 1 - j - 1 = r by omega, Bool.and_eq_true]
                  refine ⟨decide_eq_true Hqe.out, decide_eq_true ?_⟩
                  rw [← HLA.out, Hy.out]
                  exact HN.out
                rw [this]; rfl
            · have hb : ((KQ : Int) + (H : Int) == (IQ : Int)) = false := by rw [beq_eq_false_iff_ne]; omega
              have Hqe := Lib.hid (show ¬ plc r k 1 = plc r i 0 from fun e => hq (Hq.out.symm.trans (e.trans Hpl.out)))
              clear hq
              go_quiet ((go_at_call 12; exact flip (field_Norm _ _ (by assumption))))
              have HBn := Lib.hid (below_drewN HBu.out nq)
              generalize wr.drewN nq = wn at *
              go_wp2_with (fail)
              go_roundw
              case rel => exact ⟨2, by omega, by go_num, HBn.out, fun u' h' => by
                by_cases hu' : u' = 1
                · rw [hu', Hy.out]; rw [decide_eq_false Hqe.out]; rfl
                · exact HTu.out u' (by omega)⟩
              case measure => simp [intOf]
        · obtain rfl : u = 2 := by omega
          have HTk := Lib.hid (show tellTo o (j + r + 1) j x 0 i (k + 1) = false from by
            unfold tellTo
            rw [List.range_succ, List.any_append, show (List.range k).any _ = false from HTo.out]
            simp only [List.any_cons, List.any_nil, Bool.or_false, Bool.false_or]
            rw [List.any_eq_false]
            intro u' hu'
            rw [show j + r + 1 - j - 1 = r by omega, ← HLA.out, HTu.out u' (List.mem_range.1 hu')]
            decide)
          have HBk := Lib.hid (below_two HBX.out HBu.out)
          go_wp2_with (fail)
          go_roundw
          case rel => exact ⟨k + 1, by omega, by go_num, HBk.out, HTk.out⟩
          case measure => simp [intOf]; omega
    · obtain rfl : k = m := by omega
      have HBe := Lib.hid (below_two H1.out HB.out)
      go_wp2_with (fail)
      go_ret
      exact ⟨by rw [HTB.out, HTo.out]; rfl, HBe.out⟩
set_option maxRecDepth 100000 in
set_option maxHeartbeats 8000000 in
theorem top_tells1 (o : Oi) (vo vl : Value) (P : List Int) (n m r j : Nat) (x : Int) (i : Nat) (w : World) (ho : IsO w vo o) (hF : OForm n m o) (hm : m ≤ 4) (hl : RowI w vl P) (hPl : P.length = m) (hP : ∀ i, i < m → at0 P i = (i : Int))
    (hr : n = j + r + 1) (hn : n ≤ 3) (hx : U64 x) (hi : i < m) :
    Calls Tryd.prog 13 #[vo, vl, .int .i64 (j : Int), .int .u64 x, .int .i64 1, .int .i64 (i : Int)] w fun e w' => e = .returned (.bool (tellsB o n m j x 1 i)) ∧ Below w.heap.size w w' := by
  obtain ⟨hF1, hF2, hF3⟩ := hF
  have HF3 := Lib.hid hF3
  obtain ⟨ur, uk, rfl, hvv, h1, h2⟩ := ho
  have HR := Lib.hid h1; have HK := Lib.hid h2
  obtain ⟨_, _, a1, c1, rfl, _⟩ := h1
  obtain ⟨_, a2, c2, rfl, hrk⟩ := h2
  obtain ⟨_, _, al, cl, rfl, hcl⟩ := hl
  have Hcl := Lib.hid hcl; have HPa := Lib.hid hP; have Hrk := Lib.hid hrk
  obtain ⟨V, hV⟩ : ∃ V, V = o.value := ⟨_, rfl⟩
  rw [← hV]
  rw [hF1, hF2, hPl]
  rw [hPl] at Hcl
  rw [hF2] at Hrk
  have HTB := Lib.hid (show tellsB o n m j x 1 i = tellTo o n j x 1 i m from rfl)
  clear hF1 hF2 hF3 hV hcl hP hPl hrk hvv
  obtain ⟨W, hW, k0, k1, k2, B1, s1⟩ := copied3' w (.slice a1 n c1) (.int .u64 V) (.slice a2 m c2) 26
  have H1 := Lib.hid B1
  have KO := Lib.hid (show ∀ X, Below W.heap.size W X → X.cell? ⟨w.heap.size, 0, none⟩ = some (.slice a1 n c1) ∧ X.cell? ⟨w.heap.size, 2, none⟩ = some (.slice a2 m c2) from fun X hX => ⟨(hX.cell (p := ⟨w.heap.size, 0, none⟩) (show w.heap.size < W.heap.size by omega)).trans k0, (hX.cell (p := ⟨w.heap.size, 2, none⟩) (show w.heap.size < W.heap.size by omega)).trans k2⟩)
  subst hr
  obtain ⟨H, hH⟩ : ∃ H, H = 2 ^ r := ⟨_, rfl⟩
  have HH := Lib.hid hH
  have hr2 : r ≤ 2 := by omega
  have hH4 : 1 ≤ H ∧ H ≤ 4 := by rw [hH]; have := Nat.pow_le_pow_right (show 1 ≤ 2 by decide) hr2; exact ⟨Nat.pow_pos (by decide), by omega⟩
  have HwH := Lib.hid (show wrap64 (2 ^ (j + r + 1 - j - 1)) = (H : Int) by
    rw [show j + r + 1 - j - 1 = r by omega]
    have e : (2 : Int) ^ r = ((2 ^ r : Nat) : Int) := by simp
    rw [e, ← hH]; unfold wrap64; omega)
  clear hH B1 k1
  have HH0 := Lib.hid (show ((H : Int) == 0) = false by rw [beq_eq_false_iff_ne]; omega)
  have HIl := Lib.hid (tl_mod i hH4)
  obtain ⟨IQ, hIQ⟩ : ∃ IQ, IQ = i % H := ⟨_, rfl⟩
  rw [← hIQ] at HIl
  have hIl := HIl.out
  have HRI := Lib.hid (show Int.tmod (i : Int) (H : Int) = (IQ : Int) by rw [hIQ]; exact (Int.ofNat_tmod i H).symm)
  have Hpl := Lib.hid (show plc r i 1 = IQ + H by unfold plc; rw [← HH.out, hIQ]; simp)
  clear hIQ
  go_enter Tryd.func13, Tryd.ntmps13
  go_wp2_with (fail)
  (try rw [hW]); rw [HwH.out]
  clear hW k0 k2 s1
  go_loopw [29] (fun kv wr => ∃ k : Nat, k ≤ m ∧ kv = .int .i64 (k : Int) ∧ Hid (Below W.heap.size W wr) ∧ Hid (tellTo o (j + r + 1) j x 1 i k = false)) (fun kv _ => m - (intOf kv).toNat)
  case atStart => exact ⟨0, by omega, rfl, Below.refl _ _, rfl⟩
  case round =>
    obtain ⟨k, hk, rfl, HB, HTo⟩ := hrel
    by_cases hz : k < m
    · have hk1 : (k : Int) < (m : Int) := by omega
      have HBw := Lib.hid (below_two H1.out HB.out)
      obtain ⟨b, off, rfl, hblt, hcell⟩ := Hrk.out (by omega)
      obtain ⟨u, u2, hu, hu2, hA, hBB⟩ := hcell k hz
      have c1 := (HBw.out.cell (p := ⟨b, off + k * 2, none⟩) hblt).trans hu
      have c2 := (HBw.out.cell (p := ⟨b, off + k * 2 + 1, none⟩) hblt).trans hu2
      obtain ⟨hpl, -, -⟩ := HF3.out k hz
      obtain ⟨_, a3, c3, rfl, hA3⟩ := id hA
      obtain ⟨_, a4, c4, rfl, _⟩ := hBB
      obtain ⟨LA, hLA⟩ : ∃ LA, LA = (atk o.looks k).pairs := ⟨_, rfl⟩
      obtain ⟨LB, hLB⟩ : ∃ LB, LB = (atk o.looks k).paths.length := ⟨_, rfl⟩
      rw [← hLA] at c1 hA3 hpl
      rw [← hLB] at c2
      have HLA := Lib.hid hLA
      obtain ⟨b3, off3, rfl, hb3, hc3⟩ := hA3 (by omega)
      have HC3 := Lib.hid (hc3 j (by omega))
      rw [hpl] at c1
      obtain ⟨bl, ol, rfl, hbl, hcl⟩ := Hcl.out (by omega)
      have HCk := Lib.hid (hcl k hz)
      have HCi := Lib.hid (hcl i hi)
      rw [HPa.out k hz] at HCk
      rw [HPa.out i hi] at HCi
      clear hcell hu hu2 hA hLA hLB hA3 hc3 hpl hcl
      go_upto_region 6 with (fail)
      obtain ⟨X1, hX1, k0, -, B1, s1⟩ := copied2' wr (.slice (some ⟨b3, off3, none⟩) (j + r + 1) c3) (.slice a4 LB c4) 43
      rw [hX1]
      have HBX := Lib.hid (below_two HB.out B1)
      have HBWX := Lib.hid (below_two HBw.out B1)
      obtain ⟨kb, hkb⟩ : ∃ kb, kb = wr.heap.size := ⟨_, rfl⟩
      rw [← hkb] at k0 ⊢
      have Hkb := Lib.hid (show ∀ X, Below X1.heap.size X1 X → X.cell? ⟨kb, 0, none⟩ = some (.slice (some ⟨b3, off3, none⟩) (j + r + 1) c3) from fun X hX => (hX.cell (p := ⟨kb, 0, none⟩) (by show kb < _; omega)).trans k0)
      clear hX1 B1 s1 k0 hkb c1 c2
      have HKl := Lib.hid (tl_mod k hH4)
      obtain ⟨KQ, hKQ⟩ : ∃ KQ, KQ = k % H := ⟨_, rfl⟩
      rw [← hKQ] at HKl
      have hKl := HKl.out
      have HRK := Lib.hid (show Int.tmod (k : Int) (H : Int) = (KQ : Int) by rw [hKQ]; exact (Int.ofNat_tmod k H).symm)
      have HKQ := Lib.hid hKQ
      clear hKQ
      go_wp2_with (fail)
      go_loopw [34] (fun uv wx => ∃ u : Nat, u ≤ 2 ∧ uv = .int .i64 (u : Int) ∧ Hid (Below X1.heap.size X1 wx) ∧ Hid (∀ u', u' < u → (decide (plc r k u' = plc r i 1) && decide (psi (phi (sd (ata LA j) u')) ≠ psi (phi x))) = false)) (fun uv _ => 2 - (intOf uv).toNat)
      case atStart => exact ⟨0, by omega, rfl, Below.refl _ _, fun u' h => absurd h (by omega)⟩
      case round =>
        obtain ⟨u, hu, rfl, HBu, HTu⟩ := hrel
        by_cases hzu : u < 2
        · have hu1 : (u : Int) < 2 := by omega
          have HBB := Lib.hid (below_two HBWX.out HBu.out)
          have d0 := (HBB.out.cell (p := ⟨b3, off3 + j * 2, none⟩) hb3).trans HC3.out.2.1
          have d1 := (HBB.out.cell (p := ⟨b3, off3 + j * 2 + 1, none⟩) hb3).trans HC3.out.2.2
          have e0 := (HBB.out.cell (p := ⟨bl, ol + k, none⟩) hbl).trans HCk.out
          have e1 := (HBB.out.cell (p := ⟨bl, ol + i, none⟩) hbl).trans HCi.out
          have f0 := Hkb.out _ HBu.out
          have ux := HC3.out.1.1
          have uy := HC3.out.1.2
          have hri := HRI.out; have hh0 := HH0.out; have hrk := HRK.out
          -- ROUND
          have u01 : u = 0 ∨ u = 1 := by omega
          clear hzu hu1
          go_upto_region 9 with (fail)
          rcases u01 with rfl | rfl
          · obtain ⟨y, hy⟩ : ∃ y, y = (ata LA j).1 := ⟨_, rfl⟩
            rw [← hy] at d0 ux
            have Hy := Lib.hid (show sd (ata LA j) 0 = y from hy.symm)
            have Hq := Lib.hid (show plc r k 0 = KQ + 0 from by unfold plc; rw [← HH.out, ← HKQ.out]; simp)
            clear hy
            by_cases hq : KQ + 0 = IQ + H
            · have hb : ((KQ : Int) == (IQ : Int) + (H : Int)) = true := by rw [beq_iff_eq]; omega
              have Hqe := Lib.hid (show plc r k 0 = plc r i 1 from Hq.out.trans (hq.trans Hpl.out.symm))
              clear hq
              by_cases hN : psi (phi y) = psi (phi x)
              · have hb2 : (psi (phi y) != psi (phi x)) = false := by rw [hN]; simp
                have HN := Lib.hid hN
                clear hN
                go_quiet ((go_at_call 12; exact flip (field_Norm _ _ (by assumption))))
                have HBn := Lib.hid (below_drewN HBu.out nq)
                generalize wr.drewN nq = wn at *
                go_wp2_with (fail)
                go_roundw
                case rel => exact ⟨1, by omega, by go_num, HBn.out, fun u' h' => by
                  by_cases hu' : u' = 0
                  · rw [hu', Hy.out]; rw [HN.out]; simp
                  · exact HTu.out u' (by omega)⟩
                case measure => simp [intOf]
              · have hb2 : (psi (phi y) != psi (phi x)) = true := by simpa using hN
                have HN := Lib.hid hN
                clear hN
                go_quiet ((go_at_call 12; exact flip (field_Norm _ _ (by assumption))))
                have HBn := Lib.hid (below_two HBWX.out (below_drewN HBu.out nq))
                generalize wr.drewN nq = wn at *
                go_wp2_with (fail)
                go_ret
                refine ⟨?_, HBn.out⟩
                rw [HTB.out]
                have : tellTo o (j + r + 1) j x 1 i m = true := by
                  unfold tellTo
                  rw [List.any_eq_true]
                  refine ⟨k, List.mem_range.2 hz, ?_⟩
                  rw [List.any_eq_true]
                  refine ⟨0, List.mem_range.2 (by omega), ?_⟩
                  rw [show j + r + 1 - j - 1 = r by omega, Bool.and_eq_true]
                  refine ⟨decide_eq_true Hqe.out, decide_eq_true ?_⟩
                  rw [← HLA.out, Hy.out]
                  exact HN.out
                rw [this]; rfl
            · have hb : ((KQ : Int) == (IQ : Int) + (H : Int)) = false := by rw [beq_eq_false_iff_ne]; omega
              have Hqe := Lib.hid (show ¬ plc r k 0 = plc r i 1 from fun e => hq (Hq.out.symm.trans (e.trans Hpl.out)))
              clear hq
              go_quiet ((go_at_call 12; exact flip (field_Norm _ _ (by assumption))))
              have HBn := Lib.hid (below_drewN HBu.out nq)
              generalize wr.drewN nq = wn at *
              go_wp2_with (fail)
              go_roundw
              case rel => exact ⟨1, by omega, by go_num, HBn.out, fun u' h' => by
                by_cases hu' : u' = 0
                · rw [hu', Hy.out]; rw [decide_eq_false Hqe.out]; rfl
                · exact HTu.out u' (by omega)⟩
              case measure => simp [intOf]
          · obtain ⟨y, hy⟩ : ∃ y, y = (ata LA j).2 := ⟨_, rfl⟩
            rw [← hy] at d1 uy
            have Hy := Lib.hid (show sd (ata LA j) 1 = y from hy.symm)
            have Hq := Lib.hid (show plc r k 1 = KQ + H from by unfold plc; rw [← HH.out, ← HKQ.out]; simp)
            clear hy
            by_cases hq : KQ + H = IQ + H
            · have hb : ((KQ : Int) + (H : Int) == (IQ : Int) + (H : Int)) = true := by rw [beq_iff_eq]; omega
              have Hqe := Lib.hid (show plc r k 1 = plc r i 1 from Hq.out.trans (hq.trans Hpl.out.symm))
              clear hq
              by_cases hN : psi (phi y) = psi (phi x)
              · have hb2 : (psi (phi y) != psi (phi x)) = false := by rw [hN]; simp
                have HN := Lib.hid hN
                clear hN
                go_quiet ((go_at_call 12; exact flip (field_Norm _ _ (by assumption))))
                have HBn := Lib.hid (below_drewN HBu.out nq)
                generalize wr.drewN nq = wn at *
                go_wp2_with (fail)
                go_roundw
                case rel => exact ⟨2, by omega, by go_num, HBn.out, fun u' h' => by
                  by_cases hu' : u' = 1
                  · rw [hu', Hy.out]; rw [HN.out]; simp
                  · exact HTu.out u' (by omega)⟩
                case measure => simp [intOf]
              · have hb2 : (psi (phi y) != psi (phi x)) = true := by simpa using hN
                have HN := Lib.hid hN
                clear hN
                go_quiet ((go_at_call 12; exact flip (field_Norm _ _ (by assumption))))
                have HBn := Lib.hid (below_two HBWX.out (below_drewN HBu.out nq))
                generalize wr.drewN nq = wn at *
                go_wp2_with (fail)
                go_ret
                refine ⟨?_, HBn.out⟩
                rw [HTB.out]
                have : tellTo o (j + r + 1) j x 1 i m = true := by
                  unfold tellTo
                  rw [List.any_eq_true]
                  refine ⟨k, List.mem_range.2 hz, ?_⟩
                  rw [List.any_eq_true]
                  refine ⟨1, List.mem_range.2 (by omega), ?_⟩
                  rw [show j + r + 1 - j - 1 = r by omega, Bool.and_eq_true]
                  refine ⟨decide_eq_true Hqe.out, decide_eq_true ?_⟩
                  rw [← HLA.out, Hy.out]
                  exact HN.out
                rw [this]; rfl
            · have hb : ((KQ : Int) + (H : Int) == (IQ : Int) + (H : Int)) = false := by rw [beq_eq_false_iff_ne]; omega
              have Hqe := Lib.hid (show ¬ plc r k 1 = plc r i 1 from fun e => hq (Hq.out.symm.trans (e.trans Hpl.out)))
              clear hq
              go_quiet ((go_at_call 12; exact flip (field_Norm _ _ (by assumption))))
              have HBn := Lib.hid (below_drewN HBu.out nq)
              generalize wr.drewN nq = wn at *
              go_wp2_with (fail)
              go_roundw
              case rel => exact ⟨2, by omega, by go_num, HBn.out, fun u' h' => by
                by_cases hu' : u' = 1
                · rw [hu', Hy.out]; rw [decide_eq_false Hqe.out]; rfl
                · exact HTu.out u' (by omega)⟩
              case measure => simp [intOf]
        · obtain rfl : u = 2 := by omega
          have HTk := Lib.hid (show tellTo o (j + r + 1) j x 1 i (k + 1) = false from by
            unfold tellTo
            rw [List.range_succ, List.any_append, show (List.range k).any _ = false from HTo.out]
            simp only [List.any_cons, List.any_nil, Bool.or_false, Bool.false_or]
            rw [List.any_eq_false]
            intro u' hu'
            rw [show j + r + 1 - j - 1 = r by omega, ← HLA.out, HTu.out u' (List.mem_range.1 hu')]
            decide)
          have HBk := Lib.hid (below_two HBX.out HBu.out)
          go_wp2_with (fail)
          go_roundw
          case rel => exact ⟨k + 1, by omega, by go_num, HBk.out, HTk.out⟩
          case measure => simp [intOf]; omega
    · obtain rfl : k = m := by omega
      have HBe := Lib.hid (below_two H1.out HB.out)
      go_wp2_with (fail)
      go_ret
      exact ⟨by rw [HTB.out, HTo.out]; rfl, HBe.out⟩
end Go.Proofs.YtfgoidaldgfklaaDoor
