/- The walk of the reference's Looked. No condition. -/
import Derived.Test.YtokggifjcbkmnaaDoorOpenLookW
import Derived.Test.YtokggifjcbkmnaaDoorRTree
namespace Go.Proofs.YtokggifjcbkmnaaDoor
set_option maxRecDepth 100000
set_option linter.unusedVariables false
open Go.RowKit Tally
theorem ret_tb {b : Bool} {x y : Int} (h : x = y) : Ending.returned (.tuple #[.bool b, .int .i64 x]) = .returned (.tuple #[.bool b, .int .i64 y]) := by rw [h]
theorem ret_tb2 {a b : Bool} {x y : Int} (h1 : a = b) (h : x = y) : Ending.returned (.tuple #[.bool a, .int .i64 x]) = .returned (.tuple #[.bool b, .int .i64 y]) := by rw [h, h1]
theorem ref_ClimbF (n : Nat) (p : List Int) (i : Nat) (x : Int) (v : Value) (w : World) (hp : RowU w v p) (hc : CapOk v) (hl : p.length = n) (h8 : n ≤ 8) (hi : i < 2 ^ n) (hx : U64 x) :
    Calls Tryd.prog 38 #[.int .i64 i, .int .u64 x, v] w fun e w' => e = .returned (.int .u64 (psi (climbF x p i))) ∧ Below w.heap.size w w' := by
  have h := ref_Climb n p i x v w hp hc hl h8 hi hx
  have e := climb_eq pairF (phi x) (p.map phi) n i (by rw [List.length_map, hl]; exact Nat.le_refl _) hi
  rw [List.take_of_length_le (by rw [List.length_map, hl]; exact Nat.le_refl _)] at e
  rw [← e] at h
  exact h
set_option maxRecDepth 100000 in
set_option maxHeartbeats 2000000 in
theorem ref_Looked_n (root : Int) (pt places : List Int) (o : Oi) (vt vp vo : Value) (w : World) (ht : RowU w vt pt) (hp : RowI w vp places) (ho : IsO w vo o) (hn : pt.length < 1 ∨ 8 < pt.length) :
    Calls Tryd.prog 22 #[.int .u64 root, vt, vp, vo] w fun e w' => e = .returned (.tuple #[.bool false, .int .i64 1]) ∧ Below w.heap.size w w' := by
  obtain ⟨-, -, at', ct, rfl, -⟩ := ht
  obtain ⟨-, -, ap, cp, rfl, -⟩ := hp
  obtain ⟨ur, uk, rfl, -, -, -⟩ := ho
  have hb : (decide (1 ≤ (pt.length : Int)) && decide ((pt.length : Int) ≤ 8)) = false := by
    rw [← Bool.decide_and]; exact decide_eq_false (fun e => by omega)
  clear hn
  go_enter Tryd.func22, Tryd.ntmps22
  obtain ⟨W1, hW, k0, k1, k2, B1, s1⟩ := copied3' w ur (.int .u64 o.value) uk 40
  go_wp2_with (go_at_call 35; (with_reducible refine (ref_InO _ _ _ _).mono ?_); rintro e w' ⟨rfl, rfl⟩; rw [hb])
  go_ret2
  exact ⟨rfl, B1⟩
theorem stepB_iff {root : Int} {pt : List Int} {o : Oi} {x : Lk} {p k a M q h : Nat} (hM : pt.length = M) (ha : M = k + a + 1) (hq : q = p % 2 ^ a) (hh : h = 2 ^ a) :
    stepB root pt o x p k = true ↔ (climbF (ata x.pairs k).1 (atb x.paths k).1 q = phi (rootI root o k) ∧ climbF (ata x.pairs k).2 (atb x.paths k).2 (q + h) = phi (rootI root o k) ∧ btw (phi (ata x.pairs k).1) (phi (ata x.pairs k).2) (phi (at0 pt k)) = phi (nextI o x M p k)) := by
  rw [stepB_eq (N1 := a + 1) hM ha rfl hq]
  unfold standB
  rw [Bool.and_eq_true, Bool.and_eq_true, decide_eq_true_eq, decide_eq_true_eq, decide_eq_true_eq, hh, Nat.add_sub_cancel, and_assoc]

set_option maxRecDepth 100000 in
set_option maxHeartbeats 16000000 in
theorem ref_Looked_m (root : Int) (hr : U64 root) (pt places : List Int) (o : Oi) (vt vp vo : Value) (w : World) (ht : RowU w vt pt) (hp : RowI w vp places) (ho : IsO w vo o) (m : Nat) (h7 : m ≤ 7) (hpl : pt.length = m + 1) (E : Int) (hE : E = openE (m + 1) places o) (LB RB : Bool) (hLB : LB = lookB root pt places o) (hRB : RB = (decide (E = 0) && LB)) :
    Calls Tryd.prog 22 #[.int .u64 root, vt, vp, vo] w fun e w' => e = .returned (.tuple #[.bool RB, .int .i64 E]) ∧ Below w.heap.size w w' := by
  have Hpl := Lib.hid hpl; have Hp := Lib.hid hp
  have E1 := Lib.hid (show wrongB places ((2 ^ m : Nat) : Int) = true → E = 1 from fun h => hE.trans (openE_wrong h7 h))
  have E2 := Lib.hid (show wrongB places ((2 ^ m : Nat) : Int) = false → ¬ OForm (m + 1) places.length o → E = 4 from fun h h2 => hE.trans (openE_form h7 h h2))
  have E3 := Lib.hid (show wrongB places ((2 ^ m : Nat) : Int) = false → OForm (m + 1) places.length o → E = 0 from fun h h2 => hE.trans (openE_ok h7 h h2))
  have HWr := Lib.hid (show wrongB places ((2 ^ m : Nat) : Int) = false → ∀ i, i < places.length → ∃ p : Nat, at0 places i = (p : Int) ∧ p < 256 ∧ (at0 places i).toNat = p from fun h i hi => by
    have q2 := (pow_le8 (n := m) (by omega)).2
    unfold wrongB at h
    simp only [Bool.or_eq_false_iff, Bool.not_eq_false'] at h
    obtain ⟨h1, h2⟩ := placesB_at h.2 hi
    exact ⟨(at0 places i).toNat, by omega, by omega, rfl⟩)
  have HL := Lib.hid (show LB = true ↔ (pairF (phi o.value) 0 = phi (at0 o.roots m) ∧ looksB root pt places o places.length = true) by rw [hLB]; unfold lookB; rw [hpl, Nat.add_sub_cancel, Bool.and_eq_true, decide_eq_true_eq])
  have CPl := ref_Places places m h7 vp
  have HR0 := Lib.hid (show E = 0 → RB = LB from fun h => by rw [hRB, decide_eq_true h, Bool.true_and])
  have HR1 := Lib.hid (show E ≠ 0 → RB = false from fun h => by rw [hRB, decide_eq_false h, Bool.false_and])
  clear hE hLB hRB
  have hM8 : m + 1 ≤ 8 := by omega
  obtain ⟨hut, -, at', ct, rfl, htr⟩ := ht
  obtain ⟨-, hplen, ap, cp, rfl, hpr⟩ := hp
  obtain ⟨ur, uk, rfl, uv, hrr, hkk⟩ := ho
  obtain ⟨urr, hrl, ar, cr, rfl, hrc⟩ := hrr
  obtain ⟨hkl, ak, ck, rfl, hkc⟩ := hkk
  obtain ⟨bt, ot, rfl, hbt, htc⟩ := htr (by omega)
  have Hpr := Lib.hid hpr; have Hrc := Lib.hid hrc; have Hkc := Lib.hid hkc; have Htc := Lib.hid htc; have Hut := Lib.hid hut; have Hurr := Lib.hid urr
  have hb : (decide (1 ≤ ((m + 1 : Nat) : Int)) && decide (((m + 1 : Nat) : Int) ≤ 8)) = true := by
    rw [← Bool.decide_and]; exact decide_eq_true (by omega)
  have CPh := Lib.hid (fun (X : World) (hX : Below w.heap.size w X) => CPl X (Hp.out.go hX))
  have sM : IntKind.i64.wrap (((m + 1 : Nat) : Int) - 1) = (m : Int) := by rw [IntWalk.i64_in _ (by omega)]; omega
  clear htr hpr hrc hkc htc hut urr CPl
  rw [hpl]
  obtain ⟨M, hM⟩ : ∃ M : Nat, M = m + 1 := ⟨_, rfl⟩
  have hM1 : 1 ≤ M := by omega
  have hmM : m < M := by omega
  have HM := Lib.hid hM
  rw [← hM] at E2 E3 hb CPh sM hM8 Hpl ⊢
  clear hM hpl h7
  obtain ⟨h0, hh0⟩ : ∃ h0 : Int, h0 = ((2 ^ m : Nat) : Int) := ⟨_, rfl⟩
  rw [← hh0] at E1 E2 E3 HWr CPh
  clear hh0
  obtain ⟨W1, hW, k0, k1, k2, B1, s1⟩ := copied3' w (.slice ar o.roots.length cr) (.int .u64 o.value) (.slice ak o.looks.length ck) 40
  have H1 := Lib.hid B1
  obtain ⟨tb, htb⟩ : ∃ tb, tb = w.heap.size := ⟨_, rfl⟩
  have HX1 := Lib.hid (show Boxed3 tb (.slice ar o.roots.length cr) (.int .u64 o.value) (.slice ak o.looks.length ck) W1 from by rw [htb]; exact ⟨k0, k1, k2, by omega⟩)
  clear B1 s1 k0 k1 k2
  go_enter Tryd.func22, Tryd.ntmps22
  go_wp2_with (go_at_call 35; (with_reducible refine (ref_InO _ _ _ _).mono ?_); rintro e w' ⟨rfl, rfl⟩; rw [hb])
  rw [← htb]
  clear hb htb
  refine (CPh.out W1 H1.out).mono ?_
  rintro e w2 ⟨rfl, hd2⟩
  have H2 := Lib.hid (below_two H1.out hd2.below)
  have HX2 := Lib.hid (HX1.out.go hd2.below)
  clear hW hd2 CPh
  obtain ⟨wb, hwb⟩ : ∃ wb, wb = wrongB places h0 := ⟨_, rfl⟩
  rw [← hwb] at E1 E2 E3 HWr ⊢
  clear hwb
  have c0 := HX2.out.c0; have c1 := HX2.out.c1; have c2 := HX2.out.c2
  cases wb with
  | true =>
    have e1 := Lib.hid (E1.out (by first | rfl | trivial))
    clear E1 E2 E3 HL
    go_wp2
    go_ret2
    exact ⟨ret_tb2 (HR1.out (by rw [e1.out]; decide)).symm e1.out.symm, H2.out⟩
  | false =>
    have E2' := Lib.hid (E2.out (by first | rfl | trivial))
    have E3' := Lib.hid (E3.out (by first | rfl | trivial))
    have HP := Lib.hid (HWr.out (by first | rfl | trivial))
    clear E1 E2 E3 HWr
    by_cases hlen : o.roots.length = M ∧ o.looks.length = places.length
    · obtain ⟨hl1, hl2⟩ := hlen
      rw [hl1] at c0 HX2; rw [hl2] at c2 HX2
      have HL1 := Lib.hid hl1; have HL2 := Lib.hid hl2
      clear HX1 hl1 hl2 hrl hkl
      have bM : ((M : Int) == (M : Int)) = true := by simp
      go_wp2_with (fail)
      clear c0 c1 c2
      go_loopw [11, 12] (fun bv iv wr => ∃ (i : Nat) (b : Bool), i ≤ places.length ∧ iv = .int .i64 (i : Int) ∧ bv = .bool b ∧ Hid (b = true → ∀ j, j < i → lkForm M (atk o.looks j)) ∧ Hid (b = false → ¬ OForm M places.length o) ∧ Hid (Below w2.heap.size w2 wr)) (fun bv iv _ => places.length - (intOf iv).toNat)
      case atStart => exact ⟨0, true, by omega, rfl, rfl, fun _ j hj => by omega, (by first | exact True.intro | exact (fun h => Bool.noConfusion h)), Below.refl _ _⟩
      case round =>
        obtain ⟨i, b, hi, rfl, rfl, HF, HNF, HB⟩ := hrel
        have Hbr := Lib.hid (below_two H2.out HB.out)
        have HXr := Lib.hid (HX2.out.go HB.out)
        have c0 := HXr.out.c0; have c1 := HXr.out.c1; have c2 := HXr.out.c2
        by_cases hz : i < places.length
        · have hi1 : (i : Int) < (places.length : Int) := by omega
          cases b with
          | false =>
            have e4 := Lib.hid (E2'.out (HNF.out (by first | rfl | trivial)))
            clear HL
            go_wp2
            go_ret2
            exact ⟨ret_tb2 (HR1.out (by rw [e4.out]; decide)).symm e4.out.symm, Hbr.out⟩
          | true =>
            obtain ⟨b2, off, rfl, hblt, hcell⟩ := Hkc.out (by rw [HL2.out]; omega)
            obtain ⟨va, vb, d0, d1, hA, hB⟩ := hcell i (by rw [HL2.out]; exact hz)
            obtain ⟨-, aA, cA, rfl, -⟩ := hA
            obtain ⟨-, aB, cB, rfl, hBr⟩ := hB
            have HBr := Lib.hid hBr
            have e0 := (Hbr.out.cell (p := ⟨b2, off + i * 2, none⟩) hblt).trans d0
            have e1 := (Hbr.out.cell (p := ⟨b2, off + i * 2 + 1, none⟩) hblt).trans d1
            obtain ⟨L, hL⟩ : ∃ L, L = atk o.looks i := ⟨_, rfl⟩
            have HLk := Lib.hid hL
            rw [← hL] at e0 e1 HBr
            clear hcell d0 d1 hBr hL
            have hno : Hid (¬ lkForm M L → ¬ OForm M places.length o) := fun hn hf => hn (by rw [HLk.out]; exact hf.2.2 i hz)
            have hblr : b2 < wr.heap.size := Nat.lt_of_lt_of_le hblt Hbr.out.size
            have HLc := Lib.hid (show ∀ X, Below wr.heap.size wr X → X.cell? ⟨tb, 2, none⟩ = some (.slice (some ⟨b2, off, none⟩) places.length ck) ∧ X.cell? ⟨b2, off + i * 2 + 1, none⟩ = some (.slice aB L.paths.length cB) from fun X hX =>
              ⟨(HXr.out.go hX).c2, (hX.cell (p := ⟨b2, off + i * 2 + 1, none⟩) hblr).trans e1⟩)
            obtain ⟨wv, hwv⟩ : ∃ x : World, x = wr := ⟨_, rfl⟩
            subst hwv
            by_cases hl3 : L.pairs.length = M
            · have b3 : ((L.pairs.length : Int) == (M : Int)) = true := by rw [beq_iff_eq]; exact congrArg _ hl3
              by_cases hl4 : L.paths.length = M
              · have b4 : ((L.paths.length : Int) == (M : Int)) = true := by rw [beq_iff_eq]; exact congrArg _ hl4
                have Hl3 := Lib.hid hl3; have Hl4 := Lib.hid hl4
                clear hl3 hl4
                go_wp2_with (fail)
                clear e0 e1 c0 c1 c2
                go_loopw [11, 13] (fun bv kv wr => ∃ (k : Nat) (b : Bool), k ≤ M ∧ kv = .int .i64 (k : Int) ∧ bv = .bool b ∧ Hid (b = true → ∀ j, j < k → (atb L.paths j).1.length = M - j ∧ (atb L.paths j).2.length = M - j) ∧ Hid (b = false → ¬ lkForm M L) ∧ Hid (Below wv.heap.size wv wr)) (fun bv kv _ => M - (intOf kv).toNat)
                case atStart => exact ⟨0, true, by omega, rfl, rfl, fun _ j hj => by omega, (by first | exact True.intro | exact (fun h => Bool.noConfusion h)), Below.refl _ _⟩
                case round =>
                  obtain ⟨k, b, hk, rfl, rfl, HJ, HNJ, HBk⟩ := hrel
                  have HBw := Lib.hid (below_two HB.out HBk.out)
                  have Hbk := Lib.hid (below_two Hbr.out HBk.out)
                  by_cases hzk : k < M
                  · have hk1 : (k : Int) < (M : Int) := by omega
                    cases b with
                    | false =>
                      have HNF2 := Lib.hid (hno.out (HNJ.out (by first | rfl | trivial)))
                      go_wp2
                      go_roundw
                      case rel => exact ⟨i + 1, false, by omega, by go_num, rfl, (by first | exact True.intro | exact (fun h => Bool.noConfusion h)), fun _ => HNF2.out, HBw.out⟩
                      case measure => simp [intOf]; omega
                    | true =>
                      obtain ⟨f2, f3⟩ := HLc.out wr HBk.out
                      obtain ⟨b3', off3, rfl, hblt3, hcell3⟩ := HBr.out (by rw [Hl4.out]; omega)
                      obtain ⟨v1, v2, g0, g1, ⟨hr1, -⟩, hr2, -⟩ := hcell3 k (by rw [Hl4.out]; exact hzk)
                      obtain ⟨-, -, a1, c1', rfl, -⟩ := hr1
                      obtain ⟨-, -, a2, c2', rfl, -⟩ := hr2
                      have g0' := (Hbk.out.cell (p := ⟨b3', off3 + k * 2, none⟩) hblt3).trans g0
                      have g1' := (Hbk.out.cell (p := ⟨b3', off3 + k * 2 + 1, none⟩) hblt3).trans g1
                      have hsub : IntKind.i64.wrap ((M : Int) - (k : Int)) = ((M - k : Nat) : Int) := by rw [IntWalk.i64_in _ (by omega)]; omega
                      rw [Hl4.out] at f3
                      obtain ⟨l1, hl1⟩ : ∃ l1, l1 = (atb L.paths k).1.length := ⟨_, rfl⟩
                      obtain ⟨l2, hl2⟩ : ∃ l2, l2 = (atb L.paths k).2.length := ⟨_, rfl⟩
                      rw [← hl1] at g0'; rw [← hl2] at g1'
                      have Hq1 := Lib.hid hl1; have Hq2 := Lib.hid hl2
                      clear hcell3 g0 g1 hl1 hl2
                      obtain ⟨W4, hW4, p0, p1, B4, s4⟩ := copied2' wr (.slice a1 l1 c1') (.slice a2 l2 c2') 66
                      have HB4 := Lib.hid (below_two HBk.out B4)
                      by_cases hm1 : l1 = M - k
                      · have b5 : ((l1 : Int) == ((M - k : Nat) : Int)) = true := by rw [beq_iff_eq]; exact congrArg _ hm1
                        by_cases hm2 : l2 = M - k
                        · have b6 : ((l2 : Int) == ((M - k : Nat) : Int)) = true := by rw [beq_iff_eq]; exact congrArg _ hm2
                          have HJ2 := Lib.hid (show ∀ j, j < k + 1 → (atb L.paths j).1.length = M - j ∧ (atb L.paths j).2.length = M - j from fun j hj => by
                            by_cases e : j < k
                            · exact HJ.out (by first | rfl | trivial) j e
                            · obtain rfl : j = k := by omega
                              exact ⟨by rw [← Hq1.out]; exact hm1, by rw [← Hq2.out]; exact hm2⟩)
                          clear hm1 hm2
                          go_wp2
                          go_roundw
                          case rel => exact ⟨k + 1, true, by omega, by go_num, rfl, fun _ => HJ2.out, (by first | exact True.intro | exact (fun h => Bool.noConfusion h)), HB4.out⟩
                          case measure => simp [intOf]; omega
                        · have b6 : ((l2 : Int) == ((M - k : Nat) : Int)) = false := by rw [beq_eq_false_iff_ne]; exact fun e => hm2 (Int.ofNat_inj.mp e)
                          have HN2 := Lib.hid (show ¬ lkForm M L from fun hf => hm2 (by rw [Hq2.out]; exact (hf.2.2 k hzk).2))
                          clear hm1 hm2
                          go_wp2
                          go_roundw
                          case rel => exact ⟨k + 1, false, by omega, by go_num, rfl, (by first | exact True.intro | exact (fun h => Bool.noConfusion h)), fun _ => HN2.out, HB4.out⟩
                          case measure => simp [intOf]; omega
                      · have b5 : ((l1 : Int) == ((M - k : Nat) : Int)) = false := by rw [beq_eq_false_iff_ne]; exact fun e => hm1 (Int.ofNat_inj.mp e)
                        have HN2 := Lib.hid (show ¬ lkForm M L from fun hf => hm1 (by rw [Hq1.out]; exact (hf.2.2 k hzk).1))
                        clear hm1
                        go_wp2
                        go_roundw
                        case rel => exact ⟨k + 1, false, by omega, by go_num, rfl, (by first | exact True.intro | exact (fun h => Bool.noConfusion h)), fun _ => HN2.out, HB4.out⟩
                        case measure => simp [intOf]; omega
                  · obtain rfl : k = M := by omega
                    have HF2 := Lib.hid (show b = true → ∀ j, j < i + 1 → lkForm k (atk o.looks j) from fun hb j hj => by
                      by_cases e : j < i
                      · exact HF.out (by first | rfl | trivial) j e
                      · obtain rfl : j = i := by omega
                        rw [← HLk.out]
                        exact ⟨Hl3.out, Hl4.out, HJ.out hb⟩)
                    have HNF2 := Lib.hid (show b = false → ¬ OForm k places.length o from fun hb => hno.out (HNJ.out hb))
                    go_wp2
                    go_roundw
                    case rel => exact ⟨i + 1, b, by omega, by go_num, rfl, HF2.out, HNF2.out, HBw.out⟩
                    case measure => simp [intOf]; omega
              · have b4 : ((L.paths.length : Int) == (M : Int)) = false := by rw [beq_eq_false_iff_ne]; exact fun e => hl4 (Int.ofNat_inj.mp e)
                have HN2 := Lib.hid (hno.out (fun hf => hl4 hf.2.1))
                clear hl3 hl4
                go_wp2_with (fail)
                clear e0 e1 c0 c1 c2
                have hM0 : (0 : Int) < (M : Int) := by omega
                go_loopw [11, 13] (fun bv kv wr => kv = .int .i64 0 ∧ bv = .bool false ∧ Hid (Below wv.heap.size wv wr)) (fun bv kv _ => 0)
                case atStart => exact ⟨rfl, rfl, Below.refl _ _⟩
                case round =>
                  obtain ⟨rfl, rfl, HBk⟩ := hrel
                  have HBw := Lib.hid (below_two HB.out HBk.out)
                  go_wp2
                  go_roundw
                  case rel => exact ⟨i + 1, false, by omega, by go_num, rfl, (by first | exact True.intro | exact (fun h => Bool.noConfusion h)), fun _ => HN2.out, HBw.out⟩
                  case measure => simp [intOf]; omega
            · have b3 : ((L.pairs.length : Int) == (M : Int)) = false := by rw [beq_eq_false_iff_ne]; exact fun e => hl3 (Int.ofNat_inj.mp e)
              have HN2 := Lib.hid (hno.out (fun hf => hl3 hf.1))
              clear hl3
              go_wp2_with (fail)
              clear e0 e1 c0 c1 c2
              have hM0 : (0 : Int) < (M : Int) := by omega
              go_loopw [11, 13] (fun bv kv wr => kv = .int .i64 0 ∧ bv = .bool false ∧ Hid (Below wv.heap.size wv wr)) (fun bv kv _ => 0)
              case atStart => exact ⟨rfl, rfl, Below.refl _ _⟩
              case round =>
                obtain ⟨rfl, rfl, HBk⟩ := hrel
                have HBw := Lib.hid (below_two HB.out HBk.out)
                go_wp2
                go_roundw
                case rel => exact ⟨i + 1, false, by omega, by go_num, rfl, (by first | exact True.intro | exact (fun h => Bool.noConfusion h)), fun _ => HN2.out, HBw.out⟩
                case measure => simp [intOf]; omega
        · have hi1 : ¬ (i : Int) < (places.length : Int) := by omega
          obtain rfl : i = places.length := by omega
          cases b with
          | false =>
            have e4 := Lib.hid (E2'.out (HNF.out (by first | rfl | trivial)))
            clear HL
            go_wp2
            go_ret2
            exact ⟨ret_tb2 (HR1.out (by rw [e4.out]; decide)).symm e4.out.symm, Hbr.out⟩
          | true =>
            have HOK := Lib.hid (show OForm M places.length o from ⟨HL1.out, HL2.out, HF.out (by first | rfl | trivial)⟩)
            have e0 := Lib.hid (E3'.out HOK.out)
            obtain ⟨br, or', har, hbr, hrc⟩ := Hrc.out (by rw [HL1.out]; omega)
            subst har
            have cR := (Hbr.out.cell (p := ⟨br, or' + m, none⟩) hbr).trans (hrc m (by rw [HL1.out]; exact hmM))
            have uR := Hurr.out _ (at0_mem (show m < o.roots.length by rw [HL1.out]; exact hmM))
            obtain ⟨R, hR⟩ : ∃ R, R = at0 o.roots m := ⟨_, rfl⟩
            obtain ⟨A, hA⟩ : ∃ A, A = pairF (phi o.value) (phi 0) := ⟨_, rfl⟩
            have hA0 : pairF (phi o.value) 0 = A := by rw [hA, phi_zero]
            rw [hA0, ← hR] at HL
            rw [← hR] at cR uR
            have CPr := Lib.hid (fun Z => show Calls Tryd.prog 37 #[.int .u64 o.value, .int .u64 0] Z fun e w' => e = .returned (.int .u64 (psi A)) ∧ Below Z.heap.size Z w' from by rw [hA]; exact rsponge_Pair _ _ Z uv U64.zero)
            have HRc := Lib.hid hrc
            have HRB := Lib.hid (HR0.out e0.out)
            have hmMi : (m : Int) < (M : Int) := by omega
            have KK := Lib.hid (show ∀ X, Below wr.heap.size wr X → Below wr.heap.size wr X ∧ X.cell? ⟨tb, 0, none⟩ = some (.slice (some ⟨br, or', none⟩) M cr) ∧ X.cell? ⟨tb, 1, none⟩ = some (.int .u64 o.value) ∧ X.cell? ⟨br, or' + m, none⟩ = some (.int .u64 R) from fun X hX =>
              ⟨hX, (HXr.out.go hX).c0, (HXr.out.go hX).c1, (hX.cell (p := ⟨br, or' + m, none⟩) (Nat.lt_of_lt_of_le hbr Hbr.out.size)).trans cR⟩)
            clear hrc hR hA hA0
            have hdw := Lib.hid (below_dwO wr)
            obtain ⟨be, hbe⟩ : ∃ be, be = (psi (phi R) != psi A) := ⟨_, rfl⟩
            have HBE := Lib.hid (show be = false → A = phi R from fun h => by
              by_cases e : A = phi R
              · exact e
              · rw [hbe, psiO_nne (fun e' => e e'.symm)] at h; cases h)
            have HBE2 := Lib.hid (show be = true → ¬ A = phi R from fun h e => by rw [hbe, psiO_nee e.symm] at h; cases h)
            have hbe' := hbe.symm
            clear hbe
            cases be with
            | true =>
              have HNo := Lib.hid (show RB = false by
                rw [HRB.out, Bool.eq_false_iff]
                exact fun e => HBE2.out rfl (HL.out.mp e).1)
              clear HL HBE HBE2 HRB
              go_wp2_with (fail)
              clear c0 c1 c2 cR
              go_region_held3 (fun w' => Below wr.heap.size wr w' ∧ w'.cell? ⟨tb, 0, none⟩ = some (.slice (some ⟨br, or', none⟩) M cr) ∧ w'.cell? ⟨tb, 1, none⟩ = some (.int .u64 o.value) ∧ w'.cell? ⟨br, or' + m, none⟩ = some (.int .u64 R))
                (first
                  | exact KK.out _ hdw.out
                  | exact KK.out _ hbB)
                (first
                  | (go_at_call 36; (with_reducible refine (ref_Norm _ _ uR).mono ?_); rintro e wn ⟨rfl, rfl⟩)
                  | (go_at_call 37; (with_reducible refine (CPr.out wr.drew).mono ?_); rintro e w5 ⟨rfl, hb5⟩; have hbB := below_two hdw.out hb5))
              have H5 := Lib.hid (below_two Hbr.out hbB)
              clear hb5 hbB
              go_wp2
              go_ret2
              exact ⟨ret_tb2 HNo.out.symm e0.out.symm, H5.out⟩
            | false =>
              have HAR := Lib.hid (HBE.out rfl)
              have HRBi := Lib.hid (show looksB root pt places o places.length = true → RB = true from fun h => by rw [HRB.out]; exact HL.out.mpr ⟨HAR.out, h⟩)
              have HRBn := Lib.hid (show looksB root pt places o places.length = false → RB = false from fun h => by
                rw [HRB.out, Bool.eq_false_iff]
                exact fun e => by rw [(HL.out.mp e).2] at h; cases h)
              clear HL HBE HBE2 HRB HAR
              go_wp2_with (fail)
              clear c0 c1 c2 cR
              go_region_held3 (fun w' => Below wr.heap.size wr w' ∧ w'.cell? ⟨tb, 0, none⟩ = some (.slice (some ⟨br, or', none⟩) M cr) ∧ w'.cell? ⟨tb, 1, none⟩ = some (.int .u64 o.value) ∧ w'.cell? ⟨br, or' + m, none⟩ = some (.int .u64 R))
                (first
                  | exact KK.out _ hdw.out
                  | exact KK.out _ hbB)
                (first
                  | (go_at_call 36; (with_reducible refine (ref_Norm _ _ uR).mono ?_); rintro e wn ⟨rfl, rfl⟩)
                  | (go_at_call 37; (with_reducible refine (CPr.out wr.drew).mono ?_); rintro e w5 ⟨rfl, hb5⟩; have hbB := below_two hdw.out hb5))
              have H5 := Lib.hid (below_two Hbr.out hbB)
              have HX5 := Lib.hid (HXr.out.go hbB)
              clear hb5 hbB hbe' KK
              go_wp2_with (fail)
              go_loopw [15] (fun iv wr => ∃ i : Nat, i ≤ places.length ∧ iv = .int .i64 (i : Int) ∧ Hid (looksB root pt places o i = true) ∧ Hid (Below w5.heap.size w5 wr)) (fun iv _ => places.length - (intOf iv).toNat)
              case atStart => exact ⟨0, by omega, rfl, rfl, Below.refl _ _⟩
              case round =>
                obtain ⟨i, hi, rfl, HS, HB5⟩ := hrel
                have Hbr5 := Lib.hid (below_two H5.out HB5.out)
                by_cases hz : i < places.length
                · have hi1 : (i : Int) < (places.length : Int) := by omega
                  obtain ⟨p, hp1, hp2, hp3⟩ := HP.out i hz
                  obtain ⟨bp, op, har, hbp, hpc⟩ := Hpr.out (by omega)
                  subst har
                  have hpc1 := hpc i hz
                  rw [hp1] at hpc1
                  obtain ⟨b2, off, har, hb2, hkc⟩ := Hkc.out (by rw [HL2.out]; omega)
                  subst har
                  obtain ⟨va, vb, d0, d1, hA, hB⟩ := hkc i (by rw [HL2.out]; exact hz)
                  obtain ⟨hX1, hX2, hX3⟩ := HOK.out.2.2 i hz
                  obtain ⟨X, hX⟩ : ∃ X, X = atk o.looks i := ⟨_, rfl⟩
                  rw [← hX] at hA hB hX1 hX2 hX3
                  have HXl := Lib.hid hX3
                  obtain ⟨-, aA, cA, rfl, hAc⟩ := hA
                  obtain ⟨-, aB, cB, rfl, hBc⟩ := hB
                  obtain ⟨ba, oa, har, hba, hac⟩ := hAc (by omega)
                  subst har
                  obtain ⟨bb, ob, har, hbb, hbc⟩ := hBc (by omega)
                  subst har
                  have hi0 : o.roots.length = M := HL1.out
                  have KU := Lib.hid (show ∀ j, j < M → U64 (at0 pt j) ∧ U64 (at0 o.roots j) ∧ U64 (ata X.pairs j).1 ∧ U64 (ata X.pairs j).2 from fun j hj =>
                    ⟨Hut.out _ (at0_mem (by rw [Hpl.out]; exact hj)), Hurr.out _ (at0_mem (by rw [hi0]; exact hj)), (hac j (by omega)).1⟩)
                  have KC := Lib.hid (show ∀ Z, Below w.heap.size w Z → ∀ j, j < M → Z.cell? ⟨bt, ot + j, none⟩ = some (.int .u64 (at0 pt j)) ∧ Z.cell? ⟨br, or' + j, none⟩ = some (.int .u64 (at0 o.roots j)) ∧ Z.cell? ⟨ba, oa + j * 2, none⟩ = some (.int .u64 (ata X.pairs j).1) ∧ Z.cell? ⟨ba, oa + j * 2 + 1, none⟩ = some (.int .u64 (ata X.pairs j).2) from fun Z hZ j hj =>
                    ⟨(hZ.cell (p := ⟨bt, ot + j, none⟩) hbt).trans (Htc.out j (by rw [Hpl.out]; exact hj)), (hZ.cell (p := ⟨br, or' + j, none⟩) hbr).trans (HRc.out j (by rw [hi0]; exact hj)), (hZ.cell (p := ⟨ba, oa + j * 2, none⟩) hba).trans (hac j (by omega)).2.1, (hZ.cell (p := ⟨ba, oa + j * 2 + 1, none⟩) hba).trans (hac j (by omega)).2.2⟩)
                  have KP := Lib.hid (show ∀ j, j < M → ∃ v1 v2, (CapOk v1 ∧ CapOk v2) ∧ ∀ Z, Below w.heap.size w Z → Z.cell? ⟨bb, ob + j * 2, none⟩ = some v1 ∧ Z.cell? ⟨bb, ob + j * 2 + 1, none⟩ = some v2 ∧ RowU Z v1 (atb X.paths j).1 ∧ RowU Z v2 (atb X.paths j).2 from fun j hj => by
                    obtain ⟨v1, v2, c1, c2, ⟨r1, k1⟩, r2, k2⟩ := hbc j (by omega)
                    exact ⟨v1, v2, ⟨k1, k2⟩, fun Z hZ => ⟨(hZ.cell (p := ⟨bb, ob + j * 2, none⟩) hbb).trans c1, (hZ.cell (p := ⟨bb, ob + j * 2 + 1, none⟩) hbb).trans c2, r1.go hZ, r2.go hZ⟩⟩)
                  rw [hX1] at d0; rw [hX2] at d1
                  have KX := Lib.hid (show ∀ Z, Below w5.heap.size w5 Z → Z.cell? ⟨tb, 0, none⟩ = some (.slice (some ⟨br, or', none⟩) M cr) ∧ Z.cell? ⟨tb, 1, none⟩ = some (.int .u64 o.value) ∧ Z.cell? ⟨tb, 2, none⟩ = some (.slice (some ⟨b2, off, none⟩) places.length ck) ∧ Z.cell? ⟨b2, off + i * 2, none⟩ = some (.slice (some ⟨ba, oa, none⟩) M cA) ∧ Z.cell? ⟨b2, off + i * 2 + 1, none⟩ = some (.slice (some ⟨bb, ob, none⟩) M cB) ∧ Z.cell? ⟨bp, op + i, none⟩ = some (.int .i64 (p : Int)) from fun Z hZ =>
                    ⟨(HX5.out.go hZ).c0, (HX5.out.go hZ).c1, (HX5.out.go hZ).c2, ((below_two H5.out hZ).cell (p := ⟨b2, off + i * 2, none⟩) hb2).trans d0, ((below_two H5.out hZ).cell (p := ⟨b2, off + i * 2 + 1, none⟩) hb2).trans d1, ((below_two H5.out hZ).cell (p := ⟨bp, op + i, none⟩) hbp).trans hpc1⟩)
                  have Hhb := Lib.hid (show ∀ b, holdB root pt o X p M = b → holdB root pt o (atk o.looks i) (at0 places i).toNat pt.length = b from fun b h => by rw [hp3, ← hX, Hpl.out]; exact h)
                  clear hpc hpc1 hkc d0 d1 hAc hBc hac hbc hX1 hX2 hX3 hp1 hp3 hX hi0
                  obtain ⟨wv, hwv⟩ : ∃ x : World, x = wr := ⟨_, rfl⟩
                  subst hwv
                  go_wp2_with (fail)
                  go_loopw [16] (fun kv wr => ∃ k : Nat, k ≤ M ∧ kv = .int .i64 (k : Int) ∧ Hid (holdB root pt o X p k = true) ∧ Hid (Below wv.heap.size wv wr)) (fun kv _ => M - (intOf kv).toNat)
                  case atStart => exact ⟨0, by omega, rfl, rfl, Below.refl _ _⟩
                  case round =>
                    obtain ⟨k, hk, rfl, HH, HBk⟩ := hrel
                    have HB6 := Lib.hid (below_two HB5.out HBk.out)
                    have HW6 := Lib.hid (below_two Hbr5.out HBk.out)
                    by_cases hzk : k < M
                    · obtain ⟨a, ha⟩ : ∃ a, M = k + a + 1 := ⟨M - k - 1, by omega⟩
                      have Ha := Lib.hid ha
                      obtain ⟨v1, v2, ⟨hv1, hv2⟩, hpc⟩ := KP.out k hzk
                      have HPC := Lib.hid hpc
                      have hk1 : (k : Int) < (M : Int) := by omega
                      have hk9 : k < 8 := by omega
                      obtain ⟨N1, hN⟩ : ∃ N1, N1 = a + 1 := ⟨_, rfl⟩
                      obtain ⟨h, hh⟩ : ∃ h, h = 2 ^ a := ⟨_, rfl⟩
                      have Hh := Lib.hid hh
                      have hh256 : h ≤ 256 := by rw [hh]; exact (pow_le8 (n := a) (by omega)).2
                      have hh1 : 1 ≤ h := by rw [hh]; exact (pow_le8 (n := a) (by omega)).1
                      obtain ⟨q2, hq2⟩ : ∃ q2, q2 = p % h := ⟨_, rfl⟩
                      have hq2h : q2 < h := by rw [hq2]; exact Nat.mod_lt _ hh1
                      have Hq2 := Lib.hid (show q2 = p % 2 ^ a by rw [hq2, hh])
                      have hrem : Int.tmod (p : Int) (h : Int) = (q2 : Int) := by rw [hq2]; exact (Int.ofNat_tmod p h).symm
                      have hh0 : ((h : Int) == 0) = false := by rw [beq_eq_false_iff_ne]; omega
                      have hh0' : (h : Int) ≠ 0 := by omega
                      have sNk : IntKind.i64.wrap ((M : Int) - (k : Int)) = (N1 : Int) := by rw [IntWalk.i64_in _ (by omega)]; omega
                      have sA : IntKind.i64.wrap ((N1 : Int) - 1) = (a : Int) := by rw [IntWalk.i64_in _ (by omega)]; omega
                      have hmin : min a 64 = a := by omega
                      have hN1 : (N1 : Int) ≤ 8 := by omega
                      have HSI := Lib.hid (@stepB_iff root pt o X p k a M q2 h Hpl.out ha Hq2.out hh)
                      have HPW := Lib.hid (show wrap64 (2 ^ a) = (h : Int) by rw [hh]; exact pow_wrap8 (by omega))
                      obtain ⟨qh, hqh⟩ : ∃ qh, qh = q2 + h := ⟨_, rfl⟩
                      have hsum : IntKind.i64.wrap ((q2 : Int) + (h : Int)) = (qh : Int) := by rw [IntWalk.i64_in _ (by omega)]; omega
                      have hqh5 : qh < 512 := by omega
                      have hk2w : IntKind.i64.wrap (2 * (q2 : Int)) = 2 * (q2 : Int) := IntWalk.i64_in _ (by omega)
                      have hlt1 : q2 < 2 ^ N1 := by rw [hN, Nat.pow_succ, ← hh]; omega
                      have hlt2 : qh < 2 ^ N1 := by rw [hN, Nat.pow_succ, ← hh]; omega
                      obtain ⟨uT, uR', uX, uY⟩ := KU.out k hzk
                      obtain ⟨C1, hC1⟩ : ∃ C1, C1 = climbF (ata X.pairs k).1 (atb X.paths k).1 q2 := ⟨_, rfl⟩
                      obtain ⟨C2, hC2⟩ : ∃ C2, C2 = climbF (ata X.pairs k).2 (atb X.paths k).2 qh := ⟨_, rfl⟩
                      obtain ⟨Xa, hXa⟩ : ∃ Xa, Xa = (ata X.pairs k).1 := ⟨_, rfl⟩
                      obtain ⟨Ya, hYa⟩ : ∃ Ya, Ya = (ata X.pairs k).2 := ⟨_, rfl⟩
                      have hlen := HXl.out k hzk
                      have CC1 := Lib.hid (fun Z (hZ : Below w.heap.size w Z) => show Calls Tryd.prog 38 #[.int .i64 (q2 : Int), .int .u64 Xa, v1] Z fun e w' => e = .returned (.int .u64 (psi C1)) ∧ Below Z.heap.size Z w' from by
                        rw [hXa, hC1]; exact ref_ClimbF N1 _ q2 _ v1 Z (HPC.out Z hZ).2.2.1 hv1 (by omega) (by omega) hlt1 uX)
                      have CC2 := Lib.hid (fun Z (hZ : Below w.heap.size w Z) => show Calls Tryd.prog 38 #[.int .i64 (qh : Int), .int .u64 Ya, v2] Z fun e w' => e = .returned (.int .u64 (psi C2)) ∧ Below Z.heap.size Z w' from by
                        rw [hYa, hC2]; exact ref_ClimbF N1 _ qh _ v2 Z (HPC.out Z hZ).2.2.2 hv2 (by omega) (by omega) hlt2 uY)
                      rw [← hqh, ← hC1, ← hC2, ← hXa, ← hYa] at HSI
                      rw [← hXa] at uX; rw [← hYa] at uY
                      have HXY := Lib.hid (And.intro hXa hYa)
                      have HNo0 := Lib.hid (show stepB root pt o X p k = false → RB = false from fun hs => HRBn.out (looksB_false hz (Hhb.out false (holdB_false hzk hs))))
                      have HYes0 := Lib.hid (show stepB root pt o X p k = true → holdB root pt o X p (k + 1) = true from fun hs => by rw [holdB_succ, HH.out, hs]; rfl)
                      have hkk := KX.out wr HB6.out
                      obtain ⟨t0, t1, t2, x0, x1, cp1⟩ := hkk
                      obtain ⟨W7, hW7, p0, p1, B7, s7⟩ := copied2' wr (.slice (some ⟨ba, oa, none⟩) M cA) (.slice (some ⟨bb, ob, none⟩) M cB) 64
                      obtain ⟨xb, hxb⟩ : ∃ xb, xb = wr.heap.size := ⟨_, rfl⟩
                      have hxl : xb < W7.heap.size := by omega
                      rw [← hxb] at p0 p1
                      have hxb' : wr.heap.size = xb := hxb.symm
                      have HB7 := Lib.hid (below_two HB6.out B7)
                      have HV7 := Lib.hid (below_two HBk.out B7)
                      obtain ⟨T, hT⟩ : ∃ T, T = at0 pt k := ⟨_, rfl⟩
                      rw [← hT] at HSI uT
                      have HTk := Lib.hid hT
                      have HW7 := Lib.hid (below_two HW6.out B7)
                      have KY := Lib.hid (show ∀ Z, Below W7.heap.size W7 Z → Z.cell? ⟨xb, 0, none⟩ = some (.slice (some ⟨ba, oa, none⟩) M cA) ∧ Z.cell? ⟨xb, 1, none⟩ = some (.slice (some ⟨bb, ob, none⟩) M cB) ∧ Z.cell? ⟨ba, oa + k * 2, none⟩ = some (.int .u64 Xa) ∧ Z.cell? ⟨ba, oa + k * 2 + 1, none⟩ = some (.int .u64 Ya) ∧ Z.cell? ⟨bb, ob + k * 2, none⟩ = some v1 ∧ Z.cell? ⟨bb, ob + k * 2 + 1, none⟩ = some v2 from fun Z hZ => by
                        obtain ⟨-, -, y2, y3⟩ := KC.out Z (below_two HW7.out hZ) k hzk
                        obtain ⟨z2, z3, -, -⟩ := HPC.out Z (below_two HW7.out hZ)
                        exact ⟨(hZ.cell (p := ⟨xb, 0, none⟩) hxl).trans p0, (hZ.cell (p := ⟨xb, 1, none⟩) hxl).trans p1, by rw [hXa]; exact y2, by rw [hYa]; exact y3, z2, z3⟩)
                      obtain ⟨c0, c1, c2, c3, -, -⟩ := KY.out W7 (Below.refl _ _)
                      have hM0 : (0 : Int) ≤ (k : Int) := by omega
                      clear hT hpc ha hN hh hq2 hqh hC1 hC2 hXa hYa hlt1 hlt2 hxb s7 p0 p1 hlen hv1 hv2 uR'
                      by_cases hk0 : 0 < k
                      · obtain ⟨kp, hkp⟩ : ∃ kp, k = kp + 1 := ⟨k - 1, by omega⟩
                        have dk : decide ((0 : Int) < (k : Int)) = true := decide_eq_true (by omega)
                        have skp : IntKind.i64.wrap ((k : Int) - 1) = (kp : Int) := by rw [IntWalk.i64_in _ (by omega)]; omega
                        have hkpM : (kp : Int) < (M : Int) := by omega
                        have hkp0 : (0 : Int) ≤ (kp : Int) := by omega
                        obtain ⟨-, y1, -, -⟩ := KC.out wr HW6.out kp (by omega)
                        obtain ⟨-, urv, -, -⟩ := KU.out kp (by omega)
                        obtain ⟨rv, hrv⟩ : ∃ rv, rv = at0 o.roots kp := ⟨_, rfl⟩
                        have hri : rootI root o k = rv := by rw [hrv, hkp]; rfl
                        rw [hri] at HSI
                        rw [← hrv] at y1 urv
                        clear hkp hrv hri
                        go_upto_region 25 with fail
                        rw [HPW.out]
                        clear HPW hmin
                        go_wp2_with (fail)
                        clear dk skp hkpM hkp0 y1 hk0
                        clear hrem hh0 hh0' sNk sA hW7 t0 t1 t2 x0 x1 cp1
                        go_quiet (fail)
                        have hq7 := below_drewN (Below.refl W7.heap.size W7) nq
                        have HBq := Lib.hid (below_two HB7.out hq7)
                        have HWq := Lib.hid (below_two HW7.out hq7)
                        have HVq := Lib.hid (below_two HV7.out hq7)
                        have KZ := Lib.hid (fun Z (hZ : Below (W7.drewN nq).heap.size (W7.drewN nq) Z) => KY.out Z (below_two hq7 hZ))
                        clear c0 c1 c2 c3 hq7
                        generalize W7.drewN nq = w8 at *
                        obtain ⟨c0, c1, -, -, c4, c5⟩ := KZ.out w8 (Below.refl _ _)
                        go_wp2_with (fail)
                        with_reducible refine (CC1.out w8 HWq.out).mono ?_
                        rintro e w9 ⟨rfl, hb9⟩
                        have HB9 := Lib.hid (below_two HBq.out hb9)
                        have HW9 := Lib.hid (below_two HWq.out hb9)
                        have HV9 := Lib.hid (below_two HVq.out hb9)
                        have KZ9 := Lib.hid (fun Z (hZ : Below w9.heap.size w9 Z) => KZ.out Z (below_two hb9 hZ))
                        clear c0 c1 c4 c5 hb9
                        obtain ⟨c0, c1, -, -, c4, c5⟩ := KZ9.out w9 (Below.refl _ _)
                        by_cases hA : C1 = phi rv
                        · have bA := psiO_nee hA
                          have HA := Lib.hid hA
                          clear hA
                          go_wp2_with ((go_at_call 36; (with_reducible refine (ref_Norm _ _ (by first | assumption | exact U64.psi _ | exact U64.zero | exact U64.one | exact U64.mk (by decide) (by decide))).mono ?_); rintro e w' ⟨rfl, rfl⟩))
                          with_reducible refine (CC2.out w9 HW9.out).mono ?_
                          rintro e w10 ⟨rfl, hb10⟩
                          have HB10 := Lib.hid (below_two HB9.out hb10)
                          have HW10 := Lib.hid (below_two HW9.out hb10)
                          have HV10 := Lib.hid (below_two HV9.out hb10)
                          obtain ⟨e0c, -, -, -, -, -⟩ := KZ9.out w10 hb10
                          clear c0 c1 c4 c5 hb10 bA
                          obtain ⟨-, t1, -, -, -, -⟩ := KX.out w10 HB10.out
                          obtain ⟨cT, -, -, -⟩ := KC.out w10 HW10.out k hzk
                          rw [← HTk.out] at cT
                          by_cases hB : C2 = phi rv
                          · have bB := psiO_nee hB
                            have HBb := Lib.hid hB
                            clear hB
                            by_cases hk2 : k + 1 < M
                            · have d1 : decide ((k : Int) + 1 < (M : Int)) = true := decide_eq_true (by omega)
                              have hk3 : (k : Int) + 1 < (M : Int) := by omega
                              obtain ⟨-, -, uX2, uY2⟩ := KU.out (k + 1) hk2
                              obtain ⟨-, -, z0, z1⟩ := KC.out w10 HW10.out (k + 1) hk2
                              have ht1 : ((k : Int) + 1).toNat = k + 1 := by omega
                              by_cases hhi : h ≤ 2 * q2
                              · have d2 : decide ((h : Int) ≤ 2 * (q2 : Int)) = true := decide_eq_true (by omega)
                                have hge : (h : Int) ≤ 2 * (q2 : Int) := by omega
                                obtain ⟨nx, hnx⟩ : ∃ nx, nx = (ata X.pairs (k + 1)).2 := ⟨_, rfl⟩
                                have HNX := Lib.hid ((nextI_hi (o := o) (x := X) (p := p) Ha.out hk2 (by rw [← Hq2.out, ← Hh.out]; exact hhi)).trans hnx.symm)
                                rw [← hnx] at z1 uY2
                                have uN := uY2
                                clear uY2 hnx hhi
                                go_wp2_with ((go_at_call 36; (with_reducible refine (ref_Norm _ _ (by first | assumption | exact U64.psi _ | exact U64.zero | exact U64.one | exact U64.mk (by decide) (by decide))).mono ?_); rintro e w' ⟨rfl, rfl⟩))
                                clear d1 d2 hge z0 z1 t1 e0c ht1 bB
                                rw [HNX.out] at HSI
                                by_cases hE : btw (phi Xa) (phi Ya) (phi T) = phi nx
                                · have bE : (psi (phi Xa + phi (psi (phi T * phi (psi (phi Ya - phi Xa))))) != psi (phi nx)) = false := by
                                    rw [phi_psi, phi_psi]; exact psiO_nee (show phi Xa + phi T * (phi Ya - phi Xa) = phi nx from hE)
                                  have HYes := Lib.hid (HYes0.out (HSI.out.mpr ⟨HA.out, HBb.out, hE⟩))
                                  clear hE HSI
                                  go_quiet (first | (go_at_call 39; exact flip (ref_Add _ _ _ (by first | assumption | exact U64.psi _ | exact U64.zero | exact U64.one | exact U64.mk (by decide) (by decide)) (by first | assumption | exact U64.psi _ | exact U64.zero | exact U64.one | exact U64.mk (by decide) (by decide)))) | (go_at_call 40; exact flip (ref_Mul _ _ _ (by first | assumption | exact U64.psi _ | exact U64.zero | exact U64.one | exact U64.mk (by decide) (by decide)) (by first | assumption | exact U64.psi _ | exact U64.zero | exact U64.one | exact U64.mk (by decide) (by decide)))) | (go_at_call 41; exact flip (ref_Sub _ _ _ (by first | assumption | exact U64.psi _ | exact U64.zero | exact U64.one | exact U64.mk (by decide) (by decide)) (by first | assumption | exact U64.psi _ | exact U64.zero | exact U64.one | exact U64.mk (by decide) (by decide)))) | (go_at_call 36; exact flip (ref_Norm _ _ uN)))
                                  have HV11 := Lib.hid (below_two HV10.out (below_drewN (Below.refl w10.heap.size w10) nq))
                                  clear cT bE
                                  generalize w10.drewN nq = w11 at *
                                  go_wp2
                                  go_roundw
                                  case rel => exact ⟨k + 1, by omega, by go_num, HYes.out, HV11.out⟩
                                  case measure => simp [intOf]; omega
                                · have bE : (psi (phi Xa + phi (psi (phi T * phi (psi (phi Ya - phi Xa))))) != psi (phi nx)) = true := by
                                    rw [phi_psi, phi_psi]; exact psiO_nne (show ¬ phi Xa + phi T * (phi Ya - phi Xa) = phi nx from hE)
                                  have HNo := Lib.hid (HNo0.out (Bool.eq_false_iff.mpr fun e => hE (HSI.out.mp e).2.2))
                                  clear hE HSI
                                  go_quiet (first | (go_at_call 39; exact flip (ref_Add _ _ _ (by first | assumption | exact U64.psi _ | exact U64.zero | exact U64.one | exact U64.mk (by decide) (by decide)) (by first | assumption | exact U64.psi _ | exact U64.zero | exact U64.one | exact U64.mk (by decide) (by decide)))) | (go_at_call 40; exact flip (ref_Mul _ _ _ (by first | assumption | exact U64.psi _ | exact U64.zero | exact U64.one | exact U64.mk (by decide) (by decide)) (by first | assumption | exact U64.psi _ | exact U64.zero | exact U64.one | exact U64.mk (by decide) (by decide)))) | (go_at_call 41; exact flip (ref_Sub _ _ _ (by first | assumption | exact U64.psi _ | exact U64.zero | exact U64.one | exact U64.mk (by decide) (by decide)) (by first | assumption | exact U64.psi _ | exact U64.zero | exact U64.one | exact U64.mk (by decide) (by decide)))) | (go_at_call 36; exact flip (ref_Norm _ _ uN)))
                                  have HW11 := Lib.hid (below_two HW10.out (below_drewN (Below.refl w10.heap.size w10) nq))
                                  clear cT bE
                                  generalize w10.drewN nq = w11 at *
                                  go_wp2
                                  go_ret2
                                  exact ⟨ret_tb2 HNo.out.symm e0.out.symm, HW11.out⟩
                              · have d2 : decide ((h : Int) ≤ 2 * (q2 : Int)) = false := decide_eq_false (by omega)
                                have hge : ¬ (h : Int) ≤ 2 * (q2 : Int) := by omega
                                obtain ⟨nx, hnx⟩ : ∃ nx, nx = (ata X.pairs (k + 1)).1 := ⟨_, rfl⟩
                                have HNX := Lib.hid ((nextI_lo (o := o) (x := X) (p := p) Ha.out hk2 (by rw [← Hq2.out, ← Hh.out]; exact hhi)).trans hnx.symm)
                                rw [← hnx] at z0 uX2
                                have uN := uX2
                                clear uX2 hnx hhi
                                go_wp2_with ((go_at_call 36; (with_reducible refine (ref_Norm _ _ (by first | assumption | exact U64.psi _ | exact U64.zero | exact U64.one | exact U64.mk (by decide) (by decide))).mono ?_); rintro e w' ⟨rfl, rfl⟩))
                                clear d1 d2 hge z0 z1 t1 e0c ht1 bB
                                rw [HNX.out] at HSI
                                by_cases hE : btw (phi Xa) (phi Ya) (phi T) = phi nx
                                · have bE : (psi (phi Xa + phi (psi (phi T * phi (psi (phi Ya - phi Xa))))) != psi (phi nx)) = false := by
                                    rw [phi_psi, phi_psi]; exact psiO_nee (show phi Xa + phi T * (phi Ya - phi Xa) = phi nx from hE)
                                  have HYes := Lib.hid (HYes0.out (HSI.out.mpr ⟨HA.out, HBb.out, hE⟩))
                                  clear hE HSI
                                  go_quiet (first | (go_at_call 39; exact flip (ref_Add _ _ _ (by first | assumption | exact U64.psi _ | exact U64.zero | exact U64.one | exact U64.mk (by decide) (by decide)) (by first | assumption | exact U64.psi _ | exact U64.zero | exact U64.one | exact U64.mk (by decide) (by decide)))) | (go_at_call 40; exact flip (ref_Mul _ _ _ (by first | assumption | exact U64.psi _ | exact U64.zero | exact U64.one | exact U64.mk (by decide) (by decide)) (by first | assumption | exact U64.psi _ | exact U64.zero | exact U64.one | exact U64.mk (by decide) (by decide)))) | (go_at_call 41; exact flip (ref_Sub _ _ _ (by first | assumption | exact U64.psi _ | exact U64.zero | exact U64.one | exact U64.mk (by decide) (by decide)) (by first | assumption | exact U64.psi _ | exact U64.zero | exact U64.one | exact U64.mk (by decide) (by decide)))) | (go_at_call 36; exact flip (ref_Norm _ _ uN)))
                                  have HV11 := Lib.hid (below_two HV10.out (below_drewN (Below.refl w10.heap.size w10) nq))
                                  clear cT bE
                                  generalize w10.drewN nq = w11 at *
                                  go_wp2
                                  go_roundw
                                  case rel => exact ⟨k + 1, by omega, by go_num, HYes.out, HV11.out⟩
                                  case measure => simp [intOf]; omega
                                · have bE : (psi (phi Xa + phi (psi (phi T * phi (psi (phi Ya - phi Xa))))) != psi (phi nx)) = true := by
                                    rw [phi_psi, phi_psi]; exact psiO_nne (show ¬ phi Xa + phi T * (phi Ya - phi Xa) = phi nx from hE)
                                  have HNo := Lib.hid (HNo0.out (Bool.eq_false_iff.mpr fun e => hE (HSI.out.mp e).2.2))
                                  clear hE HSI
                                  go_quiet (first | (go_at_call 39; exact flip (ref_Add _ _ _ (by first | assumption | exact U64.psi _ | exact U64.zero | exact U64.one | exact U64.mk (by decide) (by decide)) (by first | assumption | exact U64.psi _ | exact U64.zero | exact U64.one | exact U64.mk (by decide) (by decide)))) | (go_at_call 40; exact flip (ref_Mul _ _ _ (by first | assumption | exact U64.psi _ | exact U64.zero | exact U64.one | exact U64.mk (by decide) (by decide)) (by first | assumption | exact U64.psi _ | exact U64.zero | exact U64.one | exact U64.mk (by decide) (by decide)))) | (go_at_call 41; exact flip (ref_Sub _ _ _ (by first | assumption | exact U64.psi _ | exact U64.zero | exact U64.one | exact U64.mk (by decide) (by decide)) (by first | assumption | exact U64.psi _ | exact U64.zero | exact U64.one | exact U64.mk (by decide) (by decide)))) | (go_at_call 36; exact flip (ref_Norm _ _ uN)))
                                  have HW11 := Lib.hid (below_two HW10.out (below_drewN (Below.refl w10.heap.size w10) nq))
                                  clear cT bE
                                  generalize w10.drewN nq = w11 at *
                                  go_wp2
                                  go_ret2
                                  exact ⟨ret_tb2 HNo.out.symm e0.out.symm, HW11.out⟩
                            · have d1 : decide ((k : Int) + 1 < (M : Int)) = false := decide_eq_false (by omega)
                              have hk3 : ¬ (k : Int) + 1 < (M : Int) := by omega
                              obtain ⟨nx, hnx⟩ : ∃ nx, nx = o.value := ⟨_, rfl⟩
                              have HNX := Lib.hid ((nextI_end (o := o) (x := X) (p := p) hk2).trans hnx.symm)
                              have uN : U64 nx := by rw [hnx]; exact uv
                              rw [← hnx] at t1
                              clear hnx
                              go_wp2_with ((go_at_call 36; (with_reducible refine (ref_Norm _ _ (by first | assumption | exact U64.psi _ | exact U64.zero | exact U64.one | exact U64.mk (by decide) (by decide))).mono ?_); rintro e w' ⟨rfl, rfl⟩))
                              clear d1 t1 e0c bB
                              rw [HNX.out] at HSI
                              by_cases hE : btw (phi Xa) (phi Ya) (phi T) = phi nx
                              · have bE : (psi (phi Xa + phi (psi (phi T * phi (psi (phi Ya - phi Xa))))) != psi (phi nx)) = false := by
                                  rw [phi_psi, phi_psi]; exact psiO_nee (show phi Xa + phi T * (phi Ya - phi Xa) = phi nx from hE)
                                have HYes := Lib.hid (HYes0.out (HSI.out.mpr ⟨HA.out, HBb.out, hE⟩))
                                clear hE HSI
                                go_quiet (first | (go_at_call 39; exact flip (ref_Add _ _ _ (by first | assumption | exact U64.psi _ | exact U64.zero | exact U64.one | exact U64.mk (by decide) (by decide)) (by first | assumption | exact U64.psi _ | exact U64.zero | exact U64.one | exact U64.mk (by decide) (by decide)))) | (go_at_call 40; exact flip (ref_Mul _ _ _ (by first | assumption | exact U64.psi _ | exact U64.zero | exact U64.one | exact U64.mk (by decide) (by decide)) (by first | assumption | exact U64.psi _ | exact U64.zero | exact U64.one | exact U64.mk (by decide) (by decide)))) | (go_at_call 41; exact flip (ref_Sub _ _ _ (by first | assumption | exact U64.psi _ | exact U64.zero | exact U64.one | exact U64.mk (by decide) (by decide)) (by first | assumption | exact U64.psi _ | exact U64.zero | exact U64.one | exact U64.mk (by decide) (by decide)))) | (go_at_call 36; exact flip (ref_Norm _ _ uN)))
                                have HV11 := Lib.hid (below_two HV10.out (below_drewN (Below.refl w10.heap.size w10) nq))
                                clear cT bE
                                generalize w10.drewN nq = w11 at *
                                go_wp2
                                go_roundw
                                case rel => exact ⟨k + 1, by omega, by go_num, HYes.out, HV11.out⟩
                                case measure => simp [intOf]; omega
                              · have bE : (psi (phi Xa + phi (psi (phi T * phi (psi (phi Ya - phi Xa))))) != psi (phi nx)) = true := by
                                  rw [phi_psi, phi_psi]; exact psiO_nne (show ¬ phi Xa + phi T * (phi Ya - phi Xa) = phi nx from hE)
                                have HNo := Lib.hid (HNo0.out (Bool.eq_false_iff.mpr fun e => hE (HSI.out.mp e).2.2))
                                clear hE HSI
                                go_quiet (first | (go_at_call 39; exact flip (ref_Add _ _ _ (by first | assumption | exact U64.psi _ | exact U64.zero | exact U64.one | exact U64.mk (by decide) (by decide)) (by first | assumption | exact U64.psi _ | exact U64.zero | exact U64.one | exact U64.mk (by decide) (by decide)))) | (go_at_call 40; exact flip (ref_Mul _ _ _ (by first | assumption | exact U64.psi _ | exact U64.zero | exact U64.one | exact U64.mk (by decide) (by decide)) (by first | assumption | exact U64.psi _ | exact U64.zero | exact U64.one | exact U64.mk (by decide) (by decide)))) | (go_at_call 41; exact flip (ref_Sub _ _ _ (by first | assumption | exact U64.psi _ | exact U64.zero | exact U64.one | exact U64.mk (by decide) (by decide)) (by first | assumption | exact U64.psi _ | exact U64.zero | exact U64.one | exact U64.mk (by decide) (by decide)))) | (go_at_call 36; exact flip (ref_Norm _ _ uN)))
                                have HW11 := Lib.hid (below_two HW10.out (below_drewN (Below.refl w10.heap.size w10) nq))
                                clear cT bE
                                generalize w10.drewN nq = w11 at *
                                go_wp2
                                go_ret2
                                exact ⟨ret_tb2 HNo.out.symm e0.out.symm, HW11.out⟩
                          · have bB := psiO_nne hB
                            have HNo := Lib.hid (HNo0.out (Bool.eq_false_iff.mpr fun e => hB (HSI.out.mp e).2.1))
                            clear hB HSI
                            go_wp2_with ((go_at_call 36; (with_reducible refine (ref_Norm _ _ (by first | assumption | exact U64.psi _ | exact U64.zero | exact U64.one | exact U64.mk (by decide) (by decide))).mono ?_); rintro e w' ⟨rfl, rfl⟩))
                            go_ret2
                            exact ⟨ret_tb2 HNo.out.symm e0.out.symm, HW10.out⟩
                        · have bA := psiO_nne hA
                          have HNo := Lib.hid (HNo0.out (Bool.eq_false_iff.mpr fun e => hA (HSI.out.mp e).1))
                          clear hA HSI
                          go_wp2_with ((go_at_call 36; (with_reducible refine (ref_Norm _ _ (by first | assumption | exact U64.psi _ | exact U64.zero | exact U64.one | exact U64.mk (by decide) (by decide))).mono ?_); rintro e w' ⟨rfl, rfl⟩))
                          go_ret2
                          exact ⟨ret_tb2 HNo.out.symm e0.out.symm, HW9.out⟩
                      · have dk : decide ((0 : Int) < (k : Int)) = false := decide_eq_false (by omega)
                        have hri : rootI root o k = root := if_pos (by omega)
                        rw [hri] at HSI
                        clear hri
                        go_upto_region 25 with fail
                        rw [HPW.out]
                        clear HPW hmin
                        go_wp2_with (fail)
                        clear dk hk0
                        clear hrem hh0 hh0' sNk sA hW7 t0 t1 t2 x0 x1 cp1
                        go_quiet (fail)
                        have hq7 := below_drewN (Below.refl W7.heap.size W7) nq
                        have HBq := Lib.hid (below_two HB7.out hq7)
                        have HWq := Lib.hid (below_two HW7.out hq7)
                        have HVq := Lib.hid (below_two HV7.out hq7)
                        have KZ := Lib.hid (fun Z (hZ : Below (W7.drewN nq).heap.size (W7.drewN nq) Z) => KY.out Z (below_two hq7 hZ))
                        clear c0 c1 c2 c3 hq7
                        generalize W7.drewN nq = w8 at *
                        obtain ⟨c0, c1, -, -, c4, c5⟩ := KZ.out w8 (Below.refl _ _)
                        go_wp2_with (fail)
                        with_reducible refine (CC1.out w8 HWq.out).mono ?_
                        rintro e w9 ⟨rfl, hb9⟩
                        have HB9 := Lib.hid (below_two HBq.out hb9)
                        have HW9 := Lib.hid (below_two HWq.out hb9)
                        have HV9 := Lib.hid (below_two HVq.out hb9)
                        have KZ9 := Lib.hid (fun Z (hZ : Below w9.heap.size w9 Z) => KZ.out Z (below_two hb9 hZ))
                        clear c0 c1 c4 c5 hb9
                        obtain ⟨c0, c1, -, -, c4, c5⟩ := KZ9.out w9 (Below.refl _ _)
                        by_cases hA : C1 = phi root
                        · have bA := psiO_nee hA
                          have HA := Lib.hid hA
                          clear hA
                          go_wp2_with ((go_at_call 36; (with_reducible refine (ref_Norm _ _ (by first | assumption | exact U64.psi _ | exact U64.zero | exact U64.one | exact U64.mk (by decide) (by decide))).mono ?_); rintro e w' ⟨rfl, rfl⟩))
                          with_reducible refine (CC2.out w9 HW9.out).mono ?_
                          rintro e w10 ⟨rfl, hb10⟩
                          have HB10 := Lib.hid (below_two HB9.out hb10)
                          have HW10 := Lib.hid (below_two HW9.out hb10)
                          have HV10 := Lib.hid (below_two HV9.out hb10)
                          obtain ⟨e0c, -, -, -, -, -⟩ := KZ9.out w10 hb10
                          clear c0 c1 c4 c5 hb10 bA
                          obtain ⟨-, t1, -, -, -, -⟩ := KX.out w10 HB10.out
                          obtain ⟨cT, -, -, -⟩ := KC.out w10 HW10.out k hzk
                          rw [← HTk.out] at cT
                          by_cases hB : C2 = phi root
                          · have bB := psiO_nee hB
                            have HBb := Lib.hid hB
                            clear hB
                            by_cases hk2 : k + 1 < M
                            · have d1 : decide ((k : Int) + 1 < (M : Int)) = true := decide_eq_true (by omega)
                              have hk3 : (k : Int) + 1 < (M : Int) := by omega
                              obtain ⟨-, -, uX2, uY2⟩ := KU.out (k + 1) hk2
                              obtain ⟨-, -, z0, z1⟩ := KC.out w10 HW10.out (k + 1) hk2
                              have ht1 : ((k : Int) + 1).toNat = k + 1 := by omega
                              by_cases hhi : h ≤ 2 * q2
                              · have d2 : decide ((h : Int) ≤ 2 * (q2 : Int)) = true := decide_eq_true (by omega)
                                have hge : (h : Int) ≤ 2 * (q2 : Int) := by omega
                                obtain ⟨nx, hnx⟩ : ∃ nx, nx = (ata X.pairs (k + 1)).2 := ⟨_, rfl⟩
                                have HNX := Lib.hid ((nextI_hi (o := o) (x := X) (p := p) Ha.out hk2 (by rw [← Hq2.out, ← Hh.out]; exact hhi)).trans hnx.symm)
                                rw [← hnx] at z1 uY2
                                have uN := uY2
                                clear uY2 hnx hhi
                                go_wp2_with ((go_at_call 36; (with_reducible refine (ref_Norm _ _ (by first | assumption | exact U64.psi _ | exact U64.zero | exact U64.one | exact U64.mk (by decide) (by decide))).mono ?_); rintro e w' ⟨rfl, rfl⟩))
                                clear d1 d2 hge z0 z1 t1 e0c ht1 bB
                                rw [HNX.out] at HSI
                                by_cases hE : btw (phi Xa) (phi Ya) (phi T) = phi nx
                                · have bE : (psi (phi Xa + phi (psi (phi T * phi (psi (phi Ya - phi Xa))))) != psi (phi nx)) = false := by
                                    rw [phi_psi, phi_psi]; exact psiO_nee (show phi Xa + phi T * (phi Ya - phi Xa) = phi nx from hE)
                                  have HYes := Lib.hid (HYes0.out (HSI.out.mpr ⟨HA.out, HBb.out, hE⟩))
                                  clear hE HSI
                                  go_quiet (first | (go_at_call 39; exact flip (ref_Add _ _ _ (by first | assumption | exact U64.psi _ | exact U64.zero | exact U64.one | exact U64.mk (by decide) (by decide)) (by first | assumption | exact U64.psi _ | exact U64.zero | exact U64.one | exact U64.mk (by decide) (by decide)))) | (go_at_call 40; exact flip (ref_Mul _ _ _ (by first | assumption | exact U64.psi _ | exact U64.zero | exact U64.one | exact U64.mk (by decide) (by decide)) (by first | assumption | exact U64.psi _ | exact U64.zero | exact U64.one | exact U64.mk (by decide) (by decide)))) | (go_at_call 41; exact flip (ref_Sub _ _ _ (by first | assumption | exact U64.psi _ | exact U64.zero | exact U64.one | exact U64.mk (by decide) (by decide)) (by first | assumption | exact U64.psi _ | exact U64.zero | exact U64.one | exact U64.mk (by decide) (by decide)))) | (go_at_call 36; exact flip (ref_Norm _ _ uN)))
                                  have HV11 := Lib.hid (below_two HV10.out (below_drewN (Below.refl w10.heap.size w10) nq))
                                  clear cT bE
                                  generalize w10.drewN nq = w11 at *
                                  go_wp2
                                  go_roundw
                                  case rel => exact ⟨k + 1, by omega, by go_num, HYes.out, HV11.out⟩
                                  case measure => simp [intOf]; omega
                                · have bE : (psi (phi Xa + phi (psi (phi T * phi (psi (phi Ya - phi Xa))))) != psi (phi nx)) = true := by
                                    rw [phi_psi, phi_psi]; exact psiO_nne (show ¬ phi Xa + phi T * (phi Ya - phi Xa) = phi nx from hE)
                                  have HNo := Lib.hid (HNo0.out (Bool.eq_false_iff.mpr fun e => hE (HSI.out.mp e).2.2))
                                  clear hE HSI
                                  go_quiet (first | (go_at_call 39; exact flip (ref_Add _ _ _ (by first | assumption | exact U64.psi _ | exact U64.zero | exact U64.one | exact U64.mk (by decide) (by decide)) (by first | assumption | exact U64.psi _ | exact U64.zero | exact U64.one | exact U64.mk (by decide) (by decide)))) | (go_at_call 40; exact flip (ref_Mul _ _ _ (by first | assumption | exact U64.psi _ | exact U64.zero | exact U64.one | exact U64.mk (by decide) (by decide)) (by first | assumption | exact U64.psi _ | exact U64.zero | exact U64.one | exact U64.mk (by decide) (by decide)))) | (go_at_call 41; exact flip (ref_Sub _ _ _ (by first | assumption | exact U64.psi _ | exact U64.zero | exact U64.one | exact U64.mk (by decide) (by decide)) (by first | assumption | exact U64.psi _ | exact U64.zero | exact U64.one | exact U64.mk (by decide) (by decide)))) | (go_at_call 36; exact flip (ref_Norm _ _ uN)))
                                  have HW11 := Lib.hid (below_two HW10.out (below_drewN (Below.refl w10.heap.size w10) nq))
                                  clear cT bE
                                  generalize w10.drewN nq = w11 at *
                                  go_wp2
                                  go_ret2
                                  exact ⟨ret_tb2 HNo.out.symm e0.out.symm, HW11.out⟩
                              · have d2 : decide ((h : Int) ≤ 2 * (q2 : Int)) = false := decide_eq_false (by omega)
                                have hge : ¬ (h : Int) ≤ 2 * (q2 : Int) := by omega
                                obtain ⟨nx, hnx⟩ : ∃ nx, nx = (ata X.pairs (k + 1)).1 := ⟨_, rfl⟩
                                have HNX := Lib.hid ((nextI_lo (o := o) (x := X) (p := p) Ha.out hk2 (by rw [← Hq2.out, ← Hh.out]; exact hhi)).trans hnx.symm)
                                rw [← hnx] at z0 uX2
                                have uN := uX2
                                clear uX2 hnx hhi
                                go_wp2_with ((go_at_call 36; (with_reducible refine (ref_Norm _ _ (by first | assumption | exact U64.psi _ | exact U64.zero | exact U64.one | exact U64.mk (by decide) (by decide))).mono ?_); rintro e w' ⟨rfl, rfl⟩))
                                clear d1 d2 hge z0 z1 t1 e0c ht1 bB
                                rw [HNX.out] at HSI
                                by_cases hE : btw (phi Xa) (phi Ya) (phi T) = phi nx
                                · have bE : (psi (phi Xa + phi (psi (phi T * phi (psi (phi Ya - phi Xa))))) != psi (phi nx)) = false := by
                                    rw [phi_psi, phi_psi]; exact psiO_nee (show phi Xa + phi T * (phi Ya - phi Xa) = phi nx from hE)
                                  have HYes := Lib.hid (HYes0.out (HSI.out.mpr ⟨HA.out, HBb.out, hE⟩))
                                  clear hE HSI
                                  go_quiet (first | (go_at_call 39; exact flip (ref_Add _ _ _ (by first | assumption | exact U64.psi _ | exact U64.zero | exact U64.one | exact U64.mk (by decide) (by decide)) (by first | assumption | exact U64.psi _ | exact U64.zero | exact U64.one | exact U64.mk (by decide) (by decide)))) | (go_at_call 40; exact flip (ref_Mul _ _ _ (by first | assumption | exact U64.psi _ | exact U64.zero | exact U64.one | exact U64.mk (by decide) (by decide)) (by first | assumption | exact U64.psi _ | exact U64.zero | exact U64.one | exact U64.mk (by decide) (by decide)))) | (go_at_call 41; exact flip (ref_Sub _ _ _ (by first | assumption | exact U64.psi _ | exact U64.zero | exact U64.one | exact U64.mk (by decide) (by decide)) (by first | assumption | exact U64.psi _ | exact U64.zero | exact U64.one | exact U64.mk (by decide) (by decide)))) | (go_at_call 36; exact flip (ref_Norm _ _ uN)))
                                  have HV11 := Lib.hid (below_two HV10.out (below_drewN (Below.refl w10.heap.size w10) nq))
                                  clear cT bE
                                  generalize w10.drewN nq = w11 at *
                                  go_wp2
                                  go_roundw
                                  case rel => exact ⟨k + 1, by omega, by go_num, HYes.out, HV11.out⟩
                                  case measure => simp [intOf]; omega
                                · have bE : (psi (phi Xa + phi (psi (phi T * phi (psi (phi Ya - phi Xa))))) != psi (phi nx)) = true := by
                                    rw [phi_psi, phi_psi]; exact psiO_nne (show ¬ phi Xa + phi T * (phi Ya - phi Xa) = phi nx from hE)
                                  have HNo := Lib.hid (HNo0.out (Bool.eq_false_iff.mpr fun e => hE (HSI.out.mp e).2.2))
                                  clear hE HSI
                                  go_quiet (first | (go_at_call 39; exact flip (ref_Add _ _ _ (by first | assumption | exact U64.psi _ | exact U64.zero | exact U64.one | exact U64.mk (by decide) (by decide)) (by first | assumption | exact U64.psi _ | exact U64.zero | exact U64.one | exact U64.mk (by decide) (by decide)))) | (go_at_call 40; exact flip (ref_Mul _ _ _ (by first | assumption | exact U64.psi _ | exact U64.zero | exact U64.one | exact U64.mk (by decide) (by decide)) (by first | assumption | exact U64.psi _ | exact U64.zero | exact U64.one | exact U64.mk (by decide) (by decide)))) | (go_at_call 41; exact flip (ref_Sub _ _ _ (by first | assumption | exact U64.psi _ | exact U64.zero | exact U64.one | exact U64.mk (by decide) (by decide)) (by first | assumption | exact U64.psi _ | exact U64.zero | exact U64.one | exact U64.mk (by decide) (by decide)))) | (go_at_call 36; exact flip (ref_Norm _ _ uN)))
                                  have HW11 := Lib.hid (below_two HW10.out (below_drewN (Below.refl w10.heap.size w10) nq))
                                  clear cT bE
                                  generalize w10.drewN nq = w11 at *
                                  go_wp2
                                  go_ret2
                                  exact ⟨ret_tb2 HNo.out.symm e0.out.symm, HW11.out⟩
                            · have d1 : decide ((k : Int) + 1 < (M : Int)) = false := decide_eq_false (by omega)
                              have hk3 : ¬ (k : Int) + 1 < (M : Int) := by omega
                              obtain ⟨nx, hnx⟩ : ∃ nx, nx = o.value := ⟨_, rfl⟩
                              have HNX := Lib.hid ((nextI_end (o := o) (x := X) (p := p) hk2).trans hnx.symm)
                              have uN : U64 nx := by rw [hnx]; exact uv
                              rw [← hnx] at t1
                              clear hnx
                              go_wp2_with ((go_at_call 36; (with_reducible refine (ref_Norm _ _ (by first | assumption | exact U64.psi _ | exact U64.zero | exact U64.one | exact U64.mk (by decide) (by decide))).mono ?_); rintro e w' ⟨rfl, rfl⟩))
                              clear d1 t1 e0c bB
                              rw [HNX.out] at HSI
                              by_cases hE : btw (phi Xa) (phi Ya) (phi T) = phi nx
                              · have bE : (psi (phi Xa + phi (psi (phi T * phi (psi (phi Ya - phi Xa))))) != psi (phi nx)) = false := by
                                  rw [phi_psi, phi_psi]; exact psiO_nee (show phi Xa + phi T * (phi Ya - phi Xa) = phi nx from hE)
                                have HYes := Lib.hid (HYes0.out (HSI.out.mpr ⟨HA.out, HBb.out, hE⟩))
                                clear hE HSI
                                go_quiet (first | (go_at_call 39; exact flip (ref_Add _ _ _ (by first | assumption | exact U64.psi _ | exact U64.zero | exact U64.one | exact U64.mk (by decide) (by decide)) (by first | assumption | exact U64.psi _ | exact U64.zero | exact U64.one | exact U64.mk (by decide) (by decide)))) | (go_at_call 40; exact flip (ref_Mul _ _ _ (by first | assumption | exact U64.psi _ | exact U64.zero | exact U64.one | exact U64.mk (by decide) (by decide)) (by first | assumption | exact U64.psi _ | exact U64.zero | exact U64.one | exact U64.mk (by decide) (by decide)))) | (go_at_call 41; exact flip (ref_Sub _ _ _ (by first | assumption | exact U64.psi _ | exact U64.zero | exact U64.one | exact U64.mk (by decide) (by decide)) (by first | assumption | exact U64.psi _ | exact U64.zero | exact U64.one | exact U64.mk (by decide) (by decide)))) | (go_at_call 36; exact flip (ref_Norm _ _ uN)))
                                have HV11 := Lib.hid (below_two HV10.out (below_drewN (Below.refl w10.heap.size w10) nq))
                                clear cT bE
                                generalize w10.drewN nq = w11 at *
                                go_wp2
                                go_roundw
                                case rel => exact ⟨k + 1, by omega, by go_num, HYes.out, HV11.out⟩
                                case measure => simp [intOf]; omega
                              · have bE : (psi (phi Xa + phi (psi (phi T * phi (psi (phi Ya - phi Xa))))) != psi (phi nx)) = true := by
                                  rw [phi_psi, phi_psi]; exact psiO_nne (show ¬ phi Xa + phi T * (phi Ya - phi Xa) = phi nx from hE)
                                have HNo := Lib.hid (HNo0.out (Bool.eq_false_iff.mpr fun e => hE (HSI.out.mp e).2.2))
                                clear hE HSI
                                go_quiet (first | (go_at_call 39; exact flip (ref_Add _ _ _ (by first | assumption | exact U64.psi _ | exact U64.zero | exact U64.one | exact U64.mk (by decide) (by decide)) (by first | assumption | exact U64.psi _ | exact U64.zero | exact U64.one | exact U64.mk (by decide) (by decide)))) | (go_at_call 40; exact flip (ref_Mul _ _ _ (by first | assumption | exact U64.psi _ | exact U64.zero | exact U64.one | exact U64.mk (by decide) (by decide)) (by first | assumption | exact U64.psi _ | exact U64.zero | exact U64.one | exact U64.mk (by decide) (by decide)))) | (go_at_call 41; exact flip (ref_Sub _ _ _ (by first | assumption | exact U64.psi _ | exact U64.zero | exact U64.one | exact U64.mk (by decide) (by decide)) (by first | assumption | exact U64.psi _ | exact U64.zero | exact U64.one | exact U64.mk (by decide) (by decide)))) | (go_at_call 36; exact flip (ref_Norm _ _ uN)))
                                have HW11 := Lib.hid (below_two HW10.out (below_drewN (Below.refl w10.heap.size w10) nq))
                                clear cT bE
                                generalize w10.drewN nq = w11 at *
                                go_wp2
                                go_ret2
                                exact ⟨ret_tb2 HNo.out.symm e0.out.symm, HW11.out⟩
                          · have bB := psiO_nne hB
                            have HNo := Lib.hid (HNo0.out (Bool.eq_false_iff.mpr fun e => hB (HSI.out.mp e).2.1))
                            clear hB HSI
                            go_wp2_with ((go_at_call 36; (with_reducible refine (ref_Norm _ _ (by first | assumption | exact U64.psi _ | exact U64.zero | exact U64.one | exact U64.mk (by decide) (by decide))).mono ?_); rintro e w' ⟨rfl, rfl⟩))
                            go_ret2
                            exact ⟨ret_tb2 HNo.out.symm e0.out.symm, HW10.out⟩
                        · have bA := psiO_nne hA
                          have HNo := Lib.hid (HNo0.out (Bool.eq_false_iff.mpr fun e => hA (HSI.out.mp e).1))
                          clear hA HSI
                          go_wp2_with ((go_at_call 36; (with_reducible refine (ref_Norm _ _ (by first | assumption | exact U64.psi _ | exact U64.zero | exact U64.one | exact U64.mk (by decide) (by decide))).mono ?_); rintro e w' ⟨rfl, rfl⟩))
                          go_ret2
                          exact ⟨ret_tb2 HNo.out.symm e0.out.symm, HW9.out⟩
                    · obtain rfl : k = M := by omega
                      have HS2 := Lib.hid (show looksB root pt places o (i + 1) = true by rw [looksB_succ, HS.out, Hhb.out true HH.out]; rfl)
                      go_wp2
                      go_roundw
                      case rel => exact ⟨i + 1, by omega, by go_num, HS2.out, HB6.out⟩
                      case measure => simp [intOf]; omega
                · obtain rfl : i = places.length := by omega
                  have HYes := Lib.hid (HRBi.out HS.out)
                  go_wp2
                  go_ret2
                  exact ⟨ret_tb2 HYes.out.symm e0.out.symm, Hbr5.out⟩

    · have HNo := Lib.hid (E2'.out (fun hf => hlen ⟨hf.1, hf.2.1⟩))
      clear HL
      by_cases hl1 : o.roots.length = M
      · have hl2 : o.looks.length ≠ places.length := fun e => hlen ⟨hl1, e⟩
        have b1 : ((o.roots.length : Int) == (M : Int)) = true := by rw [beq_iff_eq]; exact congrArg _ hl1
        have b2 : ((o.looks.length : Int) == (places.length : Int)) = false := by rw [beq_eq_false_iff_ne]; exact fun e => hl2 (Int.ofNat_inj.mp e)
        clear hl1 hl2 hlen
        go_wp2_with (fail)
        clear c0 c1 c2
        go_loopw [11, 12] (fun bv iv wr => iv = .int .i64 0 ∧ bv = .bool false ∧ Hid (Below w2.heap.size w2 wr)) (fun bv iv _ => 0)
        case atStart => exact ⟨rfl, rfl, Below.refl _ _⟩
        case round =>
          obtain ⟨rfl, rfl, HB⟩ := hrel
          have Hbr := Lib.hid (below_two H2.out HB.out)
          have HXr := Lib.hid (HX2.out.go HB.out)
          have c2 := HXr.out.c2
          by_cases hz : 0 < o.looks.length
          · have hz1 : (0 : Int) < (o.looks.length : Int) := by omega
            go_wp2
            go_ret2
            exact ⟨ret_tb2 (HR1.out (by rw [HNo.out]; decide)).symm HNo.out.symm, Hbr.out⟩
          · have hz1 : ¬ (0 : Int) < (o.looks.length : Int) := by omega
            go_wp2
            go_ret2
            exact ⟨ret_tb2 (HR1.out (by rw [HNo.out]; decide)).symm HNo.out.symm, Hbr.out⟩
      · have b1 : ((o.roots.length : Int) == (M : Int)) = false := by rw [beq_eq_false_iff_ne]; exact fun e => hl1 (Int.ofNat_inj.mp e)
        clear hl1 hlen
        go_wp2_with (fail)
        clear c0 c1 c2
        go_loopw [11, 12] (fun bv iv wr => iv = .int .i64 0 ∧ bv = .bool false ∧ Hid (Below w2.heap.size w2 wr)) (fun bv iv _ => 0)
        case atStart => exact ⟨rfl, rfl, Below.refl _ _⟩
        case round =>
          obtain ⟨rfl, rfl, HB⟩ := hrel
          have Hbr := Lib.hid (below_two H2.out HB.out)
          have HXr := Lib.hid (HX2.out.go HB.out)
          have c2 := HXr.out.c2
          by_cases hz : 0 < o.looks.length
          · have hz1 : (0 : Int) < (o.looks.length : Int) := by omega
            go_wp2
            go_ret2
            exact ⟨ret_tb2 (HR1.out (by rw [HNo.out]; decide)).symm HNo.out.symm, Hbr.out⟩
          · have hz1 : ¬ (0 : Int) < (o.looks.length : Int) := by omega
            go_wp2
            go_ret2
            exact ⟨ret_tb2 (HR1.out (by rw [HNo.out]; decide)).symm HNo.out.symm, Hbr.out⟩

end Go.Proofs.YtokggifjcbkmnaaDoor
