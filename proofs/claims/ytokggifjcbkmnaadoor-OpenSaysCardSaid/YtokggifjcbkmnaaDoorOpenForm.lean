/- The walk of open's form. No condition. -/
import Derived.Test.YtokggifjcbkmnaaDoorROpenW1
namespace Go.Proofs.YtokggifjcbkmnaaDoor
set_option maxRecDepth 100000
set_option linter.unusedVariables false
open Go.RowKit Tally
/-- the error of an opening's form -/
noncomputable def openE (n : Nat) (places : List Int) (o : Oi) : Int := open Classical in
  if n < 1 ∨ 8 < n then 1 else if wrongB places ((2 ^ (n - 1) : Nat) : Int) = true then 1 else if OForm n places.length o then 0 else 4
theorem openE_n {n : Nat} {places : List Int} {o : Oi} (h : n < 1 ∨ 8 < n) : openE n places o = 1 := if_pos h
theorem openE_wrong {m : Nat} {places : List Int} {o : Oi} (h7 : m ≤ 7) (h : wrongB places ((2 ^ m : Nat) : Int) = true) : openE (m + 1) places o = 1 := by
  unfold openE; rw [if_neg (by omega), if_pos (by exact h)]
theorem openE_form {m : Nat} {places : List Int} {o : Oi} (h7 : m ≤ 7) (h : wrongB places ((2 ^ m : Nat) : Int) = false) (hf : ¬ OForm (m + 1) places.length o) : openE (m + 1) places o = 4 := by
  unfold openE; rw [if_neg (by omega), if_neg (by rw [show m + 1 - 1 = m by omega, h]; decide), if_neg hf]
theorem openE_ok {m : Nat} {places : List Int} {o : Oi} (h7 : m ≤ 7) (h : wrongB places ((2 ^ m : Nat) : Int) = false) (hf : OForm (m + 1) places.length o) : openE (m + 1) places o = 0 := by
  unfold openE; rw [if_neg (by omega), if_neg (by rw [show m + 1 - 1 = m by omega, h]; decide), if_pos hf]
theorem ret_iO {a b : Int} (h : a = b) : Ending.returned (.int .i64 a) = .returned (.int .i64 b) := by rw [h]
/-- two cells in a block of their own -/
structure BoxedO (tb : Nat) (x y : Value) (w : World) : Prop where
  c0 : w.cell? ⟨tb, 0, none⟩ = some x
  c1 : w.cell? ⟨tb, 1, none⟩ = some y
  lt : tb < w.heap.size
theorem BoxedO.go {tb : Nat} {x y : Value} {w w' : World} (h : BoxedO tb x y w) (hb : Below w.heap.size w w') : BoxedO tb x y w' :=
  ⟨(hb.cell (p := ⟨tb, 0, none⟩) h.lt).trans h.c0, (hb.cell (p := ⟨tb, 1, none⟩) h.lt).trans h.c1, Nat.lt_of_lt_of_le h.lt hb.size⟩
/-- three cells in a block of their own -/
structure Boxed3 (tb : Nat) (x y z : Value) (w : World) : Prop where
  c0 : w.cell? ⟨tb, 0, none⟩ = some x
  c1 : w.cell? ⟨tb, 1, none⟩ = some y
  c2 : w.cell? ⟨tb, 2, none⟩ = some z
  lt : tb < w.heap.size
theorem Boxed3.go {tb : Nat} {x y z : Value} {w w' : World} (h : Boxed3 tb x y z w) (hb : Below w.heap.size w w') : Boxed3 tb x y z w' :=
  ⟨(hb.cell (p := ⟨tb, 0, none⟩) h.lt).trans h.c0, (hb.cell (p := ⟨tb, 1, none⟩) h.lt).trans h.c1, (hb.cell (p := ⟨tb, 2, none⟩) h.lt).trans h.c2, Nat.lt_of_lt_of_le h.lt hb.size⟩
set_option maxHeartbeats 2000000 in
theorem open_form_n (n : Int) (hn : n < 1 ∨ 8 < n) (places : List Int) (o : Oi) (vp vo : Value) (w : World) (ho : IsO w vo o) :
    Calls Tryd.prog 33 #[.int .i64 n, vp, vo] w fun e w' => e = .returned (.int .i64 1) ∧ Below w.heap.size w w' := by
  obtain ⟨u, u2, rfl, _, _, _⟩ := ho
  obtain ⟨W1, hW, k0, k1, k2, B1, s1⟩ := copied3' w u (.int .u64 o.value) u2 40
  by_cases h1 : n < 1
  · have hb : decide (n < 1) = true := decide_eq_true h1
    clear hn h1
    go_enter Tryd.func33, Tryd.ntmps33
    go_wp2
    go_ret
    exact ⟨rfl, B1⟩
  · have hb : decide (n < 1) = false := decide_eq_false h1
    have hb2 : decide (8 < n) = true := decide_eq_true (by omega)
    clear hn h1
    go_enter Tryd.func33, Tryd.ntmps33
    go_wp2
    go_ret
    exact ⟨rfl, B1⟩
set_option maxRecDepth 100000 in
set_option maxHeartbeats 4000000 in
theorem open_form_m (m : Nat) (h7 : m ≤ 7) (places : List Int) (o : Oi) (vp vo : Value) (w : World) (hp : RowI w vp places) (ho : IsO w vo o) :
    Calls Tryd.prog 33 #[.int .i64 ((m + 1 : Nat) : Int), vp, vo] w fun e w' => e = .returned (.int .i64 (openE (m + 1) places o)) ∧ Below w.heap.size w w' := by
  have Hpw := Lib.hid (pow_wrap8 (n := m) (by omega))
  have E1 := Lib.hid (@openE_wrong m places o h7); have E2 := Lib.hid (@openE_form m places o h7); have E3 := Lib.hid (@openE_ok m places o h7)
  have sM : IntKind.i64.wrap (((m + 1 : Nat) : Int) - 1) = (m : Int) := by rw [IntWalk.i64_in _ (by omega)]; omega
  obtain ⟨h, hh⟩ : ∃ h : Nat, h = 2 ^ m := ⟨_, rfl⟩
  obtain ⟨M, hM⟩ : ∃ M : Nat, M = m + 1 := ⟨_, rfl⟩
  have hM9 : M ≤ 8 := by omega
  have hM1 : 1 ≤ M := by omega
  rw [← hh] at Hpw E1 E2 E3
  rw [← hM] at E1 E2 E3 sM ⊢
  have hb : decide ((M : Int) < 1) = false := decide_eq_false (by omega)
  have hb2 : decide ((8 : Int) < (M : Int)) = false := decide_eq_false (by omega)
  have hmx : max (m : Int) 0 = (m : Int) := by omega
  have hmin : min m 64 = m := by omega
  have Hp := Lib.hid hp
  obtain ⟨_, _, ap, cp, rfl, _⟩ := hp
  obtain ⟨ur, uk, rfl, _, hr, hk⟩ := ho
  obtain ⟨_, _, ar, cr, rfl, _⟩ := hr
  obtain ⟨_, ak, ck, rfl, hkr⟩ := hk
  have Hkr := Lib.hid hkr
  clear hkr hh hM h7
  have hpw := Hpw.out
  go_enter Tryd.func33, Tryd.ntmps33
  obtain ⟨W1, hW, k0, k1, k2, B1, s1⟩ := copied3' w (.slice ar o.roots.length cr) (.int .u64 o.value) (.slice ak o.looks.length ck) 40
  obtain ⟨tb, htb⟩ : ∃ tb, tb = w.heap.size := ⟨_, rfl⟩
  have HX1 := Lib.hid (show Boxed3 tb (.slice ar o.roots.length cr) (.int .u64 o.value) (.slice ak o.looks.length ck) W1 from by rw [htb]; exact ⟨k0, k1, k2, by omega⟩)
  have H1 := Lib.hid B1
  clear k0 k1 k2 B1 s1
  go_wp2_with (fail)
  rw [← htb]
  clear hpw hW hmin hmx
  with_reducible refine (open_wrong places h _ W1 (Hp.out.go H1.out)).mono ?_
  rintro e w2 ⟨rfl, hb2'⟩
  have H2 := Lib.hid (below_two H1.out hb2')
  have HX2 := Lib.hid (HX1.out.go hb2')
  clear hb2' htb
  obtain ⟨wb, hwb⟩ : ∃ wb, wb = wrongB places h := ⟨_, rfl⟩
  rw [← hwb] at E1 E2 E3 ⊢
  clear hwb
  cases wb with
  | true =>
    go_wp2
    go_ret
    exact ⟨ret_iO (E1.out (by first | rfl | trivial)).symm, H2.out⟩
  | false =>
    have c0 := HX2.out.c0; have c2 := HX2.out.c2
    by_cases hl1 : o.roots.length = M
    · have b1 : ((o.roots.length : Int) != (M : Int)) = false := by rw [bne_eq_false_iff_eq]; exact congrArg _ hl1
      by_cases hl2 : o.looks.length = places.length
      · have b2 : ((o.looks.length : Int) != (places.length : Int)) = false := by rw [bne_eq_false_iff_eq]; exact congrArg _ hl2
        have Hl1 := Lib.hid hl1; have Hl2 := Lib.hid hl2
        clear hl1 hl2
        go_wp2_with (fail)
        go_loopw [41] (fun iv wr => ∃ k : Nat, k ≤ o.looks.length ∧ iv = .int .i64 (k : Int) ∧ Hid (∀ i, i < k → lkForm M (atk o.looks i)) ∧ Hid (Below w2.heap.size w2 wr)) (fun iv _ => o.looks.length - (intOf iv).toNat)
        case atStart => exact ⟨0, by omega, rfl, fun i hi => by omega, Below.refl _ _⟩
        case round =>
          obtain ⟨k, hk, rfl, HF, HB⟩ := hrel
          by_cases hz : k < o.looks.length
          · obtain ⟨b2, off, rfl, hblt, hcell⟩ := Hkr.out (by omega)
            obtain ⟨u, u2, d0, d1, hA, hB⟩ := hcell k hz
            have HA := Lib.hid hA
            obtain ⟨_, aA, cA, rfl, _⟩ := hA
            obtain ⟨_, aB, cB, rfl, hBr⟩ := hB
            have HBr := Lib.hid hBr
            have Hbr := Lib.hid (below_two H2.out HB.out)
            have e0 := (Hbr.out.cell (p := ⟨b2, off + k * 2, none⟩) hblt).trans d0
            have e1 := (Hbr.out.cell (p := ⟨b2, off + k * 2 + 1, none⟩) hblt).trans d1
            have hk1 : (k : Int) < (o.looks.length : Int) := by omega
            obtain ⟨L, hL⟩ : ∃ L, L = atk o.looks k := ⟨_, rfl⟩
            have HLk := Lib.hid hL
            rw [← hL] at e0 e1 HBr
            clear hcell d0 d1 hBr hL HA
            have hno : Hid (¬ lkForm M L → ¬ OForm M places.length o) := fun hn hf => hn (by rw [HLk.out]; exact hf.2.2 k (by rw [← Hl2.out]; exact hz))
            obtain ⟨W3, hW3, q0, q1, B3, s3⟩ := copied2' wr (.slice aA L.pairs.length cA) (.slice aB L.paths.length cB) 64
            have H3 := Lib.hid (below_two Hbr.out B3)
            have HB3 := Lib.hid (below_two HB.out B3)
            obtain ⟨xb, hxb⟩ : ∃ xb, xb = wr.heap.size := ⟨_, rfl⟩
            have HX3 := Lib.hid (show BoxedO xb (.slice aA L.pairs.length cA) (.slice aB L.paths.length cB) W3 from by rw [hxb]; exact ⟨q0, q1, by omega⟩)
            by_cases hl3 : L.pairs.length = M
            · have b3 : ((L.pairs.length : Int) != (M : Int)) = false := by rw [bne_eq_false_iff_eq]; exact congrArg _ hl3
              by_cases hl4 : L.paths.length = M
              · have b4 : ((L.paths.length : Int) != (M : Int)) = false := by rw [bne_eq_false_iff_eq]; exact congrArg _ hl4
                have Hl3 := Lib.hid hl3; have Hl4 := Lib.hid hl4
                clear hl3 hl4
                go_wp2_with (fail)
                clear hW3 q0 q1 B3 s3 e0 e1
                go_loopw [60] (fun iv wr => ∃ j : Nat, j ≤ L.paths.length ∧ iv = .int .i64 (j : Int) ∧ Hid (∀ i, i < j → (atb L.paths i).1.length = M - i ∧ (atb L.paths i).2.length = M - i) ∧ Hid (Below W3.heap.size W3 wr)) (fun iv _ => L.paths.length - (intOf iv).toNat)
                case atStart => exact ⟨0, by omega, rfl, fun i hi => by omega, Below.refl _ _⟩
                case round =>
                  obtain ⟨j, hj, rfl, HJ, HBj⟩ := hrel
                  by_cases hzj : j < L.paths.length
                  · obtain ⟨b3', off3, rfl, hblt3, hcell3⟩ := HBr.out (by omega)
                    obtain ⟨v1, v2, f0, f1, ⟨hr1, _⟩, hr2, _⟩ := hcell3 j hzj
                    obtain ⟨_, _, a1, c1, rfl, _⟩ := hr1
                    obtain ⟨_, _, a2, c2', rfl, _⟩ := hr2
                    have Hbj := Lib.hid (below_two H3.out HBj.out)
                    have g0 := (Hbj.out.cell (p := ⟨b3', off3 + j * 2, none⟩) hblt3).trans f0
                    have g1 := (Hbj.out.cell (p := ⟨b3', off3 + j * 2 + 1, none⟩) hblt3).trans f1
                    have hj1 : (j : Int) < (L.paths.length : Int) := by omega
                    have hj9 : j < 9 := by have := Hl4.out; omega
                    have hsub : IntKind.i64.wrap ((M : Int) - (j : Int)) = ((M - j : Nat) : Int) := by
                      have := Hl4.out; rw [IntWalk.i64_in _ (by omega)]; omega
                    obtain ⟨l1, hl1⟩ : ∃ l1, l1 = (atb L.paths j).1.length := ⟨_, rfl⟩
                    obtain ⟨l2, hl2⟩ : ∃ l2, l2 = (atb L.paths j).2.length := ⟨_, rfl⟩
                    rw [← hl1] at g0; rw [← hl2] at g1
                    have Hq1 := Lib.hid hl1; have Hq2 := Lib.hid hl2
                    clear hcell3 f0 f1 hl1 hl2
                    obtain ⟨W4, hW4, p0, p1, B4, s4⟩ := copied2' wr (.slice a1 l1 c1) (.slice a2 l2 c2') 66
                    have HB4 := Lib.hid (below_two HBj.out B4)
                    have H4 := Lib.hid (below_two Hbj.out B4)
                    by_cases hm1 : l1 = M - j
                    · have b5 : ((l1 : Int) != ((M - j : Nat) : Int)) = false := by rw [bne_eq_false_iff_eq]; exact congrArg _ hm1
                      by_cases hm2 : l2 = M - j
                      · have b6 : ((l2 : Int) != ((M - j : Nat) : Int)) = false := by rw [bne_eq_false_iff_eq]; exact congrArg _ hm2
                        have HJ2 := Lib.hid (show ∀ i, i < j + 1 → (atb L.paths i).1.length = M - i ∧ (atb L.paths i).2.length = M - i from fun i hi => by
                          by_cases e : i < j
                          · exact HJ.out i e
                          · obtain rfl : i = j := by omega
                            exact ⟨by rw [← Hq1.out]; exact hm1, by rw [← Hq2.out]; exact hm2⟩)
                        clear hm1 hm2
                        go_wp2
                        go_roundw
                        case rel => exact ⟨j + 1, by omega, by go_num, HJ2.out, HB4.out⟩
                        case measure => simp [intOf]; omega
                      · have b6 : ((l2 : Int) != ((M - j : Nat) : Int)) = true := by rw [bne_iff_ne]; exact fun e => hm2 (Int.ofNat_inj.mp e)
                        have HNo := Lib.hid (hno.out (fun hf => hm2 (by rw [Hq2.out]; exact (hf.2.2 j (by rw [← Hl4.out]; exact hzj)).2)))
                        clear hm1 hm2
                        go_wp2
                        go_ret
                        exact ⟨ret_iO (E2.out (by first | rfl | trivial) HNo.out).symm, H4.out⟩
                    · have b5 : ((l1 : Int) != ((M - j : Nat) : Int)) = true := by rw [bne_iff_ne]; exact fun e => hm1 (Int.ofNat_inj.mp e)
                      have HNo := Lib.hid (hno.out (fun hf => hm1 (by rw [Hq1.out]; exact (hf.2.2 j (by rw [← Hl4.out]; exact hzj)).1)))
                      clear hm1
                      go_wp2
                      go_ret
                      exact ⟨ret_iO (E2.out (by first | rfl | trivial) HNo.out).symm, H4.out⟩
                  · obtain rfl : j = L.paths.length := by omega
                    have HF2 := Lib.hid (show ∀ i, i < k + 1 → lkForm M (atk o.looks i) from fun i hi => by
                      by_cases e : i < k
                      · exact HF.out i e
                      · obtain rfl : i = k := by omega
                        rw [← HLk.out]
                        exact ⟨Hl3.out, Hl4.out, fun q hq => HJ.out q (by rw [Hl4.out]; exact hq)⟩)
                    go_wp2
                    go_roundw
                    case rel => exact ⟨k + 1, by omega, by go_num, HF2.out, below_two HB3.out HBj.out⟩
                    case measure => simp [intOf]; omega
              · have b4 : ((L.paths.length : Int) != (M : Int)) = true := by rw [bne_iff_ne]; exact fun e => hl4 (Int.ofNat_inj.mp e)
                have HNo := Lib.hid (hno.out (fun hf => hl4 hf.2.1))
                clear hl3 hl4
                go_wp2
                go_ret
                exact ⟨ret_iO (E2.out (by first | rfl | trivial) HNo.out).symm, H3.out⟩
            · have b3 : ((L.pairs.length : Int) != (M : Int)) = true := by rw [bne_iff_ne]; exact fun e => hl3 (Int.ofNat_inj.mp e)
              have HNo := Lib.hid (hno.out (fun hf => hl3 hf.1))
              clear hl3
              go_wp2
              go_ret
              exact ⟨ret_iO (E2.out (by first | rfl | trivial) HNo.out).symm, H3.out⟩
          · obtain rfl : k = o.looks.length := by omega
            have HOK := Lib.hid (E3.out (by first | rfl | trivial) ⟨Hl1.out, Hl2.out, fun i hi => HF.out i (by rw [Hl2.out]; exact hi)⟩)
            have Hbr := Lib.hid (below_two H2.out HB.out)
            go_wp2
            go_ret
            exact ⟨ret_iO HOK.out.symm, Hbr.out⟩
      · have b2 : ((o.looks.length : Int) != (places.length : Int)) = true := by rw [bne_iff_ne]; exact fun e => hl2 (Int.ofNat_inj.mp e)
        have HNo := Lib.hid (show ¬ OForm M places.length o from fun hf => hl2 hf.2.1)
        clear hl1 hl2
        go_wp2
        go_ret
        exact ⟨ret_iO (E2.out (by first | rfl | trivial) HNo.out).symm, H2.out⟩
    · have b1 : ((o.roots.length : Int) != (M : Int)) = true := by rw [bne_iff_ne]; exact fun e => hl1 (Int.ofNat_inj.mp e)
      have HNo := Lib.hid (show ¬ OForm M places.length o from fun hf => hl1 hf.1)
      clear hl1
      go_wp2
      go_ret
      exact ⟨ret_iO (E2.out (by first | rfl | trivial) HNo.out).symm, H2.out⟩
end Go.Proofs.YtokggifjcbkmnaaDoor
