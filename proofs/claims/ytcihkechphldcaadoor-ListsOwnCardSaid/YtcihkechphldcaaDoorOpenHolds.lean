/- Several texts in one: OpenW1, ROpenW1, OpenForm, OpenHolds. What each says, and its conditions, stands at its head. -/
import Derived.Test.YtcihkechphldcaaDoorTabL
import Derived.Deep.DeepCutAuto
/- The walks of open's wrong and form. No condition. -/
namespace Go.Proofs.YtcihkechphldcaaDoor
set_option maxRecDepth 100000
set_option linter.unusedVariables false
open Go.RowKit Tally
theorem ret_bool {a b : Bool} (h : a = b) : Ending.returned (.bool a) = .returned (.bool b) := by rw [h]
set_option maxHeartbeats 1000000 in
theorem wrong_1 (x half : Int) (b : Nat) (w : World) (h : w.cell? ⟨b, 0, none⟩ = some (.int .i64 half)) :
    Calls Tryd.prog 65 #[.int .i64 x, .pointer (some ⟨b, 0, none⟩)] w fun e w' => e = .returned (.bool (!decide (0 ≤ x ∧ x < half))) ∧ w = w' := by
  by_cases hx : x < 0
  · have hb : decide (x < 0) = true := decide_eq_true hx
    have hR : Hid (decide (0 ≤ x ∧ x < half) = false) := decide_eq_false (by omega)
    clear hx
    go_enter Tryd.func65, Tryd.ntmps65
    go_wp2
    go_ret
    exact ⟨ret_bool (by rw [hR.out]; rfl), rfl⟩
  · have hb : decide (x < 0) = false := decide_eq_false hx
    by_cases hy : half ≤ x
    · have hb2 : decide (half ≤ x) = true := decide_eq_true hy
      have hR : Hid (decide (0 ≤ x ∧ x < half) = false) := decide_eq_false (by omega)
      clear hx hy
      go_enter Tryd.func65, Tryd.ntmps65
      go_wp2
      go_ret
      exact ⟨ret_bool (by rw [hR.out]; rfl), rfl⟩
    · have hb2 : decide (half ≤ x) = false := decide_eq_false hy
      have hR : Hid (decide (0 ≤ x ∧ x < half) = true) := decide_eq_true (by omega)
      clear hx hy
      go_enter Tryd.func65, Tryd.ntmps65
      go_wp2
      go_ret
      exact ⟨ret_bool (by rw [hR.out]; rfl), rfl⟩
set_option maxHeartbeats 1000000 in
theorem wrong_index (places : List Int) (half : Int) (b : Nat) (v : Value) (w : World) (hp : RowI w v places) (h : w.cell? ⟨b, 0, none⟩ = some (.int .i64 half)) :
    Calls Tryd.prog 84 #[v, .func (.func 65) #[] #[.pointer (some ⟨b, 0, none⟩)]] w fun e w' => ∃ i : Int, e = .returned (.int .i64 i) ∧ Hid (decide (0 ≤ i) = !placesB places half places.length) ∧ w = w' := by
  have Hh := Lib.hid h
  obtain ⟨_, h2, ad, cap, rfl, hr⟩ := hp
  have Hr := Lib.hid hr
  clear hr h
  go_enter Tryd.func84, Tryd.ntmps84
  go_wp2
  go_loopw [8] (fun iv wr => ∃ k : Nat, k ≤ places.length ∧ iv = .int .i64 (k : Int) ∧ Hid (placesB places half k = true) ∧ w = wr) (fun iv _ => places.length - (intOf iv).toNat)
  case atStart => exact ⟨0, by omega, rfl, rfl, rfl⟩
  case round =>
    obtain ⟨k, hk, rfl, HP, rfl⟩ := hrel
    by_cases hz : k < places.length
    · obtain ⟨b2, off, rfl, hblt, hcell⟩ := Hr.out (by omega)
      have c1 := hcell k hz
      have hk1 : (k : Int) < (places.length : Int) := by omega
      clear hcell
      by_cases hin : 0 ≤ at0 places k ∧ at0 places k < half
      · have Hin := Lib.hid (show placesB places half (k + 1) = true by rw [placesB_succ, HP.out, decide_eq_true hin]; rfl)
        have hd : decide (0 ≤ at0 places k ∧ at0 places k < half) = true := decide_eq_true hin
        clear hin
        go_wp2_with (fail)
        refine (wrong_1 _ half b _ Hh.out).mono ?_
        rintro e w' ⟨rfl, rfl⟩
        rw [hd]
        go_wp2
        go_roundw
        case rel => exact ⟨k + 1, by omega, by go_num, Hin.out, by first | rfl | trivial⟩
        case measure => simp [intOf]; omega
      · have Hin := Lib.hid (placesB_false hz hin)
        have hd : decide (0 ≤ at0 places k ∧ at0 places k < half) = false := decide_eq_false hin
        clear hin
        go_wp2_with (fail)
        refine (wrong_1 _ half b _ Hh.out).mono ?_
        rintro e w' ⟨rfl, rfl⟩
        rw [hd]
        go_wp2
        go_ret
        exact ⟨k, rfl, show decide (0 ≤ (k : Int)) = !placesB places half places.length by rw [Hin.out]; simp, rfl⟩
    · obtain rfl : k = places.length := by omega
      go_wp2
      go_ret
      exact ⟨-1, rfl, show decide (0 ≤ (-1 : Int)) = !placesB places half places.length by rw [HP.out]; rfl, rfl⟩
set_option maxHeartbeats 1000000 in
theorem wrong_contains (places : List Int) (half : Int) (b : Nat) (v : Value) (w : World) (hp : RowI w v places) (h : w.cell? ⟨b, 0, none⟩ = some (.int .i64 half)) :
    Calls Tryd.prog 64 #[v, .func (.func 65) #[] #[.pointer (some ⟨b, 0, none⟩)]] w fun e w' => e = .returned (.bool (!placesB places half places.length)) ∧ w = w' := by
  have Hh := Lib.hid h; have Hp := Lib.hid hp
  obtain ⟨_, _, ad, cap, rfl, _⟩ := hp
  clear h
  go_enter Tryd.func64, Tryd.ntmps64
  go_wp2_with (fail)
  refine (wrong_index places half b _ _ Hp.out Hh.out).mono ?_
  rintro e w' ⟨i, rfl, Hi, rfl⟩
  go_wp2
  go_ret
  exact ⟨ret_bool Hi.out, rfl⟩
/-- may the places not be? -/
def wrongB (places : List Int) (half : Int) : Bool := decide (32 < places.length) || !placesB places half places.length
set_option maxHeartbeats 1000000 in
theorem open_wrong (places : List Int) (half : Int) (v : Value) (w : World) (hp : RowI w v places) :
    Calls Tryd.prog 44 #[v, .int .i64 half] w fun e w' => e = .returned (.bool (wrongB places half)) ∧ Below w.heap.size w w' := by
  have Hp := Lib.hid hp
  obtain ⟨_, _, ad, cap, rfl, _⟩ := hp
  by_cases hl : 32 < places.length
  · have hb : decide ((32 : Int) < (places.length : Int)) = true := decide_eq_true (by omega)
    have hR : Hid (wrongB places half = true) := by unfold wrongB; rw [decide_eq_true hl]; rfl
    clear hl
    go_enter Tryd.func44, Tryd.ntmps44
    go_wp2
    go_ret
    exact ⟨ret_bool hR.out.symm, (Below.refl _ _).alloc (Nat.le_refl _) _⟩
  · have hb : decide ((32 : Int) < (places.length : Int)) = false := decide_eq_false (by omega)
    have hR : Hid (wrongB places half = !placesB places half places.length) := by unfold wrongB; rw [decide_eq_false hl]; rfl
    clear hl
    go_enter Tryd.func44, Tryd.ntmps44
    obtain ⟨W1, hW, k0, B1, s1⟩ := copied1' w (.int .i64 half) 3
    have Hk := Lib.hid k0
    go_wp2_with (fail)
    refine (wrong_contains places half w.heap.size _ W1 (Hp.out.go B1) Hk.out).mono ?_
    rintro e w' ⟨rfl, rfl⟩
    go_wp2
    go_ret
    exact ⟨ret_bool hR.out.symm, B1⟩
end Go.Proofs.YtcihkechphldcaaDoor

/- The walks of the reference's In and Places. No condition but that there are 1 to 8 variables. -/
namespace Go.Proofs.YtcihkechphldcaaDoor
set_option maxRecDepth 100000
set_option linter.unusedVariables false
open Go.RowKit Tally
set_option maxHeartbeats 1000000 in
theorem ref_InO (n lo hi : Int) (w : World) :
    Calls Tryd.prog 66 #[.int .i64 n, .int .i64 lo, .int .i64 hi] w fun e w' => e = .returned (.bool (decide (lo ≤ n) && decide (n ≤ hi))) ∧ w = w' := by
  by_cases h1 : lo ≤ n
  · have hb : decide (lo ≤ n) = true := decide_eq_true h1
    by_cases h2 : n ≤ hi
    · have hb2 : decide (n ≤ hi) = true := decide_eq_true h2
      have hR : Hid ((decide (lo ≤ n) && decide (n ≤ hi)) = true) := by unfold Hid; rw [hb, hb2]; rfl
      clear h1 h2
      go_enter Tryd.func66, Tryd.ntmps66
      go_wp2
      go_ret
      exact ⟨ret_bool hR.out.symm, rfl⟩
    · have hb2 : decide (n ≤ hi) = false := decide_eq_false h2
      have hR : Hid ((decide (lo ≤ n) && decide (n ≤ hi)) = false) := by unfold Hid; rw [hb, hb2]; rfl
      clear h1 h2
      go_enter Tryd.func66, Tryd.ntmps66
      go_wp2
      go_ret
      exact ⟨ret_bool hR.out.symm, rfl⟩
  · have hb : decide (lo ≤ n) = false := decide_eq_false h1
    have hR : Hid ((decide (lo ≤ n) && decide (n ≤ hi)) = false) := by unfold Hid; rw [hb]; rfl
    clear h1
    go_enter Tryd.func66, Tryd.ntmps66
    go_wp2
    go_ret
    exact ⟨ret_bool hR.out.symm, rfl⟩
end Go.Proofs.YtcihkechphldcaaDoor

/- The walk of open's form. No condition. -/
namespace Go.Proofs.YtcihkechphldcaaDoor
set_option maxRecDepth 100000
set_option linter.unusedVariables false
open Go.RowKit Tally
/-- the error of an opening's form -/
noncomputable def openE (n : Nat) (places : List Int) (o : Oi) : Int := open Classical in
  if n < 1 ∨ 8 < n then 1 else if wrongB places ((2 ^ (n - 1) : Nat) : Int) = true then 1 else if OForm n places.length o then 0 else 4
theorem openE_n {n : Nat} {places : List Int} {o : Oi} (h : n < 1 ∨ 8 < n) : openE n places o = 1 := if_pos h
theorem openE_wrong {m : Nat} {places : List Int} {o : Oi} (h7 : m ≤ 7) (h : wrongB places ((2 ^ m : Nat) : Int) = true) : openE (m + 1) places o = 1 := by
  unfold openE; rw [if_neg (by omega), if_pos (by exact h)]
theorem openE_form {m : Nat} {places : List Int} {o : Oi} (h7 : m ≤ 7) (h : wrongB places ((2 ^ m : Nat) : Int) = false) (hf : ¬ OForm (m + 1) places.length o) : openE (m + 1) places o = 4 := by
  unfold openE; rw [if_neg (by omega), if_neg (by rw [show m + 1 - 1 = m by omega, h]; decide), if_neg hf]
theorem openE_ok {m : Nat} {places : List Int} {o : Oi} (h7 : m ≤ 7) (h : wrongB places ((2 ^ m : Nat) : Int) = false) (hf : OForm (m + 1) places.length o) : openE (m + 1) places o = 0 := by
  unfold openE; rw [if_neg (by omega), if_neg (by rw [show m + 1 - 1 = m by omega, h]; decide), if_pos hf]
theorem ret_iO {a b : Int} (h : a = b) : Ending.returned (.int .i64 a) = .returned (.int .i64 b) := by rw [h]
/-- two cells in a block of their own -/
structure BoxedO (tb : Nat) (x y : Value) (w : World) : Prop where
  c0 : w.cell? ⟨tb, 0, none⟩ = some x
  c1 : w.cell? ⟨tb, 1, none⟩ = some y
  lt : tb < w.heap.size
theorem BoxedO.go {tb : Nat} {x y : Value} {w w' : World} (h : BoxedO tb x y w) (hb : Below w.heap.size w w') : BoxedO tb x y w' :=
  ⟨(hb.cell (p := ⟨tb, 0, none⟩) h.lt).trans h.c0, (hb.cell (p := ⟨tb, 1, none⟩) h.lt).trans h.c1, Nat.lt_of_lt_of_le h.lt hb.size⟩
/-- three cells in a block of their own -/
structure Boxed3 (tb : Nat) (x y z : Value) (w : World) : Prop where
  c0 : w.cell? ⟨tb, 0, none⟩ = some x
  c1 : w.cell? ⟨tb, 1, none⟩ = some y
  c2 : w.cell? ⟨tb, 2, none⟩ = some z
  lt : tb < w.heap.size
theorem Boxed3.go {tb : Nat} {x y z : Value} {w w' : World} (h : Boxed3 tb x y z w) (hb : Below w.heap.size w w') : Boxed3 tb x y z w' :=
  ⟨(hb.cell (p := ⟨tb, 0, none⟩) h.lt).trans h.c0, (hb.cell (p := ⟨tb, 1, none⟩) h.lt).trans h.c1, (hb.cell (p := ⟨tb, 2, none⟩) h.lt).trans h.c2, Nat.lt_of_lt_of_le h.lt hb.size⟩
set_option maxHeartbeats 2000000 in
theorem open_form_n (n : Int) (hn : n < 1 ∨ 8 < n) (places : List Int) (o : Oi) (vp vo : Value) (w : World) (ho : IsO w vo o) :
    Calls Tryd.prog 53 #[.int .i64 n, vp, vo] w fun e w' => e = .returned (.int .i64 1) ∧ Below w.heap.size w w' := by
  obtain ⟨u, u2, rfl, _, _, _⟩ := ho
  obtain ⟨W1, hW, k0, k1, k2, B1, s1⟩ := copied3' w u (.int .u64 o.value) u2 42
  by_cases h1 : n < 1
  · have hb : decide (n < 1) = true := decide_eq_true h1
    clear hn h1
    go_enter Tryd.func53, Tryd.ntmps53
    go_wp2
    go_ret
    exact ⟨rfl, B1⟩
  · have hb : decide (n < 1) = false := decide_eq_false h1
    have hb2 : decide (8 < n) = true := decide_eq_true (by omega)
    clear hn h1
    go_enter Tryd.func53, Tryd.ntmps53
    go_wp2
    go_ret
    exact ⟨rfl, B1⟩
set_option maxRecDepth 100000 in
set_option maxHeartbeats 4000000 in
theorem open_form_m (m : Nat) (h7 : m ≤ 7) (places : List Int) (o : Oi) (vp vo : Value) (w : World) (hp : RowI w vp places) (ho : IsO w vo o) :
    Calls Tryd.prog 53 #[.int .i64 ((m + 1 : Nat) : Int), vp, vo] w fun e w' => e = .returned (.int .i64 (openE (m + 1) places o)) ∧ Below w.heap.size w w' := by
  have Hpw := Lib.hid (pow_wrap8 (n := m) (by omega))
  have E1 := Lib.hid (@openE_wrong m places o h7); have E2 := Lib.hid (@openE_form m places o h7); have E3 := Lib.hid (@openE_ok m places o h7)
  have sM : IntKind.i64.wrap (((m + 1 : Nat) : Int) - 1) = (m : Int) := by rw [IntWalk.i64_in _ (by omega)]; omega
  obtain ⟨h, hh⟩ : ∃ h : Nat, h = 2 ^ m := ⟨_, rfl⟩
  obtain ⟨M, hM⟩ : ∃ M : Nat, M = m + 1 := ⟨_, rfl⟩
  have hM9 : M ≤ 8 := by omega
  have hM1 : 1 ≤ M := by omega
  rw [← hh] at Hpw E1 E2 E3
  rw [← hM] at E1 E2 E3 sM ⊢
  have hb : decide ((M : Int) < 1) = false := decide_eq_false (by omega)
  have hb2 : decide ((8 : Int) < (M : Int)) = false := decide_eq_false (by omega)
  have hmx : max (m : Int) 0 = (m : Int) := by omega
  have hmin : min m 64 = m := by omega
  have Hp := Lib.hid hp
  obtain ⟨_, _, ap, cp, rfl, _⟩ := hp
  obtain ⟨ur, uk, rfl, _, hr, hk⟩ := ho
  obtain ⟨_, _, ar, cr, rfl, _⟩ := hr
  obtain ⟨_, ak, ck, rfl, hkr⟩ := hk
  have Hkr := Lib.hid hkr
  clear hkr hh hM h7
  have hpw := Hpw.out
  go_enter Tryd.func53, Tryd.ntmps53
  obtain ⟨W1, hW, k0, k1, k2, B1, s1⟩ := copied3' w (.slice ar o.roots.length cr) (.int .u64 o.value) (.slice ak o.looks.length ck) 42
  obtain ⟨tb, htb⟩ : ∃ tb, tb = w.heap.size := ⟨_, rfl⟩
  have HX1 := Lib.hid (show Boxed3 tb (.slice ar o.roots.length cr) (.int .u64 o.value) (.slice ak o.looks.length ck) W1 from by rw [htb]; exact ⟨k0, k1, k2, by omega⟩)
  have H1 := Lib.hid B1
  clear k0 k1 k2 B1 s1
  go_wp2_with (fail)
  rw [← htb]
  clear hpw hW hmin hmx
  with_reducible refine (open_wrong places h _ W1 (Hp.out.go H1.out)).mono ?_
  rintro e w2 ⟨rfl, hb2'⟩
  have H2 := Lib.hid (below_two H1.out hb2')
  have HX2 := Lib.hid (HX1.out.go hb2')
  clear hb2' htb
  obtain ⟨wb, hwb⟩ : ∃ wb, wb = wrongB places h := ⟨_, rfl⟩
  rw [← hwb] at E1 E2 E3 ⊢
  clear hwb
  cases wb with
  | true =>
    go_wp2
    go_ret
    exact ⟨ret_iO (E1.out (by first | rfl | trivial)).symm, H2.out⟩
  | false =>
    have c0 := HX2.out.c0; have c2 := HX2.out.c2
    by_cases hl1 : o.roots.length = M
    · have b1 : ((o.roots.length : Int) != (M : Int)) = false := by rw [bne_eq_false_iff_eq]; exact congrArg _ hl1
      by_cases hl2 : o.looks.length = places.length
      · have b2 : ((o.looks.length : Int) != (places.length : Int)) = false := by rw [bne_eq_false_iff_eq]; exact congrArg _ hl2
        have Hl1 := Lib.hid hl1; have Hl2 := Lib.hid hl2
        clear hl1 hl2
        go_wp2_with (fail)
        go_loopw [41] (fun iv wr => ∃ k : Nat, k ≤ o.looks.length ∧ iv = .int .i64 (k : Int) ∧ Hid (∀ i, i < k → lkForm M (atk o.looks i)) ∧ Hid (Below w2.heap.size w2 wr)) (fun iv _ => o.looks.length - (intOf iv).toNat)
        case atStart => exact ⟨0, by omega, rfl, fun i hi => by omega, Below.refl _ _⟩
        case round =>
          obtain ⟨k, hk, rfl, HF, HB⟩ := hrel
          by_cases hz : k < o.looks.length
          · obtain ⟨b2, off, rfl, hblt, hcell⟩ := Hkr.out (by omega)
            obtain ⟨u, u2, d0, d1, hA, hB⟩ := hcell k hz
            have HA := Lib.hid hA
            obtain ⟨_, aA, cA, rfl, _⟩ := hA
            obtain ⟨_, aB, cB, rfl, hBr⟩ := hB
            have HBr := Lib.hid hBr
            have Hbr := Lib.hid (below_two H2.out HB.out)
            have e0 := (Hbr.out.cell (p := ⟨b2, off + k * 2, none⟩) hblt).trans d0
            have e1 := (Hbr.out.cell (p := ⟨b2, off + k * 2 + 1, none⟩) hblt).trans d1
            have hk1 : (k : Int) < (o.looks.length : Int) := by omega
            obtain ⟨L, hL⟩ : ∃ L, L = atk o.looks k := ⟨_, rfl⟩
            have HLk := Lib.hid hL
            rw [← hL] at e0 e1 HBr
            clear hcell d0 d1 hBr hL HA
            have hno : Hid (¬ lkForm M L → ¬ OForm M places.length o) := fun hn hf => hn (by rw [HLk.out]; exact hf.2.2 k (by rw [← Hl2.out]; exact hz))
            obtain ⟨W3, hW3, q0, q1, B3, s3⟩ := copied2' wr (.slice aA L.pairs.length cA) (.slice aB L.paths.length cB) 50
            have H3 := Lib.hid (below_two Hbr.out B3)
            have HB3 := Lib.hid (below_two HB.out B3)
            obtain ⟨xb, hxb⟩ : ∃ xb, xb = wr.heap.size := ⟨_, rfl⟩
            have HX3 := Lib.hid (show BoxedO xb (.slice aA L.pairs.length cA) (.slice aB L.paths.length cB) W3 from by rw [hxb]; exact ⟨q0, q1, by omega⟩)
            by_cases hl3 : L.pairs.length = M
            · have b3 : ((L.pairs.length : Int) != (M : Int)) = false := by rw [bne_eq_false_iff_eq]; exact congrArg _ hl3
              by_cases hl4 : L.paths.length = M
              · have b4 : ((L.paths.length : Int) != (M : Int)) = false := by rw [bne_eq_false_iff_eq]; exact congrArg _ hl4
                have Hl3 := Lib.hid hl3; have Hl4 := Lib.hid hl4
                clear hl3 hl4
                go_wp2_with (fail)
                clear hW3 q0 q1 B3 s3 e0 e1
                go_loopw [60] (fun iv wr => ∃ j : Nat, j ≤ L.paths.length ∧ iv = .int .i64 (j : Int) ∧ Hid (∀ i, i < j → (atb L.paths i).1.length = M - i ∧ (atb L.paths i).2.length = M - i) ∧ Hid (Below W3.heap.size W3 wr)) (fun iv _ => L.paths.length - (intOf iv).toNat)
                case atStart => exact ⟨0, by omega, rfl, fun i hi => by omega, Below.refl _ _⟩
                case round =>
                  obtain ⟨j, hj, rfl, HJ, HBj⟩ := hrel
                  by_cases hzj : j < L.paths.length
                  · obtain ⟨b3', off3, rfl, hblt3, hcell3⟩ := HBr.out (by omega)
                    obtain ⟨v1, v2, f0, f1, ⟨hr1, _⟩, hr2, _⟩ := hcell3 j hzj
                    obtain ⟨_, _, a1, c1, rfl, _⟩ := hr1
                    obtain ⟨_, _, a2, c2', rfl, _⟩ := hr2
                    have Hbj := Lib.hid (below_two H3.out HBj.out)
                    have g0 := (Hbj.out.cell (p := ⟨b3', off3 + j * 2, none⟩) hblt3).trans f0
                    have g1 := (Hbj.out.cell (p := ⟨b3', off3 + j * 2 + 1, none⟩) hblt3).trans f1
                    have hj1 : (j : Int) < (L.paths.length : Int) := by omega
                    have hj9 : j < 9 := by have := Hl4.out; omega
                    have hsub : IntKind.i64.wrap ((M : Int) - (j : Int)) = ((M - j : Nat) : Int) := by
                      have := Hl4.out; rw [IntWalk.i64_in _ (by omega)]; omega
                    obtain ⟨l1, hl1⟩ : ∃ l1, l1 = (atb L.paths j).1.length := ⟨_, rfl⟩
                    obtain ⟨l2, hl2⟩ : ∃ l2, l2 = (atb L.paths j).2.length := ⟨_, rfl⟩
                    rw [← hl1] at g0; rw [← hl2] at g1
                    have Hq1 := Lib.hid hl1; have Hq2 := Lib.hid hl2
                    clear hcell3 f0 f1 hl1 hl2
                    obtain ⟨W4, hW4, p0, p1, B4, s4⟩ := copied2' wr (.slice a1 l1 c1) (.slice a2 l2 c2') 53
                    have HB4 := Lib.hid (below_two HBj.out B4)
                    have H4 := Lib.hid (below_two Hbj.out B4)
                    by_cases hm1 : l1 = M - j
                    · have b5 : ((l1 : Int) != ((M - j : Nat) : Int)) = false := by rw [bne_eq_false_iff_eq]; exact congrArg _ hm1
                      by_cases hm2 : l2 = M - j
                      · have b6 : ((l2 : Int) != ((M - j : Nat) : Int)) = false := by rw [bne_eq_false_iff_eq]; exact congrArg _ hm2
                        have HJ2 := Lib.hid (show ∀ i, i < j + 1 → (atb L.paths i).1.length = M - i ∧ (atb L.paths i).2.length = M - i from fun i hi => by
                          by_cases e : i < j
                          · exact HJ.out i e
                          · obtain rfl : i = j := by omega
                            exact ⟨by rw [← Hq1.out]; exact hm1, by rw [← Hq2.out]; exact hm2⟩)
                        clear hm1 hm2
                        go_wp2
                        go_roundw
                        case rel => exact ⟨j + 1, by omega, by go_num, HJ2.out, HB4.out⟩
                        case measure => simp [intOf]; omega
                      · have b6 : ((l2 : Int) != ((M - j : Nat) : Int)) = true := by rw [bne_iff_ne]; exact fun e => hm2 (Int.ofNat_inj.mp e)
                        have HNo := Lib.hid (hno.out (fun hf => hm2 (by rw [Hq2.out]; exact (hf.2.2 j (by rw [← Hl4.out]; exact hzj)).2)))
                        clear hm1 hm2
                        go_wp2
                        go_ret
                        exact ⟨ret_iO (E2.out (by first | rfl | trivial) HNo.out).symm, H4.out⟩
                    · have b5 : ((l1 : Int) != ((M - j : Nat) : Int)) = true := by rw [bne_iff_ne]; exact fun e => hm1 (Int.ofNat_inj.mp e)
                      have HNo := Lib.hid (hno.out (fun hf => hm1 (by rw [Hq1.out]; exact (hf.2.2 j (by rw [← Hl4.out]; exact hzj)).1)))
                      clear hm1
                      go_wp2
                      go_ret
                      exact ⟨ret_iO (E2.out (by first | rfl | trivial) HNo.out).symm, H4.out⟩
                  · obtain rfl : j = L.paths.length := by omega
                    have HF2 := Lib.hid (show ∀ i, i < k + 1 → lkForm M (atk o.looks i) from fun i hi => by
                      by_cases e : i < k
                      · exact HF.out i e
                      · obtain rfl : i = k := by omega
                        rw [← HLk.out]
                        exact ⟨Hl3.out, Hl4.out, fun q hq => HJ.out q (by rw [Hl4.out]; exact hq)⟩)
                    go_wp2
                    go_roundw
                    case rel => exact ⟨k + 1, by omega, by go_num, HF2.out, below_two HB3.out HBj.out⟩
                    case measure => simp [intOf]; omega
              · have b4 : ((L.paths.length : Int) != (M : Int)) = true := by rw [bne_iff_ne]; exact fun e => hl4 (Int.ofNat_inj.mp e)
                have HNo := Lib.hid (hno.out (fun hf => hl4 hf.2.1))
                clear hl3 hl4
                go_wp2
                go_ret
                exact ⟨ret_iO (E2.out (by first | rfl | trivial) HNo.out).symm, H3.out⟩
            · have b3 : ((L.pairs.length : Int) != (M : Int)) = true := by rw [bne_iff_ne]; exact fun e => hl3 (Int.ofNat_inj.mp e)
              have HNo := Lib.hid (hno.out (fun hf => hl3 hf.1))
              clear hl3
              go_wp2
              go_ret
              exact ⟨ret_iO (E2.out (by first | rfl | trivial) HNo.out).symm, H3.out⟩
          · obtain rfl : k = o.looks.length := by omega
            have HOK := Lib.hid (E3.out (by first | rfl | trivial) ⟨Hl1.out, Hl2.out, fun i hi => HF.out i (by rw [Hl2.out]; exact hi)⟩)
            have Hbr := Lib.hid (below_two H2.out HB.out)
            go_wp2
            go_ret
            exact ⟨ret_iO HOK.out.symm, Hbr.out⟩
      · have b2 : ((o.looks.length : Int) != (places.length : Int)) = true := by rw [bne_iff_ne]; exact fun e => hl2 (Int.ofNat_inj.mp e)
        have HNo := Lib.hid (show ¬ OForm M places.length o from fun hf => hl2 hf.2.1)
        clear hl1 hl2
        go_wp2
        go_ret
        exact ⟨ret_iO (E2.out (by first | rfl | trivial) HNo.out).symm, H2.out⟩
    · have b1 : ((o.roots.length : Int) != (M : Int)) = true := by rw [bne_iff_ne]; exact fun e => hl1 (Int.ofNat_inj.mp e)
      have HNo := Lib.hid (show ¬ OForm M places.length o from fun hf => hl1 hf.1)
      clear hl1
      go_wp2
      go_ret
      exact ⟨ret_iO (E2.out (by first | rfl | trivial) HNo.out).symm, H2.out⟩
end Go.Proofs.YtcihkechphldcaaDoor

/- The walks of open's stands and holds. The place lies in the table, the look has its form, there are 1 to 8 variables. -/
namespace Go.Proofs.YtcihkechphldcaaDoor
set_option maxRecDepth 100000
set_option linter.unusedVariables false
open Go.RowKit Tally
theorem psiO_eq {a b : F} (h : a = b) : (psi a == psi b) = true := by rw [h]; simp
theorem psiO_ne {a b : F} (h : ¬ a = b) : (psi a == psi b) = false := by rw [beq_eq_false_iff_ne]; exact fun e => h (psi_inj e)
theorem psiO_nee {a b : F} (h : a = b) : (psi a != psi b) = false := by rw [h]; simp
theorem psiO_nne {a b : F} (h : ¬ a = b) : (psi a != psi b) = true := by rw [bne_iff_ne]; exact fun e => h (psi_inj e)
theorem two_blocksO (w : World) (cs1 cs2 : Array Value) (t1 t2 : Nat) : ∃ W, (w.alloc (.cells cs1 t1)).alloc (.cells cs2 t2) = W ∧ W.heap[w.heap.size]? = some (.cells cs1 t1 (0, 0)) ∧ W.heap[w.heap.size + 1]? = some (.cells cs2 t2 (0, 0)) ∧ W.heap.size = w.heap.size + 2 ∧ Below w.heap.size w W := by
  refine ⟨_, rfl, ?_, ?_, by simp, ((Below.refl _ _).alloc (Nat.le_refl _) _).alloc (by simp <;> omega) _⟩
  · show ((w.heap.push _).push _)[w.heap.size]? = _
    rw [Array.getElem?_push, if_neg (by simp), Array.getElem?_push, if_pos rfl]
  · show ((w.heap.push _).push _)[w.heap.size + 1]? = _
    rw [Array.getElem?_push, if_pos (by simp)]
theorem pow_wrapI {n : Nat} (h : n ≤ 8) : IntKind.i64.wrap (2 ^ n) = ((2 ^ n : Nat) : Int) := by
  have h1 := pow_le8 h
  have e : ((2 : Int) ^ n) = ((2 ^ n : Nat) : Int) := by simp
  rw [e]; generalize 2 ^ n = m at *; exact IntWalk.i64_in _ (by omega)
theorem below_dwO (w : World) : Below w.heap.size w w.drew := below_drewN (Below.refl _ _) 1
set_option maxRecDepth 100000 in
set_option maxHeartbeats 4000000 in
theorem open_stands (root : Int) (hr : U64 root) (m p : Nat) (h7 : m ≤ 7) (hp : p < 2 ^ m) (pr : Int × Int) (hx : U64 pr.1) (hy : U64 pr.2) (pt : List Int × List Int) (v1 v2 : Value) (w : World) (h1 : RowU w v1 pt.1) (h2 : RowU w v2 pt.2) (e1 : pt.1.length = m + 1) (e2 : pt.2.length = m + 1) :
    Calls Tryd.prog 74 #[.int .u64 root, .int .i64 ((m + 1 : Nat) : Int), .int .i64 (p : Int), .agg #[.int .u64 pr.1, .int .u64 pr.2], .agg #[v1, v2]] w fun e w' => e = .returned (.bool (standB root (m + 1) p pr pt)) ∧ Below w.heap.size w w' := by
  have Hpw := Lib.hid (pow_wrap8 (n := m) (by omega))
  have Hpw2 := Lib.hid (pow_wrapI (n := m) (by omega))
  have q2 := (pow_le8 (n := m) (by omega)).2
  have Hlt := Lib.hid (show p < 2 ^ pt.1.length ∧ p + 2 ^ m < 2 ^ pt.2.length by rw [e1, e2, Nat.pow_succ]; omega)
  have Hle := Lib.hid (show pt.1.length ≤ 8 ∧ pt.2.length ≤ 8 by omega)
  have sM : IntKind.i64.wrap (((m + 1 : Nat) : Int) - 1) = (m : Int) := by rw [IntWalk.i64_in _ (by omega)]; omega
  have hmin : min m 64 = m := by omega
  have Hst := Lib.hid (show standB root (m + 1) p pr pt = (decide (climbF pr.1 pt.1 p = phi root) && decide (climbF pr.2 pt.2 (p + 2 ^ m) = phi root)) from rfl)
  have H1 := Lib.hid h1; have H2 := Lib.hid h2
  obtain ⟨_, _, a1, c1, rfl, _⟩ := h1
  obtain ⟨_, _, a2, c2, rfl, _⟩ := h2
  obtain ⟨M, hM⟩ : ∃ M : Nat, M = m + 1 := ⟨_, rfl⟩
  rw [← hM] at sM Hst ⊢
  obtain ⟨h, hh⟩ : ∃ h, h = 2 ^ m := ⟨_, rfl⟩
  rw [← hh] at Hpw Hpw2 q2 hp Hlt Hst
  have hsum : IntKind.i64.wrap ((p : Int) + (h : Int)) = ((p + h : Nat) : Int) := by rw [IntWalk.i64_in _ (by omega)]; omega
  obtain ⟨ph, hph⟩ : ∃ ph, ph = p + h := ⟨_, rfl⟩
  rw [← hph] at hsum Hlt Hst
  obtain ⟨l1, hl1⟩ : ∃ l1, l1 = pt.1.length := ⟨_, rfl⟩
  obtain ⟨l2, hl2⟩ : ∃ l2, l2 = pt.2.length := ⟨_, rfl⟩
  have C1 := Lib.hid (fun X (hX : Below w.heap.size w X) => tree_Climb p pr.1 pt.1 (.slice a1 l1 c1) X hx (by rw [hl1]; exact H1.out.go hX) Hle.out.1 Hlt.out.1)
  have C2 := Lib.hid (fun X (hX : Below w.heap.size w X) => tree_Climb ph pr.2 pt.2 (.slice a2 l2 c2) X hy (by rw [hl2]; exact H2.out.go hX) Hle.out.2 Hlt.out.2)
  rw [← hl1, ← hl2]
  clear hM hh hph e1 e2 hl1 hl2 hp
  obtain ⟨x, hxx⟩ : ∃ x, x = pr.1 := ⟨_, rfl⟩
  obtain ⟨y, hyy⟩ : ∃ y, y = pr.2 := ⟨_, rfl⟩
  rw [← hxx] at hx C1 Hst ⊢; rw [← hyy] at hy C2 Hst ⊢
  generalize climbF x pt.1 p = A at *
  generalize climbF y pt.2 ph = B at *
  clear hxx hyy
  obtain ⟨W, hW, b1, b2, s1, B1⟩ := two_blocksO w #[.int .u64 x, .int .u64 y] #[.slice a1 l1 c1, .slice a2 l2 c2] 52 53
  have k0 : W.cell? ⟨w.heap.size, 0, none⟩ = some (.int .u64 x) := cell_blk b1 0
  have k2 : W.cell? ⟨w.heap.size + 1, 0, none⟩ = some (.slice a1 l1 c1) := cell_blk b2 0
  have HB := Lib.hid B1
  have l0 : w.heap.size < W.heap.size := by omega
  have l00 : w.heap.size + 1 < W.heap.size := by omega
  have K := Lib.hid (show ∀ X, Below W.heap.size W X → Below W.heap.size W X ∧ X.cell? ⟨w.heap.size, 1, none⟩ = some (.int .u64 y) ∧ X.cell? ⟨w.heap.size + 1, 1, none⟩ = some (.slice a2 l2 c2) from fun X hX =>
    ⟨hX, (hX.cell (p := ⟨w.heap.size, 1, none⟩) l0).trans (cell_blk b1 1), (hX.cell (p := ⟨w.heap.size + 1, 1, none⟩) l00).trans (cell_blk b2 1)⟩)
  clear b1 b2 B1 s1
  go_enter Tryd.func74, Tryd.ntmps74
  go_wp2_with (fail)
  refine (C1.out W HB.out).mono ?_
  rintro e w2 ⟨rfl, hb2⟩
  have H2' := Lib.hid (below_two HB.out hb2)
  have HB2 := Lib.hid hb2
  have q1 := (K.out w2 hb2).2.1
  have q3 := (K.out w2 hb2).2.2
  have hpw := Hpw.out
  have hpw2 : IntKind.i64.wrap (2 ^ m) = (h : Int) := Hpw2.out
  have K2 := Lib.hid (show ∀ X, Below w2.heap.size w2 X → Below w2.heap.size w2 X ∧ X.cell? ⟨w.heap.size, 1, none⟩ = some (.int .u64 y) ∧ X.cell? ⟨w.heap.size + 1, 1, none⟩ = some (.slice a2 l2 c2) from fun X hX => ⟨hX, (K.out X (below_two HB2.out hX)).2⟩)
  clear k0 k2 hW hb2 l0 l00
  go_wp2_with (fail)
  have hdw := Lib.hid (below_dwO w2)
  go_region_held3 (fun w' => Below w2.heap.size w2 w' ∧ w'.cell? ⟨w.heap.size, 1, none⟩ = some (.int .u64 y) ∧ w'.cell? ⟨w.heap.size + 1, 1, none⟩ = some (.slice a2 l2 c2))
    (first
      | exact K2.out _ hdw.out
      | exact K2.out _ hbB)
    (first
      | (go_at_call 86; (with_reducible refine (C2.out _ (below_two H2'.out hdw.out)).mono ?_); rintro e w3 ⟨rfl, hb3⟩; have hbB := below_two hdw.out hb3))
  have H3 := Lib.hid (below_two H2'.out hbB)
  clear hb3 hbB hpw hpw2
  by_cases hA : A = phi root
  · have b1 := psiO_eq hA
    by_cases hB : B = phi root
    · have b2 := psiO_eq hB
      have HR := Lib.hid (show standB root M p pr pt = true by rw [Hst.out, decide_eq_true hA, decide_eq_true hB]; rfl)
      clear hA hB
      go_wp2_with ((go_at_call 42; (with_reducible refine (field_Norm _ _ (by first | assumption | exact U64.psi _ | exact U64.zero | exact U64.one | exact U64.mk (by decide) (by decide))).mono ?_); rintro e w' ⟨rfl, rfl⟩))
      go_ret
      exact ⟨ret_bool HR.out.symm, H3.out⟩
    · have b2 := psiO_ne hB
      have HR := Lib.hid (show standB root M p pr pt = false by rw [Hst.out, decide_eq_false hB, Bool.and_false])
      clear hA hB
      go_wp2_with ((go_at_call 42; (with_reducible refine (field_Norm _ _ (by first | assumption | exact U64.psi _ | exact U64.zero | exact U64.one | exact U64.mk (by decide) (by decide))).mono ?_); rintro e w' ⟨rfl, rfl⟩))
      go_ret
      exact ⟨ret_bool HR.out.symm, H3.out⟩
  · have b1 := psiO_ne hA
    have HR := Lib.hid (show standB root M p pr pt = false by rw [Hst.out, decide_eq_false hA]; rfl)
    clear hA
    go_wp2_with ((go_at_call 42; (with_reducible refine (field_Norm _ _ (by first | assumption | exact U64.psi _ | exact U64.zero | exact U64.one | exact U64.mk (by decide) (by decide))).mono ?_); rintro e w' ⟨rfl, rfl⟩))
    go_ret
    exact ⟨ret_bool HR.out.symm, H3.out⟩

theorem stepB_eq {root : Int} {pt : List Int} {o : Oi} {x : Lk} {p k a M N1 q : Nat} (hM : pt.length = M) (ha : M = k + a + 1) (hN : N1 = a + 1) (hq : q = p % 2 ^ a) :
    stepB root pt o x p k = (standB (rootI root o k) N1 q (ata x.pairs k) (atb x.paths k) && decide (btw (phi (ata x.pairs k).1) (phi (ata x.pairs k).2) (phi (at0 pt k)) = phi (nextKI o x M p k))) := by
  unfold stepB
  rw [hM, show M - k = N1 by omega, show N1 - 1 = a by omega, hq]
theorem nextI_hi {o : Oi} {x : Lk} {p k a M : Nat} (ha : M = k + a + 1) (h1 : k + 1 < M) (h2 : 2 ^ a ≤ 2 * (p % 2 ^ a)) : nextKI o x M p k = (ata x.pairs (k + 1)).2 := by
  unfold nextKI; rw [if_pos h1, show M - k - 1 = a by omega, if_pos h2]
theorem nextI_lo {o : Oi} {x : Lk} {p k a M : Nat} (ha : M = k + a + 1) (h1 : k + 1 < M) (h2 : ¬ 2 ^ a ≤ 2 * (p % 2 ^ a)) : nextKI o x M p k = (ata x.pairs (k + 1)).1 := by
  unfold nextKI; rw [if_pos h1, show M - k - 1 = a by omega, if_neg h2]
theorem nextI_end {o : Oi} {x : Lk} {p k M : Nat} (h1 : ¬ k + 1 < M) : nextKI o x M p k = o.value := by
  unfold nextKI; rw [if_neg h1]
theorem rootI_succ (root : Int) (o : Oi) (k : Nat) : rootI root o (k + 1) = at0 o.roots k := rfl
set_option maxRecDepth 100000 in
set_option maxHeartbeats 8000000 in
theorem open_holds_w (root : Int) (hr : U64 root) (pt : List Int) (p M : Nat) (hM1 : 1 ≤ M) (hM8 : M ≤ 8) (hp : p < 256) (hpl : pt.length = M) (o : Oi) (x : Lk) (hx : lkForm M x) (hrl : o.roots.length = M) (vt vo : Value) (w : World) (ht : RowU w vt pt) (ho : IsO w vo o) (u u2 : Value) (hA : RowA w u x.pairs) (hB : RowB w u2 x.paths) :
    Calls Tryd.prog 54 #[.int .u64 root, vt, .int .i64 (p : Int), vo, .agg #[u, u2]] w fun e w' => e = .returned (.bool (holdB root pt o x p M)) ∧ Below w.heap.size w w' := by
  obtain ⟨ur, uk, rfl, uv, hrr, hkk⟩ := ho
  obtain ⟨ak, ck, rfl⟩ := hkk.isSlice
  clear hkk
  have Hx3 := Lib.hid hx.2.2
  have Hx1 := hx.1
  have Hx2 := hx.2.1
  clear hx
  obtain ⟨ut, _, at', ct, rfl, htr⟩ := ht
  obtain ⟨urr, _, ar, cr, rfl, hrc⟩ := hrr
  obtain ⟨_, aA, cA, rfl, hAc⟩ := hA
  obtain ⟨_, aB, cB, rfl, hBc⟩ := hB
  obtain ⟨bt, ot, rfl, hbt, htc⟩ := htr (by omega)
  obtain ⟨br, or', rfl, hbr, hrc⟩ := hrc (by omega)
  obtain ⟨ba, oa, rfl, hba, hac⟩ := hAc (by omega)
  obtain ⟨bb, ob, rfl, hbb, hbc⟩ := hBc (by omega)
  have KU := Lib.hid (show ∀ j, j < M → U64 (at0 pt j) ∧ U64 (at0 o.roots j) ∧ U64 (ata x.pairs j).1 ∧ U64 (ata x.pairs j).2 from fun j hj =>
    ⟨ut _ (at0_mem (by omega)), urr _ (at0_mem (by omega)), (hac j (by omega)).1⟩)
  have KC := Lib.hid (show ∀ X, Below w.heap.size w X → ∀ j, j < M → X.cell? ⟨bt, ot + j, none⟩ = some (.int .u64 (at0 pt j)) ∧ X.cell? ⟨br, or' + j, none⟩ = some (.int .u64 (at0 o.roots j)) ∧ X.cell? ⟨ba, oa + j * 2, none⟩ = some (.int .u64 (ata x.pairs j).1) ∧ X.cell? ⟨ba, oa + j * 2 + 1, none⟩ = some (.int .u64 (ata x.pairs j).2) from fun X hX j hj =>
    ⟨(hX.cell (p := ⟨bt, ot + j, none⟩) hbt).trans (htc j (by omega)), (hX.cell (p := ⟨br, or' + j, none⟩) hbr).trans (hrc j (by omega)), (hX.cell (p := ⟨ba, oa + j * 2, none⟩) hba).trans (hac j (by omega)).2.1, (hX.cell (p := ⟨ba, oa + j * 2 + 1, none⟩) hba).trans (hac j (by omega)).2.2⟩)
  have KP := Lib.hid (show ∀ j, j < M → ∃ v1 v2, ∀ X, Below w.heap.size w X → X.cell? ⟨bb, ob + j * 2, none⟩ = some v1 ∧ X.cell? ⟨bb, ob + j * 2 + 1, none⟩ = some v2 ∧ RowU X v1 (atb x.paths j).1 ∧ RowU X v2 (atb x.paths j).2 from fun j hj => by
    obtain ⟨v1, v2, c1, c2, ⟨r1, _⟩, r2, _⟩ := hbc j (by omega)
    exact ⟨v1, v2, fun X hX => ⟨(hX.cell (p := ⟨bb, ob + j * 2, none⟩) hbb).trans c1, (hX.cell (p := ⟨bb, ob + j * 2 + 1, none⟩) hbb).trans c2, r1.go hX, r2.go hX⟩⟩)
  rw [hpl, hrl, Hx1, Hx2]
  have Hpl := Lib.hid hpl
  clear hpl hrl Hx1 Hx2 htr hrc htc hac hbc hAc hBc ut urr
  obtain ⟨W, hW, b1, b2, s1, B1⟩ := two_blocksO w #[.slice (some ⟨br, or', none⟩) M cr, .int .u64 o.value, .slice ak o.looks.length ck] #[.slice (some ⟨ba, oa, none⟩) M cA, .slice (some ⟨bb, ob, none⟩) M cB] 42 50
  have HB := Lib.hid B1
  have l0 : w.heap.size < W.heap.size := by omega
  have l00 : w.heap.size + 1 < W.heap.size := by omega
  have K := Lib.hid (show ∀ X, Below W.heap.size W X → X.cell? ⟨w.heap.size, 0, none⟩ = some (.slice (some ⟨br, or', none⟩) M cr) ∧ X.cell? ⟨w.heap.size, 1, none⟩ = some (.int .u64 o.value) ∧ X.cell? ⟨w.heap.size + 1, 0, none⟩ = some (.slice (some ⟨ba, oa, none⟩) M cA) ∧ X.cell? ⟨w.heap.size + 1, 1, none⟩ = some (.slice (some ⟨bb, ob, none⟩) M cB) from fun X hX =>
    ⟨(hX.cell (p := ⟨w.heap.size, 0, none⟩) l0).trans (cell_blk b1 0), (hX.cell (p := ⟨w.heap.size, 1, none⟩) l0).trans (cell_blk b1 1), (hX.cell (p := ⟨w.heap.size + 1, 0, none⟩) l00).trans (cell_blk b2 0), (hX.cell (p := ⟨w.heap.size + 1, 1, none⟩) l00).trans (cell_blk b2 1)⟩)
  have k0 : W.cell? ⟨w.heap.size + 1, 0, none⟩ = some (.slice (some ⟨ba, oa, none⟩) M cA) := (K.out W (Below.refl _ _)).2.2.1
  clear b1 b2 B1 s1
  go_enter Tryd.func54, Tryd.ntmps54
  go_wp2_with (fail)
  clear k0
  go_loopw [0, 2, 22] (fun rv pv iv wr => ∃ k q : Nat, k ≤ M ∧ q < 256 ∧ iv = .int .i64 (k : Int) ∧ pv = .int .i64 (q : Int) ∧ rv = .int .u64 (rootI root o k) ∧ U64 (rootI root o k) ∧ Hid (∀ j, j + k + 1 ≤ M → q % 2 ^ j = p % 2 ^ j) ∧ Hid (holdB root pt o x p k = true) ∧ Hid (Below W.heap.size W wr)) (fun _ _ iv _ => M - (intOf iv).toNat)
  case atStart => exact ⟨0, p, by omega, hp, rfl, rfl, rfl, hr, fun j _ => rfl, rfl, Below.refl _ _⟩
  case round =>
    clear hW
    obtain ⟨k, q, hk, hq, rfl, rfl, rfl, hrk, HQ, HH, HBr⟩ := hrel
    have HBw := Lib.hid (below_two HB.out HBr.out)
    by_cases hz : k < M
    · obtain ⟨a, ha⟩ : ∃ a, M = k + a + 1 := ⟨M - k - 1, by omega⟩
      have Ha := Lib.hid ha
      obtain ⟨v1, v2, hpc⟩ := KP.out k hz
      have HPC := Lib.hid hpc
      have hk1 : (k : Int) < (M : Int) := by omega
      have hk9 : k < 8 := by omega
      obtain ⟨N1, hN⟩ : ∃ N1, N1 = a + 1 := ⟨_, rfl⟩
      have HN := Lib.hid hN
      obtain ⟨h, hh⟩ : ∃ h, h = 2 ^ a := ⟨_, rfl⟩
      have Hh := Lib.hid hh
      have hh256 : h ≤ 256 := by rw [hh]; exact (pow_le8 (n := a) (by omega)).2
      have hh1 : 1 ≤ h := by rw [hh]; exact (pow_le8 (n := a) (by omega)).1
      obtain ⟨q2, hq2⟩ : ∃ q2, q2 = p % h := ⟨_, rfl⟩
      have hqh : q % h = q2 := by rw [hq2, hh]; exact HQ.out a (by omega)
      have hq2h : q2 < h := by rw [hq2]; exact Nat.mod_lt _ hh1
      have HQ2 := Lib.hid (show ∀ j, j + (k + 1) + 1 ≤ M → q2 % 2 ^ j = p % 2 ^ j from fun j hj => by
        rw [hq2, hh]; exact Nat.mod_mod_of_dvd _ (Nat.pow_dvd_pow 2 (by omega)))
      have Hq2 := Lib.hid (show q2 = p % 2 ^ a by rw [hq2, hh])
      have hrem : Int.tmod (q : Int) (h : Int) = (q2 : Int) := by rw [← hqh]; exact (Int.ofNat_tmod q h).symm
      have hh0 : ((h : Int) == 0) = false := by rw [beq_eq_false_iff_ne]; omega
      have hh0' : (h : Int) ≠ 0 := by omega
      have sNk : IntKind.i64.wrap ((M : Int) - (k : Int)) = (N1 : Int) := by rw [IntWalk.i64_in _ (by omega)]; omega
      have sA : IntKind.i64.wrap ((N1 : Int) - 1) = (a : Int) := by rw [IntWalk.i64_in _ (by omega)]; omega
      have hmin : min a 64 = a := by omega
      have HS := Lib.hid (@stepB_eq root pt o x p k a M N1 q2 Hpl.out ha hN Hq2.out)
      have HPW := Lib.hid (show wrap64 (2 ^ a) = (h : Int) by rw [hh]; exact pow_wrap8 (by omega))
      obtain ⟨uT, uR, uX, uY⟩ := KU.out k hz
      obtain ⟨cT, cR, cX, cY⟩ := KC.out wr HBw.out k hz
      obtain ⟨X, hX⟩ : ∃ X, X = (ata x.pairs k).1 := ⟨_, rfl⟩
      obtain ⟨Y, hY⟩ : ∃ Y, Y = (ata x.pairs k).2 := ⟨_, rfl⟩
      have HXY := Lib.hid (And.intro hX hY)
      rw [← hX] at uX cX; rw [← hY] at uY cY
      rw [← hX, ← hY] at HS
      obtain ⟨W4, hW4, p0, p1, B4, s4⟩ := copied2' wr (.int .u64 X) (.int .u64 Y) 52
      obtain ⟨xb, hxb⟩ : ∃ xb, xb = wr.heap.size := ⟨_, rfl⟩
      have hxl : xb < W4.heap.size := by omega
      rw [← hxb] at p0 p1
      have HB4 := Lib.hid (below_two HBr.out B4)
      have HW4 := Lib.hid (below_two HBw.out B4)
      obtain ⟨ST, hST⟩ : ∃ ST, ST = standB (rootI root o k) N1 q2 (ata x.pairs k) (atb x.paths k) := ⟨_, rfl⟩
      have CS := Lib.hid (fun Z (hZ : Below w.heap.size w Z) => show Calls Tryd.prog 74 #[.int .u64 (rootI root o k), .int .i64 (N1 : Int), .int .i64 (q2 : Int), .agg #[.int .u64 X, .int .u64 Y], .agg #[v1, v2]] Z fun e w' => e = .returned (.bool ST) ∧ Below Z.heap.size Z w' from by
        obtain ⟨_, _, r1, r2⟩ := HPC.out Z hZ
        have hl := Hx3.out k hz
        have := open_stands (rootI root o k) hrk a q2 (by omega) (by rw [← hh]; exact hq2h) (ata x.pairs k) (by rw [← hX]; exact uX) (by rw [← hY]; exact uY) (atb x.paths k) v1 v2 Z r1 r2 (by omega) (by omega)
        rw [← hN, ← hX, ← hY] at this
        rw [hST]; exact this)
      rw [← hST] at HS
      have K4 := Lib.hid (show ∀ Z, Below W4.heap.size W4 Z → Below W4.heap.size W4 Z ∧ Z.cell? ⟨xb, 0, none⟩ = some (.int .u64 X) ∧ Z.cell? ⟨xb, 1, none⟩ = some (.int .u64 Y) ∧ Z.cell? ⟨w.heap.size + 1, 1, none⟩ = some (.slice (some ⟨bb, ob, none⟩) M cB) ∧ Z.cell? ⟨bb, ob + k * 2, none⟩ = some v1 ∧ Z.cell? ⟨bb, ob + k * 2 + 1, none⟩ = some v2 from fun Z hZ => by
        obtain ⟨r1, r2, _, _⟩ := HPC.out Z (below_two HW4.out hZ)
        exact ⟨hZ, (hZ.cell (p := ⟨xb, 0, none⟩) hxl).trans p0, (hZ.cell (p := ⟨xb, 1, none⟩) hxl).trans p1, (K.out Z (below_two HB4.out hZ)).2.2.2, r1, r2⟩)
      have hxb' : wr.heap.size = xb := hxb.symm
      have HpN := Lib.hid hpc
      clear hpc ha hN hh hq2 hqh hX hY hST hxb B4 s4 cT cR
      go_upto_region 6 with fail
      rw [HPW.out]
      clear HPW hmin
      go_wp2_with (fail)
      clear hrem hh0 hh0' hW4 p0 p1 cX cY
      have hdw := Lib.hid (below_dwO W4)
      go_region_held3 (fun w' => Below W4.heap.size W4 w' ∧ w'.cell? ⟨xb, 0, none⟩ = some (.int .u64 X) ∧ w'.cell? ⟨xb, 1, none⟩ = some (.int .u64 Y) ∧ w'.cell? ⟨w.heap.size + 1, 1, none⟩ = some (.slice (some ⟨bb, ob, none⟩) M cB) ∧ w'.cell? ⟨bb, ob + k * 2, none⟩ = some v1 ∧ w'.cell? ⟨bb, ob + k * 2 + 1, none⟩ = some v2)
        (first
          | exact K4.out _ hdw.out
          | exact K4.out _ hbB)
        (first
          | (go_at_call 74; (with_reducible refine (CS.out _ (below_two HW4.out hdw.out)).mono ?_); rintro e w5 ⟨rfl, hb5⟩; have hbB := below_two hdw.out hb5))
      have HB5 := Lib.hid (below_two HB4.out hbB)
      have HW5 := Lib.hid (below_two HW4.out hbB)
      have x0 := (K4.out w5 hbB).2.1
      have x1 := (K4.out w5 hbB).2.2.1
      clear hb5 hbB sNk sA
      obtain ⟨y0, y1, y2, -⟩ := K.out w5 HB5.out
      obtain ⟨cT, cR, -, -⟩ := KC.out w5 HW5.out k hz
      cases ST with
      | false =>
        have HNo := Lib.hid (holdB_false (n := M) hz (show stepB root pt o x p k = false by rw [HS.out]; rfl))
        go_wp2
        go_ret
        exact ⟨ret_bool HNo.out.symm, HW5.out⟩
      | true =>
        rw [Bool.true_and] at HS
        by_cases hk2 : k + 1 < M
        · have d1 : decide ((k : Int) + 1 < (M : Int)) = true := decide_eq_true (by omega)
          have hk3 : (k : Int) + 1 < (M : Int) := by omega
          obtain ⟨-, -, uX2, uY2⟩ := KU.out (k + 1) hk2
          obtain ⟨-, -, z0, z1⟩ := KC.out w5 HW5.out (k + 1) hk2
          obtain ⟨h2, hh2⟩ : ∃ h2, h = 2 * h2 := by
            obtain ⟨c, hc⟩ : ∃ c, a = c + 1 := ⟨a - 1, by have := Ha.out; omega⟩
            exact ⟨2 ^ c, by rw [Hh.out, hc, Nat.pow_succ]; omega⟩
          have hquo : Int.tdiv (h : Int) 2 = (h2 : Int) := by rw [hh2]; show Int.tdiv ((2 * h2 : Nat) : Int) ((2 : Nat) : Int) = _; rw [← Int.ofNat_tdiv]; congr 1; omega
          have ht1 : ((k : Int) + 1).toNat = k + 1 := by omega
          have HH2 := Lib.hid hh2
          have HW2 := Lib.hid (show wrap64 (h2 : Int) = (h2 : Int) by unfold wrap64; omega)
          obtain ⟨n0, hn0⟩ : ∃ n0, n0 = (ata x.pairs (k + 1)).1 := ⟨_, rfl⟩
          obtain ⟨n1, hn1⟩ : ∃ n1, n1 = (ata x.pairs (k + 1)).2 := ⟨_, rfl⟩
          have HN1 := Lib.hid (show h ≤ 2 * q2 → nextKI o x M p k = n1 from fun e => by rw [hn1]; exact nextI_hi Ha.out hk2 (by rw [← Hq2.out, ← Hh.out]; exact e))
          have HN0 := Lib.hid (show ¬ h ≤ 2 * q2 → nextKI o x M p k = n0 from fun e => by rw [hn0]; exact nextI_lo Ha.out hk2 (by rw [← Hq2.out, ← Hh.out]; exact e))
          rw [← hn0] at z0 uX2; rw [← hn1] at z1 uY2
          clear hk2 hn0 hn1 hh2
          go_wp2_with (fail)
          clear d1 hquo y1 y2
          all_goals
            first
              | (have hcc : (q2 : Int) < wrap64 (h2 : Int) := by assumption
                 have HNX := Lib.hid (HN0.out (by rw [HW2.out] at hcc; have := HH2.out; omega))
                 have uN := uX2
                 clear hcc
                 clear ‹(q2 : Int) < wrap64 (h2 : Int)›
                 clear z0 z1 uX2 uY2 HN0 HN1 HW2
                 generalize n0 = nx at *)
              | (have hcc : wrap64 (h2 : Int) ≤ (q2 : Int) := by assumption
                 have HNX := Lib.hid (HN1.out (by rw [HW2.out] at hcc; have := HH2.out; omega))
                 have uN := uY2
                 clear hcc
                 clear ‹wrap64 (h2 : Int) ≤ (q2 : Int)›
                 clear z0 z1 uX2 uY2 HN0 HN1 HW2
                 generalize n1 = nx at *)
            obtain ⟨bw, hbw⟩ : ∃ bw, bw = btw (phi X) (phi Y) (phi (at0 pt k)) := ⟨_, rfl⟩
            rw [HNX.out, ← hbw] at HS
            have Cb := Lib.hid (fun Z => show Calls Tryd.prog 58 #[.int .u64 X, .int .u64 Y, .int .u64 (at0 pt k)] Z fun e w' => e = .returned (.int .u64 (psi bw)) ∧ Z = w' from by rw [hbw]; exact mle_Between X Y (at0 pt k) Z uX uY uT)
            clear hbw
            by_cases hE : bw = phi nx
            · have bE := psiO_nee hE
              have HYes := Lib.hid (show holdB root pt o x p (k + 1) = true by rw [holdB_succ, HH.out, HS.out, decide_eq_true hE]; rfl)
              clear hE
              go_quiet (first | (go_at_call 58; exact flip (Cb.out _)) | (go_at_call 42; exact flip (field_Norm _ _ uN)))
              have hq := below_drewN (Below.refl w5.heap.size w5) nq
              have y0' := (K.out _ (below_two HB5.out hq)).1
              have cR' := (KC.out _ (below_two HW5.out hq) k hz).2.1
              have HB6 := Lib.hid (below_two HB5.out hq)
              clear x0 x1 y0 cT cR hq
              generalize w5.drewN nq = w6 at *
              go_wp2
              go_roundw
              case rel => exact ⟨k + 1, q2, by omega, by omega, by go_num, rfl, by rw [rootI_succ], by rw [rootI_succ]; exact uR, HQ2.out, HYes.out, HB6.out⟩
              case measure => simp [intOf]; omega
            · have bE := psiO_nne hE
              have HNo := Lib.hid (holdB_false (n := M) hz (show stepB root pt o x p k = false by rw [HS.out, decide_eq_false hE]))
              clear hE
              go_quiet (first | (go_at_call 58; exact flip (Cb.out _)) | (go_at_call 42; exact flip (field_Norm _ _ uN)))
              have HW6 := Lib.hid (below_two HW5.out (below_drewN (Below.refl w5.heap.size w5) nq))
              go_wp2
              go_ret
              exact ⟨ret_bool HNo.out.symm, HW6.out⟩
        · have d1 : decide ((k : Int) + 1 < (M : Int)) = false := decide_eq_false (by omega)
          obtain ⟨nx, hnx⟩ : ∃ nx, nx = o.value := ⟨_, rfl⟩
          have HNX := Lib.hid ((nextI_end (o := o) (x := x) (p := p) hk2).trans hnx.symm)
          rw [← hnx] at y1
          have uN : U64 nx := by rw [hnx]; exact uv
          clear hk2 hnx
          go_wp2_with (fail)
          clear d1 y1 y2
          obtain ⟨bw, hbw⟩ : ∃ bw, bw = btw (phi X) (phi Y) (phi (at0 pt k)) := ⟨_, rfl⟩
          rw [HNX.out, ← hbw] at HS
          have Cb := Lib.hid (fun Z => show Calls Tryd.prog 58 #[.int .u64 X, .int .u64 Y, .int .u64 (at0 pt k)] Z fun e w' => e = .returned (.int .u64 (psi bw)) ∧ Z = w' from by rw [hbw]; exact mle_Between X Y (at0 pt k) Z uX uY uT)
          clear hbw
          by_cases hE : bw = phi nx
          · have bE := psiO_nee hE
            have HYes := Lib.hid (show holdB root pt o x p (k + 1) = true by rw [holdB_succ, HH.out, HS.out, decide_eq_true hE]; rfl)
            clear hE
            go_quiet (first | (go_at_call 58; exact flip (Cb.out _)) | (go_at_call 42; exact flip (field_Norm _ _ uN)))
            have hq := below_drewN (Below.refl w5.heap.size w5) nq
            have y0' := (K.out _ (below_two HB5.out hq)).1
            have cR' := (KC.out _ (below_two HW5.out hq) k hz).2.1
            have HB6 := Lib.hid (below_two HB5.out hq)
            clear x0 x1 y0 cT cR hq
            generalize w5.drewN nq = w6 at *
            go_wp2
            go_roundw
            case rel => exact ⟨k + 1, q2, by omega, by omega, by go_num, rfl, by rw [rootI_succ], by rw [rootI_succ]; exact uR, HQ2.out, HYes.out, HB6.out⟩
            case measure => simp [intOf]; omega
          · have bE := psiO_nne hE
            have HNo := Lib.hid (holdB_false (n := M) hz (show stepB root pt o x p k = false by rw [HS.out, decide_eq_false hE]))
            clear hE
            go_quiet (first | (go_at_call 58; exact flip (Cb.out _)) | (go_at_call 42; exact flip (field_Norm _ _ uN)))
            have HW6 := Lib.hid (below_two HW5.out (below_drewN (Below.refl w5.heap.size w5) nq))
            go_wp2
            go_ret
            exact ⟨ret_bool HNo.out.symm, HW6.out⟩
    · obtain rfl : k = M := by omega
      go_wp2
      go_ret
      exact ⟨ret_bool HH.out.symm, HBw.out⟩

end Go.Proofs.YtcihkechphldcaaDoor
