/- Several texts in one: OpenLookW, OpenKeep. What each says, and its conditions, stands at its head. -/
import Derived.Test.YtcihkechphldcaaDoorOpenHolds
import Derived.Test.YtcihkechphldcaaDoorOpenOpen
import Derived.Test.YtcihkechphldcaaDoorKeepM
/- The walk of open's Look. The table of bits lies as its initialiser lays it. -/
namespace Go.Proofs.YtcihkechphldcaaDoor
set_option maxRecDepth 100000
set_option linter.unusedVariables false
open Go.RowKit Tally
theorem openE_zero {m : Nat} {places : List Int} {o : Oi} (h : openE (m + 1) places o = 0) : placesB places ((2 ^ m : Nat) : Int) places.length = true ∧ OForm (m + 1) places.length o := by
  unfold openE at h
  split at h
  · exact absurd h (by decide)
  split at h
  · exact absurd h (by decide)
  split at h
  · rename_i h1 h2 h3
    rw [show m + 1 - 1 = m by omega] at h2
    refine ⟨?_, h3⟩
    unfold wrongB at h2
    simp only [Bool.or_eq_true, decide_eq_true_eq, not_or, Bool.not_eq_true', Bool.not_eq_false] at h2
    exact h2.2
  · exact absurd h (by decide)
theorem rootF_one (x : Int) : rootF [x] 0 = pairF (phi x) 0 := by simp [rootF, rootN, leafs, atF]
set_option maxHeartbeats 2000000 in
theorem open_Look_n (root : Int) (pt places : List Int) (o : Oi) (vt vp vo : Value) (w : World) (ht : RowU w vt pt) (hp : RowI w vp places) (ho : IsO w vo o) (hn : pt.length < 1 ∨ 8 < pt.length) :
    Calls Tryd.prog 28 #[.int .u64 root, vt, vp, vo] w fun e w' => e = .returned (.tuple #[.bool false, .int .i64 1]) ∧ Below w.heap.size w w' := by
  have Ho := Lib.hid ho
  obtain ⟨_, _, at', ct, rfl, _⟩ := ht
  obtain ⟨_, _, ap, cp, rfl, _⟩ := hp
  obtain ⟨ur, uk, rfl, _, _, _⟩ := ho
  have Hn := Lib.hid (show (pt.length : Int) < 1 ∨ 8 < (pt.length : Int) from hn.imp (fun h => Int.ofNat_lt.mpr h) (fun h => Int.ofNat_lt.mpr h))
  clear hn
  go_enter Tryd.func28, Tryd.ntmps28
  obtain ⟨W1, hW, k0, k1, k2, B1, s1⟩ := copied3' w ur (.int .u64 o.value) uk 42
  have H1 := Lib.hid B1
  go_wp2_with (fail)
  with_reducible refine (open_form_n _ Hn.out places o _ _ W1 (Ho.out.go H1.out)).mono ?_
  rintro e w2 ⟨rfl, hb2⟩
  try clear CF
  have H2 := Lib.hid (below_two H1.out hb2)
  clear hW k0 k1 k2 hb2
  go_wp2
  go_ret2
  exact ⟨rfl, H2.out⟩
set_option maxHeartbeats 2000000 in
theorem open_Look_bad (root : Int) (pt places : List Int) (o : Oi) (vt vp vo : Value) (w : World) (ht : RowU w vt pt) (hp : RowI w vp places) (ho : IsO w vo o) (m : Nat) (h7 : m ≤ 7) (hpl : pt.length = m + 1) (hE : (openE (m + 1) places o != 0) = true) :
    Calls Tryd.prog 28 #[.int .u64 root, vt, vp, vo] w fun e w' => e = .returned (.tuple #[.bool false, .int .i64 (openE (m + 1) places o)]) ∧ Below w.heap.size w w' := by
  have Ho := Lib.hid ho; have Hp := Lib.hid hp
  obtain ⟨_, _, at', ct, rfl, _⟩ := ht
  obtain ⟨_, _, ap, cp, rfl, _⟩ := hp
  obtain ⟨ur, uk, rfl, _, _, _⟩ := ho
  rw [hpl]
  clear hpl
  go_enter Tryd.func28, Tryd.ntmps28
  obtain ⟨W1, hW, k0, k1, k2, B1, s1⟩ := copied3' w ur (.int .u64 o.value) uk 42
  have H1 := Lib.hid B1
  have CF := Lib.hid (open_form_m m h7 places o _ _ W1 (Hp.out.go H1.out) (Ho.out.go H1.out))
  generalize openE (m + 1) places o = E at *
  generalize m + 1 = M at *
  go_wp2_with (fail)
  with_reducible refine CF.out.mono ?_
  rintro e w2 ⟨rfl, hb2⟩
  try clear CF
  have H2 := Lib.hid (below_two H1.out hb2)
  clear hW k0 k1 k2 hb2
  go_wp2
  go_ret2
  exact ⟨rfl, H2.out⟩
set_option maxRecDepth 100000 in
set_option maxHeartbeats 8000000 in
theorem open_Look_ok (root : Int) (hr : U64 root) (pt places : List Int) (o : Oi) (vt vp vo : Value) (w : World) (hT : Tab w) (ht : RowU w vt pt) (hp : RowI w vp places) (ho : IsO w vo o) (m : Nat) (h7 : m ≤ 7) (hpl : pt.length = m + 1) (hE : openE (m + 1) places o = 0) :
    Calls Tryd.prog 28 #[.int .u64 root, vt, vp, vo] w fun e w' => e = .returned (.tuple #[.bool (lookB root pt places o), .int .i64 0]) ∧ Below w.heap.size w w' := by
  have HT := Lib.hid hT; have Ht := Lib.hid ht; have Hp := Lib.hid hp; have Ho := Lib.hid ho; have Hpl := Lib.hid hpl
  obtain ⟨hP, hF1, hF2, hF3⟩ := openE_zero hE
  have q2 := (pow_le8 (n := m) (by omega)).2
  have HP := Lib.hid (show ∀ i, i < places.length → ∃ p : Nat, at0 places i = (p : Int) ∧ p < 256 ∧ (at0 places i).toNat = p from fun i hi => by
    obtain ⟨h1, h2⟩ := placesB_at hP hi
    exact ⟨(at0 places i).toNat, by omega, by omega, rfl⟩)
  have HF1 := Lib.hid hF1
  have HF3 := Lib.hid hF3
  obtain ⟨LB, hLB⟩ : ∃ LB, LB = lookB root pt places o := ⟨_, rfl⟩
  rw [← hLB]
  have HL := Lib.hid (show LB = (decide (pairF (phi o.value) 0 = phi (at0 o.roots m)) && looksB root pt places o places.length) by rw [hLB]; unfold lookB; rw [hpl, Nat.add_sub_cancel])
  clear hLB
  clear hT hP hF3
  obtain ⟨-, -, at', ct, rfl, -⟩ := ht
  obtain ⟨-, hplen, ap, cp, rfl, hpr⟩ := hp
  have Hpr := Lib.hid hpr
  obtain ⟨ur, uk, rfl, uv, hrr, hkk⟩ := ho
  obtain ⟨urr, -, ar, cr, rfl, hrc0⟩ := hrr
  obtain ⟨br, or', rfl, hbr, hrc⟩ := hrc0 (by omega)
  have cR := hrc m (by omega)
  have uR := urr _ (at0_mem (show m < o.roots.length by omega))
  obtain ⟨-, ak, ck, rfl, hkc⟩ := hkk
  have Hkc := Lib.hid hkc
  rw [hpl, hF1, hF2]
  obtain ⟨W1, hW, k0, k1, k2, B1, s1⟩ := copied3' w (.slice (some ⟨br, or', none⟩) (m + 1) cr) (.int .u64 o.value) (.slice ak places.length ck) 42
  have hcf := open_form_m m h7 places o (.slice ap places.length cp) (.agg #[.slice (some ⟨br, or', none⟩) o.roots.length cr, .int .u64 o.value, .slice ak o.looks.length ck]) W1 (Hp.out.go B1) (Ho.out.go B1)
  rw [hE, hF1, hF2] at hcf
  have CF := Lib.hid hcf
  have CH := Lib.hid (fun i (hi : i < places.length) p (hp1 : (at0 places i).toNat = p) (hp2 : p < 256) X (hX : Below w.heap.size w X) va vb (hA : RowA X va (atk o.looks i).pairs) (hB : RowB X vb (atk o.looks i).paths) => show Calls Tryd.prog 54 #[.int .u64 root, .slice at' (m + 1) ct, .int .i64 (p : Int), .agg #[.slice (some ⟨br, or', none⟩) (m + 1) cr, .int .u64 o.value, .slice ak places.length ck], .agg #[va, vb]] X fun e w' => e = .returned (.bool (holdB root pt o (atk o.looks i) p (m + 1))) ∧ Below X.heap.size X w' from by
    have := open_holds_w root hr pt p (m + 1) (by omega) (by omega) hp2 hpl o (atk o.looks i) (HF3.out i hi) hF1 _ _ X (Ht.out.go hX) (Ho.out.go hX) va vb hA hB
    rw [hpl, hF1, hF2] at this
    exact this)
  have H1 := Lib.hid B1
  have sM : IntKind.i64.wrap (((m + 1 : Nat) : Int) - 1) = (m : Int) := by rw [IntWalk.i64_in _ (by omega)]; omega
  have HM := Lib.hid (show pt.length = m + 1 from hpl)
  have HLk := Lib.hid hF2
  clear hpl hE hF1 hF2 hrc hrc0 hkc urr hpr hcf q2
  obtain ⟨M, hM⟩ : ∃ M : Nat, M = m + 1 := ⟨_, rfl⟩
  have hmM : (m : Int) < (M : Int) := by omega
  rw [← hM] at CF CH sM HM k0 hW ⊢
  have l1 : w.heap.size < W1.heap.size := by omega
  have K := Lib.hid (show ∀ X, Below W1.heap.size W1 X → X.cell? ⟨w.heap.size, 0, none⟩ = some (.slice (some ⟨br, or', none⟩) M cr) ∧ X.cell? ⟨w.heap.size, 1, none⟩ = some (.int .u64 o.value) ∧ X.cell? ⟨w.heap.size, 2, none⟩ = some (.slice ak places.length ck) from fun X hX =>
    ⟨(hX.cell (p := ⟨w.heap.size, 0, none⟩) l1).trans k0, (hX.cell (p := ⟨w.heap.size, 1, none⟩) l1).trans k1, (hX.cell (p := ⟨w.heap.size, 2, none⟩) l1).trans k2⟩)
  clear hM B1 s1
  go_enter Tryd.func28, Tryd.ntmps28
  go_wp2_with (fail)
  with_reducible refine CF.out.mono ?_
  rintro e w2 ⟨rfl, hb2⟩
  try clear CF
  have H2 := Lib.hid (below_two H1.out hb2)
  have HB2 := Lib.hid hb2
  clear hW k0 k1 k2 hb2
  obtain ⟨c0, c1, -⟩ := K.out w2 HB2.out
  go_wp2_with (fail)
  have hrow := row1 w2 w2.heap.size o.value uv rfl
  obtain ⟨W3, hW3⟩ : ∃ W3, w2.alloc (.cells #[.int .u64 o.value] 31) = W3 := ⟨_, rfl⟩
  have B3 : Below w2.heap.size w2 W3 := by rw [← hW3]; exact (Below.refl _ _).alloc (Nat.le_refl _) _
  rw [hW3] at hrow ⊢
  have H3 := Lib.hid (below_two H2.out B3)
  have HB3 := Lib.hid (below_two HB2.out B3)
  clear c0 c1 hW3 B3
  refine (tree_Root [o.value] 0 _ W3 (HT.out.below H3.out) hrow rfl (by omega)).mono ?_
  rintro e w4 ⟨rfl, hb4⟩
  rw [rootF_one]
  obtain ⟨A, hA⟩ : ∃ A, A = pairF (phi o.value) 0 := ⟨_, rfl⟩
  obtain ⟨R, hR⟩ : ∃ R, R = at0 o.roots m := ⟨_, rfl⟩
  rw [← hA, ← hR] at HL
  rw [← hA]
  rw [← hR] at cR uR
  clear hA hR
  have H4 := Lib.hid (below_two H3.out hb4)
  have HB4 := Lib.hid (below_two HB3.out hb4)
  clear hb4 hrow
  obtain ⟨c0, c1, c2⟩ := K.out w4 HB4.out
  have cR4 := (H4.out.cell (p := ⟨br, or' + m, none⟩) hbr).trans cR
  by_cases hE : A = phi R
  · have bE := psiO_nee hE
    have HL2 := Lib.hid (show LB = looksB root pt places o places.length by rw [HL.out, decide_eq_true hE]; rfl)
    clear HL
    clear hE
    go_wp2_with ((go_at_call 42; (with_reducible refine (field_Norm _ _ (by first | assumption | exact U64.psi _ | exact U64.zero | exact U64.one | exact U64.mk (by decide) (by decide))).mono ?_); rintro e w' ⟨rfl, rfl⟩))
    clear cR4 c0 c1 c2 bE cR uR hmM sM
    generalize psi A = PA at *
    generalize psi (phi R) = PR at *
    go_loopw [42] (fun iv wr => ∃ k : Nat, k ≤ places.length ∧ iv = .int .i64 (k : Int) ∧ Hid (looksB root pt places o k = true) ∧ Hid (Below w4.heap.size w4 wr)) (fun iv _ => places.length - (intOf iv).toNat)
    case atStart => exact ⟨0, by omega, rfl, rfl, Below.refl _ _⟩
    case round =>
      obtain ⟨k, hk, rfl, HS, HB⟩ := hrel
      have Hbr := Lib.hid (below_two H4.out HB.out)
      have HBr := Lib.hid (below_two HB4.out HB.out)
      by_cases hz : k < places.length
      · obtain ⟨p, hp1, hp2, hp3⟩ := HP.out k hz
        obtain ⟨b2, off, rfl, hblt, hcell⟩ := Hpr.out (by omega)
        have cp1 := (Hbr.out.cell (p := ⟨b2, off + k, none⟩) hblt).trans (hcell k hz)
        rw [hp1] at cp1
        have hk1 : (k : Int) < (places.length : Int) := by omega
        obtain ⟨b3, off3, rfl, hblt3, hcell3⟩ := Hkc.out (by rw [HLk.out]; omega)
        obtain ⟨va, vb, d0, d1, hA, hB⟩ := hcell3 k (by rw [HLk.out]; exact hz)
        have HA := Lib.hid hA; have HBb := Lib.hid hB
        have CK := Lib.hid (fun X (hX : Below w.heap.size w X) => CH.out k hz p hp3 hp2 X hX va vb (HA.out.go hX) (HBb.out.go hX))
        obtain ⟨hb, hhb⟩ : ∃ hb, hb = holdB root pt o (atk o.looks k) p M := ⟨_, rfl⟩
        rw [← hhb] at CK
        have Hhb := Lib.hid (show holdB root pt o (atk o.looks k) (at0 places k).toNat pt.length = hb by rw [hp3, HM.out, hhb])
        have KK := Lib.hid (show ∀ X, Below wr.heap.size wr X → Below wr.heap.size wr X ∧ X.cell? ⟨w.heap.size, 0, none⟩ = some (.slice (some ⟨br, or', none⟩) M cr) ∧ X.cell? ⟨w.heap.size, 1, none⟩ = some (.int .u64 o.value) ∧ X.cell? ⟨w.heap.size, 2, none⟩ = some (.slice (some ⟨b3, off3, none⟩) places.length ck) ∧ X.cell? ⟨b3, off3 + k * 2, none⟩ = some va ∧ X.cell? ⟨b3, off3 + k * 2 + 1, none⟩ = some vb from fun X hX => by
          obtain ⟨r1, r2, r3⟩ := K.out X (below_two HBr.out hX)
          exact ⟨hX, r1, r2, r3, ((below_two Hbr.out hX).cell (p := ⟨b3, off3 + k * 2, none⟩) hblt3).trans d0, ((below_two Hbr.out hX).cell (p := ⟨b3, off3 + k * 2 + 1, none⟩) hblt3).trans d1⟩)
        clear hcell hcell3 hp1 hp2 hp3 hhb d0 d1 hA hB
        go_wp2_with (fail)
        clear cp1
        have hdw := Lib.hid (below_dwO wr)
        go_region_held3 (fun w' => Below wr.heap.size wr w' ∧ w'.cell? ⟨w.heap.size, 0, none⟩ = some (.slice (some ⟨br, or', none⟩) M cr) ∧ w'.cell? ⟨w.heap.size, 1, none⟩ = some (.int .u64 o.value) ∧ w'.cell? ⟨w.heap.size, 2, none⟩ = some (.slice (some ⟨b3, off3, none⟩) places.length ck) ∧ w'.cell? ⟨b3, off3 + k * 2, none⟩ = some va ∧ w'.cell? ⟨b3, off3 + k * 2 + 1, none⟩ = some vb)
          (first
            | exact KK.out _ hdw.out
            | exact KK.out _ hbB)
          (first
            | (go_at_call 54; (with_reducible refine (CK.out _ (below_two Hbr.out hdw.out)).mono ?_); rintro e w5 ⟨rfl, hb5⟩; have hbB := below_two hdw.out hb5))
        have H5 := Lib.hid (below_two Hbr.out hbB)
        have HB5 := Lib.hid (below_two HB.out hbB)
        clear hb5 hbB
        cases hb with
        | true =>
          have HS2 := Lib.hid (show looksB root pt places o (k + 1) = true by rw [looksB_succ, HS.out, Hhb.out]; rfl)
          go_wp2
          go_roundw
          case rel => exact ⟨k + 1, by omega, by go_num, HS2.out, HB5.out⟩
          case measure => simp [intOf]; omega
        | false =>
          have HNo := Lib.hid (HL2.out.trans (looksB_false hz Hhb.out))
          go_wp2
          go_ret2
          rw [HNo.out]
          exact ⟨rfl, H5.out⟩
      · obtain rfl : k = places.length := by omega
        have HYes := Lib.hid (HL2.out.trans HS.out)
        go_wp2
        go_ret2
        rw [HYes.out]
        exact ⟨rfl, Hbr.out⟩
  · have bE := psiO_nne hE
    have HNo := Lib.hid (show LB = false by rw [HL.out, decide_eq_false hE]; rfl)
    clear HL
    clear hE
    go_wp2_with ((go_at_call 42; (with_reducible refine (field_Norm _ _ (by first | assumption | exact U64.psi _ | exact U64.zero | exact U64.one | exact U64.mk (by decide) (by decide))).mono ?_); rintro e w' ⟨rfl, rfl⟩))
    go_ret2
    rw [HNo.out]
    exact ⟨rfl, H4.out⟩
end Go.Proofs.YtcihkechphldcaaDoor

/- The walk of tallykeep.opened. The table of bits lies as its initialiser lays it. -/
namespace Go.Proofs.YtcihkechphldcaaDoor
set_option maxRecDepth 100000
set_option linter.unusedVariables false
open Go.RowKit Tally
theorem rowI1 (w : World) (n : Nat) (x : Int) (hx : I64 x) (hn : w.heap.size = n) : RowI (w.alloc (.cells #[.int .i64 x] 3)) (.slice (some ⟨n, 0, none⟩) 1 1) [x] := by
  subst hn
  refine ⟨by simpa using hx, by simp, _, _, rfl, fun _ => ⟨w.heap.size, 0, rfl, by simp, fun j hj => ?_⟩⟩
  obtain rfl : j = 0 := by simp at hj; omega
  rw [World.cell?_alloc_at _ _ _ _ rfl]; rfl
theorem RowI.more {w : World} {v : Value} {l : List Int} (h : RowI w v l) (o : Obj) : RowI (w.alloc o) v l := h.go (below_alloc w o)
/-- what Look answers of what Open opened, whatever value is told -/
theorem look_opened (t pt places : List Int) (val : Int) (m : Nat) (h7 : m ≤ 7) (hpl : pt.length = m + 1) (hwr : wrongB places ((2 ^ m : Nat) : Int) = false) (vt vp vo : Value) (w : World) (hT : Tab w) (ht : RowU w vt pt) (hp : RowI w vp places) (ho : IsO w vo { openI t pt places with value := val }) :
    Calls Tryd.prog 28 #[.int .u64 (psi (rootF t (m + 1))), vt, vp, vo] w fun e w' => e = .returned (.tuple #[.bool (lookB (psi (rootF t (m + 1))) pt places { openI t pt places with value := val }), .int .i64 0]) ∧ Below w.heap.size w w' :=
  open_Look_ok _ (U64.psi _) pt places _ vt vp vo w hT ht hp ho m h7 hpl (openE_ok h7 hwr (by rw [← hpl]; exact openI_form t pt places val))
theorem look_right (t pt places : List Int) (m : Nat) (h7 : m ≤ 7) (hpl : pt.length = m + 1) (htl : t.length = 2 ^ (m + 1)) (hwr : wrongB places ((2 ^ m : Nat) : Int) = false) (vt vp vo : Value) (w : World) (hT : Tab w) (ht : RowU w vt pt) (hp : RowI w vp places) (ho : IsO w vo (openI t pt places)) :
    Calls Tryd.prog 28 #[.int .u64 (psi (rootF t (m + 1))), vt, vp, vo] w fun e w' => e = .returned (.tuple #[.bool true, .int .i64 0]) ∧ Below w.heap.size w w' := by
  have := look_opened t pt places (openI t pt places).value m h7 hpl hwr vt vp vo w hT ht hp ho
  have e := open_holds t pt places (by rw [hpl]; exact htl) (by omega)
  rw [hpl] at e
  rwa [show lookB (psi (rootF t (m + 1))) pt places { openI t pt places with value := (openI t pt places).value } = true from e] at this
theorem opened7 : (openI [3, 5] [2] [0]).value = 7 := by rw [open_value [3, 5] [2] [0] (by simp) (by simp)]; exact bet2
set_option maxRecDepth 100000 in
set_option maxHeartbeats 2000000 in
theorem keep_opened (w : World) (hT : Tab w) :
    Calls Tryd.prog 5 #[] w fun e w' => e = .returned (.bool true) ∧ Below w.heap.size w w' := by
  have HT := Lib.hid hT
  clear hT
  have u2 : U64 2 := u64n 2 (by decide)
  have u3 : U64 3 := u64n 3 (by decide)
  have u5 : U64 5 := u64n 5 (by decide)
  have i0 : I64 0 := by unfold I64; omega
  obtain ⟨o7, ho7⟩ : ∃ o7, o7 = openI [3, 5] [2] [0] := ⟨_, rfl⟩
  obtain ⟨rt, hrt⟩ : ∃ rt, rt = psi (rootF [3, 5] (0 + 1)) := ⟨_, rfl⟩
  have h7 := Lib.hid (show o7.value = 7 by rw [ho7]; exact opened7)
  have CR := Lib.hid (fun v X (hX : Below w.heap.size w X) (h : RowU X v [3, 5]) => tree_Root [3, 5] 1 v X (HT.out.below hX) h (by simp) (by decide))
  have CO := Lib.hid (fun v v2 v3 X (hX : Below w.heap.size w X) (h : RowU X v [3, 5]) (h2 : RowU X v2 [2]) (h3 : RowI X v3 [0]) => open_Open [3, 5] [2] [0] 0 (by decide) rfl (by simp) (by decide) v v2 v3 X (HT.out.below hX) h h2 h3)
  have CL := Lib.hid (fun v2 v3 v4 X (hX : Below w.heap.size w X) (h2 : RowU X v2 [2]) (h3 : RowI X v3 [0]) (h4 : IsO X v4 (openI [3, 5] [2] [0])) => look_right [3, 5] [2] [0] 0 (by decide) rfl (by simp) (by decide) v2 v3 v4 X (HT.out.below hX) h2 h3 h4)
  rw [← hrt, ← ho7] at CL; rw [← ho7] at CO
  rw [show psi (rootF [3, 5] 1) = rt from hrt.symm] at CR
  clear ho7 hrt
  go_enter Tryd.func5, Tryd.ntmps5
  go_wp2_with (fail)
  have hr1 := row2 w w.heap.size 3 5 u3 u5 rfl
  obtain ⟨W1, hW1⟩ : ∃ W1, W1 = w.alloc (.cells #[.int .u64 3, .int .u64 5] 31) := ⟨_, rfl⟩
  have B1 : Below w.heap.size w W1 := by rw [hW1]; exact below_alloc _ _
  rw [← hW1] at hr1 ⊢
  have Hr1 := Lib.hid hr1; have HB1 := Lib.hid B1
  with_reducible refine (CR.out _ W1 HB1.out Hr1.out).mono ?_
  rintro e w2 ⟨rfl, hb2⟩
  have HB2 := Lib.hid (below_chain HB1.out hb2); have Hr2 := Lib.hid (Hr1.out.step hb2)
  clear hr1 B1 hb2 CR hW1
  go_wp2_with (fail)
  refine (CO.out _ _ _ _ (below_chain HB2.out (below_chain (below_alloc w2 _) (below_alloc _ _))) ((Hr2.out.more _).more _) ((row1 w2 w2.heap.size 2 u2 rfl).more _) (rowI1 _ (w2.heap.size + 1) 0 i0 (by simp))).mono ?_
  rintro e w3 ⟨vo, rfl, hF, hb3⟩
  have HB3 := Lib.hid (below_chain HB2.out (below_chain (below_chain (below_alloc w2 _) (below_alloc _ _)) hb3))
  have HO := Lib.hid hF.now
  obtain ⟨ur, uk, rfl, uv, hr, hk⟩ := hF.now
  obtain ⟨-, -, a1, c1, rfl, -⟩ := hr
  obtain ⟨-, a2, c2, rfl, -⟩ := hk
  clear hF hb3 CO
  go_wp2_with (fail)
  obtain ⟨W4, hW4, k0, k1, k2, B4, s4⟩ := copied3' w3 (.slice a1 o7.roots.length c1) (.int .u64 o7.value) (.slice a2 o7.looks.length c2) 42
  rw [hW4]
  have HB4 := Lib.hid (below_chain HB3.out B4)
  have HO4 := Lib.hid (HO.out.go B4)
  clear hW4 k0 k2
  rw [show w3.heap.size + 1 = W4.heap.size from s4.symm]
  refine (CL.out _ _ _ _ (below_chain HB4.out (below_chain (below_alloc W4 _) (below_alloc _ _))) ((row1 W4 W4.heap.size 2 u2 rfl).more _) (rowI1 _ (W4.heap.size + 1) 0 i0 (by simp)) ((HO4.out.go (below_alloc W4 _)).go (below_alloc _ _))).mono ?_
  rintro e w5 ⟨rfl, hb5⟩
  have hb5' := below_chain (below_chain (below_alloc W4 _) (below_alloc _ _)) hb5
  have HB5 := Lib.hid (below_chain HB4.out hb5')
  have k5 := (hb5'.cell (p := ⟨w3.heap.size, 1, none⟩) (by show w3.heap.size < W4.heap.size; omega)).trans k1
  rw [h7.out] at k5 ⊢
  clear hb5 hb5' CL k1 B4
  go_wp2_with (fail)
  go_ret

  exact ⟨rfl, HB5.out⟩
end Go.Proofs.YtcihkechphldcaaDoor
