/- The walk of gkr's holds: does a part hold? The circuit is a value that reads as data, the lists are slices of 64-bit numbers; the part is as it must be. -/
import Derived.Test.YtlfneeobnihocaaGreatDoorGkrProve
import Derived.Test.YtlfneeobnihocaaGreatDoorVerify
namespace Go.Proofs.YtlfneeobnihocaaGreatDoor
set_option maxRecDepth 100000
set_option linter.unusedVariables false
open Go.RowKit Tally
open Go.Sort (grow)
/-- a part as it must be, in numbers -/
structure PiOk (P : Pi) (k : Nat) : Prop where
  n : P.rounds.length = 2 * k
  r : ∀ j, j < 2 * k → (atl P.rounds j).length = 3
  l : P.line.length = k + 1
theorem PiOk.good {P : Pi} {k : Nat} (h : PiOk P k) : good P.rounds := fun j hj => by
  have hn := h.n
  have h1 := h.r j (by omega)
  have h2 := h.r 0 (by omega)
  exact ⟨by omega, by omega, by omega⟩
theorem PiOk.toF {P : Pi} {k : Nat} (h : PiOk P k) : P.toF.Ok k := by
  refine ⟨by show (P.rounds.map _).length = _; rw [List.length_map, h.n], fun j hj => ?_, by show (P.line.map _).length = _; rw [List.length_map, h.l]⟩
  show ((P.rounds.map (·.map phi))[j]?.getD []).length = 3
  have := h.r j hj
  have hn := h.n
  have hjl : j < P.rounds.length := by omega
  simp only [atl, List.getElem?_eq_getElem hjl, Option.getD_some] at this
  simp [hjl, this]
theorem I64.mk {n : Int} (h0 : -9223372036854775808 ≤ n) (h1 : n ≤ 9223372036854775807) : I64 n := ⟨h0, h1⟩
/-- what holds answers -/
def HoldsSay (o : Option F) (W : World) (B : Nat) (cl : Int) (vn : Value) (b : Bool) (NX : List Int) : Prop := b = o.isSome ∧ ∀ x, o = some x → cl = psi x ∧ NewU B W vn NX
theorem holdsSay_no {W : World} {B : Nat} {cl : Int} {vn : Value} {NX : List Int} : HoldsSay none W B cl vn false NX := ⟨rfl, fun _ h => by cases h⟩
theorem holdsSay_if {now st x : F} {c2 : Int} {W : World} {B : Nat} {vn : Value} {NX : List Int} (hn : phi c2 = now) (h : NewU B W vn NX) :
    HoldsSay (if st = now then some x else none) W B (psi x) vn (psi st == psi (phi c2)) NX := by
  rw [hn]
  by_cases e : st = now
  · rw [if_pos e, e]; exact ⟨by simp, fun y hy => by cases hy; exact ⟨rfl, h⟩⟩
  · rw [if_neg e]
    refine ⟨?_, fun y hy => by cases hy⟩
    show (psi st == psi now) = false
    rw [beq_eq_false_iff_ne]; exact fun e2 => e (psi_inj e2)
def HoldsPost (w : World) (o : Option F) (NX : List Int) (e : Ending) (w' : World) : Prop := ∃ cl' vn b, e = .returned (.tuple #[.int .u64 cl', vn, .bool b]) ∧ HoldsSay o w' w.heap.size cl' vn b NX ∧ Below w.heap.size w w'
theorem HoldsPost.mk {w w' : World} {o : Option F} {NX : List Int} {e : Ending} (cl' : Int) (vn : Value) (b : Bool) (he : e = .returned (.tuple #[.int .u64 cl', vn, .bool b])) (h : HoldsSay o w' w.heap.size cl' vn b NX) (hb : Below w.heap.size w w') : HoldsPost w o NX e w' := ⟨cl', vn, b, he, h, hb⟩
set_option maxRecDepth 100000 in
set_option maxHeartbeats 8000000 in
theorem gkr_holds (v : Value) (c : Ci) (i : Nat) (vz vr vl vd : Value) (z d : List Int) (cl : Int) (P : Pi) (w : World) (h : IsC w v c) (hc0 : checkC c = 0) (hi : i < c.layers.length) (hz : RowU w vz z) (ucl : U64 cl) (hr : RowUU w vr P.rounds) (hl : RowU w vl P.line) (hd : RowU w vd d) (hcd : CapOk vd)
    (hzl : (z.length : Int) = (aty c.layers i).log) (k : Nat) (hk : belowLog c i = (k : Int)) (hP : PiOk P k) (hdl : d.length = 2 * k + 1) :
    Calls Tryz.prog 148 #[v, .int .i64 i, vz, .int .u64 cl, .agg #[vr, vl], vd] w (HoldsPost w (holdsF (aty c.layers i).gates (z.map phi) (phi cl) k P.toF (d.map phi)) (nextI k d)) := by
  have hG := good_of_check hc0
  have hk4 : k ≤ 4 := by have := hG.below4 (k := i) (by omega); omega
  have HC := Lib.hid h; have HG := Lib.hid hG; have Hz := Lib.hid hz; have Hr := Lib.hid hr; have Hl := Lib.hid hl
  have Hc0' := Lib.hid hc0; have Hk := Lib.hid hk; have HP := Lib.hid hP; have Hdl := Lib.hid hdl; have Ucl := Lib.hid ucl
  have h4 := hG.n4
  obtain ⟨ac, cc, rfl⟩ := h.shape
  obtain ⟨_, aR, cR, rfl, -⟩ := hr
  obtain ⟨_, _, aL, cL, rfl, -⟩ := hl
  obtain ⟨ud, _, ad, cd, rfl, hdr⟩ := hd
  obtain ⟨hdc, hdm⟩ := hcd _ _ _ rfl
  obtain ⟨bd, od, rfl, hdlt, hdcell⟩ := hdr (by omega)
  have Hdc := Lib.hid hdcell; have Ud := Lib.hid ud
  rw [hdl] at hdc ⊢
  have hl1 : 1 ≤ P.line.length := by rw [hP.l]; omega
  have hl8 : P.line.length ≤ 8 := by rw [hP.l]; omega
  have Px := Lib.hid (fun W (hB : Below w.heap.size w W) => RowU.piece (cap := cd) Ud.out (Nat.lt_of_lt_of_le hdlt hB.size) (fun j hj => (hB.cell (p := ⟨bd, od + j, none⟩) hdlt).trans (Hdc.out j hj)) (by rw [Hdl.out]; omega) 0 k (by rw [Hdl.out]; omega))
  have P2 := Lib.hid (fun W (hB : Below w.heap.size w W) => RowU.piece (cap := cd) Ud.out (Nat.lt_of_lt_of_le hdlt hB.size) (fun j hj => (hB.cell (p := ⟨bd, od + j, none⟩) hdlt).trans (Hdc.out j hj)) (by rw [Hdl.out]; omega) 0 (2 * k) (by rw [Hdl.out]; omega))
  have Py := Lib.hid (fun W (hB : Below w.heap.size w W) => RowU.piece (cap := cd - k) Ud.out (Nat.lt_of_lt_of_le hdlt hB.size) (fun j hj => (hB.cell (p := ⟨bd, od + j, none⟩) hdlt).trans (Hdc.out j hj)) (by rw [Hdl.out]; omega) k k (by rw [Hdl.out]; omega))
  simp only [Nat.add_zero, List.drop_zero] at Px P2
  have Hlx := Lib.hid (show (d.take k).length = k by rw [List.length_take, Hdl.out]; omega)
  have Hly := Lib.hid (show ((d.drop k).take k).length = k by rw [List.length_take, List.length_drop, Hdl.out]; omega)
  have HNX := Lib.hid (nextI_line k d (by rw [Hdl.out]; omega))
  have Hcdk := Lib.hid (Hdc.out (2 * k) (by rw [Hdl.out]; omega))
  have udk := Ud.out _ (at0_mem (l := d) (j := 2 * k) (by rw [Hdl.out]; omega))
  have HW := Lib.hid (show Wire c i z (d.take k) ((d.drop k).take k) from ⟨HG.out, hi, hzl, by rw [Hlx.out, Hk.out], by rw [Hly.out, Hk.out]⟩)
  have HX := Lib.hid (show atF (d.map phi) (2 * k) = phi (at0 d (2 * k)) from atF_map d _ (by rw [Hdl.out]; omega))
  have Htk := Lib.hid (show (d.map phi).take k = (d.take k).map phi from List.map_take.symm)
  have Htd := Lib.hid (show ((d.map phi).drop k).take k = ((d.drop k).take k).map phi by rw [List.map_take, List.map_drop])
  have Htt := Lib.hid (show (d.map phi).take (2 * k) = (d.take (2 * k)).map phi from List.map_take.symm)
  have HF := Lib.hid (show holdsF (aty c.layers i).gates (z.map phi) (phi cl) k P.toF (d.map phi) = match told (phi cl) (phis P.rounds) ((d.take (2 * k)).map phi) with
      | none => none
      | some now => if stepI c i z (d.take k) ((d.drop k).take k) (lag (P.line.map phi) 0) (if k = 0 then lag (P.line.map phi) 0 else lag (P.line.map phi) 1) = now then some (lag (P.line.map phi) (phi (at0 d (2 * k)))) else none by
    unfold holdsF stepI
    rw [Htt.out, Htk.out, Htd.out, HX.out]; rfl)
  obtain ⟨OO, hOO⟩ : ∃ OO, OO = holdsF (aty c.layers i).gates (z.map phi) (phi cl) k P.toF (d.map phi) := ⟨_, rfl⟩
  rw [← hOO] at HF ⊢
  obtain ⟨NX, hNX⟩ : ∃ NX, NX = nextI k d := ⟨_, rfl⟩
  rw [← hNX] at HNX ⊢
  have Hl2 := Lib.hid (show (d.take (2 * k)).length = 2 * k by rw [List.length_take, Hdl.out]; omega)
  generalize at0 d (2 * k) = X at *
  generalize d.take (2 * k) = dz at *
  generalize d.take k = dx at *
  generalize (d.drop k).take k = dy at *
  clear hOO hNX h hc0 hz ucl hcd hzl hk hP hdl hdr hdcell ud hG HX Htk Htd Htt
  go_enter Tryz.func148, Tryz.ntmps148
  go_wp2_with (fail)
  obtain ⟨W, hW, hb1, hb2, s1, B1⟩ := two_blocks w #[.int .i64 c.log, .slice ac c.layers.length cc] #[.slice aR P.rounds.length cR, .slice aL P.line.length cL] 62 143
  rw [hW]
  have H1 := Lib.hid B1
  obtain ⟨tb, htb⟩ : ∃ tb, tb = w.heap.size := ⟨_, rfl⟩
  rw [← htb] at hb1 hb2 s1 ⊢
  have Htb := Lib.hid htb
  have Hb1 := Lib.hid hb1; have Hb2 := Lib.hid hb2
  clear hW hb1 hb2 B1 htb s1
  refine (wiring_Below _ c i _ (HC.out.go H1.out) (by omega) h4).mono ?_
  rintro e w2 ⟨rfl, hb2⟩
  rw [Hk.out]
  have HB2 := Lib.hid (below_two H1.out hb2)
  have Hbt2 := Lib.hid ((hb2.block tb (blk_lt Hb1.out)).trans Hb1.out)
  have Hbp2 := Lib.hid ((hb2.block (tb + 1) (blk_lt Hb2.out)).trans Hb2.out)
  clear hb2
  by_cases hk0 : (k : Int) < 1
  · have Hfin := Lib.hid (show ∀ (st : F) (vn : Value) (W : World), st = stepI c i z dx dy (lag (P.line.map phi) (phi 0)) (lag (P.line.map phi) (phi 0)) → NewU w.heap.size W vn NX → HoldsSay OO W w.heap.size (psi (lag (P.line.map phi) (phi X))) vn (psi st == psi (phi cl)) NX from fun st vn W hst hn => by
        rw [HF.out]
        have e0 : k = 0 := by omega
        have hr0 : P.rounds = [] := List.eq_nil_of_length_eq_zero (by rw [HP.out.n, e0])
        rw [hr0]
        show HoldsSay (if _ = phi cl then _ else none) _ _ _ _ _ _
        rw [if_pos e0]
        rw [phi_zero] at hst
        rw [← hst]
        exact holdsSay_if rfl hn)
    have hkb : decide (0 < k) = false := decide_eq_false (by omega)
    clear hk0
    go_wp2_with (fail)
    have Hkb := Lib.hid hkb
    clear hkb
    go_quiet (fail)
    have hkb := Hkb.out
    rw [show 2 * k - k = k by omega]
    have HB4 := Lib.hid (show Below w.heap.size w (w2.drewN nq) from below_drewN HB2.out nq)
    have Hc0 := Lib.hid (show Below tb w2 (w2.drewN nq) ∨ True from .inr trivial)
    have b1' := Lib.hid (show (w2.drewN nq).heap[tb]? = _ from Hbt2.out)
    have b2' := Lib.hid (show (w2.drewN nq).heap[tb + 1]? = _ from Hbp2.out)
    generalize w2.drewN nq = w4 at *
    have r1 : w4.cell? ⟨tb + 1, 1, none⟩ = some _ := cell_blk b2'.out 1
    have Hl4 := Lib.hid (Hl.out.below HB4.out (Nat.le_refl _))
    go_wp2_with (fail)
    refine (uni_At P.line _ 0 _ Hl4.out hl1 hl8 U64.zero).mono ?_
    rintro e w5 ⟨rfl, hb5⟩
    have Hb5 := Lib.hid hb5
    clear hb5 r1
    have r1 : w5.cell? ⟨tb + 1, 1, none⟩ = some _ := cell_blk ((Hb5.out.block (tb + 1) (blk_lt b2'.out)).trans b2'.out) 1
    have r0 : w5.cell? ⟨tb, 0, none⟩ = some _ := cell_blk ((Hb5.out.block tb (blk_lt b1'.out)).trans b1'.out) 0
    have r2 : w5.cell? ⟨tb, 1, none⟩ = some _ := cell_blk ((Hb5.out.block tb (blk_lt b1'.out)).trans b1'.out) 1
    obtain ⟨vx, hvx⟩ : ∃ vx, vx = lag (P.line.map phi) (phi 0) := ⟨_, rfl⟩
    rw [← hvx]
    have Hvx := Lib.hid hvx
    clear hvx
    go_wp2_with (fail)

    refine (w_Step _ c i _ _ _ z dx dy (psi vx) (psi vx) _ (HC.out.go (HB4.out.trans (Hb5.out.mono HB4.out.size))) (I64.mk (by omega) (by omega)) (Hz.out.go (HB4.out.trans (Hb5.out.mono HB4.out.size))) (Px.out _ (HB4.out.trans (Hb5.out.mono HB4.out.size))) (Py.out _ (HB4.out.trans (Hb5.out.mono HB4.out.size))) (U64.psi _) (U64.psi _) i rfl HW.out Hc0'.out).mono ?_
    rintro e w6 ⟨rfl, hb6⟩
    have Hb6 := Lib.hid (below_two Hb5.out hb6)
    have HB6 := Lib.hid (HB4.out.trans (Hb6.out.mono HB4.out.size))
    clear hb6 r0 r1 r2
    rw [phi_psi]
    try rw [phi_psi]
    obtain ⟨st, hst⟩ : ∃ st, st = stepI c i z dx dy vx vx := ⟨_, rfl⟩
    rw [← hst]
    have Hst := Lib.hid hst
    clear hst
    have r1 : w6.cell? ⟨tb + 1, 1, none⟩ = some (.slice aL P.line.length cL) := cell_blk ((Hb6.out.block (tb + 1) (blk_lt b2'.out)).trans b2'.out) 1
    have cX : w6.cell? ⟨bd, od + (2 * (k : Int)).toNat, none⟩ = some (.int .u64 X) := by
      rw [show (2 * (k : Int)).toNat = 2 * k by omega]; exact (HB6.out.cell (p := ⟨bd, od + 2 * k, none⟩) hdlt).trans Hcdk.out
    have g1 := cell_regrown r1
    have cY : w6.cell? ⟨bd, od + 2 * k, none⟩ = some (.int .u64 X) := (HB6.out.cell (p := ⟨bd, od + 2 * k, none⟩) hdlt).trans Hcdk.out
    have gX := cell_regrown cX
    have gY := cell_regrown cY
    have HcA := Lib.hid (fun d os => show Calls Tryz.prog 167 #[.slice aL P.line.length cL, .int .u64 X] (grow (redrawn w6 d) os) fun e w'' => e = .returned (.tuple #[.int .u64 (psi (lag (P.line.map phi) (phi X))), .int .i64 0]) ∧ ∃ p : Regrown, w'' = grow (redrawn w6 p.d) p.os from
      Calls.regrown_of (w := w6) (uni_At P.line _ X _ (Hl.out.below (HB6.out.trans ((below_regrown w6 d os).mono HB6.out.size)) (Nat.le_refl _)) hl1 hl8 udk))
    have hk0 : (0 : Int) ≤ 2 * (k : Int) := by omega
    have hk1 : 2 * (k : Int) < 2 * (k : Int) + 1 := by omega
    have hkw : IntKind.i64.wrap (2 * (k : Int)) = 2 * (k : Int) := IntWalk.i64_in _ (by omega)
    clear r1
    go_wp2_with (fail)
    refine wp_region_quiet_below (by kernel_rfl) (by kernel_rfl) ?_
    repeat (any_goals (first | go_big_quiet_step (first | (go_at_call 167; with_reducible exact HcA.out _ _)) | quiet_step (first | (go_at_call 167; with_reducible exact HcA.out _ _))))
    refine wpQuiet_nil ?_; intro _ hw'; obtain ⟨⟨dq, osq⟩, hw''⟩ := hw'; subst hw''
    have HB7 := Lib.hid (HB6.out.trans ((below_regrown w6 dq osq).mono HB6.out.size))
    have cX7 := cell_regrown (d := dq) (os := osq) cX
    have cY7 := cell_regrown (d := dq) (os := osq) cY
    generalize grow (redrawn w6 dq) osq = w7 at *
    clear g1 gX gY hkw cX cY
    go_wp2_with (fail)
    refine (gkr_along dx dy _ _ X _ (Px.out _ HB7.out) (Py.out _ HB7.out) (by rw [Hlx.out, Hly.out]) (by rw [Hlx.out]; omega) udk).mono ?_
    rintro e w8 ⟨vn, rfl, hn8, hb8⟩
    have Hn8 := Lib.hid hn8
    have HB8 := Lib.hid (HB7.out.trans (hb8.mono HB7.out.size))
    clear hn8 hb8
    go_wp2_with (fail)
    refine (field_Norm _ _ Ucl.out).mono ?_
    rintro e w' ⟨rfl, rfl⟩
    go_wp2
    go_ret3
    exact HoldsPost.mk _ _ _ rfl (Hfin.out st _ _ (by rw [Hst.out, Hvx.out]) (by rw [HNX.out]; exact Hn8.out.mono HB7.out.size)) HB8.out
  · have hk1' : (1 : Int) ≤ (k : Int) := by omega
    have hkb : decide (0 < k) = true := decide_eq_true (by omega)
    clear hk0
    have cK := Lib.hid (fun d os => show Calls Tryz.prog 166 #[.int .u64 cl, .slice aR P.rounds.length cR, .slice (some ⟨bd, od, none⟩) (2 * k) cd] (grow (redrawn w2 d) os) fun e w'' => e = .returned (.tuple #[.int .u64 (toldV (told (phi cl) (phis P.rounds) (dz.map phi))), .bool (toldB (told (phi cl) (phis P.rounds) (dz.map phi))), .int .i64 0]) ∧ ∃ p : Regrown, w'' = grow (redrawn w2 p.d) p.os from
      Calls.regrown_of (w := w2) (sum_Verify cl Ucl.out _ P.rounds _ dz _ (Hr.out.below (HB2.out.trans ((below_regrown w2 d os).mono HB2.out.size)) (Nat.le_refl _)) (P2.out _ (HB2.out.trans ((below_regrown w2 d os).mono HB2.out.size))) (by rw [HP.out.n, Hl2.out]) HP.out.good))
    have g0 : w2.cell? ⟨tb + 1, 0, none⟩ = some (.slice aR P.rounds.length cR) := cell_blk Hbp2.out 0
    have g0r := cell_regrown g0
    have hk2 : (0 : Int) ≤ 2 * (k : Int) := by omega
    have hk3 : 2 * (k : Int) ≤ (cd : Int) := by omega
    have hkw2 : IntKind.i64.wrap (2 * (k : Int)) = 2 * (k : Int) := IntWalk.i64_in _ (by omega)
    go_wp2_with (fail)
    have Hkb := Lib.hid hkb
    clear hkb
    refine wp_region_quiet_below (by kernel_rfl) (by kernel_rfl) ?_
    repeat (any_goals (first | go_big_quiet_step (first | (go_at_call 166; with_reducible exact cK.out _ _)) | quiet_step (first | (go_at_call 166; with_reducible exact cK.out _ _))))
    refine wpQuiet_nil ?_; intro _ hw'; obtain ⟨⟨dq, osq⟩, hw''⟩ := hw'; subst hw''
    have HB3 := Lib.hid (HB2.out.trans ((below_regrown w2 dq osq).mono HB2.out.size))
    have Hbt3 := Lib.hid (((below_regrown w2 dq osq).block tb (blk_lt Hbt2.out)).trans Hbt2.out)
    have Hbp3 := Lib.hid (((below_regrown w2 dq osq).block (tb + 1) (blk_lt Hbp2.out)).trans Hbp2.out)
    generalize grow (redrawn w2 dq) osq = w3 at *
    clear g0 g0r hkw2
    cases hto : told (phi cl) (phis P.rounds) (dz.map phi) with
    | none =>
      rw [hto] at HF
      have HN := Lib.hid (show OO = none from HF.out)
      rw [show toldB none = false from rfl, show toldV none = 0 from rfl]
      go_wp2
      go_ret3
      exact HoldsPost.mk _ _ _ rfl (by rw [HN.out]; exact holdsSay_no) HB3.out
    | some now =>
      rw [hto] at HF
      clear hto
      rw [show toldB (some now) = true from rfl, show toldV (some now) = psi now from rfl]
      have Hfin := Lib.hid (show ∀ (st : F) (vn : Value) (W : World), st = stepI c i z dx dy (lag (P.line.map phi) (phi 0)) (lag (P.line.map phi) (phi 1)) → NewU w.heap.size W vn NX → HoldsSay OO W w.heap.size (psi (lag (P.line.map phi) (phi X))) vn (psi st == psi (phi (psi now))) NX from fun st vn W hst hn => by
          rw [HF.out]
          show HoldsSay (if _ = now then _ else none) _ _ _ _ _ _
          rw [if_neg (show ¬ k = 0 by omega)]
          rw [phi_zero, phi_one] at hst
          rw [← hst]
          exact holdsSay_if (phi_psi _) hn)
      have hkb := Hkb.out
      go_wp2_with (fail)
      have Hkb := Lib.hid hkb
      clear hkb
      go_quiet (fail)
      have hkb := Hkb.out
      rw [show 2 * k - k = k by omega]
      have HB4 := Lib.hid (show Below w.heap.size w (w3.drewN nq) from below_drewN HB3.out nq)
      have Hc0 := Lib.hid (show Below tb w3 (w3.drewN nq) ∨ True from .inr trivial)
      have b1' := Lib.hid (show (w3.drewN nq).heap[tb]? = _ from Hbt3.out)
      have b2' := Lib.hid (show (w3.drewN nq).heap[tb + 1]? = _ from Hbp3.out)
      generalize w3.drewN nq = w4 at *
      have r1 : w4.cell? ⟨tb + 1, 1, none⟩ = some _ := cell_blk b2'.out 1
      have Hl4 := Lib.hid (Hl.out.below HB4.out (Nat.le_refl _))
      go_wp2_with (fail)
      refine (uni_At P.line _ 0 _ Hl4.out hl1 hl8 U64.zero).mono ?_
      rintro e w5 ⟨rfl, hb5⟩
      have Hb5 := Lib.hid hb5
      clear hb5 r1
      have r1 : w5.cell? ⟨tb + 1, 1, none⟩ = some _ := cell_blk ((Hb5.out.block (tb + 1) (blk_lt b2'.out)).trans b2'.out) 1
      have r0 : w5.cell? ⟨tb, 0, none⟩ = some _ := cell_blk ((Hb5.out.block tb (blk_lt b1'.out)).trans b1'.out) 0
      have r2 : w5.cell? ⟨tb, 1, none⟩ = some _ := cell_blk ((Hb5.out.block tb (blk_lt b1'.out)).trans b1'.out) 1
      obtain ⟨vx, hvx⟩ : ∃ vx, vx = lag (P.line.map phi) (phi 0) := ⟨_, rfl⟩
      rw [← hvx]
      have Hvx := Lib.hid hvx
      clear hvx
      go_wp2_with (fail)
      refine (uni_At P.line _ 1 _ (Hl4.out.go Hb5.out) hl1 hl8 U64.one).mono ?_
      rintro e w5' ⟨rfl, hb5'⟩
      have Hb5' := Lib.hid (below_two Hb5.out hb5')
      clear hb5' r0 r1 r2
      have r0 : w5'.cell? ⟨tb, 0, none⟩ = some _ := cell_blk ((Hb5'.out.block tb (blk_lt b1'.out)).trans b1'.out) 0
      have r2 : w5'.cell? ⟨tb, 1, none⟩ = some _ := cell_blk ((Hb5'.out.block tb (blk_lt b1'.out)).trans b1'.out) 1
      have r1 : True := trivial
      obtain ⟨vy, hvy⟩ : ∃ vy, vy = lag (P.line.map phi) (phi 1) := ⟨_, rfl⟩
      rw [← hvy]
      have Hvy := Lib.hid hvy
      clear hvy
      go_wp2_with (fail)
      refine (w_Step _ c i _ _ _ z dx dy (psi vx) (psi vy) _ (HC.out.go (HB4.out.trans (Hb5'.out.mono HB4.out.size))) (I64.mk (by omega) (by omega)) (Hz.out.go (HB4.out.trans (Hb5'.out.mono HB4.out.size))) (Px.out _ (HB4.out.trans (Hb5'.out.mono HB4.out.size))) (Py.out _ (HB4.out.trans (Hb5'.out.mono HB4.out.size))) (U64.psi _) (U64.psi _) i rfl HW.out Hc0'.out).mono ?_
      rintro e w6 ⟨rfl, hb6⟩
      have Hb6 := Lib.hid (below_two Hb5'.out hb6)
      have HB6 := Lib.hid (HB4.out.trans (Hb6.out.mono HB4.out.size))
      clear hb6 r0 r1 r2
      rw [phi_psi]
      try rw [phi_psi]
      obtain ⟨st, hst⟩ : ∃ st, st = stepI c i z dx dy vx vy := ⟨_, rfl⟩
      rw [← hst]
      have Hst := Lib.hid hst
      clear hst
      have r1 : w6.cell? ⟨tb + 1, 1, none⟩ = some (.slice aL P.line.length cL) := cell_blk ((Hb6.out.block (tb + 1) (blk_lt b2'.out)).trans b2'.out) 1
      have cX : w6.cell? ⟨bd, od + (2 * (k : Int)).toNat, none⟩ = some (.int .u64 X) := by
        rw [show (2 * (k : Int)).toNat = 2 * k by omega]; exact (HB6.out.cell (p := ⟨bd, od + 2 * k, none⟩) hdlt).trans Hcdk.out
      have g1 := cell_regrown r1
      have cY : w6.cell? ⟨bd, od + 2 * k, none⟩ = some (.int .u64 X) := (HB6.out.cell (p := ⟨bd, od + 2 * k, none⟩) hdlt).trans Hcdk.out
      have gX := cell_regrown cX
      have gY := cell_regrown cY
      have HcA := Lib.hid (fun d os => show Calls Tryz.prog 167 #[.slice aL P.line.length cL, .int .u64 X] (grow (redrawn w6 d) os) fun e w'' => e = .returned (.tuple #[.int .u64 (psi (lag (P.line.map phi) (phi X))), .int .i64 0]) ∧ ∃ p : Regrown, w'' = grow (redrawn w6 p.d) p.os from
        Calls.regrown_of (w := w6) (uni_At P.line _ X _ (Hl.out.below (HB6.out.trans ((below_regrown w6 d os).mono HB6.out.size)) (Nat.le_refl _)) hl1 hl8 udk))
      have hk0 : (0 : Int) ≤ 2 * (k : Int) := by omega
      have hk1 : 2 * (k : Int) < 2 * (k : Int) + 1 := by omega
      have hkw : IntKind.i64.wrap (2 * (k : Int)) = 2 * (k : Int) := IntWalk.i64_in _ (by omega)
      clear r1
      go_wp2_with (fail)
      refine wp_region_quiet_below (by kernel_rfl) (by kernel_rfl) ?_
      repeat (any_goals (first | go_big_quiet_step (first | (go_at_call 167; with_reducible exact HcA.out _ _)) | quiet_step (first | (go_at_call 167; with_reducible exact HcA.out _ _))))
      refine wpQuiet_nil ?_; intro _ hw'; obtain ⟨⟨dq, osq⟩, hw''⟩ := hw'; subst hw''
      have HB7 := Lib.hid (HB6.out.trans ((below_regrown w6 dq osq).mono HB6.out.size))
      have cX7 := cell_regrown (d := dq) (os := osq) cX
      have cY7 := cell_regrown (d := dq) (os := osq) cY
      generalize grow (redrawn w6 dq) osq = w7 at *
      clear g1 gX gY hkw cX cY
      go_wp2_with (fail)
      refine (gkr_along dx dy _ _ X _ (Px.out _ HB7.out) (Py.out _ HB7.out) (by rw [Hlx.out, Hly.out]) (by rw [Hlx.out]; omega) udk).mono ?_
      rintro e w8 ⟨vn, rfl, hn8, hb8⟩
      have Hn8 := Lib.hid hn8
      have HB8 := Lib.hid (HB7.out.trans (hb8.mono HB7.out.size))
      clear hn8 hb8
      go_wp2_with (fail)
      refine (field_Norm _ _ (U64.psi _)).mono ?_
      rintro e w' ⟨rfl, rfl⟩
      go_wp2
      go_ret3
      exact HoldsPost.mk _ _ _ rfl (Hfin.out st _ _ (by rw [Hst.out, Hvx.out, Hvy.out]) (by rw [HNX.out]; exact Hn8.out.mono HB7.out.size)) HB8.out
end Go.Proofs.YtlfneeobnihocaaGreatDoor
