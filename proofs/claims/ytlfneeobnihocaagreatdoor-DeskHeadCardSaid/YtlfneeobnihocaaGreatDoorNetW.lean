/- Several texts in one: DeskA, NetW. What each says, and its conditions, stands at its head. -/
import Derived.Test.YtlfneeobnihocaaGreatDoorDeskM
import Derived.Test.YtlfneeobnihocaaGreatDoorBadW
/- The walks of the desk's show, ran and proved. The tables of bits and of powers of ten lie as their initialisers lay them. -/
namespace Go.Proofs.YtlfneeobnihocaaGreatDoor
set_option maxRecDepth 100000
set_option linter.unusedVariables false
open Go.RowKit Tally
theorem st_Join (ws : List Bs) (v : Value) (w : World) (h : RowS w v ws) (hl : ws.length ≤ 100000) (hsz : ∀ x ∈ ws, x.length ≤ 1000000) :
    Calls Tryz.prog 58 #[v, .string (mkB [32])] w fun e w' => e = .returned (.string (mkB (joinD ws))) ∧ Below w.heap.size w w' := by
  obtain ⟨-, a, cap, rfl, hc1, hc2, hr⟩ := h
  by_cases h0 : ws = []
  · subst h0
    refine (Tryz.strings_Join_none a cap _ w).mono ?_
    rintro e w' ⟨rfl, rfl⟩
    exact ⟨rfl, Below.refl _ _⟩
  · obtain ⟨b, off, rfl, hb, -, hcell⟩ := hr (List.length_pos_iff.mpr h0)
    have hmap : (ws.map mkB).map (·.data.toList) = ws := by
      rw [List.map_map]
      exact (List.map_congr_left fun x _ => show (mkB x).data.toList = x from List.toList_toArray).trans (List.map_id _)
    have hj := joinD_len 1000000 ws hsz
    have hC := Tryz.strings_Join b off cap (ws.map mkB) (mkB [32]) w (fun j x hx => by
      have hlt := (List.getElem?_eq_some_iff.mp hx).1
      rw [List.length_map] at hlt
      rw [List.getElem?_map, List.getElem?_eq_getElem hlt] at hx
      have hx' : mkB ws[j] = x := by simpa using hx
      rw [← hx', hcell j hlt, ats, List.getElem?_eq_getElem hlt]; rfl) hb (by rw [List.length_map]; omega) (by rw [List.length_map]; exact hc1) (by
        rw [hmap]
        show (joinD ws).length ≤ _
        have : ws.length * (1000000 + 1) ≤ 100000 * 1000001 := Nat.mul_le_mul_right _ hl
        omega)
    rw [hmap, List.length_map] at hC
    exact hC
set_option maxRecDepth 100000 in
set_option maxHeartbeats 4000000 in
theorem fiat_Prove_no (v : Value) (c : Ci) (vi : Value) (E : Int) (w : World) (h : IsC w v c) (hE : (E != 0) = true)
    (hrun : ∀ W, Below w.heap.size w W → Calls Tryz.prog 98 #[v, vi] W fun e w' => e = .returned (.tuple #[.slice none 0 0, .int .i64 E]) ∧ Below W.heap.size W w') :
    Calls Tryz.prog 65 #[v, vi] w fun e w' => e = .returned (.tuple #[.slice none 0 0, .agg #[.slice none 0 0], .int .i64 E]) ∧ Below w.heap.size w w' := by
  obtain ⟨ac, cc, rfl⟩ := h.shape
  have HR := Lib.hid hrun
  clear hrun h
  go_enter Tryz.func65, Tryz.ntmps65
  go_wp2_with (fail)
  obtain ⟨W, hW, hb1, hb2, s1, B1⟩ := two_blocks w #[.int .i64 c.log, .slice ac c.layers.length cc] #[.slice none 0 0] 62 93
  rw [hW]
  have H1 := Lib.hid B1
  have Hb2 := Lib.hid hb2
  have lrs : w.heap.size + 1 < W.heap.size := by omega
  clear hW hb1 hb2 B1 s1
  refine (HR.out W H1.out).mono ?_
  rintro e w1 ⟨rfl, bw1⟩
  have H2 := Lib.hid (below_two H1.out bw1)
  have hrr := (bw1.block (w.heap.size + 1) lrs).trans Hb2.out
  have ff := free_blk hrr 0
  have g0 : w1.cell? ⟨w.heap.size + 1, 0, none⟩ = some (.slice none 0 0) := cell_blk hrr 0
  clear bw1
  go_wp2_with (fail)
  have hbk := blk_setCell hrr 0 (.slice none 0 0)
  have hbz := H2.out.setCell (p := ⟨w.heap.size + 1, 0, none⟩) (Nat.le_succ _) (.slice none 0 0)
  generalize w1.setCell ⟨w.heap.size + 1, 0, none⟩ (.slice none 0 0) = wz at *
  have d0 : wz.cell? ⟨w.heap.size + 1, 0, none⟩ = some (.slice none 0 0) := cell_blk hbk 0
  exact bodyPost_ret (v := .tuple #[.slice none 0 0, .agg #[.slice none 0 0], .int .i64 E]) (by simp [results, Tryz.results65, go_sem, d0]) rfl ⟨rfl, hbz⟩
theorem lay_at (vc : Value) (c : Ci) (w : World) (h : IsC w vc c) : ∃ a n cap, vc = .agg #[.int .i64 c.log, .slice a n cap] := by
  obtain ⟨a, cap, rfl⟩ := h.shape
  exact ⟨_, _, _, rfl⟩
set_option maxHeartbeats 4000000 in
theorem desk_show (vc : Value) (c : Ci) (w : World) (h : IsC w vc c) (hc : checkC c = 0) :
    Calls Tryz.prog 31 #[vc] w fun e w' => e = .returned (.string (mkB (showA c))) ∧ Below w.heap.size w w' := by
  have HC := Lib.hid h; have Hc := Lib.hid hc
  have hG := good_of_check hc
  have HG := Lib.hid hG
  have hsz := circB_size hG
  have hsz' : ¬ (9223372036854775807 < (circB c).size + 2) := by omega
  obtain ⟨a, n, cap, rfl⟩ := lay_at vc c w h
  clear h hc hG hsz
  go_enter Tryz.func31, Tryz.ntmps31
  go_wp2_with (fail)
  obtain ⟨W1, hW1, k0, k1, B1, s1⟩ := copied2' w (.int .i64 c.log) (.slice a n cap) 62
  rw [hW1]
  have HB1 := Lib.hid B1
  clear hW1 B1 s1
  refine (c_Print _ c W1 (HC.out.go HB1.out) HG.out Hc.out).mono ?_
  rintro e w2 ⟨rfl, hb⟩
  have HB2 := Lib.hid (below_two HB1.out hb)
  clear hb k0 k1
  go_wp2_with (fail)
  go_ret
  refine ⟨?_, HB2.out⟩
  show Ending.returned (.string (circB c ++ ⟨#[111, 107]⟩)) = _
  have e : circB c ++ ⟨#[111, 107]⟩ = mkB (showA c) := mkB_append (circB c).data.toList [111, 107]
  rw [e]
/-- a row of strings that a call has made reads as their list -/
theorem NewS.go {B : Nat} {w w' : World} {v : Value} {l : List Bs} (h : NewS B w v l) (hb : Below w.heap.size w w') : NewS B w' v l := h.below hb (Nat.le_refl _)
theorem NewS.nilS (B : Nat) (w : World) : NewS B w (.slice none 0 0) [] := ⟨by simp, World.ownsRow_nil w B _ _⟩
theorem psi_u64 (x : F) : U64 (psi x) := U64.psi x
set_option maxHeartbeats 8000000 in
theorem desk_ran (vc : Value) (c : Ci) (v : Value) (n : List Int) (w : World) (hT : Ten w) (h : IsC w vc c) (hc : checkC c = 0) (hn : RowU w v n) :
    Calls Tryz.prog 71 #[vc, v] w fun e w' => e = .returned (.string (mkB (ranA c n))) ∧ Below w.heap.size w w' := by
  have HC := Lib.hid h; have Hc := Lib.hid hc; have Hn := Lib.hid hn; have HT := Lib.hid hT
  have hG := good_of_check hc
  have HG := Lib.hid hG
  have h4 := hG.n4
  obtain ⟨a, m, cap, rfl⟩ := lay_at vc c w h
  obtain ⟨RA, hRA⟩ : ∃ RA, RA = ranA c n := ⟨_, rfl⟩
  have HRA := Lib.hid hRA
  rw [← hRA]
  clear h hc hG hn hT hRA
  go_enter Tryz.func71, Tryz.ntmps71
  go_wp2_with (fail)
  obtain ⟨W1, hW1, k0, k1, B1, s1⟩ := copied2' w (.int .i64 c.log) (.slice a m cap) 62
  rw [hW1]
  have HB1 := Lib.hid B1
  clear hW1 B1 s1
  by_cases hl : n.length = 2 ^ c.log.toNat
  · have HL := Lib.hid hl
    have HR2 := Lib.hid (show RA = joinD ((outsI c n).map decL) by rw [HRA.out]; unfold ranA; rw [if_pos hl])
    clear hl
    refine (c_RunAt _ c _ n W1 (HC.out.go HB1.out) (Hn.out.go HB1.out) Hc.out HL.out).mono ?_
    rintro e w2 ⟨vx, rfl, hrun, hb⟩
    obtain ⟨bx, ox, cx, rfl, hbx, hrc⟩ := hrun
    obtain ⟨u, hu, hru⟩ := hrc c.layers.length (Nat.le_refl _)
    have HB2 := Lib.hid (below_two HB1.out hb)
    clear hb hrc k0 k1
    have hV : (valF c (n.map phi) c.layers.length).map psi = outsI c n := rfl
    rw [hV] at hru
    obtain ⟨O, hO⟩ : ∃ O, O = outsI c n := ⟨_, rfl⟩
    have HOl := Lib.hid (show O.length ≤ 16 by
      rw [hO, outsI, List.length_map, valF_length HG.out _ (by rw [List.length_map, HL.out]) _ (Nat.le_refl _)]
      have h0 := HG.out.below0 (k := c.layers.length) (Nat.le_refl _)
      have h4 := HG.out.below4 (k := c.layers.length) (Nat.le_refl _)
      exact (pow4 h4).2)
    rw [← hO] at hru HR2
    clear hV hO
    obtain ⟨L, hL⟩ : ∃ L, L = c.layers.length := ⟨_, rfl⟩
    rw [← hL] at hu h4 ⊢
    clear hL
    have hL1 : (L : Int) < (L : Int) + 1 := by omega
    obtain ⟨hut, -, au, cu, rfl, hrow⟩ := hru
    have Hut := Lib.hid hut; have Hrow := Lib.hid hrow
    clear hut hrow
    have hlen16 := HOl.out
    go_wp2_with (fail)
    go_loopw [7, 27] (fun ov i wr => ∃ k : Nat, k ≤ O.length ∧ i = .int .i64 (k : Int) ∧ Hid (NewS w2.heap.size wr ov ((O.take k).map decL)) ∧ Hid (Below w2.heap.size w2 wr)) (fun _ i _ => O.length - (intOf i).toNat)
    case atStart => exact ⟨0, Nat.zero_le _, rfl, NewS.nilS _ _, Below.refl _ _⟩
    case round =>
      obtain ⟨k, hk, rfl, HS, HB⟩ := hrel
      by_cases hz : k < O.length
      · have hz' : (k : Int) < (O.length : Int) := by omega
        obtain ⟨b2, o2, rfl, hb2, hc2⟩ := Hrow.out (by omega)
        have cx1 := (HB.out.cell (p := ⟨b2, o2 + k, none⟩) hb2).trans (hc2 k hz)
        have ux := Hut.out _ (at0_mem hz)
        have Htk := Lib.hid (show (O.take (k + 1)).map decL = (O.take k).map decL ++ [decL (at0 O k)] by rw [take_snoc' _ _ hz, List.map_append]; rfl)
        have hcap : ((O.take k).map decL).length + 1 ≤ 1000000 := by rw [List.length_map, List.length_take]; omega
        obtain ⟨x, hx⟩ : ∃ x, x = at0 O k := ⟨_, rfl⟩
        rw [← hx] at cx1 ux Htk
        obtain ⟨TK, hTK⟩ : ∃ TK, TK = (O.take k).map decL := ⟨_, rfl⟩
        rw [← hTK] at HS Htk hcap
        clear hc2 hx hTK
        obtain ⟨ao, co, rfl⟩ := HS.out.isSlice
        go_wp2_with (fail)
        refine (s_FormatUint x wr ux (HT.out.go (below_two HB2.out HB.out))).mono ?_
        rintro e w3 ⟨rfl, hb3⟩
        have HB3 := Lib.hid (below_two HB.out hb3)
        have HS3 := Lib.hid (HS.out.go hb3)
        have hsz3 := HB3.out.size
        clear hb3
        go_wp2_with (at_builtin; refine wpList_appS rfl _ _ rfl w2.heap.size _ _ rfl HS3.out (decL x) rfl hcap hsz3 ?_; intro v4 w4 hn4 hb4; have HS4 := Lib.hid hn4; have HB4 := Lib.hid (HB3.out.trans hb4); clear hn4 hb4)
        go_roundw
        case rel => exact ⟨k + 1, by omega, by go_num, by rw [Htk.out]; exact HS4.out, HB4.out⟩
        case measure => simp [intOf]; omega
      · obtain rfl : k = O.length := by omega
        rw [List.take_of_length_le (Nat.le_refl _)] at HS
        have HMl := Lib.hid (show (O.map decL).length ≤ 16 by rw [List.length_map]; omega)
        obtain ⟨ao, co, rfl⟩ := HS.out.isSlice
        have HJ := Lib.hid (st_Join (O.map decL) (.slice ao (O.map decL).length co) wr HS.out.row (by rw [List.length_map]; omega) (fun y hy => by
          obtain ⟨x, hx, rfl⟩ := List.mem_map.mp hy
          have := decL_len x (by have := (Hut.out x hx).2; omega)
          omega))
        have HBz := Lib.hid (below_two HB2.out HB.out)
        obtain ⟨OM, hOM⟩ : ∃ OM, OM = O.map decL := ⟨_, rfl⟩
        rw [← hOM] at HJ HMl HS HR2 ⊢
        clear hOM
        go_wp2_with (fail)
        refine HJ.out.mono ?_
        rintro e w5 ⟨rfl, hb5⟩
        have HB5 := Lib.hid (below_two HBz.out hb5)
        clear hb5
        go_wp2
        go_ret
        exact ⟨by rw [HR2.out]; rfl, HB5.out⟩
  · have HR2 := Lib.hid (show RA = errL 4 by rw [HRA.out]; unfold ranA; rw [if_neg hl])
    refine (c_Run_form _ c _ n W1 (HC.out.go HB1.out) (Hn.out.go HB1.out) HG.out Hc.out hl).mono ?_
    rintro e w2 ⟨rfl, hb⟩
    have HB2 := Lib.hid (below_two HB1.out hb)
    clear hb hl k0 k1
    go_wp2_with (go_at_call 29; refine (desk_failed 4 _ (by decide) (by decide)).mono ?_; rintro e w' ⟨rfl, rfl⟩)
    go_ret
    exact ⟨by rw [HR2.out]; rfl, HB2.out⟩
set_option maxHeartbeats 8000000 in
theorem desk_proved (vc : Value) (c : Ci) (va vb : Value) (a b : List Int) (w : World) (hT : Tab w) (h : IsC w vc c) (hc : checkC c = 0) (ha : RowU w va a) (hb : RowU w vb b) :
    Calls Tryz.prog 36 #[vc, va, vb] w fun e w' => e = .returned (.string (mkB (provA c a b))) ∧ Below w.heap.size w w' := by
  have HC := Lib.hid h; have Hc := Lib.hid hc; have Ha := Lib.hid ha; have Hb := Lib.hid hb; have HT := Lib.hid hT
  have hG := good_of_check hc
  have HG := Lib.hid hG
  obtain ⟨ac, m, cap, rfl⟩ := lay_at vc c w h
  obtain ⟨RA, hRA⟩ : ∃ RA, RA = provA c a b := ⟨_, rfl⟩
  have HRA := Lib.hid hRA
  rw [← hRA]
  clear h hc hG ha hb hT hRA
  go_enter Tryz.func36, Tryz.ntmps36
  go_wp2_with (fail)
  obtain ⟨W1, hW1, k0, k1, B1, s1⟩ := copied2' w (.int .i64 c.log) (.slice ac m cap) 62
  obtain ⟨ob, hob⟩ : ∃ ob, ob = w.heap.size := ⟨_, rfl⟩
  rw [hW1, ← hob]
  rw [← hob] at k0 k1 s1
  have HB1 := Lib.hid B1
  have HK := Lib.hid (show ∀ X, Below W1.heap.size W1 X → X.cell? ⟨ob, 0, none⟩ = some (.int .i64 c.log) ∧ X.cell? ⟨ob, 1, none⟩ = some (.slice ac m cap) from fun X hX => ⟨(hX.cell (p := ⟨ob, 0, none⟩) (show ob < _ by omega)).trans k0, (hX.cell (p := ⟨ob, 1, none⟩) (show ob < _ by omega)).trans k1⟩)
  clear hW1 B1 s1 hob
  by_cases hl : a.length = 2 ^ c.log.toNat
  · have HL := Lib.hid hl
    clear hl
    refine (fiat_Prove _ c _ a W1 (HT.out.below HB1.out) (HC.out.go HB1.out) Hc.out (Ha.out.go HB1.out) HL.out).mono ?_
    rintro e w2 ⟨vo, vp, rfl, hro, hp, hb⟩
    have HB2 := Lib.hid (below_two HB1.out hb)
    have hP : (valF c (a.map phi) c.layers.length).map psi = outsI c a := rfl
    rw [hP] at hp
    obtain ⟨P, hPe⟩ : ∃ P, P = proveI c a (fiatD c a (outsI c a)) := ⟨_, rfl⟩
    have HPe := Lib.hid hPe
    rw [← hPe] at hp
    have HS := Lib.hid (show ShapedI c P by rw [hPe]; exact shaped_prove c a _ (fiatD_length _ _ _))
    have Hp2 := Lib.hid hp
    obtain ⟨u, rfl, -, ap, cp, rfl, -⟩ := hp
    obtain ⟨np, hnp⟩ : ∃ np, np = P.length := ⟨_, rfl⟩
    rw [← hnp] at Hp2 ⊢
    have HG2 := Lib.hid hb
    clear hro hb hP hPe hnp k0 k1
    go_upto_region 2 with fail
    obtain ⟨W3, hW3, kp, B3, s3⟩ := copied1' w2 (.slice ap np cp) 93
    obtain ⟨pb, hpb⟩ : ∃ pb, pb = w2.heap.size := ⟨_, rfl⟩
    rw [hW3, ← hpb]
    rw [← hpb] at kp s3
    have HB3 := Lib.hid (below_two HB2.out B3)
    have Hp3 := Lib.hid (Hp2.out.go B3)
    obtain ⟨k0, k1⟩ := HK.out _ (below_two HG2.out B3)
    clear hW3 B3 s3 hpb HG2 Hp2 HK
    go_wp2_with (fail)
    by_cases hol : b.length = 2 ^ (belowLog c c.layers.length).toNat
    · refine (fiat_Verify _ c _ _ _ a b P W3 (HT.out.below HB3.out) (HC.out.go HB3.out) Hc.out (Ha.out.go HB3.out) (Hb.out.go HB3.out) Hp3.out HL.out hol HS.out).mono ?_
      rintro e w4 ⟨rfl, hb4⟩
      have HB4 := Lib.hid (below_two HB3.out hb4)
      have HR2 := Lib.hid (show RA = if verB c a b P (drawnI c a b P) then holdsL else failsL by rw [HRA.out]; unfold provA; rw [if_pos HL.out, if_pos hol, ← HPe.out])
      obtain ⟨ok, hok⟩ : ∃ ok, ok = verB c a b P (drawnI c a b P) := ⟨_, rfl⟩
      rw [← hok] at HR2 ⊢
      clear hb4 hol hok k0 k1 kp
      cases ok with
      | true =>
        go_wp2
        go_ret
        exact ⟨by rw [HR2.out]; rfl, HB4.out⟩
      | false =>
        go_wp2
        go_ret
        exact ⟨by rw [HR2.out]; rfl, HB4.out⟩
    · refine (fiat_Verify_bad _ c _ _ _ a b P W3 (HC.out.go HB3.out) Hc.out (Ha.out.go HB3.out) (Hb.out.go HB3.out) Hp3.out (fun h => hol h.2.1)).mono ?_
      rintro e w4 ⟨rfl, hb4⟩
      have HB4 := Lib.hid (below_two HB3.out hb4)
      have HR2 := Lib.hid (show RA = errL 4 by rw [HRA.out]; unfold provA; rw [if_pos HL.out, if_neg hol])
      clear hb4 hol k0 k1 kp
      go_wp2_with (go_at_call 29; refine (desk_failed 4 _ (by decide) (by decide)).mono ?_; rintro e w' ⟨rfl, rfl⟩)
      go_ret
      exact ⟨by rw [HR2.out]; rfl, HB4.out⟩
  · have HR2 := Lib.hid (show RA = errL 4 by rw [HRA.out]; unfold provA; rw [if_neg hl])
    refine (fiat_Prove_no _ c _ 4 W1 (HC.out.go HB1.out) rfl (fun W hW => c_Run_form _ c _ a W (HC.out.go (below_two HB1.out hW)) (Ha.out.go (below_two HB1.out hW)) HG.out Hc.out hl)).mono ?_
    rintro e w2 ⟨rfl, hb⟩
    have HB2 := Lib.hid (below_two HB1.out hb)
    clear hb hl k0 k1
    go_wp2_with (go_at_call 29; refine (desk_failed 4 _ (by decide) (by decide)).mono ?_; rintro e w' ⟨rfl, rfl⟩)
    go_ret
    exact ⟨by rw [HR2.out]; rfl, below_al' HB2.out⟩
end Go.Proofs.YtlfneeobnihocaaGreatDoor

/- The walks of the desk's netted, with each function that it is handed, and of its closures. The tables lie as their initialisers lay them. -/
namespace Go.Proofs.YtlfneeobnihocaaGreatDoor
set_option maxRecDepth 100000
set_option linter.unusedVariables false
open Go.RowKit Tally
theorem checkL_small : ∀ (ls : List Ly) (m : Nat), 0 ≤ checkL m ls ∧ checkL m ls ≤ 4
  | [], m => by simp [checkL]
  | l :: ls, m => by
    have ih := checkL_small ls l.gates.length
    unfold checkL
    split
    · split
      · split
        · exact ih
        · omega
      · omega
    · omega
theorem checkC_small (c : Ci) : 0 ≤ checkC c ∧ checkC c ≤ 4 := by
  have h := checkL_small c.layers (2 ^ c.log.toNat)
  unfold checkC
  split
  · split
    · exact h
    · omega
  · omega
theorem parseL_le : ∀ (ps : List (List UInt8)) (n : Nat) (c : Ci) (m : Nat), parseL n c ps = .inl m → m ≤ n + ps.length
  | [], n, c, m, h => by
    have e : parseL n c [] = .inl n := rfl
    rw [e] at h; cases h; omega
  | [p], n, c, m, h => by
    have e : parseL n c [p] = if n ≠ 1 ∧ p = [] then .inr c else .inl n := rfl
    rw [e] at h
    by_cases k : n ≠ 1 ∧ p = []
    · rw [if_pos k] at h; cases h
    · rw [if_neg k] at h; cases h; omega
  | p :: q :: r, n, c, m, h => by
    have e : parseL n c (p :: q :: r) = match stepLine c (n == 1) (pcs 32 p) with | none => .inl n | some c' => parseL (n + 1) c' (q :: r) := rfl
    rw [e] at h
    match hs : stepLine c (n == 1) (pcs 32 p) with
    | none => rw [hs] at h; cases h; omega
    | some c' =>
      rw [hs] at h
      have := parseL_le (q :: r) (n + 1) c' m h
      simp only [List.length_cons] at this ⊢
      omega
theorem parse_range (s : List UInt8) (hs : s.length ≤ 1000000) : 0 ≤ (parseR s).2.2 ∧ (parseR s).2.2 ≤ 4 ∧ 0 ≤ (parseR s).2.1 ∧ (parseR s).2.1 ≤ 2000000 := by
  unfold parseR
  split
  · exact ⟨by decide, by decide, by decide, by decide⟩
  · match hp : parseL 1 emptyC (pcs 10 s) with
    | .inl n =>
      have h := parseL_le _ _ _ _ hp
      rw [pcs_length] at h
      have h2 := List.count_le_length (a := (10 : UInt8)) (l := s)
      exact ⟨by dsimp only; omega, by dsimp only; omega, by dsimp only; omega, by dsimp only; omega⟩
    | .inr c =>
      have h := checkC_small c
      dsimp only
      split
      · exact ⟨by dsimp only; omega, by dsimp only; omega, by dsimp only; omega, by dsimp only; omega⟩
      · exact ⟨h.1, h.2, by dsimp only; omega, by dsimp only; omega⟩
theorem mkB_data (l : List UInt8) : (mkB l).data.toList = l := List.toList_toArray
theorem errL_len (e : Int) (h0 : 0 ≤ e) (h1 : e ≤ 100) : (errL e).length ≤ 26 := by
  have := decL_len e (by omega)
  unfold errL
  rw [List.length_append]
  show 6 + _ ≤ _
  omega
set_option maxHeartbeats 2000000 in
theorem desk_run_cl (vc : Value) (c : Ci) (nb : Nat) (v : Value) (n : List Int) (w : World) (hT : Ten w) (h : IsC w vc c) (hc : checkC c = 0) (hv : w.cell? ⟨nb, 0, none⟩ = some v) (hn : RowU w v n) :
    Calls Tryz.prog 70 #[vc, .pointer (some ⟨nb, 0, none⟩)] w fun e w' => e = .returned (.string (mkB (ranA c n))) ∧ Below w.heap.size w w' := by
  have HC := Lib.hid h; have Hc := Lib.hid hc; have Hn := Lib.hid hn; have HT := Lib.hid hT
  obtain ⟨a, m, cap, rfl⟩ := lay_at vc c w h
  obtain ⟨RA, hRA⟩ : ∃ RA, RA = ranA c n := ⟨_, rfl⟩
  obtain ⟨-, -, an, cn, rfl, -⟩ := hn
  obtain ⟨nl, hnl⟩ : ∃ nl, nl = n.length := ⟨_, rfl⟩
  rw [← hnl] at hv Hn
  have hlt : nb < w.heap.size := by
    rcases Nat.lt_or_ge nb w.heap.size with h | h
    · exact h
    · simp [World.cell?, Array.getElem?_eq_none h] at hv
  have CR := Lib.hid (fun X (hX : Below w.heap.size w X) => desk_ran (.agg #[.int .i64 c.log, .slice a m cap]) c (.slice an nl cn) n X (HT.out.go hX) (HC.out.go hX) Hc.out (Hn.out.go hX))
  rw [← hRA] at CR ⊢
  clear h hc hT hRA hnl
  go_enter Tryz.func70, Tryz.ntmps70
  go_upto_region 1 with fail
  obtain ⟨W1, hW1, k0, k1, B1, s1⟩ := copied2' w (.int .i64 c.log) (.slice a m cap) 62
  rw [hW1]
  have HB1 := Lib.hid B1
  have cv := (B1.cell (p := ⟨nb, 0, none⟩) hlt).trans hv
  clear hW1 B1 s1 hv
  go_wp2_with (fail)
  refine (CR.out W1 HB1.out).mono ?_
  rintro e w2 ⟨rfl, hb⟩
  have HB2 := Lib.hid (below_two HB1.out hb)
  clear hb k0 k1 cv
  go_wp2
  go_ret
  exact ⟨rfl, HB2.out⟩
set_option maxHeartbeats 2000000 in
theorem desk_prove_cl (vc : Value) (c : Ci) (ab bb : Nat) (va vb : Value) (a b : List Int) (w : World) (hT : Tab w) (h : IsC w vc c) (hc : checkC c = 0) (hva : w.cell? ⟨ab, 0, none⟩ = some va) (ha : RowU w va a) (hvb : w.cell? ⟨bb, 0, none⟩ = some vb) (hb : RowU w vb b) :
    Calls Tryz.prog 35 #[vc, .pointer (some ⟨ab, 0, none⟩), .pointer (some ⟨bb, 0, none⟩)] w fun e w' => e = .returned (.string (mkB (provA c a b))) ∧ Below w.heap.size w w' := by
  have HC := Lib.hid h; have Hc := Lib.hid hc; have Ha := Lib.hid ha; have Hb := Lib.hid hb; have HT := Lib.hid hT
  obtain ⟨ac, m, cap, rfl⟩ := lay_at vc c w h
  obtain ⟨RA, hRA⟩ : ∃ RA, RA = provA c a b := ⟨_, rfl⟩
  obtain ⟨-, -, an, cn, rfl, -⟩ := ha
  obtain ⟨-, -, bn, dn, rfl, -⟩ := hb
  obtain ⟨nl, hnl⟩ : ∃ nl, nl = a.length := ⟨_, rfl⟩
  obtain ⟨ml, hml⟩ : ∃ ml, ml = b.length := ⟨_, rfl⟩
  rw [← hnl] at hva Ha
  rw [← hml] at hvb Hb
  have hlt : ab < w.heap.size := by
    rcases Nat.lt_or_ge ab w.heap.size with h | h
    · exact h
    · simp [World.cell?, Array.getElem?_eq_none h] at hva
  have hlt2 : bb < w.heap.size := by
    rcases Nat.lt_or_ge bb w.heap.size with h | h
    · exact h
    · simp [World.cell?, Array.getElem?_eq_none h] at hvb
  have CR := Lib.hid (fun X (hX : Below w.heap.size w X) => desk_proved (.agg #[.int .i64 c.log, .slice ac m cap]) c (.slice an nl cn) (.slice bn ml dn) a b X (HT.out.below hX) (HC.out.go hX) Hc.out (Ha.out.go hX) (Hb.out.go hX))
  rw [← hRA] at CR ⊢
  clear h hc hT hRA hnl hml
  go_enter Tryz.func35, Tryz.ntmps35
  go_upto_region 1 with fail
  obtain ⟨W1, hW1, k0, k1, B1, s1⟩ := copied2' w (.int .i64 c.log) (.slice ac m cap) 62
  rw [hW1]
  have HB1 := Lib.hid B1
  have cv := (B1.cell (p := ⟨ab, 0, none⟩) hlt).trans hva
  have cv2 := (B1.cell (p := ⟨bb, 0, none⟩) hlt2).trans hvb
  clear hW1 B1 s1 hva hvb
  go_wp2_with (fail)
  refine (CR.out W1 HB1.out).mono ?_
  rintro e w2 ⟨rfl, hb⟩
  have HB2 := Lib.hid (below_two HB1.out hb)
  clear hb k0 k1 cv cv2
  go_wp2
  go_ret
  exact ⟨rfl, HB2.out⟩

theorem blk_of {w : World} {b j : Nat} {v : Value} (h : w.cell? ⟨b, j, none⟩ = some v) : b < w.heap.size := by
  rcases Nat.lt_or_ge b w.heap.size with h' | h'
  · exact h'
  · simp [World.cell?, Array.getElem?_eq_none h'] at h

set_option maxHeartbeats 4000000 in
theorem desk_netted_show (db : Nat) (t : Bs) (w : World) (hT : Ten w) (ht : t.length ≤ 4096) (hd : w.cell? ⟨db, 0, none⟩ = some (.string (mkB t))) :
    Calls Tryz.prog 30 #[.pointer (some ⟨db, 0, none⟩), .func (.func 31) #[] #[]] w fun e w' => e = .returned (.string (mkB (netA t showA))) ∧ Below w.heap.size w w' := by
  have HT := Lib.hid hT
  have CF := Lib.hid (show ∀ (X : World) (vc : Value) (c : Ci), Below w.heap.size w X → IsC X vc c → checkC c = 0 → Calls Tryz.prog 31 #[vc] X fun e w' => e = .returned (.string (mkB (showA c))) ∧ Below X.heap.size X w' from fun X vc c hX hC hc0 => desk_show vc c X hC hc0)
  obtain ⟨e1, e2, e3, e4⟩ := parse_range t (by omega)
  have hpr := mkB_data t
  obtain ⟨RA, hRA⟩ : ∃ RA, RA = netA t showA := ⟨_, rfl⟩
  have HRA := Lib.hid hRA
  rw [← hRA]
  have HP := Lib.hid (c_Parse (mkB t) w (by rw [mkB_size]; omega))
  rw [hpr] at HP
  have Hback := Lib.hid (fun h => (back_read (s := mkB t) h).1)
  rw [hpr] at Hback
  obtain ⟨pe, hpe⟩ : ∃ pe, pe = (parseR t).2.2 := ⟨_, rfl⟩
  obtain ⟨pa, hpa⟩ : ∃ pa, pa = (parseR t).2.1 := ⟨_, rfl⟩
  have Hpe := Lib.hid hpe; have Hpa := Lib.hid hpa
  obtain ⟨pc, hpc⟩ : ∃ pc, pc = (parseR t).1 := ⟨_, rfl⟩
  have Hpc := Lib.hid hpc
  rw [← hpe] at e1 e2 HP Hback
  rw [← hpa] at e3 e4 HP
  rw [← hpc] at HP Hback
  clear hpe hpa hpc hRA hT hpr
  go_enter Tryz.func30, Tryz.ntmps30
  go_wp2_with (fail)
  refine HP.out.mono ?_
  rintro e w1 ⟨vc, rfl, hC, hb⟩
  have HB1 := Lib.hid hb
  have HC1 := Lib.hid hC
  obtain ⟨ac, mc, cap, rfl⟩ := lay_at vc pc w1 hC
  clear hb hC HP
  go_upto_region 2 with fail
  obtain ⟨W2, hW2, k0, k1, B2, s2⟩ := copied2' w1 (.int .i64 pc.log) (.slice ac mc cap) 62
  rw [hW2]
  have HB2 := Lib.hid (below_two HB1.out B2)
  have HC2 := Lib.hid (HC1.out.go B2)
  clear hW2 B2 s2
  by_cases h0 : pe = 0
  · have Hc0 := Lib.hid (Hback.out h0)
    have HR2 := Lib.hid (show RA = showA pc by rw [HRA.out, netA, if_pos (by rw [← Hpe.out]; exact h0), ← Hpc.out])
    subst h0
    clear e1 e2 e3 e4
    go_wp2_with (fail)
    refine (CF.out W2 _ pc HB2.out HC2.out Hc0.out).mono ?_
    rintro e w3 ⟨rfl, hb3⟩
    have HB3 := Lib.hid (below_two HB2.out hb3)
    clear hb3 k0 k1
    go_wp2
    go_ret
    exact ⟨by rw [HR2.out]; rfl, HB3.out⟩
  · have HR2 := Lib.hid (show RA = errL pe ++ 32 :: decL pa by rw [HRA.out, netA, if_neg (by rw [← Hpe.out]; exact h0), Hpe.out, Hpa.out])
    have hne : (pe != 0) = true := bne_iff_ne.mpr h0
    have l1 := errL_len pe e1 (by omega)
    have l2 := decL_len pa (by omega)
    have hs1 : ¬ (9223372036854775807 < (errL pe).length + 1) := by omega
    have hs2 : ¬ (9223372036854775807 < (errL pe).length + 1 + (decL pa).length) := by omega
    clear l1 l2 k0 k1
    go_wp2_with (fail)
    refine (desk_failed pe W2 e1 (by omega)).mono ?_
    rintro e w' ⟨rfl, rfl⟩
    go_wp2_with (fail)
    refine (s_Itoa pa W2 e3 (by omega) (HT.out.go HB2.out)).mono ?_
    rintro e w3 ⟨rfl, hb3⟩
    have HB3 := Lib.hid (below_two HB2.out hb3)
    clear hb3
    go_wp2
    go_ret
    refine ⟨?_, HB3.out⟩
    show Ending.returned (.string (mkB (errL pe) ++ ⟨#[32]⟩ ++ mkB (decL pa))) = _
    have e9 : mkB (errL pe) ++ ⟨#[32]⟩ ++ mkB (decL pa) = mkB (errL pe ++ 32 :: decL pa) := by
      apply ByteArray.ext; simp [mkB, ByteArray.data_append]
    rw [HR2.out, e9]

set_option maxHeartbeats 4000000 in
theorem desk_netted_run (db : Nat) (t : Bs) (nb : Nat) (v : Value) (n : List Int) (w : World) (hT : Ten w) (ht : t.length ≤ 4096) (hd : w.cell? ⟨db, 0, none⟩ = some (.string (mkB t))) (hTn : Ten w) (hv : w.cell? ⟨nb, 0, none⟩ = some v) (hn : RowU w v n) :
    Calls Tryz.prog 30 #[.pointer (some ⟨db, 0, none⟩), .func (.func 70) #[] #[.pointer (some ⟨nb, 0, none⟩)]] w fun e w' => e = .returned (.string (mkB (netA t (fun c => ranA c n)))) ∧ Below w.heap.size w w' := by
  have HT := Lib.hid hT
  have CF := Lib.hid (show ∀ (X : World) (vc : Value) (c : Ci), Below w.heap.size w X → IsC X vc c → checkC c = 0 → Calls Tryz.prog 70 #[vc, .pointer (some ⟨nb, 0, none⟩)] X fun e w' => e = .returned (.string (mkB ((fun c => ranA c n) c))) ∧ Below X.heap.size X w' from fun X vc c hX hC hc0 => desk_run_cl vc c nb v n X (hTn.go hX) hC hc0 ((hX.cell (p := ⟨nb, 0, none⟩) (blk_of hv)).trans hv) (hn.go hX))
  obtain ⟨e1, e2, e3, e4⟩ := parse_range t (by omega)
  have hpr := mkB_data t
  obtain ⟨RA, hRA⟩ : ∃ RA, RA = netA t (fun c => ranA c n) := ⟨_, rfl⟩
  have HRA := Lib.hid hRA
  rw [← hRA]
  have HP := Lib.hid (c_Parse (mkB t) w (by rw [mkB_size]; omega))
  rw [hpr] at HP
  have Hback := Lib.hid (fun h => (back_read (s := mkB t) h).1)
  rw [hpr] at Hback
  obtain ⟨pe, hpe⟩ : ∃ pe, pe = (parseR t).2.2 := ⟨_, rfl⟩
  obtain ⟨pa, hpa⟩ : ∃ pa, pa = (parseR t).2.1 := ⟨_, rfl⟩
  have Hpe := Lib.hid hpe; have Hpa := Lib.hid hpa
  obtain ⟨pc, hpc⟩ : ∃ pc, pc = (parseR t).1 := ⟨_, rfl⟩
  have Hpc := Lib.hid hpc
  rw [← hpe] at e1 e2 HP Hback
  rw [← hpa] at e3 e4 HP
  rw [← hpc] at HP Hback
  clear hpe hpa hpc hRA hT hpr hTn hv hn
  go_enter Tryz.func30, Tryz.ntmps30
  go_wp2_with (fail)
  refine HP.out.mono ?_
  rintro e w1 ⟨vc, rfl, hC, hb⟩
  have HB1 := Lib.hid hb
  have HC1 := Lib.hid hC
  obtain ⟨ac, mc, cap, rfl⟩ := lay_at vc pc w1 hC
  clear hb hC HP
  go_upto_region 2 with fail
  obtain ⟨W2, hW2, k0, k1, B2, s2⟩ := copied2' w1 (.int .i64 pc.log) (.slice ac mc cap) 62
  rw [hW2]
  have HB2 := Lib.hid (below_two HB1.out B2)
  have HC2 := Lib.hid (HC1.out.go B2)
  clear hW2 B2 s2
  by_cases h0 : pe = 0
  · have Hc0 := Lib.hid (Hback.out h0)
    have HR2 := Lib.hid (show RA = (fun c => ranA c n) pc by rw [HRA.out, netA, if_pos (by rw [← Hpe.out]; exact h0), ← Hpc.out])
    subst h0
    clear e1 e2 e3 e4
    go_wp2_with (fail)
    refine (CF.out W2 _ pc HB2.out HC2.out Hc0.out).mono ?_
    rintro e w3 ⟨rfl, hb3⟩
    have HB3 := Lib.hid (below_two HB2.out hb3)
    clear hb3 k0 k1
    go_wp2
    go_ret
    exact ⟨by rw [HR2.out]; rfl, HB3.out⟩
  · have HR2 := Lib.hid (show RA = errL pe ++ 32 :: decL pa by rw [HRA.out, netA, if_neg (by rw [← Hpe.out]; exact h0), Hpe.out, Hpa.out])
    have hne : (pe != 0) = true := bne_iff_ne.mpr h0
    have l1 := errL_len pe e1 (by omega)
    have l2 := decL_len pa (by omega)
    have hs1 : ¬ (9223372036854775807 < (errL pe).length + 1) := by omega
    have hs2 : ¬ (9223372036854775807 < (errL pe).length + 1 + (decL pa).length) := by omega
    clear l1 l2 k0 k1
    go_wp2_with (fail)
    refine (desk_failed pe W2 e1 (by omega)).mono ?_
    rintro e w' ⟨rfl, rfl⟩
    go_wp2_with (fail)
    refine (s_Itoa pa W2 e3 (by omega) (HT.out.go HB2.out)).mono ?_
    rintro e w3 ⟨rfl, hb3⟩
    have HB3 := Lib.hid (below_two HB2.out hb3)
    clear hb3
    go_wp2
    go_ret
    refine ⟨?_, HB3.out⟩
    show Ending.returned (.string (mkB (errL pe) ++ ⟨#[32]⟩ ++ mkB (decL pa))) = _
    have e9 : mkB (errL pe) ++ ⟨#[32]⟩ ++ mkB (decL pa) = mkB (errL pe ++ 32 :: decL pa) := by
      apply ByteArray.ext; simp [mkB, ByteArray.data_append]
    rw [HR2.out, e9]

set_option maxHeartbeats 4000000 in
theorem desk_netted_prove (db : Nat) (t : Bs) (ab bb : Nat) (va vb : Value) (a b : List Int) (w : World) (hT : Ten w) (ht : t.length ≤ 4096) (hd : w.cell? ⟨db, 0, none⟩ = some (.string (mkB t))) (hTa : Tab w) (hva : w.cell? ⟨ab, 0, none⟩ = some va) (ha : RowU w va a) (hvb : w.cell? ⟨bb, 0, none⟩ = some vb) (hb : RowU w vb b) :
    Calls Tryz.prog 30 #[.pointer (some ⟨db, 0, none⟩), .func (.func 35) #[] #[.pointer (some ⟨ab, 0, none⟩), .pointer (some ⟨bb, 0, none⟩)]] w fun e w' => e = .returned (.string (mkB (netA t (fun c => provA c a b)))) ∧ Below w.heap.size w w' := by
  have HT := Lib.hid hT
  have CF := Lib.hid (show ∀ (X : World) (vc : Value) (c : Ci), Below w.heap.size w X → IsC X vc c → checkC c = 0 → Calls Tryz.prog 35 #[vc, .pointer (some ⟨ab, 0, none⟩), .pointer (some ⟨bb, 0, none⟩)] X fun e w' => e = .returned (.string (mkB ((fun c => provA c a b) c))) ∧ Below X.heap.size X w' from fun X vc c hX hC hc0 => desk_prove_cl vc c ab bb va vb a b X (hTa.below hX) hC hc0 ((hX.cell (p := ⟨ab, 0, none⟩) (blk_of hva)).trans hva) (ha.go hX) ((hX.cell (p := ⟨bb, 0, none⟩) (blk_of hvb)).trans hvb) (hb.go hX))
  obtain ⟨e1, e2, e3, e4⟩ := parse_range t (by omega)
  have hpr := mkB_data t
  obtain ⟨RA, hRA⟩ : ∃ RA, RA = netA t (fun c => provA c a b) := ⟨_, rfl⟩
  have HRA := Lib.hid hRA
  rw [← hRA]
  have HP := Lib.hid (c_Parse (mkB t) w (by rw [mkB_size]; omega))
  rw [hpr] at HP
  have Hback := Lib.hid (fun h => (back_read (s := mkB t) h).1)
  rw [hpr] at Hback
  obtain ⟨pe, hpe⟩ : ∃ pe, pe = (parseR t).2.2 := ⟨_, rfl⟩
  obtain ⟨pa, hpa⟩ : ∃ pa, pa = (parseR t).2.1 := ⟨_, rfl⟩
  have Hpe := Lib.hid hpe; have Hpa := Lib.hid hpa
  obtain ⟨pc, hpc⟩ : ∃ pc, pc = (parseR t).1 := ⟨_, rfl⟩
  have Hpc := Lib.hid hpc
  rw [← hpe] at e1 e2 HP Hback
  rw [← hpa] at e3 e4 HP
  rw [← hpc] at HP Hback
  clear hpe hpa hpc hRA hT hpr hTa hva ha hvb hb
  go_enter Tryz.func30, Tryz.ntmps30
  go_wp2_with (fail)
  refine HP.out.mono ?_
  rintro e w1 ⟨vc, rfl, hC, hb⟩
  have HB1 := Lib.hid hb
  have HC1 := Lib.hid hC
  obtain ⟨ac, mc, cap, rfl⟩ := lay_at vc pc w1 hC
  clear hb hC HP
  go_upto_region 2 with fail
  obtain ⟨W2, hW2, k0, k1, B2, s2⟩ := copied2' w1 (.int .i64 pc.log) (.slice ac mc cap) 62
  rw [hW2]
  have HB2 := Lib.hid (below_two HB1.out B2)
  have HC2 := Lib.hid (HC1.out.go B2)
  clear hW2 B2 s2
  by_cases h0 : pe = 0
  · have Hc0 := Lib.hid (Hback.out h0)
    have HR2 := Lib.hid (show RA = (fun c => provA c a b) pc by rw [HRA.out, netA, if_pos (by rw [← Hpe.out]; exact h0), ← Hpc.out])
    subst h0
    clear e1 e2 e3 e4
    go_wp2_with (fail)
    refine (CF.out W2 _ pc HB2.out HC2.out Hc0.out).mono ?_
    rintro e w3 ⟨rfl, hb3⟩
    have HB3 := Lib.hid (below_two HB2.out hb3)
    clear hb3 k0 k1
    go_wp2
    go_ret
    exact ⟨by rw [HR2.out]; rfl, HB3.out⟩
  · have HR2 := Lib.hid (show RA = errL pe ++ 32 :: decL pa by rw [HRA.out, netA, if_neg (by rw [← Hpe.out]; exact h0), Hpe.out, Hpa.out])
    have hne : (pe != 0) = true := bne_iff_ne.mpr h0
    have l1 := errL_len pe e1 (by omega)
    have l2 := decL_len pa (by omega)
    have hs1 : ¬ (9223372036854775807 < (errL pe).length + 1) := by omega
    have hs2 : ¬ (9223372036854775807 < (errL pe).length + 1 + (decL pa).length) := by omega
    clear l1 l2 k0 k1
    go_wp2_with (fail)
    refine (desk_failed pe W2 e1 (by omega)).mono ?_
    rintro e w' ⟨rfl, rfl⟩
    go_wp2_with (fail)
    refine (s_Itoa pa W2 e3 (by omega) (HT.out.go HB2.out)).mono ?_
    rintro e w3 ⟨rfl, hb3⟩
    have HB3 := Lib.hid (below_two HB2.out hb3)
    clear hb3
    go_wp2
    go_ret
    refine ⟨?_, HB3.out⟩
    show Ending.returned (.string (mkB (errL pe) ++ ⟨#[32]⟩ ++ mkB (decL pa))) = _
    have e9 : mkB (errL pe) ++ ⟨#[32]⟩ ++ mkB (decL pa) = mkB (errL pe ++ 32 :: decL pa) := by
      apply ByteArray.ext; simp [mkB, ByteArray.data_append]
    rw [HR2.out, e9]

end Go.Proofs.YtlfneeobnihocaaGreatDoor
