/- The walk of the reference's ReadCircuit: it answers what Parse answers. -/
import Derived.Test.YtlfneeobnihocaaGreatDoorParseW
import Derived.Deep.CutBlock
namespace Go.Proofs.YtlfneeobnihocaaGreatDoor
set_option maxRecDepth 100000
set_option linter.unusedVariables false
open Go.RowKit Tally
def shapeL (c : Ci) (first : Bool) (h : List UInt8) (t : List (List UInt8)) : Option Ci :=
 if h = inputsL then (if first = true ∧ t.length = 1 then some ⟨numP (ats t 0), c.layers⟩ else none)
 else if h = layerL then (if first = false ∧ t.length = 1 then some ⟨c.log, c.layers ++ [⟨numP (ats t 0), []⟩]⟩ else none)
 else if h = addL ∨ h = mulL then
  (if first = false ∧ t.length = 2 ∧ 0 < c.layers.length then
   some ⟨c.log, c.layers.set (c.layers.length - 1) ⟨(aty c.layers (c.layers.length - 1)).log, (aty c.layers (c.layers.length - 1)).gates ++ [⟨decide (h = mulL), numP (ats t 0), numP (ats t 1)⟩]⟩⟩ else none)
 else none
theorem step_shape (c : Ci) (f : Bool) (h : List UInt8) (t : List (List UInt8)) : stepLine c f (h :: t) = if numsOk t then shapeL c f h t else none := by
 show (if numsOk t = false then none else shapeL c f h t) = _
 cases numsOk t <;> rfl
theorem heapCR (w : World) (x y : Value) (t : Nat) : ∃ W, w.alloc (.cells #[x, y] t) = W ∧ W.heap[w.heap.size]? = some (.cells #[x, y] t (0, 0)) ∧ Below w.heap.size w W ∧ W.heap.size = w.heap.size + 1 :=
 ⟨_, rfl, alloc_blk w _, (Below.refl _ _).alloc (Nat.le_refl _) _, by simp⟩
def okTo (t : List (List UInt8)) (k : Nat) : Bool := (List.range k).all fun j => decide (0 ≤ numP (ats t j))
theorem okTo_succ (t : List (List UInt8)) (k : Nat) : okTo t (k + 1) = (okTo t k && decide (0 ≤ numP (ats t k))) := by
 unfold okTo; rw [List.range_succ, List.all_append]; simp
theorem okTo_all (t : List (List UInt8)) : okTo t t.length = numsOk t := by
 unfold okTo numsOk
 rw [Bool.eq_iff_iff, List.all_eq_true, List.all_eq_true]
 constructor
 ·intro h x hx
  obtain ⟨j, hj, rfl⟩ := List.getElem_of_mem hx
  have := h j (List.mem_range.mpr hj)
  simpa [ats, hj] using this
 ·intro h j hj
  have hj' := List.mem_range.mp hj
  have := h t[j] (List.getElem_mem hj')
  simpa [ats, hj'] using this
theorem piece_len (c : UInt8) : ∀ l : List UInt8, ∀ p ∈ pcs c l, p.length ≤ l.length := by
 intro l
 induction l with
 | nil => intro p hp; simp [pcs] at hp; simp [hp]
 | cons a l ih =>
  intro p hp
  by_cases ha : a = c
  ·rw [show pcs c (a :: l) = [] :: pcs c l by show (if a = c then _ else _) = _; rw [if_pos ha]] at hp
   rcases List.mem_cons.mp hp with rfl | hp
   ·simp
   ·have := ih p hp; simp; omega
  ·obtain ⟨p1, ps, h1⟩ := pcs_head c l
   rw [pcs_cons c a l ha h1] at hp
   rw [h1] at ih
   rcases List.mem_cons.mp hp with rfl | hp
   ·have := ih p1 (by simp); simp; omega
   ·have := ih p (by simp [hp]); simp; omega
theorem drop_ats (Q : List (List UInt8)) (i : Nat) (h : i < Q.length) : Q.drop i = ats Q i :: Q.drop (i + 1) := by
 rw [List.drop_eq_getElem_cons h]; simp [ats, h]
theorem parse_step (n : Nat) (c : Ci) (Q : List (List UInt8)) (i : Nat) (h : i + 1 < Q.length) :
  parseL n c (Q.drop i) = match stepLine c (n == 1) (pcs 32 (ats Q i)) with | none => .inl n | some c' => parseL (n + 1) c' (Q.drop (i + 1)) := by
 rw [drop_ats Q i (by omega), drop_ats Q (i + 1) h]; rfl
theorem at0_takeR (l : List Int) (n j : Nat) (h : j < n) : at0 (l.take n) j = at0 l j := by simp [at0, h]
theorem parse_end (n : Nat) (c : Ci) (Q : List (List UInt8)) (i : Nat) (h : i + 1 = Q.length) :
  parseL n c (Q.drop i) = if n ≠ 1 ∧ ats Q i = [] then .inr c else .inl n := by
 rw [drop_ats Q i (by omega), List.drop_of_length_le (by omega)]; rfl
set_option maxHeartbeats 16000000 in
theorem r_Read (s : ByteArray) (w : World) (hs4 : s.size ≤ 4096) (WH : Bool) (hWH : WH = decide (ats (pcs 10 s.data.toList) ((pcs 10 s.data.toList).length - 1) = [] ∧ 1 < (pcs 10 s.data.toList).length)) :
  Calls Tryz.prog 80 #[.string s] w fun e w' => ∃ v, e = .returned (.tuple #[v, .int .i64 (parseR s.data.toList).2.1, .int .i64 (parseR s.data.toList).2.2]) ∧ IsC w' v (parseR s.data.toList).1 ∧ Below w.heap.size w w' := by
 obtain ⟨R, hR⟩ : ∃ R, R = parseR s.data.toList := ⟨_, rfl⟩
 rw [← hR]
 have hsl : s.data.toList.length = s.size := by rw [Array.length_toList]; rfl
 have hb1 : decide ((4096 : Int) < (s.size : Int)) = false := decide_eq_false (by omega)
 have hRp := zH (show R = match parseL 1 emptyC (pcs 10 s.data.toList) with
  | .inl n => (emptyC, (n : Int), 3)
  | .inr c => if checkC c = 0 then (c, 0, 0) else (emptyC, 0, (checkC c : Int)) by
   rw [hR]; unfold parseR; exact if_neg (by omega))
 obtain ⟨P, hP⟩ : ∃ P, P = parseL 1 emptyC (pcs 10 s.data.toList) := ⟨_, rfl⟩
 rw [← hP] at hRp
 obtain ⟨Q, hQ⟩ : ∃ Q, Q = pcs 10 s.data.toList := ⟨_, rfl⟩
 have hQl := pcs_length 10 s.data.toList
 have hQc := List.count_le_length (a := (10 : UInt8)) (l := s.data.toList)
 have HQp := zH (show ∀ x ∈ Q, x.length ≤ 4096 from fun x hx => by rw [hQ] at hx; have := piece_len 10 _ x hx; omega)
 have CPi := zH (fun W => ref_Pieces s 10 W (by omega))
 rw [← hQ] at hP hWH hQl CPi
 obtain ⟨m, hm⟩ : ∃ m : Nat, Q.length = m + 1 := ⟨_, hQl⟩
 have hm4 : m ≤ 4096 := by omega
 have HQl := zH hm
 have HP := zH hP
 have HWH := zH hWH
 clear hR hP hQ hQl hQc hsl hWH hm
 go_enter Tryz.func80, Tryz.ntmps80
 go_wp2_with (fail)
 obtain ⟨W1, hW1, k0, B1, s1⟩ := heapCR w (.int .i64 0) (.slice none 0 0) 62
 rw [hW1]
 refine (CPi.out W1).mono ?_
 rintro e w2 ⟨vP, rfl, hnP, hb2⟩
 have HK0 := zH ((hb2.block w.heap.size (blk_lt k0)).trans k0)
 have H2 := zH (below_chainP B1 hb2)
 have HnP := zH hnP
 obtain ⟨gP, cP, rfl, hgP1, hgP2⟩ := hnP.at_head (fun e => by have := HQl.out; rw [e] at this; simp at this)
 have HPc := zH (show ∀ j, j < m + 1 → w2.cell? ⟨gP, j, none⟩ = some (.string (mkB (ats Q j))) from fun j hj => hnP.cellAt rfl j (by rw [HQl.out]; exact hj))
 have hcap : m + 1 ≤ cP := by
  obtain ⟨-, a, c, e, h1, -⟩ := hnP.row
  cases e
  rwa [HQl.out] at h1
 rw [show Q.length = m + 1 from HQl.out]
 have cl := HPc.out m (by omega)
 obtain ⟨X0, hX0⟩ : ∃ X0, X0 = mkB (ats Q m) := ⟨_, rfl⟩
 have bE : X0.toList.isEmpty = (ats Q m).isEmpty := by rw [hX0, ByteArray.toList_eq]
 rw [← hX0] at cl
 have HWm := zH (show WH = decide (ats Q m = [] ∧ 0 < m) by rw [HWH.out, HQl.out, show m + 1 - 1 = m by omega]; congr 2; exact propext (by omega))
 clear hX0 hnP hb2 B1 k0 s1 hW1
 go_upto_region 4 with (fail)
 go_cut [6] (fun x wx => x = .bool WH ∧ wx = w2)
 case first =>
  by_cases hE : ats Q m = []
  ·have bE2 : X0.toList.isEmpty = true := by rw [bE, hE]; rfl
   by_cases h0 : 0 < m
   ·have dm : decide ((1 : Int) < (m : Int) + 1) = true := decide_eq_true (by omega)
    have HWt := zH (show WH = true by rw [HWm.out]; exact decide_eq_true ⟨hE, h0⟩)
    clear hE bE
    go_wp2_with (fail)
    go_meet
    case rel => exact ⟨by rw [HWt.out], rfl⟩
   ·have dm : decide ((1 : Int) < (m : Int) + 1) = false := decide_eq_false (by omega)
    have HWt := zH (show WH = false by rw [HWm.out]; exact decide_eq_false (fun h => h0 h.2))
    clear hE bE
    go_wp2_with (fail)
    go_meet
    case rel => exact ⟨by rw [HWt.out], rfl⟩
  ·have bE2 : X0.toList.isEmpty = false := by
    rw [bE]
    cases hq : ats Q m with
    | nil => exact absurd hq hE
    | cons _ _ => rfl
   have HWt := zH (show WH = false by rw [HWm.out]; exact decide_eq_false (fun h => hE h.1))
   clear hE bE
   go_wp2_with (fail)
   go_meet
   case rel => exact ⟨by rw [HWt.out], rfl⟩
 case rest =>
  obtain ⟨rfl, rfl⟩ := hcut
  obtain ⟨w2, rfl⟩ : ∃ x : World, x = wc := ⟨_, rfl⟩
  clear bE cl
  go_upto_if 34 with (fail)
  go_cut [5] (fun x wx => ∃ LL : Nat, x = .slice (some ⟨gP, 0, none⟩) LL cP ∧ Hid (LL = if WH then m else m + 1) ∧ wx = w2)
  case first =>
   cases WH
   case true =>
    go_wp2_with (fail)
    go_meet
    case rel => exact ⟨_, rfl, by first | rfl | (show _ = m; omega), rfl⟩
   case false =>
    go_wp2_with (fail)
    go_meet
    case rel => exact ⟨_, rfl, rfl, rfl⟩
  case rest =>
   obtain ⟨LL, rfl, HLL, rfl⟩ := hcut
   obtain ⟨w2, rfl⟩ : ∃ x : World, x = wc := ⟨_, rfl⟩
   have hL1 : m ≤ LL := by have := HLL.out; cases WH <;> simp at this <;> omega
   have hL2 : LL ≤ m + 1 := by have := HLL.out; cases WH <;> simp at this <;> omega
   go_wp2_with (fail)
   obtain ⟨W3, hW3, k3, B3, s3⟩ := heapCR w2 (.int .i64 0) (.slice none 0 0) 62
   rw [hW3]
   obtain ⟨b, hb⟩ : ∃ b, b = w2.heap.size := ⟨_, rfl⟩
   rw [← hb] at k3 ⊢
   have hwb : w.heap.size < b := by rw [hb]; have := blk_lt HK0.out; omega
   have hgb : gP < b := by rw [hb]; exact hgP2
   have HK3 := zH ((B3.block w.heap.size (blk_lt HK0.out)).trans HK0.out)
   have H3 := zH (below_chainP H2.out B3)
   have HQ3 := zH (show ∀ X, Below b W3 X → ∀ j, j < m + 1 → X.cell? ⟨gP, j, none⟩ = some (.string (mkB (ats Q j))) from fun X hX j hj => (hX.cell (p := ⟨gP, j, none⟩) hgb).trans ((B3.cell (p := ⟨gP, j, none⟩) hgP2).trans (HPc.out j hj)))
   have HP1 := zH (show Pk b b emptyC W3 from ⟨Nat.le_refl _, by show I64 0; unfold I64; omega, .slice none 0 0, k3, NewL.nil _ _⟩)
   clear hW3 k3 B3 s3 hb hgP2
   go_loopw [8] (fun iv wr => ∃ (i : Nat) (c : Ci), iv = .int .i64 (i : Int) ∧ i ≤ m ∧ Hid (Pk b b c wr) ∧ Hid (FewC c i) ∧ Hid (Below b W3 wr) ∧ Hid (P = parseL (i + 1) c (Q.drop i)) ∧ Hid (i = 0 → c.layers = [])) (fun iv _ => m + 1 - (intOf iv).toNat)
   case atStart => exact ⟨0, emptyC, rfl, by omega, HP1.out, ⟨by simp [emptyC], fun j hj => absurd hj (by simp [emptyC])⟩, Below.refl _ _, HP.out, fun _ => rfl⟩
   case round =>
    obtain ⟨i, c, rfl, hi, HPk, HF, HB, HPP, HE0⟩ := hrel
    by_cases hz : i < LL
    case neg =>
     as_aux_lemma =>
      have hWt : WH = true := by have := HLL.out; cases hv : WH with | true => rfl | false => rw [hv] at this; simp at this; omega
      have him : i = m := by have := HLL.out; rw [hWt] at this; simp at this; omega
      have hzn : ¬ ((i : Int) < (LL : Int)) := by omega
      have HPl := zH (show P = .inr c from by
       have h1 := HWm.out
       rw [hWt] at h1
       have h2 := of_decide_eq_true h1.symm
       rw [HPP.out, parse_end (i + 1) c Q i (by rw [HQl.out]; omega), if_pos ⟨by omega, by rw [him]; exact h2.1⟩])
      obtain ⟨hbB, hlog, vL, hbox, hNL⟩ := HPk.out
      obtain ⟨aL, cL, rfl⟩ := NewL.isSlice hNL
      have HC := zH (show IsC wr (.agg #[.int .i64 c.log, .slice aL c.layers.length cL]) c from ⟨hlog, _, rfl, hNL.row⟩)
      have y0 : wr.cell? ⟨b, 0, none⟩ = some (.int .i64 c.log) := cell_blk hbox 0
      have y1 : wr.cell? ⟨b, 1, none⟩ = some (.slice aL c.layers.length cL) := cell_blk hbox 1
      have Hbox := zH hbox
      have CK := zH (rc_Circuit _ c wr HC.out)
      have HNLr := zH hNL; have Hlog := zH hlog
      have Hwb := zH hwb
      clear hNL hbox hWt him hwb
      go_wp2_with (fail)
      refine CK.out.mono ?_
      rintro e wy ⟨rfl, hb2⟩
      have H2y := zH hb2
      have hrr : wy.heap[w.heap.size]? = some _ := (hb2.block w.heap.size (by have := Hwb.out; have := blk_lt Hbox.out; omega)).trans ((HB.out.block w.heap.size Hwb.out).trans HK3.out)
      have Hrr := zH hrr
      have g0 : wy.cell? ⟨w.heap.size, 0, none⟩ = some (.int .i64 0) := cell_blk hrr 0
      have g1 : wy.cell? ⟨w.heap.size, 1, none⟩ = some (.slice none 0 0) := cell_blk hrr 1
      have f0 : wy.frozen? ⟨w.heap.size, 0, none⟩ = false := free_blk hrr 0
      have f1 : wy.frozen? ⟨w.heap.size, 1, none⟩ = false := free_blk hrr 1
      have z0 := (hb2.cell (p := ⟨b, 0, none⟩) (blk_lt Hbox.out)).trans y0
      have z1 := (hb2.cell (p := ⟨b, 1, none⟩) (blk_lt Hbox.out)).trans y1
      have Hbel := zH (below_chainP (H3.out.trans (HB.out.mono (Nat.le_of_lt Hwb.out))) hb2)
      have HC2 := zH (HC.out.below hb2 (Nat.le_refl _))
      obtain ⟨E, hE⟩ : ∃ E : Int, E = (checkC c : Int) := ⟨_, rfl⟩
      rw [← hE]
      clear hb2 y0 y1 hrr
      by_cases e3 : checkC c = 0
      ·have HRl := zH (show R = (c, 0, 0) by rw [hRp.out, HPl.out]; show (if checkC c = 0 then _ else _) = _; rw [if_pos e3])
       obtain rfl : E = 0 := by rw [hE, e3]
       clear hE e3
       go_wp2_with (fail)
       have hz := put_box Hrr.out Hbel.out (.int .i64 c.log) (.slice aL c.layers.length cL)
       obtain ⟨d0, d1, hbz⟩ := hz
       have HC3 := zH (isC_put (u := .int .i64 c.log) (v := .slice aL c.layers.length cL) Hlog.out (NewL.keep HNLr.out fun g cs t hg _ => H2y.out.block g (blk_lt hg)) Hrr.out)
       generalize (wy.setCell ⟨w.heap.size, 0, none⟩ (.int .i64 c.log)).setCell ⟨w.heap.size, 1, none⟩ (.slice aL c.layers.length cL) = wz at *
       exact bodyPost_ret (v := .tuple #[.agg #[.int .i64 c.log, .slice aL c.layers.length cL], .int .i64 0, .int .i64 0]) (by simp [results, Tryz.results80, go_sem, d0, d1]) rfl ⟨_, by rw [HRl.out], by rw [HRl.out]; exact HC3.out, hbz⟩
      ·have HRl := zH (show R = (emptyC, 0, E) by rw [hRp.out, HPl.out]; show (if checkC c = 0 then _ else _) = _; rw [if_neg e3, hE])
       have bE : (E != 0) = true := by rw [hE]; simpa using e3
       clear hE e3
       go_wp2_with (fail)
       have hz := zero_box Hrr.out Hbel.out
       obtain ⟨d0, d1, hbz⟩ := hz
       generalize (wy.setCell ⟨w.heap.size, 0, none⟩ (.int .i64 0)).setCell ⟨w.heap.size, 1, none⟩ (.slice none 0 0) = wz at *
       exact bodyPost_ret (v := .tuple #[.agg #[.int .i64 0, .slice none 0 0], .int .i64 0, .int .i64 E]) (by simp [results, Tryz.results80, go_sem, d0, d1]) rfl ⟨.agg #[.int .i64 0, .slice none 0 0], by rw [HRl.out], by rw [HRl.out]; exact isC_empty _, hbz⟩
    case pos =>
     have hz1 : (i : Int) < (LL : Int) := by omega
     have cp := HQ3.out _ HB.out i (by omega)
     have hpl := HQp.out (ats Q i) (by have := HQl.out; simp [ats, show i < Q.length by omega])
     obtain ⟨X, hX⟩ : ∃ X, X = mkB (ats Q i) := ⟨_, rfl⟩
     have CPw := zH (fun W => ref_Pieces X 32 W (by rw [hX]; show (ats Q i).length ≤ _; omega))
     rw [show X.data.toList = ats Q i by rw [hX]] at CPw
     rw [← hX] at cp
     obtain ⟨h, tl, hpc⟩ := pcs_head 32 (ats Q i)
     have htl : tl.length ≤ 5000 := by
      have h1 := pcs_length 32 (ats Q i)
      have h2 := List.count_le_length (a := (32 : UInt8)) (l := ats Q i)
      rw [hpc] at h1; simp at h1; omega
     rw [hpc] at CPw
     have Hpc := zH hpc
     obtain ⟨OK0, hOK0⟩ : ∃ O, O = (WH || decide (i < m)) := ⟨_, rfl⟩
     have HOK0 := zH hOK0
     have hfb : (i + 1 == 1) = decide (i = 0) := by rw [Bool.eq_iff_iff]; simp
     have hmWH : WH = true → i < m := fun e => by have := HLL.out; rw [e] at this; simp at this; omega
     have HGi := zH (show (OK0 && numsOk tl) = true → i + 1 ≤ m from fun e => by
      rw [Bool.and_eq_true] at e
      have e1 := e.1
      rw [hOK0, Bool.or_eq_true] at e1
      rcases e1 with e1 | e1
      ·exact hmWH e1
      ·exact of_decide_eq_true e1)
     have hstep : i < m → P = match (if numsOk tl then shapeL c (decide (i = 0)) h tl else none) with | none => .inl (i + 1) | some c' => parseL (i + 1 + 1) c' (Q.drop (i + 1)) := fun hh => by
      rw [HPP.out, parse_step (i + 1) c Q i (by rw [HQl.out]; omega), hpc, hfb, step_shape]
     have hend : ¬ i < m → P = .inl (i + 1) := fun hh => by
      have him : i = m := by omega
      have hw0 : WH = false := by cases hv : WH with | true => exact absurd (hmWH hv) hh | false => rfl
      rw [HPP.out, parse_end (i + 1) c Q i (by rw [HQl.out]; omega), if_neg]
      intro e
      have := HWm.out
      rw [hw0] at this
      exact of_decide_eq_false this.symm ⟨by rw [← him]; exact e.2, by omega⟩
     have HErr := zH (show (OK0 && numsOk tl) = false → P = .inl (i + 1) from fun e => by
      by_cases hh : i < m
      ·have h0 : OK0 = true := by rw [hOK0, decide_eq_true hh, Bool.or_true]
       rw [h0, Bool.true_and] at e
       rw [hstep hh, e]; rfl
      ·exact hend hh)
     have HErrS := zH (show shapeL c (decide (i = 0)) h tl = none → P = .inl (i + 1) from fun e => by
      by_cases hh : i < m
      ·rw [hstep hh, e]; cases numsOk tl <;> rfl
      ·exact hend hh)
     have HGo := zH (show (OK0 && numsOk tl) = true → ∀ c', shapeL c (decide (i = 0)) h tl = some c' → P = parseL (i + 1 + 1) c' (Q.drop (i + 1)) from fun e c' hs => by
      rw [hstep (HGi.out e), hs, (Bool.and_eq_true_iff.mp e).2]; rfl)
     have HFew := zH (show (OK0 && numsOk tl) = true → ∀ c', shapeL c (decide (i = 0)) h tl = some c' → FewC c' (i + 1) from fun e c' hs => step_few (f := decide (i = 0)) (l := h :: tl) (by rw [step_shape, (Bool.and_eq_true_iff.mp e).2]; exact hs) HF.out)
     clear hX hpc hpl hfb hend hstep hmWH hOK0
     go_upto_region 13 with (go_at_call 20; refine (CPw.out _).mono ?_; rintro e w4 ⟨vw, rfl, hnw, hb4⟩; have HNw := zH hnw; have HB4 := zH hb4; clear hnw hb4)
     go_cut [11] (fun x wx => x = .bool OK0 ∧ wx = w4)
     case first =>
      cases WH
      case true =>
       go_wp2_with (fail)
       go_meet
       case rel => exact ⟨by rw [HOK0.out]; rfl, rfl⟩
      case false =>
       go_wp2_with (fail)
       go_meet
       case rel => exact ⟨by rw [HOK0.out, Bool.false_or]; congr 1; exact decide_eq_decide.mpr (by have := HLL.out; simp at this; omega), rfl⟩
     case rest =>
      obtain ⟨rfl, rfl⟩ := hcut
      obtain ⟨w4, rfl⟩ : ∃ x : World, x = wc := ⟨_, rfl⟩
      obtain ⟨bw, cw, rfl, hbw1, hbw2⟩ := HNw.out.at_head (by simp)
      have Hbwk := zH (show ∃ cs, w4.heap[bw]? = some (Obj.cells cs 9 (0, 0)) from by
       obtain ⟨-, a, cap, e, -, -, hr⟩ := HNw.out.row
       cases e
       obtain ⟨b', off', e, -, hk, -⟩ := hr (by simp)
       cases e
       exact hk)
      have Hhead := zH (show w4.cell? ⟨bw, 0, none⟩ = some (.string (mkB h)) from HNw.out.cellAt rfl 0 (by simp))
      have Hcell := zH (show ∀ k, k < tl.length → w4.cell? ⟨bw, k + 1, none⟩ = some (.string (mkB (ats tl k))) from fun k hk => by
       have := HNw.out.cellAt rfl (k + 1) (by simp; omega)
       rw [ats_cons] at this; exact this)
      obtain ⟨T, hT⟩ : ∃ T, T = tl.length := ⟨_, rfl⟩
      have HT := zH hT
      rw [show (h :: tl).length = T + 1 by simp [hT]]
      have ht5 : T ≤ 5000 := by omega
      obtain ⟨NL, hNL⟩ : ∃ NL, NL = tl.map numP := ⟨_, rfl⟩
      have HNl := zH (show NL.length = T by rw [hNL, List.length_map, HT.out])
      have HNa := zH (show ∀ j, j < T → at0 NL j = numP (ats tl j) from fun j hj => by
       rw [HT.out] at hj
       rw [hNL]; simp [at0, ats, hj])
      have HNm := zH (show ∀ x ∈ NL, I64 x from fun x hx => by rw [hNL] at hx; obtain ⟨y, _, rfl⟩ := List.mem_map.mp hx; exact I64.num y)
      clear hNL hT hbw1 htl
      go_wp2_with (fail)
      go_loopw [10, 11, 12] (fun n o kv wx => ∃ (k : Nat), k ≤ T ∧ kv = .int .i64 ((k : Int) + 1) ∧ o = .bool (OK0 && okTo tl k) ∧ Hid (NewI w4.heap.size wx n (NL.take k)) ∧ Hid (Below w4.heap.size w4 wx)) (fun _ _ kv _ => T + 1 - (intOf kv).toNat)
      case atStart => exact ⟨0, by omega, rfl, by rw [show okTo tl 0 = true from rfl, Bool.and_true], NewI.nil _ _, Below.refl _ _⟩
      case round =>
       obtain ⟨k, hk, rfl, rfl, HN, HBk⟩ := hrel
       by_cases hzk : k < T
       case pos =>
        have hz2 : (k : Int) + 1 < (T : Int) + 1 := by omega
        have cx1 := (HBk.out.cell (p := ⟨bw, k + 1, none⟩) hbw2).trans (Hcell.out k (by have := HT.out; omega))
        obtain ⟨X2, hX2⟩ : ∃ X2, X2 = mkB (ats tl k) := ⟨_, rfl⟩
        rw [← hX2] at cx1
        obtain ⟨V, hV⟩ : ∃ V, V = numP (ats tl k) := ⟨_, rfl⟩
        have CN := zH (fun W => r_small X2 W)
        rw [show X2.data.toList = ats tl k by rw [hX2], ← hV] at CN
        have hVr := numP_range (ats tl k)
        rw [← hV] at hVr
        have HS := zH (show NL.take (k + 1) = NL.take k ++ [V] by rw [take_snoc' _ _ (by rw [HNl.out]; exact hzk), HNa.out k hzk, hV])
        have hcI : (NL.take k).length + 1 ≤ 1000000 := by rw [List.length_take]; omega
        have hsz := HBk.out.size
        have iV : I64 V := by unfold I64; omega
        have HV := zH hV
        have HOk := zH (show (OK0 && okTo tl (k + 1)) = ((OK0 && okTo tl k) && decide (0 ≤ V)) by rw [okTo_succ, ← Bool.and_assoc, hV])
        obtain ⟨OKx, hOKx⟩ : ∃ O, O = (OK0 && okTo tl k) := ⟨_, rfl⟩
        rw [← hOKx] at HOk ⊢
        clear hX2 hV hOKx
        go_upto_region 18 with (first
         | (go_at_call 117; refine (CN.out _).mono ?_; rintro e w' ⟨rfl, rfl⟩)
         | (at_builtin; refine wpList_appI rfl _ _ rfl w4.heap.size _ _ rfl HN.out V rfl iV hcI hsz ?_; intro v2 w5 hn2 hb2; have HN2 := zH hn2; have HB2 := zH (HBk.out.trans hb2); clear hn2 hb2))
        rw [← HS.out] at HN2
        obtain ⟨-, -, aN, cN, rfl, hNc⟩ := NewI.row HN2.out
        have htk : (NL.take (k + 1)).length = k + 1 := by rw [List.length_take, HNl.out]; omega
        obtain ⟨bN, oN, rfl, -, hNc⟩ := hNc (by omega)
        have y := hNc k (by omega)
        rw [show at0 (NL.take (k + 1)) k = V by rw [at0_takeR _ _ _ (by omega), HNa.out k hzk, HV.out]] at y
        rw [htk] at HN2 ⊢
        clear hNc
        cases OKx
        case false =>
         go_wp2_with (fail)
         go_roundw
         case rel => exact ⟨k + 1, by omega, by go_num, by rw [HOk.out]; rfl, HN2.out, HB2.out⟩
         case measure => simp [intOf]; omega
        case true =>
         go_wp2_with (fail)
         go_roundw
         case rel => exact ⟨k + 1, by omega, by go_num, by rw [HOk.out]; rfl, HN2.out, HB2.out⟩
         case measure => simp [intOf]; omega
       case neg =>
        obtain rfl : k = T := by omega
        rw [List.take_of_length_le (by rw [HNl.out]; exact Nat.le_refl _)] at HN
        have HOKt := zH (show okTo tl k = numsOk tl by rw [HT.out, okTo_all])
        obtain ⟨OKK, hOKK⟩ : ∃ O, O = (OK0 && okTo tl k) := ⟨_, rfl⟩
        rw [← hOKK]
        have HOKK := zH (show OKK = (OK0 && numsOk tl) by rw [hOKK, HOKt.out])
        obtain ⟨wo, rfl⟩ : ∃ x : World, x = wr := ⟨_, rfl⟩
        have HPo := zH ((HPk.out.go HB4.out).go HBk.out)
        have HBo := zH (show Below b W3 wo from HB.out.trans ((HB4.out.trans (HBk.out.mono HB4.out.size)).mono (Nat.le_of_lt HPk.out.lt)))
        obtain ⟨hBb, hclog, vL, hbox, hNL⟩ := HPo.out
        obtain ⟨aL, cL, rfl⟩ := NewL.isSlice hNL
        have HNL := zH hNL
        have Hbox := zH hbox
        have hr := NewI.row HN.out
        obtain ⟨-, -, aN, cN, rfl, hNc⟩ := hr
        have HNc := zH hNc
        have HNk := zH (fun g hg => NewI.kind HN.out (g := g) hg)
        have x1 : wo.cell? ⟨b, 1, none⟩ = some (.slice aL c.layers.length cL) := cell_blk hbox 1
        have xh := (HBk.out.cell (p := ⟨bw, 0, none⟩) hbw2).trans Hhead.out
        have Hbwk := zH (show ∃ cs, wo.heap[bw]? = some (Obj.cells cs 9 (0, 0)) from by
         obtain ⟨cs, hcs⟩ := Hbwk.out
         exact ⟨cs, (HBk.out.block bw hbw2).trans hcs⟩)
        obtain ⟨H, hH⟩ : ∃ H, H = mkB h := ⟨_, rfl⟩
        rw [← hH] at xh
        have hHl : H.toList = h := by rw [hH, ByteArray.toList_eq]
        obtain ⟨N, hN⟩ : ∃ N, N = NL.length := ⟨_, rfl⟩
        rw [← hN] at HNc ⊢
        have HN' := zH (show N = tl.length from (hN.trans HNl.out).trans HT.out)
        have lit : ∀ l l2 : List UInt8, h = l → (H.toList == l2) = decide (l = l2) := fun l l2 e => by rw [hHl, e]; exact (Bool.beq_eq_decide_eq l l2)
        have lit2 : ∀ l : List UInt8, ¬ h = l → (H.toList == l) = false := fun l e => by rw [hHl]; exact beq_false_of_ne e
        have Hlit := zH lit; have Hlit2 := zH lit2
        clear hHl lit lit2 hH hN hbox hNL hNc hOKK
        go_upto_block 4 with (fail)
        go_cut [11, 13, 14] (fun x _ _ wx => ∃ ok' : Bool, x = .bool ok' ∧ Hid (Below b W3 wx) ∧ Hid (ok' = false → P = .inl (i + 1)) ∧ Hid (ok' = true → ∃ c', Pk b b c' wx ∧ FewC c' (i + 1) ∧ P = parseL (i + 1 + 1) c' (Q.drop (i + 1)) ∧ i + 1 ≤ m))
        case rest =>
         obtain ⟨ok', rfl, HBx, HEx, HKx⟩ := hcut
         obtain ⟨wz, rfl⟩ : ∃ x : World, x = wc := ⟨_, rfl⟩
         cases ok'
         case false =>
          as_aux_lemma =>
           have HPl := zH (show P = .inl (i + 1) from HEx.out rfl)
           have HRl := zH (show R = (emptyC, (i : Int) + 1, 3) by rw [hRp.out, HPl.out]; show (emptyC, ((i + 1 : Nat) : Int), (3 : Int)) = _; rw [Int.natCast_add]; rfl)
           have hrr : wz.heap[w.heap.size]? = some _ := ((HBx.out).block w.heap.size hwb).trans HK3.out
           have Hrr := zH hrr
           have g0 : wz.cell? ⟨w.heap.size, 0, none⟩ = some (.int .i64 0) := cell_blk hrr 0
           have g1 : wz.cell? ⟨w.heap.size, 1, none⟩ = some (.slice none 0 0) := cell_blk hrr 1
           have f0 : wz.frozen? ⟨w.heap.size, 0, none⟩ = false := free_blk hrr 0
           have f1 : wz.frozen? ⟨w.heap.size, 1, none⟩ = false := free_blk hrr 1
           have Hbel := zH (show Below w.heap.size w wz from H3.out.trans ((HBx.out).mono (Nat.le_of_lt hwb)))
           clear hrr
           go_upto_region 29 with (fail)
           clear hcap hgP1 hL1 hL2 hz1 cp hbw2 hk hzk x1 xh ht5 hclog hBb hb1 hgb hwb
           go_cut [3, 4] (fun x y wx => x = .int .i64 ((i : Int) + 1) ∧ y = .int .i64 3 ∧ wx = (wz.setCell ⟨w.heap.size, 0, none⟩ (.int .i64 0)).setCell ⟨w.heap.size, 1, none⟩ (.slice none 0 0))
           case first =>
            go_wp2_with (fail)
            go_meet
            case rel => exact ⟨rfl, rfl, rfl⟩
           case rest =>
            obtain ⟨rfl, rfl, rfl⟩ := hcut
            refine ‹∀ (a : Act) (w : World), Code.wp Tryz.prog Code.ret _ a w → _› _ _ ?_
            go_step
            dsimp (config := {zetaDelta := true}) only [Exit.inBlock, Exit.then]
            obtain ⟨d0, d1, hbz⟩ := zero_box Hrr.out Hbel.out
            generalize (wz.setCell ⟨w.heap.size, 0, none⟩ (.int .i64 0)).setCell ⟨w.heap.size, 1, none⟩ (.slice none 0 0) = wz at *
            exact bodyPost_ret (v := .tuple #[.agg #[.int .i64 0, .slice none 0 0], .int .i64 ((i : Int) + 1), .int .i64 3]) (by simp [results, Tryz.results80, go_sem, d0, d1]) rfl ⟨.agg #[.int .i64 0, .slice none 0 0], by rw [HRl.out], by rw [HRl.out]; exact isC_empty _, hbz⟩
         case true =>
          obtain ⟨c', hP', hF', hG', hi'⟩ := HKx.out rfl
          have HPy := zH hP'; have HFy := zH hF'; have HGy := zH hG'
          clear hP' hF' hG'
          go_wp2_with (fail)
          go_roundw
          case rel => exact ⟨i + 1, c', by go_num, hi', HPy.out, HFy.out, HBx.out, HGy.out, fun e => absurd e (by omega)⟩
          case measure => simp [intOf]; omega
        case first =>
         by_cases eH : h = inputsL
         ·have n0 : True := trivial
          as_aux_lemma =>
           have He := zH eH
           have bI : (H.toList == [105, 110, 112, 117, 116, 115]) = true := (Hlit.out inputsL [105, 110, 112, 117, 116, 115] eH).trans (by decide)
           have bL : (H.toList == [108, 97, 121, 101, 114]) = false := (Hlit.out inputsL [108, 97, 121, 101, 114] eH).trans (by decide)
           have bA : (H.toList == [97, 100, 100]) = false := (Hlit.out inputsL [97, 100, 100] eH).trans (by decide)
           have bM : (H.toList == [109, 117, 108]) = false := (Hlit.out inputsL [109, 117, 108] eH).trans (by decide)
           clear eH
           clear n0
           by_cases ei : i = 0
           ·have bi : ((i : Int) == 0) = true := by rw [ei]; rfl
            have Hei := zH ei
            clear ei
            by_cases eN : N = 1
            ·have HeN := zH (eN.symm.trans HN'.out)
             subst eN
             obtain ⟨bN, oN, eaN, hbN, hcN⟩ := HNc.out (by decide)
             subst eaN
             obtain ⟨V0, hV0⟩ : ∃ V, V = numP (ats tl 0) := ⟨_, rfl⟩
             have y0 : wo.cell? ⟨bN, oN, none⟩ = some (.int .i64 V0) := by rw [hV0, ← HNa.out 0 (by have := HeN.out; have := HT.out; omega)]; exact hcN 0 (by decide)
             have iV0 : I64 V0 := by rw [hV0]; exact I64.num _
             have HV0 := zH hV0
             clear hcN hV0
             have x0 : wo.cell? ⟨b, 0, none⟩ = some (.int .i64 c.log) := cell_blk Hbox.out 0
             have f0 : wo.frozen? ⟨b, 0, none⟩ = false := free_blk Hbox.out 0
             go_wp2_with (fail)
             have HBy := zH (HBo.out.setCell (p := ⟨b, 0, none⟩) hBb (.int .i64 V0))
             have HPy := zH (HPo.out.setLog V0 iV0)
             generalize wo.setCell ⟨b, 0, none⟩ (Value.int .i64 V0) = wz at *
             have HSh := zH (show shapeL c (decide (i = 0)) h tl = some _ from by show (if h = inputsL then _ else _) = _; rw [if_pos He.out]; rw [if_pos ⟨decide_eq_true Hei.out, HeN.out.symm⟩, ← HV0.out])
             go_meet
             case rel => exact ⟨OKK, rfl, HBy.out, fun e => HErr.out (HOKK.out.symm.trans e), fun e => ⟨_, HPy.out, HFew.out (HOKK.out.symm.trans e) _ HSh.out, HGo.out (HOKK.out.symm.trans e) _ HSh.out, HGi.out (HOKK.out.symm.trans e)⟩⟩
            ·have dN : ((N : Int) == 1) = false := beq_false_of_ne (fun e => eN (by omega))
             have HnN := zH eN
             clear eN
             have HSn := zH (show shapeL c (decide (i = 0)) h tl = none by show (if h = inputsL then _ else _) = _; rw [if_pos He.out]; rw [if_neg (fun e => HnN.out (HN'.out.trans e.2))])
             go_wp2_with (fail)
             go_meet
             case rel => exact ⟨false, rfl, HBo.out, fun _ => HErrS.out HSn.out, fun e => absurd e (by decide)⟩
           have bi : ((i : Int) == 0) = false := by exact beq_false_of_ne (by omega)
           have Hei := zH ei
           have HSn := zH (show shapeL c (decide (i = 0)) h tl = none by show (if h = inputsL then _ else _) = _; rw [if_pos He.out]; rw [if_neg (fun e => by have := Hei.out; have := e.1; simp at this; omega)])
           clear ei
           go_wp2_with (fail)
           go_meet
           case rel => exact ⟨false, rfl, HBo.out, fun _ => HErrS.out HSn.out, fun e => absurd e (by decide)⟩
         have nI := eH
         clear eH
         by_cases eH : h = layerL
         ·have n0 : True := trivial
          as_aux_lemma =>
           have He := zH eH
           have bI : (H.toList == [105, 110, 112, 117, 116, 115]) = false := (Hlit.out layerL [105, 110, 112, 117, 116, 115] eH).trans (by decide)
           have bL : (H.toList == [108, 97, 121, 101, 114]) = true := (Hlit.out layerL [108, 97, 121, 101, 114] eH).trans (by decide)
           have bA : (H.toList == [97, 100, 100]) = false := (Hlit.out layerL [97, 100, 100] eH).trans (by decide)
           have bM : (H.toList == [109, 117, 108]) = false := (Hlit.out layerL [109, 117, 108] eH).trans (by decide)
           clear eH
           clear n0
           by_cases ei : 0 < i
           ·have bi : decide (0 < (i : Int)) = true := by exact decide_eq_true (by omega)
            have Hei := zH ei
            clear ei
            by_cases eN : N = 1
            ·have HeN := zH (eN.symm.trans HN'.out)
             subst eN
             obtain ⟨bN, oN, eaN, hbN, hcN⟩ := HNc.out (by decide)
             subst eaN
             obtain ⟨V0, hV0⟩ : ∃ V, V = numP (ats tl 0) := ⟨_, rfl⟩
             have y0 : wo.cell? ⟨bN, oN, none⟩ = some (.int .i64 V0) := by rw [hV0, ← HNa.out 0 (by have := HeN.out; have := HT.out; omega)]; exact hcN 0 (by decide)
             have iV0 : I64 V0 := by rw [hV0]; exact I64.num _
             have HV0 := zH hV0
             clear hcN hV0
             have hlen1 : c.layers.length + 1 ≤ 10000 := by have := HF.out.1; omega
             have hBo : b ≤ wo.heap.size := by have := blk_lt Hbox.out; omega
             have HNd := zH (show NewL b wo.drew (.slice aL c.layers.length cL) c.layers from NewL.keep HNL.out (fun _ _ _ _ _ => rfl))
             have hbd : wo.drew.heap[b]? = some (.cells #[.int .i64 c.log, .slice aL c.layers.length cL] 62 (0, 0)) := Hbox.out
             have Hbd := zH hbd
             have hBd : b ≤ wo.drew.heap.size := hBo
             have xa : ∀ o, (wo.alloc o).cell? ⟨b, 1, none⟩ = some (.slice aL c.layers.length cL) := fun o => (((Below.refl _ _).alloc (Nat.le_refl _) _ : Below wo.heap.size wo _).cell (p := ⟨b, 1, none⟩) (blk_lt Hbox.out)).trans x1
             clear hbd
             go_upto_region 24 with (fail)
             go_region_law (first
              | (refine step_appL (w0 := wo.drew) rfl _ _ (by rfl) b b c _ Hbd.out (by rfl) HNd.out hBb hclog V0 (by rfl) iV0 hlen1 hBd ?_; intro gk cap w7 hb7 hp7 hbl7 hgr7; have k7 : w7.cell? ⟨b, 1, none⟩ = some (.slice aL c.layers.length cL) := cell_blk hb7 1; have f7 : w7.frozen? ⟨b, 1, none⟩ = false := free_blk hb7 1; have HP7 := zH hp7; have HB7 := zH hbl7; clear hp7 hbl7 hgr7 hb7))
             all_goals
              go_wp2_with (fail)
              have HBy := zH (((below_drewN HBo.out 1).trans HB7.out).setCell (p := ⟨b, 1, none⟩) hBb (Value.slice (some ⟨gk, 0, none⟩) (c.layers.length + 1) cap))
              have HPy := zH (HP7.out)
              generalize w7.setCell ⟨b, 1, none⟩ (Value.slice (some ⟨gk, 0, none⟩) (c.layers.length + 1) cap) = wz at *
              have HSh := zH (show shapeL c (decide (i = 0)) h tl = some _ from by show (if h = inputsL then _ else _) = _; rw [if_neg (by rw [He.out]; decide), if_pos He.out]; rw [if_pos ⟨decide_eq_false (by have := Hei.out; omega), HeN.out.symm⟩, ← HV0.out])
              go_meet
              case rel => exact ⟨OKK, rfl, HBy.out, fun e => HErr.out (HOKK.out.symm.trans e), fun e => ⟨_, HPy.out, HFew.out (HOKK.out.symm.trans e) _ HSh.out, HGo.out (HOKK.out.symm.trans e) _ HSh.out, HGi.out (HOKK.out.symm.trans e)⟩⟩
            ·have dN : ((N : Int) == 1) = false := beq_false_of_ne (fun e => eN (by omega))
             have HnN := zH eN
             clear eN
             have HSn := zH (show shapeL c (decide (i = 0)) h tl = none by show (if h = inputsL then _ else _) = _; rw [if_neg (by rw [He.out]; decide), if_pos He.out]; rw [if_neg (fun e => HnN.out (HN'.out.trans e.2))])
             go_wp2_with (fail)
             go_meet
             case rel => exact ⟨false, rfl, HBo.out, fun _ => HErrS.out HSn.out, fun e => absurd e (by decide)⟩
           have bi : decide (0 < (i : Int)) = false := by exact decide_eq_false (by omega)
           have Hei := zH ei
           have HSn := zH (show shapeL c (decide (i = 0)) h tl = none by show (if h = inputsL then _ else _) = _; rw [if_neg (by rw [He.out]; decide), if_pos He.out]; rw [if_neg (fun e => by have := Hei.out; have := e.1; simp at this; omega)])
           clear ei
           go_wp2_with (fail)
           go_meet
           case rel => exact ⟨false, rfl, HBo.out, fun _ => HErrS.out HSn.out, fun e => absurd e (by decide)⟩
         have nL := eH
         clear eH
         by_cases eH : h = addL
         ·have n0 : True := trivial
          as_aux_lemma =>
           have He := zH eH
           have bI : (H.toList == [105, 110, 112, 117, 116, 115]) = false := (Hlit.out addL [105, 110, 112, 117, 116, 115] eH).trans (by decide)
           have bL : (H.toList == [108, 97, 121, 101, 114]) = false := (Hlit.out addL [108, 97, 121, 101, 114] eH).trans (by decide)
           have bA : (H.toList == [97, 100, 100]) = true := (Hlit.out addL [97, 100, 100] eH).trans (by decide)
           have bM : (H.toList == [109, 117, 108]) = false := (Hlit.out addL [109, 117, 108] eH).trans (by decide)
           clear eH
           clear n0
           have Hi0 := zH (show 0 < c.layers.length → 0 < i from fun hh => Nat.pos_of_ne_zero (fun e => by have := HE0.out e; rw [this] at hh; simp at hh))
           by_cases eL : c.layers.length = 0
           ·have dl : decide (0 < (c.layers.length : Int)) = false := decide_eq_false (by omega)
            have HeL := zH eL
            have HSn := zH (show shapeL c (decide (i = 0)) h tl = none by show (if h = inputsL then _ else _) = _; rw [if_neg (by rw [He.out]; decide), if_neg (by rw [He.out]; decide), if_pos (Or.inl He.out)]; rw [if_neg (fun e => by have := e.2.2; have := HeL.out; omega)])
            clear eL
            by_cases eN0 : N = 2
            ·subst eN0
             rw [HeL.out] at x1 ⊢
             rw [show ((0 : Nat) : Int) = 0 from rfl]
             go_wp2_with (fail)
             go_meet
             case rel => exact ⟨false, rfl, HBo.out, fun _ => HErrS.out HSn.out, fun e => absurd e (by decide)⟩
            ·have dN : ((N : Int) == 2) = false := beq_false_of_ne (fun e => eN0 (by omega))
             clear eN0
             go_wp2_with (fail)
             go_meet
             case rel => exact ⟨false, rfl, HBo.out, fun _ => HErrS.out HSn.out, fun e => absurd e (by decide)⟩
           have dl : decide (0 < (c.layers.length : Int)) = true := decide_eq_true (by omega)
           have HeL := zH (show 0 < c.layers.length by omega)
           have hi0 := Hi0.out HeL.out
           by_cases eN : N = 2
           ·have HeN := zH (eN.symm.trans HN'.out)
            subst eN
            obtain ⟨bN, oN, eaN, hbN, hcN⟩ := HNc.out (by decide)
            subst eaN
            obtain ⟨V0, hV0⟩ : ∃ V, V = numP (ats tl 0) := ⟨_, rfl⟩
            have y0 : wo.cell? ⟨bN, oN, none⟩ = some (.int .i64 V0) := by rw [hV0, ← HNa.out 0 (by have := HeN.out; have := HT.out; omega)]; exact hcN 0 (by decide)
            have iV0 : I64 V0 := by rw [hV0]; exact I64.num _
            have HV0 := zH hV0
            obtain ⟨V1, hV1⟩ : ∃ V, V = numP (ats tl 1) := ⟨_, rfl⟩
            have y1 : wo.cell? ⟨bN, oN + 1, none⟩ = some (.int .i64 V1) := by rw [hV1, ← HNa.out 1 (by have := HeN.out; have := HT.out; omega)]; exact hcN 1 (by decide)
            have iV1 : I64 V1 := by rw [hV1]; exact I64.num _
            have HV1 := zH hV1
            clear hcN hV0 hV1
            have hmlt : c.layers.length - 1 < c.layers.length := by omega
            have HNd := zH (show NewL b wo.drew (.slice aL c.layers.length cL) c.layers from NewL.keep HNL.out (fun _ _ _ _ _ => rfl))
            obtain ⟨L, capL, uG, eaL, hBL, hLlt, ⟨csL, hcsL⟩, cG, hGn, hmore⟩ := NewL.layer HNd.out (c.layers.length - 1) hmlt
            cases eaL
            obtain ⟨aG, cGc, rfl⟩ := hGn.isSlice
            have Hmore := zH hmore; have HGn := zH hGn; have HcsL := zH hcsL
            have hgl : (aty c.layers (c.layers.length - 1)).gates.length + 1 ≤ 10000 := by have := HF.out.2 _ hmlt; omega
            have HSy := zH (show shapeL c (decide (i = 0)) h tl = some ⟨c.log, c.layers.set (c.layers.length - 1) ⟨(aty c.layers (c.layers.length - 1)).log, (aty c.layers (c.layers.length - 1)).gates ++ [⟨false, V0, V1⟩]⟩⟩ by rw [HV0.out, HV1.out]; show (if h = inputsL then _ else _) = _; rw [if_neg (by rw [He.out]; decide), if_neg (by rw [He.out]; decide), if_pos (Or.inl He.out)]; rw [if_pos ⟨decide_eq_false (by omega), HeN.out.symm, HeL.out⟩, show decide (h = mulL) = false from decide_eq_false (by rw [He.out]; decide)])
            obtain ⟨mm, hmm⟩ : ∃ mm : Nat, mm = c.layers.length - 1 := ⟨_, rfl⟩
            rw [← hmm] at cG HSy hgl HGn Hmore
            have Hm := zH (show c.layers.length = mm + 1 by omega)
            rw [Hm.out] at Hmore
            have Hbox2 := zH (show wo.drew.heap[b]? = some (.cells #[.int .i64 c.log, .slice (some ⟨L, 0, none⟩) (mm + 1) cL] 62 (0, 0)) from by have := Hbox.out; rw [Hm.out] at this; exact this)
            have x1m : wo.cell? ⟨b, 1, none⟩ = some (.slice (some ⟨L, 0, none⟩) (mm + 1) cL) := by rw [← Hm.out]; exact x1
            have gL : wo.cell? ⟨L, mm * 2 + 1, none⟩ = some (.slice aG (aty c.layers mm).gates.length cGc) := cG
            have gLa : ∀ o, (wo.alloc o).cell? ⟨L, mm * 2 + 1, none⟩ = some (.slice aG (aty c.layers mm).gates.length cGc) := fun o => (((Below.refl _ _).alloc (Nat.le_refl _) _ : Below wo.heap.size wo _).cell (p := ⟨L, mm * 2 + 1, none⟩) hLlt).trans gL
            have hm5 : mm ≤ 5000 := by have := HF.out.1; omega
            have m0 : (0 : Int) ≤ (mm : Int) := by omega
            have m1 : (mm : Int) < (mm : Int) + 1 := by omega
            have hBd : b ≤ wo.drew.heap.size := by have := blk_lt Hbox.out; show b ≤ wo.heap.size; omega
            have HGk := zH (fun k (hk : (Value.slice aG (aty c.layers mm).gates.length cGc).ownBlock = some k) => HGn.out.kind hk)
            obtain ⟨GL, hGL⟩ : ∃ GL, GL = (aty c.layers mm).gates := ⟨_, rfl⟩
            rw [← hGL] at HSy hgl HGn Hmore gL gLa HGk
            rw [Hm.out] at dl ⊢
            clear x1 cG hmm hGL hmlt eL hGn hmore hcsL Hbox HNL
            obtain ⟨cw5, hcw5⟩ := Hbwk.out
            have Hkw := zH hcw5
            have Hkn := HNk.out bN rfl
            obtain ⟨cn5, hcn5⟩ := Hkn
            have Hkn := zH hcn5
            have lb := blk_lt Hbox2.out; have lN := blk_lt hcn5; have lw := blk_lt hcw5
            have hSd : Same3 b bN bw wo wo.drew := ⟨rfl, rfl, rfl⟩
            have HSa := zH (fun o => (show Same3 b bN bw wo (wo.alloc o).drew from Same3.below ⟨rfl, rfl, rfl⟩ (below_drewN ((Below.refl _ _).alloc (Nat.le_refl _) _) 1) lb lN lw))
            have K := zH (show ∀ X, Same3 b bN bw wo X → Same3 b bN bw wo X ∧ X.cell? ⟨b, 1, none⟩ = some (.slice (some ⟨L, 0, none⟩) (mm + 1) cL) ∧ X.cell? ⟨bN, oN, none⟩ = some (.int .i64 V0) ∧ X.cell? ⟨bN, oN + 1, none⟩ = some (.int .i64 V1) ∧ X.cell? ⟨bw, 0, none⟩ = some (.string H) from fun X hX => ⟨hX, (World.cell?_of_block (w := wo) hX.1).trans x1m, (World.cell?_of_block (w := wo) hX.2.1).trans y0, (World.cell?_of_block (w := wo) hX.2.1).trans y1, (World.cell?_of_block (w := wo) hX.2.2).trans xh⟩)
            have HM3 := zH (fun w7 (hg7 : wo.drew.grownBy w7 (Value.slice aG GL.length cGc).ownBlock) => (show Same3 b bN bw wo w7 from ⟨hg7.block b lb (fun e => by obtain ⟨_, q⟩ := HGk.out b e.symm; exact ne_kind Hbox2.out q (by decide) rfl), hg7.block bN lN (fun e => by obtain ⟨_, q⟩ := HGk.out bN e.symm; exact ne_kind (w := wo.drew) Hkn.out q (by decide) rfl), hg7.block bw lw (fun e => by obtain ⟨_, q⟩ := HGk.out bw e.symm; exact ne_kind (w := wo.drew) Hkw.out q (by decide) rfl)⟩))
            have HM4 := zH (fun w7 (h : Same3 b bN bw wo w7) v => (show Same3 b bN bw wo (w7.setCell ⟨L, mm * 2 + 1, none⟩ v) from ⟨(Below.heap_setCell _ _ _ _ (ne_kind Hbox2.out HcsL.out (by decide))).trans h.1, (Below.heap_setCell _ _ _ _ (ne_kind (w := wo.drew) Hkn.out HcsL.out (by decide))).trans h.2.1, (Below.heap_setCell _ _ _ _ (ne_kind (w := wo.drew) Hkw.out HcsL.out (by decide))).trans h.2.2⟩))
            clear hcw5 hcn5 lb lN lw
            go_upto_region 27 with (fail)
            rw [show ({ dst := some 155, op := Op.load 122 (Operand.tmp 154), type := 122, pos := "ref.go:440", after := #[{ on := 3, ground := Ground.data }], guard := none } : Oper) = id { dst := some 155, op := Op.load 122 (Operand.tmp 154), type := 122, pos := "ref.go:440", after := #[{ on := 3, ground := Ground.data }], guard := none } from rfl]
            go_region_held3 (fun w' => Same3 b bN bw wo w' ∧ w'.cell? ⟨b, 1, none⟩ = some (.slice (some ⟨L, 0, none⟩) (mm + 1) cL) ∧ w'.cell? ⟨bN, oN, none⟩ = some (.int .i64 V0) ∧ w'.cell? ⟨bN, oN + 1, none⟩ = some (.int .i64 V1) ∧ w'.cell? ⟨bw, 0, none⟩ = some (.string H))
             (first
              | exact K.out _ hS7
              | exact K.out _ (HM4.out _ hS7 _)
              | exact K.out _ hSd
              | exact K.out _ (HSa.out _))
             (first
              | (refine step_appG (w0 := wo.drew) rfl _ _ (by rfl) b _ GL (by rfl) HGn.out false V0 V1 (by rfl) ⟨iV0, iV1⟩ hgl hBd ?_; intro gk cap w7 hn7 hg7 hk7; have HM := zH (Hmore.out w7 gk cap _ hn7 hg7 hk7); have HA7 := zH (Pk.addGate hBb hclog Hbox2.out HcsL.out HGk.out hg7 HM.out.2.2); have k7 : w7.cell? ⟨L, mm * 2 + 1, none⟩ = some (.slice aG GL.length cGc) := HM.out.1; have f7 : w7.frozen? ⟨L, mm * 2 + 1, none⟩ = false := HM.out.2.1; have HB7 := zH (show Below b wo.drew w7 from below_of_grown hg7 hBd HGn.out); have hS7 : Same3 b bN bw wo w7 := HM3.out w7 hg7; clear hn7 hg7 hk7))
            all_goals
             go_wp2_with (fail)
             have HBy := zH (((below_drewN HBo.out 1).trans HB7.out).setCell (p := ⟨L, mm * 2 + 1, none⟩) hBL (Value.slice (some ⟨gk, 0, none⟩) (GL.length + 1) cap))
             have HPy := zH (HA7.out.1)
             generalize w7.setCell ⟨L, mm * 2 + 1, none⟩ (Value.slice (some ⟨gk, 0, none⟩) (GL.length + 1) cap) = wz at *
             have HSh := zH (show shapeL c (decide (i = 0)) h tl = some _ from HSy.out)
             go_meet
             case rel => exact ⟨OKK, rfl, HBy.out, fun e => HErr.out (HOKK.out.symm.trans e), fun e => ⟨_, HPy.out, HFew.out (HOKK.out.symm.trans e) _ HSh.out, HGo.out (HOKK.out.symm.trans e) _ HSh.out, HGi.out (HOKK.out.symm.trans e)⟩⟩
           ·have dN : ((N : Int) == 2) = false := beq_false_of_ne (fun e => eN (by omega))
            have HnN := zH eN
            clear eN
            have HSn := zH (show shapeL c (decide (i = 0)) h tl = none by show (if h = inputsL then _ else _) = _; rw [if_neg (by rw [He.out]; decide), if_neg (by rw [He.out]; decide), if_pos (Or.inl He.out)]; rw [if_neg (fun e => HnN.out (HN'.out.trans e.2.1))])
            go_wp2_with (fail)
            go_meet
            case rel => exact ⟨false, rfl, HBo.out, fun _ => HErrS.out HSn.out, fun e => absurd e (by decide)⟩
         have nA := eH
         clear eH
         by_cases eH : h = mulL
         ·have n0 : True := trivial
          as_aux_lemma =>
           have He := zH eH
           have bI : (H.toList == [105, 110, 112, 117, 116, 115]) = false := (Hlit.out mulL [105, 110, 112, 117, 116, 115] eH).trans (by decide)
           have bL : (H.toList == [108, 97, 121, 101, 114]) = false := (Hlit.out mulL [108, 97, 121, 101, 114] eH).trans (by decide)
           have bA : (H.toList == [97, 100, 100]) = false := (Hlit.out mulL [97, 100, 100] eH).trans (by decide)
           have bM : (H.toList == [109, 117, 108]) = true := (Hlit.out mulL [109, 117, 108] eH).trans (by decide)
           clear eH
           clear n0
           have Hi0 := zH (show 0 < c.layers.length → 0 < i from fun hh => Nat.pos_of_ne_zero (fun e => by have := HE0.out e; rw [this] at hh; simp at hh))
           by_cases eL : c.layers.length = 0
           ·have dl : decide (0 < (c.layers.length : Int)) = false := decide_eq_false (by omega)
            have HeL := zH eL
            have HSn := zH (show shapeL c (decide (i = 0)) h tl = none by show (if h = inputsL then _ else _) = _; rw [if_neg (by rw [He.out]; decide), if_neg (by rw [He.out]; decide), if_pos (Or.inr He.out)]; rw [if_neg (fun e => by have := e.2.2; have := HeL.out; omega)])
            clear eL
            by_cases eN0 : N = 2
            ·subst eN0
             rw [HeL.out] at x1 ⊢
             rw [show ((0 : Nat) : Int) = 0 from rfl]
             go_wp2_with (fail)
             go_meet
             case rel => exact ⟨false, rfl, HBo.out, fun _ => HErrS.out HSn.out, fun e => absurd e (by decide)⟩
            ·have dN : ((N : Int) == 2) = false := beq_false_of_ne (fun e => eN0 (by omega))
             clear eN0
             go_wp2_with (fail)
             go_meet
             case rel => exact ⟨false, rfl, HBo.out, fun _ => HErrS.out HSn.out, fun e => absurd e (by decide)⟩
           have dl : decide (0 < (c.layers.length : Int)) = true := decide_eq_true (by omega)
           have HeL := zH (show 0 < c.layers.length by omega)
           have hi0 := Hi0.out HeL.out
           by_cases eN : N = 2
           ·have HeN := zH (eN.symm.trans HN'.out)
            subst eN
            obtain ⟨bN, oN, eaN, hbN, hcN⟩ := HNc.out (by decide)
            subst eaN
            obtain ⟨V0, hV0⟩ : ∃ V, V = numP (ats tl 0) := ⟨_, rfl⟩
            have y0 : wo.cell? ⟨bN, oN, none⟩ = some (.int .i64 V0) := by rw [hV0, ← HNa.out 0 (by have := HeN.out; have := HT.out; omega)]; exact hcN 0 (by decide)
            have iV0 : I64 V0 := by rw [hV0]; exact I64.num _
            have HV0 := zH hV0
            obtain ⟨V1, hV1⟩ : ∃ V, V = numP (ats tl 1) := ⟨_, rfl⟩
            have y1 : wo.cell? ⟨bN, oN + 1, none⟩ = some (.int .i64 V1) := by rw [hV1, ← HNa.out 1 (by have := HeN.out; have := HT.out; omega)]; exact hcN 1 (by decide)
            have iV1 : I64 V1 := by rw [hV1]; exact I64.num _
            have HV1 := zH hV1
            clear hcN hV0 hV1
            have hmlt : c.layers.length - 1 < c.layers.length := by omega
            have HNd := zH (show NewL b wo.drew (.slice aL c.layers.length cL) c.layers from NewL.keep HNL.out (fun _ _ _ _ _ => rfl))
            obtain ⟨L, capL, uG, eaL, hBL, hLlt, ⟨csL, hcsL⟩, cG, hGn, hmore⟩ := NewL.layer HNd.out (c.layers.length - 1) hmlt
            cases eaL
            obtain ⟨aG, cGc, rfl⟩ := hGn.isSlice
            have Hmore := zH hmore; have HGn := zH hGn; have HcsL := zH hcsL
            have hgl : (aty c.layers (c.layers.length - 1)).gates.length + 1 ≤ 10000 := by have := HF.out.2 _ hmlt; omega
            have HSy := zH (show shapeL c (decide (i = 0)) h tl = some ⟨c.log, c.layers.set (c.layers.length - 1) ⟨(aty c.layers (c.layers.length - 1)).log, (aty c.layers (c.layers.length - 1)).gates ++ [⟨true, V0, V1⟩]⟩⟩ by rw [HV0.out, HV1.out]; show (if h = inputsL then _ else _) = _; rw [if_neg (by rw [He.out]; decide), if_neg (by rw [He.out]; decide), if_pos (Or.inr He.out)]; rw [if_pos ⟨decide_eq_false (by omega), HeN.out.symm, HeL.out⟩, show decide (h = mulL) = true from decide_eq_true He.out])
            obtain ⟨mm, hmm⟩ : ∃ mm : Nat, mm = c.layers.length - 1 := ⟨_, rfl⟩
            rw [← hmm] at cG HSy hgl HGn Hmore
            have Hm := zH (show c.layers.length = mm + 1 by omega)
            rw [Hm.out] at Hmore
            have Hbox2 := zH (show wo.drew.heap[b]? = some (.cells #[.int .i64 c.log, .slice (some ⟨L, 0, none⟩) (mm + 1) cL] 62 (0, 0)) from by have := Hbox.out; rw [Hm.out] at this; exact this)
            have x1m : wo.cell? ⟨b, 1, none⟩ = some (.slice (some ⟨L, 0, none⟩) (mm + 1) cL) := by rw [← Hm.out]; exact x1
            have gL : wo.cell? ⟨L, mm * 2 + 1, none⟩ = some (.slice aG (aty c.layers mm).gates.length cGc) := cG
            have gLa : ∀ o, (wo.alloc o).cell? ⟨L, mm * 2 + 1, none⟩ = some (.slice aG (aty c.layers mm).gates.length cGc) := fun o => (((Below.refl _ _).alloc (Nat.le_refl _) _ : Below wo.heap.size wo _).cell (p := ⟨L, mm * 2 + 1, none⟩) hLlt).trans gL
            have hm5 : mm ≤ 5000 := by have := HF.out.1; omega
            have m0 : (0 : Int) ≤ (mm : Int) := by omega
            have m1 : (mm : Int) < (mm : Int) + 1 := by omega
            have hBd : b ≤ wo.drew.heap.size := by have := blk_lt Hbox.out; show b ≤ wo.heap.size; omega
            have HGk := zH (fun k (hk : (Value.slice aG (aty c.layers mm).gates.length cGc).ownBlock = some k) => HGn.out.kind hk)
            obtain ⟨GL, hGL⟩ : ∃ GL, GL = (aty c.layers mm).gates := ⟨_, rfl⟩
            rw [← hGL] at HSy hgl HGn Hmore gL gLa HGk
            rw [Hm.out] at dl ⊢
            clear x1 cG hmm hGL hmlt eL hGn hmore hcsL Hbox HNL
            obtain ⟨cw5, hcw5⟩ := Hbwk.out
            have Hkw := zH hcw5
            have Hkn := HNk.out bN rfl
            obtain ⟨cn5, hcn5⟩ := Hkn
            have Hkn := zH hcn5
            have lb := blk_lt Hbox2.out; have lN := blk_lt hcn5; have lw := blk_lt hcw5
            have hSd : Same3 b bN bw wo wo.drew := ⟨rfl, rfl, rfl⟩
            have HSa := zH (fun o => (show Same3 b bN bw wo (wo.alloc o).drew from Same3.below ⟨rfl, rfl, rfl⟩ (below_drewN ((Below.refl _ _).alloc (Nat.le_refl _) _) 1) lb lN lw))
            have K := zH (show ∀ X, Same3 b bN bw wo X → Same3 b bN bw wo X ∧ X.cell? ⟨b, 1, none⟩ = some (.slice (some ⟨L, 0, none⟩) (mm + 1) cL) ∧ X.cell? ⟨bN, oN, none⟩ = some (.int .i64 V0) ∧ X.cell? ⟨bN, oN + 1, none⟩ = some (.int .i64 V1) ∧ X.cell? ⟨bw, 0, none⟩ = some (.string H) from fun X hX => ⟨hX, (World.cell?_of_block (w := wo) hX.1).trans x1m, (World.cell?_of_block (w := wo) hX.2.1).trans y0, (World.cell?_of_block (w := wo) hX.2.1).trans y1, (World.cell?_of_block (w := wo) hX.2.2).trans xh⟩)
            have HM3 := zH (fun w7 (hg7 : wo.drew.grownBy w7 (Value.slice aG GL.length cGc).ownBlock) => (show Same3 b bN bw wo w7 from ⟨hg7.block b lb (fun e => by obtain ⟨_, q⟩ := HGk.out b e.symm; exact ne_kind Hbox2.out q (by decide) rfl), hg7.block bN lN (fun e => by obtain ⟨_, q⟩ := HGk.out bN e.symm; exact ne_kind (w := wo.drew) Hkn.out q (by decide) rfl), hg7.block bw lw (fun e => by obtain ⟨_, q⟩ := HGk.out bw e.symm; exact ne_kind (w := wo.drew) Hkw.out q (by decide) rfl)⟩))
            have HM4 := zH (fun w7 (h : Same3 b bN bw wo w7) v => (show Same3 b bN bw wo (w7.setCell ⟨L, mm * 2 + 1, none⟩ v) from ⟨(Below.heap_setCell _ _ _ _ (ne_kind Hbox2.out HcsL.out (by decide))).trans h.1, (Below.heap_setCell _ _ _ _ (ne_kind (w := wo.drew) Hkn.out HcsL.out (by decide))).trans h.2.1, (Below.heap_setCell _ _ _ _ (ne_kind (w := wo.drew) Hkw.out HcsL.out (by decide))).trans h.2.2⟩))
            clear hcw5 hcn5 lb lN lw
            go_upto_region 27 with (fail)
            rw [show ({ dst := some 155, op := Op.load 122 (Operand.tmp 154), type := 122, pos := "ref.go:440", after := #[{ on := 3, ground := Ground.data }], guard := none } : Oper) = id { dst := some 155, op := Op.load 122 (Operand.tmp 154), type := 122, pos := "ref.go:440", after := #[{ on := 3, ground := Ground.data }], guard := none } from rfl]
            go_region_held3 (fun w' => Same3 b bN bw wo w' ∧ w'.cell? ⟨b, 1, none⟩ = some (.slice (some ⟨L, 0, none⟩) (mm + 1) cL) ∧ w'.cell? ⟨bN, oN, none⟩ = some (.int .i64 V0) ∧ w'.cell? ⟨bN, oN + 1, none⟩ = some (.int .i64 V1) ∧ w'.cell? ⟨bw, 0, none⟩ = some (.string H))
             (first
              | exact K.out _ hS7
              | exact K.out _ (HM4.out _ hS7 _)
              | exact K.out _ hSd
              | exact K.out _ (HSa.out _))
             (first
              | (refine step_appG (w0 := wo.drew) rfl _ _ (by rfl) b _ GL (by rfl) HGn.out true V0 V1 (by rfl) ⟨iV0, iV1⟩ hgl hBd ?_; intro gk cap w7 hn7 hg7 hk7; have HM := zH (Hmore.out w7 gk cap _ hn7 hg7 hk7); have HA7 := zH (Pk.addGate hBb hclog Hbox2.out HcsL.out HGk.out hg7 HM.out.2.2); have k7 : w7.cell? ⟨L, mm * 2 + 1, none⟩ = some (.slice aG GL.length cGc) := HM.out.1; have f7 : w7.frozen? ⟨L, mm * 2 + 1, none⟩ = false := HM.out.2.1; have HB7 := zH (show Below b wo.drew w7 from below_of_grown hg7 hBd HGn.out); have hS7 : Same3 b bN bw wo w7 := HM3.out w7 hg7; clear hn7 hg7 hk7))
            all_goals
             go_wp2_with (fail)
             have HBy := zH (((below_drewN HBo.out 1).trans HB7.out).setCell (p := ⟨L, mm * 2 + 1, none⟩) hBL (Value.slice (some ⟨gk, 0, none⟩) (GL.length + 1) cap))
             have HPy := zH (HA7.out.1)
             generalize w7.setCell ⟨L, mm * 2 + 1, none⟩ (Value.slice (some ⟨gk, 0, none⟩) (GL.length + 1) cap) = wz at *
             have HSh := zH (show shapeL c (decide (i = 0)) h tl = some _ from HSy.out)
             go_meet
             case rel => exact ⟨OKK, rfl, HBy.out, fun e => HErr.out (HOKK.out.symm.trans e), fun e => ⟨_, HPy.out, HFew.out (HOKK.out.symm.trans e) _ HSh.out, HGo.out (HOKK.out.symm.trans e) _ HSh.out, HGi.out (HOKK.out.symm.trans e)⟩⟩
           ·have dN : ((N : Int) == 2) = false := beq_false_of_ne (fun e => eN (by omega))
            have HnN := zH eN
            clear eN
            have HSn := zH (show shapeL c (decide (i = 0)) h tl = none by show (if h = inputsL then _ else _) = _; rw [if_neg (by rw [He.out]; decide), if_neg (by rw [He.out]; decide), if_pos (Or.inr He.out)]; rw [if_neg (fun e => HnN.out (HN'.out.trans e.2.1))])
            go_wp2_with (fail)
            go_meet
            case rel => exact ⟨false, rfl, HBo.out, fun _ => HErrS.out HSn.out, fun e => absurd e (by decide)⟩
         have nM := eH
         clear eH
         have bI : (H.toList == [105, 110, 112, 117, 116, 115]) = false := Hlit2.out inputsL nI
         have bL : (H.toList == [108, 97, 121, 101, 114]) = false := Hlit2.out layerL nL
         have bA : (H.toList == [97, 100, 100]) = false := Hlit2.out addL nA
         have bM : (H.toList == [109, 117, 108]) = false := Hlit2.out mulL nM
         have HSn := zH (show shapeL c (decide (i = 0)) h tl = none by show (if h = inputsL then _ else _) = _; rw [if_neg nI, if_neg nL, if_neg (fun e => e.elim nA nM)])
         go_wp2_with (fail)
         go_meet
         case rel => exact ⟨false, rfl, HBo.out, fun _ => HErrS.out HSn.out, fun e => absurd e (by decide)⟩
end Go.Proofs.YtlfneeobnihocaaGreatDoor
