/- Several texts in one: ParseW, BackM. What each says, and its conditions, stands at its head. -/
import Derived.Test.YtlfneeobnihocaaGreatDoorReadW
/- What a circuit's text says; the walk of circuit.Parse. -/
namespace Go.Proofs.YtlfneeobnihocaaGreatDoor
set_option maxRecDepth 100000
set_option linter.unusedVariables false
open Go.RowKit Tally
def parseL : Nat → Ci → List (List UInt8) → Nat ⊕ Ci
 | n, _, [] => .inl n
 | n, c, [p] => if n ≠ 1 ∧ p = [] then .inr c else .inl n
 | n, c, p :: q :: r =>
  match stepLine c (n == 1) (pcs 32 p) with
  | none => .inl n
  | some c' => parseL (n + 1) c' (q :: r)
def emptyC : Ci := ⟨0, []⟩
def parseR (s : List UInt8) : Ci × Int × Int :=
 if 4096 < s.length then (emptyC, 0, 2) else
  match parseL 1 emptyC (pcs 10 s) with
  | .inl n => (emptyC, (n : Int), 3)
  | .inr c => if checkC c = 0 then (c, 0, 0) else (emptyC, 0, (checkC c : Int))
def FewC (c : Ci) (n : Nat) : Prop := c.layers.length ≤ n ∧ ∀ j, j < c.layers.length → (aty c.layers j).gates.length ≤ n
theorem step_few {c c' : Ci} {f : Bool} {l : List (List UInt8)} {n : Nat} (h : stepLine c f l = some c') (hc : FewC c n) : FewC c' (n + 1) := by
 obtain ⟨h1, h2⟩ := hc
 match l with
 | [] => simp [stepLine] at h
 | a :: t =>
  have e : stepLine c f (a :: t) = if numsOk t = false then none
   else if a = inputsL then (if f = true ∧ t.length = 1 then some ⟨numP (ats t 0), c.layers⟩ else none)
   else if a = layerL then (if f = false ∧ t.length = 1 then some ⟨c.log, c.layers ++ [⟨numP (ats t 0), []⟩]⟩ else none)
   else if a = addL ∨ a = mulL then
    (if f = false ∧ t.length = 2 ∧ 0 < c.layers.length then
     some ⟨c.log, c.layers.set (c.layers.length - 1) ⟨(aty c.layers (c.layers.length - 1)).log, (aty c.layers (c.layers.length - 1)).gates ++ [⟨decide (a = mulL), numP (ats t 0), numP (ats t 1)⟩]⟩⟩ else none)
   else none := rfl
  rw [e] at h
  by_cases k0 : numsOk t = false
  ·rw [if_pos k0] at h; cases h
  rw [if_neg k0] at h
  by_cases k1 : a = inputsL
  ·rw [if_pos k1] at h
   by_cases k : f = true ∧ t.length = 1
   ·rw [if_pos k] at h
    cases h
    exact ⟨Nat.le_succ_of_le h1, fun j hj => Nat.le_succ_of_le (h2 j hj)⟩
   ·rw [if_neg k] at h; cases h
  rw [if_neg k1] at h
  by_cases k2 : a = layerL
  ·rw [if_pos k2] at h
   by_cases k : f = false ∧ t.length = 1
   ·rw [if_pos k] at h
    cases h
    refine ⟨by show (c.layers ++ [_]).length ≤ _; simp; omega, fun j hj => ?_⟩
    show (aty (c.layers ++ [_]) j).gates.length ≤ _
    by_cases hj2 : j < c.layers.length
    ·have := h2 j hj2
     rw [show ∀ x : Ly, aty (c.layers ++ [x]) j = aty c.layers j from fun x => by simp [aty, List.getElem?_append_left hj2]]; omega
    ·have : j = c.layers.length := by
      have : j < (c.layers ++ [_]).length := hj
      simp at this; omega
     subst this
     rw [show ∀ x : Ly, aty (c.layers ++ [x]) c.layers.length = x from fun x => by simp [aty]]; simp
   ·rw [if_neg k] at h; cases h
  rw [if_neg k2] at h
  by_cases k3 : a = addL ∨ a = mulL
  ·rw [if_pos k3] at h
   by_cases k : f = false ∧ t.length = 2 ∧ 0 < c.layers.length
   ·rw [if_pos k] at h
    cases h
    refine ⟨by show (c.layers.set _ _).length ≤ _; rw [List.length_set]; omega, fun j hj => ?_⟩
    have hj' : j < c.layers.length := by
     have : j < (c.layers.set _ _).length := hj
     rwa [List.length_set] at this
    show (aty (c.layers.set _ _) j).gates.length ≤ _
    rw [aty_set _ _ _ _ (by omega)]
    by_cases ej : j = c.layers.length - 1
    ·rw [if_pos ej]
     have := h2 (c.layers.length - 1) (by omega)
     simp; omega
    ·rw [if_neg ej]
     have := h2 j hj'; omega
   ·rw [if_neg k] at h; cases h
  ·rw [if_neg k3] at h; cases h
theorem mkB_cut (a r : List UInt8) : (mkB (a ++ 10 :: r)).extract 0 a.length = mkB a ∧ (mkB (a ++ 10 :: r)).extract (a.length + 1) (mkB (a ++ 10 :: r)).size = mkB r := by
 constructor
 ·refine Go.WideShapes.bytes_inj ?_
  rw [Lib.extract_from_zero]; simp
 ·refine Go.WideShapes.bytes_inj ?_
  rw [Lib.extract_to_end]
  show (a ++ 10 :: r).drop (a.length + 1) = r
  rw [List.drop_append]; simp
theorem parseL_last (n : Nat) (c : Ci) (p : List UInt8) : parseL n c [p] = if n ≠ 1 ∧ p = [] then .inr c else .inl n := rfl
theorem parseL_next (n : Nat) (c : Ci) (p : List UInt8) (r : List UInt8) : parseL n c (p :: pcs 10 r) = match stepLine c (n == 1) (pcs 32 p) with | none => .inl n | some c' => parseL (n + 1) c' (pcs 10 r) := by
 obtain ⟨q, r', h⟩ := pcs_head 10 r
 rw [h]; rfl
theorem strRow_row (w : World) (l : List (List UInt8)) (hl : l.length ≤ 1000000) : RowS (w.alloc (.cells (strRow l) 9)) (.slice (some ⟨w.heap.size, 0, none⟩) l.length l.length) l := by
 refine ⟨by omega, _, _, rfl, Nat.le_refl _, by omega, fun h0 => ⟨w.heap.size, 0, rfl, by simp, ⟨_, alloc_blk w _⟩, fun j hj => ?_⟩⟩
 rw [cell_blk (alloc_blk w _), Nat.zero_add]
 simp [strRow, ats, hj]
theorem isC_empty (w : World) : IsC w (.agg #[.int .i64 0, .slice none 0 0]) emptyC := ⟨by show I64 0; unfold I64; omega, _, rfl, by intro l hl; exact absurd hl (by simp [emptyC]), by simp [emptyC], none, 0, rfl, fun h => absurd h (by simp [emptyC])⟩
def strLenV : Value → Nat
 | .string x => x.size
 | _ => 0
theorem two_blocksP (w : World) (cs ds : Array Value) (t u : Nat) : ∃ W, (w.alloc (.cells cs t)).alloc (.cells ds u) = W ∧ W.heap[w.heap.size]? = some (.cells cs t (0, 0)) ∧ W.heap[w.heap.size + 1]? = some (.cells ds u (0, 0)) ∧ W.heap.size = w.heap.size + 2 ∧ Below w.heap.size w W := by
 refine ⟨_, rfl, ?_, ?_, by simp, ((Below.refl _ _).alloc (Nat.le_refl _) _).alloc (by simp) _⟩
 ·rw [Lib.alloc_old _ _ _ (by simp)]; exact alloc_blk w _
 ·have := alloc_blk (w.alloc (.cells cs t)) (.cells ds u)
  simpa using this
theorem below_b {w W1 wr : World} {b : Nat} (h1 : Below w.heap.size w W1) (hb : b = w.heap.size + 1) (h : Below b W1 wr) : Below w.heap.size w wr := h1.trans (h.mono (by omega))
theorem below_chainP {a b c : World} (h : Below a.heap.size a b) (k : Below b.heap.size b c) : Below a.heap.size a c := h.trans (k.mono h.size)
theorem put_box {w W : World} {t : TypeId} {x y : Value} (h : W.heap[w.heap.size]? = some (.cells #[x, y] t (0, 0))) (hb : Below w.heap.size w W) (u v : Value) :
  ((W.setCell ⟨w.heap.size, 0, none⟩ u).setCell ⟨w.heap.size, 1, none⟩ v).cell? ⟨w.heap.size, 0, none⟩ = some u ∧ ((W.setCell ⟨w.heap.size, 0, none⟩ u).setCell ⟨w.heap.size, 1, none⟩ v).cell? ⟨w.heap.size, 1, none⟩ = some v ∧
   Below w.heap.size w ((W.setCell ⟨w.heap.size, 0, none⟩ u).setCell ⟨w.heap.size, 1, none⟩ v) := by
 have hk := blk_setCell (blk_setCell h 0 u) 1 v
 exact ⟨cell_blk hk 0, cell_blk hk 1, (hb.setCell (p := ⟨w.heap.size, 0, none⟩) (Nat.le_refl _) u).setCell (p := ⟨w.heap.size, 1, none⟩) (Nat.le_refl _) v⟩
theorem isC_put {B k : Nat} {c : Ci} {w : World} {vL u v x y : Value} (hlog : I64 c.log) (hN : NewL B w vL c.layers) (hk : w.heap[k]? = some (.cells #[x, y] 62 (0, 0))) :
  IsC ((w.setCell ⟨k, 0, none⟩ u).setCell ⟨k, 1, none⟩ v) (.agg #[.int .i64 c.log, vL]) c := by
 refine ⟨hlog, vL, rfl, NewL.row (NewL.keep hN fun g cs t hg ht => ?_)⟩
 have hne : g ≠ k := ne_kind hg hk (by rcases ht with rfl | rfl <;> decide)
 rw [Below.heap_setCell _ _ _ _ hne, Below.heap_setCell _ _ _ _ hne]
theorem zero_box {w W : World} {t : TypeId} {x y : Value} (h : W.heap[w.heap.size]? = some (.cells #[x, y] t (0, 0))) (hb : Below w.heap.size w W) :
  ((W.setCell ⟨w.heap.size, 0, none⟩ (.int .i64 0)).setCell ⟨w.heap.size, 1, none⟩ (.slice none 0 0)).cell? ⟨w.heap.size, 0, none⟩ = some (.int .i64 0) ∧ ((W.setCell ⟨w.heap.size, 0, none⟩ (.int .i64 0)).setCell ⟨w.heap.size, 1, none⟩ (.slice none 0 0)).cell? ⟨w.heap.size, 1, none⟩ = some (.slice none 0 0) ∧
   Below w.heap.size w ((W.setCell ⟨w.heap.size, 0, none⟩ (.int .i64 0)).setCell ⟨w.heap.size, 1, none⟩ (.slice none 0 0)) := put_box h hb _ _
set_option maxHeartbeats 8000000 in
theorem c_Parse (s : ByteArray) (w : World) (hs : s.size ≤ 9223372036854775807) :
  Calls Tryz.prog 59 #[.string s] w fun e w' => ∃ v, e = .returned (.tuple #[v, .int .i64 (parseR s.data.toList).2.1, .int .i64 (parseR s.data.toList).2.2]) ∧ IsC w' v (parseR s.data.toList).1 ∧ Below w.heap.size w w' := by
 obtain ⟨R, hR⟩ : ∃ R, R = parseR s.data.toList := ⟨_, rfl⟩
 rw [← hR]
 have HR := zH hR
 have hsl : s.data.toList.length = s.size := by rw [Array.length_toList]; rfl
 by_cases hbig : 4096 < s.size
 ·have hRb : R = (emptyC, 0, 2) := by rw [hR]; unfold parseR; rw [if_pos (by rw [hsl]; exact hbig)]
  have HRb := zH hRb
  have hb1 : decide ((4096 : Int) < (s.size : Int)) = true := decide_eq_true (by omega)
  clear hR hRb hbig
  go_enter Tryz.func59, Tryz.ntmps59
  go_wp2_with (fail)
  obtain ⟨W1, hW1, d0, d1, B1, s1⟩ := copied2' w (.int .i64 0) (.slice none 0 0) 62
  rw [hW1]
  exact bodyPost_ret (v := .tuple #[.agg #[.int .i64 0, .slice none 0 0], .int .i64 0, .int .i64 2]) (by simp [results, Tryz.results59, go_sem, d0, d1]) rfl ⟨_, by rw [HRb.out], by rw [HRb.out]; exact isC_empty _, B1⟩
 ·have hb1 : decide ((4096 : Int) < (s.size : Int)) = false := decide_eq_false (by omega)
  have hs4 : s.size ≤ 4096 := by omega
  have hRp := zH (show R = match parseL 1 emptyC (pcs 10 s.data.toList) with
   | .inl n => (emptyC, (n : Int), 3)
   | .inr c => if checkC c = 0 then (c, 0, 0) else (emptyC, 0, (checkC c : Int)) by
    rw [hR]; unfold parseR; rw [if_neg (by rw [hsl]; exact hbig)])
  obtain ⟨P, hP⟩ : ∃ P, P = parseL 1 emptyC (pcs 10 s.data.toList) := ⟨_, rfl⟩
  rw [← hP] at hRp
  have HP := zH hP
  have Hsl := zH hsl
  clear hR HR hbig hP hsl
  go_enter Tryz.func59, Tryz.ntmps59
  go_wp2_with (fail)
  obtain ⟨W1, hW1, k0, k1, s1, B1⟩ := two_blocksP w #[.int .i64 0, .slice none 0 0] #[.int .i64 0, .slice none 0 0] 62 62
  rw [hW1]
  obtain ⟨b, hb⟩ : ∃ b, b = w.heap.size + 1 := ⟨_, rfl⟩
  rw [← hb] at k1 ⊢
  have Hb := zH hb
  have H1 := zH B1
  have K0 := zH k0
  have HP1 := zH (show Pk b b emptyC W1 from ⟨Nat.le_refl _, by show I64 0; unfold I64; omega, .slice none 0 0, k1, NewL.nil _ _⟩)
  have S1 := zH s1
  clear hW1 k0 k1 s1 B1 hb
  go_loopw [0, 6] (fun sv i wr => ∃ (n : Nat) (c : Ci) (rem : List UInt8), i = .int .i64 (n : Int) ∧ sv = .string (mkB rem) ∧ 1 ≤ n ∧ n + rem.length ≤ 4097 ∧ Hid (Pk b b c wr) ∧ Hid (FewC c n) ∧ Hid (Below b W1 wr) ∧ Hid (P = parseL n c (pcs 10 rem))) (fun sv _ _ => strLenV sv)
  case atStart => exact ⟨1, emptyC, s.data.toList, rfl, rfl, by omega, by rw [Hsl.out]; omega, HP1.out, ⟨by simp [emptyC], fun j hj => absurd hj (by simp [emptyC])⟩, Below.refl _ _, HP.out⟩
  case round =>
   obtain ⟨n, c, rem, rfl, rfl, hn1, hn2, HPk, HF, HB, HPP⟩ := hrel
   obtain ⟨X, hX⟩ : ∃ X, X = mkB rem := ⟨_, rfl⟩
   have HX := zH hX
   rw [← hX]
   clear hX
   by_cases e1 : n = 1
   ·have bn : ((n : Int) == 1) = true := by rw [e1]; rfl
    rcases index_split 10 rem with ⟨hi, hno⟩ | ⟨a, r, hrem, hna, hi⟩
    ·have HPl := zH (show P = .inl n by rw [HPP.out, pcs_none 10 rem hno, parseL_last, if_neg (fun h => h.1 (by omega))])
     have CM := zH (fun W => st_Cut_miss X 10 W (by rw [HX.out]; exact hi))
     have HRl := zH (show R = (emptyC, 1, 3) by rw [hRp.out, HPl.out]; rw [e1]; rfl)
     have hrr : wr.heap[w.heap.size]? = some _ := (HB.out.block w.heap.size (by have := Hb.out; omega)).trans K0.out
     have Hrr := zH hrr
     have g0 : wr.cell? ⟨w.heap.size, 0, none⟩ = some (.int .i64 0) := cell_blk hrr 0
     have g1 : wr.cell? ⟨w.heap.size, 1, none⟩ = some (.slice none 0 0) := cell_blk hrr 1
     have f0 : wr.frozen? ⟨w.heap.size, 0, none⟩ = false := free_blk hrr 0
     have f1 : wr.frozen? ⟨w.heap.size, 1, none⟩ = false := free_blk hrr 1
     have Hbel := zH (below_b H1.out Hb.out HB.out)
     clear hrr hi hno
     go_wp2_with (go_at_call 92; refine (CM.out _).mono ?_; rintro e w' ⟨rfl, rfl⟩)
     have hz := zero_box Hrr.out Hbel.out
     obtain ⟨d0, d1, hbz⟩ := hz
     generalize (wr.setCell ⟨w.heap.size, 0, none⟩ (.int .i64 0)).setCell ⟨w.heap.size, 1, none⟩ (.slice none 0 0) = wz at *
     exact bodyPost_ret (v := .tuple #[.agg #[.int .i64 0, .slice none 0 0], .int .i64 1, .int .i64 3]) (by simp [results, Tryz.results59, go_sem, d0, d1]) rfl ⟨.agg #[.int .i64 0, .slice none 0 0], by rw [HRl.out], by rw [HRl.out]; exact isC_empty _, hbz⟩
    ·have HPl := zH (show P = match stepLine c (n == 1) (pcs 32 a) with | none => .inl n | some c' => parseL (n + 1) c' (pcs 10 r) by rw [HPP.out, hrem, pcs_sep 10 a r hna, parseL_next])
     have hfb : (n == 1) = true := by simpa using e1
     rw [hfb] at HPl
     have hrl : rem.length = a.length + 1 + r.length := by rw [hrem]; simp; omega
     have hXs : X.size = rem.length := by rw [HX.out]; rfl
     obtain ⟨hm1, hm2⟩ := mkB_cut a r
     rw [← hrem, ← HX.out] at hm1 hm2
     have CH := zH (fun W => st_Cut_hit X 10 a.length W (by rw [HX.out]; exact hi) (by omega) (by omega))
     rw [hm1, hm2] at CH
     obtain ⟨XA, hXA⟩ : ∃ XA, XA = mkB a := ⟨_, rfl⟩
     obtain ⟨XR, hXR⟩ : ∃ XR, XR = mkB r := ⟨_, rfl⟩
     rw [← hXA, ← hXR] at CH
     have CS := zH (fun W => st_Split XA 32 W (by rw [hXA]; show a.length ≤ _; omega))
     rw [show XA.data.toList = a by rw [hXA]] at CS
     obtain ⟨h, tl, hpc⟩ := pcs_head 32 a
     rw [hpc] at CS HPl
     have htl : tl.length ≤ 5000 := by
      have h1 := pcs_length 32 a
      have h2 := List.count_le_length (a := (32 : UInt8)) (l := a)
      rw [hpc] at h1; simp at h1; omega
     have Hlens := zH (And.intro hrl hXs)
     have HXR := zH hXR
     have CRd := zH (fun W (hW : Pk b b c W) (hBW : b ≤ W.heap.size) vw (hw : RowS W vw (h :: tl)) => c_read b b c true h tl vw W hW hBW hw htl (by have := HF.out.1; omega) (fun j hj => by have := HF.out.2 j hj; omega))
     clear hm1 hm2 hXA hXR hpc hrl hXs hi hna hfb hrem
     go_wp2_with (first
      | (go_at_call 92; refine (CH.out _).mono ?_; rintro e w' ⟨rfl, rfl⟩)
      | (go_at_call 13; refine (CS.out _).mono ?_; rintro e w' ⟨rfl, rfl⟩))
     obtain ⟨WS, hWS⟩ : ∃ WS, WS = (wr.drewN 1).alloc (.cells (strRow (h :: tl)) 9) := ⟨_, rfl⟩
     have HBS := zH (show Below wr.heap.size wr WS by rw [hWS]; exact (below_drewN (Below.refl _ _) 1).alloc (Nat.le_refl _) _)
     have HRS := zH (show RowS WS (.slice (some ⟨wr.heap.size, 0, none⟩) (tl.length + 1) (tl.length + 1)) (h :: tl) by rw [hWS]; exact strRow_row (wr.drewN 1) (h :: tl) (by simp; omega))
     rw [← hWS]
     clear hWS
     have hlb : b ≤ WS.heap.size := by have := HBS.out.size; have := (HPk.out).lt; omega
     refine (CRd.out WS (HPk.out.go HBS.out) hlb _ HRS.out).mono ?_
     intro e w3 hpost
     have HBb := zH (show Below b W1 WS from HB.out.trans (HBS.out.mono (by have := (HPk.out).lt; omega)))
     cases hst : stepLine c true (h :: tl) with
     | none =>
      rw [hst] at hpost HPl
      obtain ⟨hb3, rfl⟩ := hpost
      have HB3 := zH (HBb.out.trans hb3)
      have HRl := zH (show R = (emptyC, 1, 3) by rw [hRp.out, HPl.out]; rw [e1]; rfl)
      have hrr : w3.heap[w.heap.size]? = some _ := (HB3.out.block w.heap.size (by have := Hb.out; omega)).trans K0.out
      have Hrr := zH hrr
      have g0 : w3.cell? ⟨w.heap.size, 0, none⟩ = some (.int .i64 0) := cell_blk hrr 0
      have g1 : w3.cell? ⟨w.heap.size, 1, none⟩ = some (.slice none 0 0) := cell_blk hrr 1
      have f0 : w3.frozen? ⟨w.heap.size, 0, none⟩ = false := free_blk hrr 0
      have f1 : w3.frozen? ⟨w.heap.size, 1, none⟩ = false := free_blk hrr 1
      have Hbel := zH (below_b H1.out Hb.out HB3.out)
      clear hrr hb3 hst CRd CH CS
      go_wp2_with (fail)
      have hz := zero_box Hrr.out Hbel.out
      obtain ⟨d0, d1, hbz⟩ := hz
      generalize (w3.setCell ⟨w.heap.size, 0, none⟩ (.int .i64 0)).setCell ⟨w.heap.size, 1, none⟩ (.slice none 0 0) = wz at *
      exact bodyPost_ret (v := .tuple #[.agg #[.int .i64 0, .slice none 0 0], .int .i64 1, .int .i64 3]) (by simp [results, Tryz.results59, go_sem, d0, d1]) rfl ⟨.agg #[.int .i64 0, .slice none 0 0], by rw [HRl.out], by rw [HRl.out]; exact isC_empty _, hbz⟩
     | some c' =>
      rw [hst] at hpost HPl
      obtain ⟨hb3, rfl, hpk⟩ := hpost
      have HB3 := zH (HBb.out.trans hb3)
      have HPk3 := zH hpk
      have HF3 := zH (step_few hst HF.out)
      have hn3 : n + 1 + r.length ≤ 4097 := by have := Hlens.out.1; omega
      have hmeas : XR.size < X.size := by have := Hlens.out; rw [HXR.out, this.2, this.1]; show r.toArray.size < _; simp
      clear hb3 hst CRd CH CS hpk
      go_wp2_with (fail)
      go_roundw
      case rel => exact ⟨n + 1, c', r, by go_num, by rw [HXR.out], by omega, hn3, HPk3.out, HF3.out, HB3.out, HPl.out⟩
      case measure => exact hmeas
   ·have bn : ((n : Int) == 1) = false := beq_false_of_ne (by omega)
    by_cases e2 : rem = []
    ·have bX : X.toList.isEmpty = true := by rw [HX.out, ByteArray.toList_eq, e2]; rfl
     have HPl := zH (show P = .inr c by rw [HPP.out, e2]; show parseL n c [[]] = _; rw [parseL_last, if_pos ⟨e1, rfl⟩])
     obtain ⟨hbB, hlog, vL, hbox, hNL⟩ := HPk.out
     obtain ⟨aL, cL, rfl⟩ := NewL.isSlice hNL
     have HC := zH (show IsC wr (.agg #[.int .i64 c.log, .slice aL c.layers.length cL]) c from ⟨hlog, _, rfl, hNL.row⟩)
     have y0 : wr.cell? ⟨b, 0, none⟩ = some (.int .i64 c.log) := cell_blk hbox 0
     have y1 : wr.cell? ⟨b, 1, none⟩ = some (.slice aL c.layers.length cL) := cell_blk hbox 1
     have Hbox := zH hbox
     have CK := zH (c_Check _ c wr HC.out)
     have HNLr := zH hNL; have Hlog := zH hlog
     clear hNL hbox e2
     go_wp2_with (fail)
     refine CK.out.mono ?_
     rintro e w2 ⟨rfl, hb2⟩
     have H2 := zH hb2
     have hrr : w2.heap[w.heap.size]? = some _ := (hb2.block w.heap.size (by have := Hb.out; have := blk_lt Hbox.out; omega)).trans ((HB.out.block w.heap.size (by have := Hb.out; omega)).trans K0.out)
     have Hrr := zH hrr
     have g0 : w2.cell? ⟨w.heap.size, 0, none⟩ = some (.int .i64 0) := cell_blk hrr 0
     have g1 : w2.cell? ⟨w.heap.size, 1, none⟩ = some (.slice none 0 0) := cell_blk hrr 1
     have f0 : w2.frozen? ⟨w.heap.size, 0, none⟩ = false := free_blk hrr 0
     have f1 : w2.frozen? ⟨w.heap.size, 1, none⟩ = false := free_blk hrr 1
     have z0 := (hb2.cell (p := ⟨b, 0, none⟩) (blk_lt Hbox.out)).trans y0
     have z1 := (hb2.cell (p := ⟨b, 1, none⟩) (blk_lt Hbox.out)).trans y1
     have Hbel := zH (below_chainP (below_b H1.out Hb.out HB.out) hb2)
     have HC2 := zH (HC.out.below hb2 (Nat.le_refl _))
     obtain ⟨E, hE⟩ : ∃ E : Int, E = (checkC c : Int) := ⟨_, rfl⟩
     rw [← hE]
     clear hb2 y0 y1 hrr
     by_cases e3 : checkC c = 0
     ·have HRl := zH (show R = (c, 0, 0) by rw [hRp.out, HPl.out]; show (if checkC c = 0 then _ else _) = _; rw [if_pos e3])
      obtain rfl : E = 0 := by rw [hE, e3]
      clear hE e3
      go_wp2_with (fail)
      have hz := put_box Hrr.out Hbel.out (.int .i64 c.log) (.slice aL c.layers.length cL)
      obtain ⟨d0, d1, hbz⟩ := hz
      have HC3 := zH (isC_put (u := .int .i64 c.log) (v := .slice aL c.layers.length cL) Hlog.out (NewL.keep HNLr.out fun g cs t hg _ => H2.out.block g (blk_lt hg)) Hrr.out)
      generalize (w2.setCell ⟨w.heap.size, 0, none⟩ (.int .i64 c.log)).setCell ⟨w.heap.size, 1, none⟩ (.slice aL c.layers.length cL) = wz at *
      exact bodyPost_ret (v := .tuple #[.agg #[.int .i64 c.log, .slice aL c.layers.length cL], .int .i64 0, .int .i64 0]) (by simp [results, Tryz.results59, go_sem, d0, d1]) rfl ⟨_, by rw [HRl.out], by rw [HRl.out]; exact HC3.out, hbz⟩
     ·have HRl := zH (show R = (emptyC, 0, E) by rw [hRp.out, HPl.out]; show (if checkC c = 0 then _ else _) = _; rw [if_neg e3, hE])
      have bE : (E != 0) = true := by rw [hE]; simpa using e3
      clear hE e3
      go_wp2_with (fail)
      have hz := zero_box Hrr.out Hbel.out
      obtain ⟨d0, d1, hbz⟩ := hz
      generalize (w2.setCell ⟨w.heap.size, 0, none⟩ (.int .i64 0)).setCell ⟨w.heap.size, 1, none⟩ (.slice none 0 0) = wz at *
      exact bodyPost_ret (v := .tuple #[.agg #[.int .i64 0, .slice none 0 0], .int .i64 0, .int .i64 E]) (by simp [results, Tryz.results59, go_sem, d0, d1]) rfl ⟨.agg #[.int .i64 0, .slice none 0 0], by rw [HRl.out], by rw [HRl.out]; exact isC_empty _, hbz⟩
    ·have bX : X.toList.isEmpty = false := by rw [HX.out, ByteArray.toList_eq]; show rem.isEmpty = false; cases rem with | nil => exact absurd rfl e2 | cons _ _ => rfl
     rcases index_split 10 rem with ⟨hi, hno⟩ | ⟨a, r, hrem, hna, hi⟩
     ·have HPl := zH (show P = .inl n by rw [HPP.out, pcs_none 10 rem hno, parseL_last, if_neg (fun h => e2 h.2)])
      have CM := zH (fun W => st_Cut_miss X 10 W (by rw [HX.out]; exact hi))
      have HRl := zH (show R = (emptyC, (n : Int), 3) by rw [hRp.out, HPl.out])
      have hrr : wr.heap[w.heap.size]? = some _ := (HB.out.block w.heap.size (by have := Hb.out; omega)).trans K0.out
      have Hrr := zH hrr
      have g0 : wr.cell? ⟨w.heap.size, 0, none⟩ = some (.int .i64 0) := cell_blk hrr 0
      have g1 : wr.cell? ⟨w.heap.size, 1, none⟩ = some (.slice none 0 0) := cell_blk hrr 1
      have f0 : wr.frozen? ⟨w.heap.size, 0, none⟩ = false := free_blk hrr 0
      have f1 : wr.frozen? ⟨w.heap.size, 1, none⟩ = false := free_blk hrr 1
      have Hbel := zH (below_b H1.out Hb.out HB.out)
      clear hrr hi hno
      go_wp2_with (go_at_call 92; refine (CM.out _).mono ?_; rintro e w' ⟨rfl, rfl⟩)
      have hz := zero_box Hrr.out Hbel.out
      obtain ⟨d0, d1, hbz⟩ := hz
      generalize (wr.setCell ⟨w.heap.size, 0, none⟩ (.int .i64 0)).setCell ⟨w.heap.size, 1, none⟩ (.slice none 0 0) = wz at *
      exact bodyPost_ret (v := .tuple #[.agg #[.int .i64 0, .slice none 0 0], .int .i64 (n : Int), .int .i64 3]) (by simp [results, Tryz.results59, go_sem, d0, d1]) rfl ⟨.agg #[.int .i64 0, .slice none 0 0], by rw [HRl.out], by rw [HRl.out]; exact isC_empty _, hbz⟩
     ·have HPl := zH (show P = match stepLine c (n == 1) (pcs 32 a) with | none => .inl n | some c' => parseL (n + 1) c' (pcs 10 r) by rw [HPP.out, hrem, pcs_sep 10 a r hna, parseL_next])
      have hfb : (n == 1) = false := by simpa using e1
      rw [hfb] at HPl
      have hrl : rem.length = a.length + 1 + r.length := by rw [hrem]; simp; omega
      have hXs : X.size = rem.length := by rw [HX.out]; rfl
      obtain ⟨hm1, hm2⟩ := mkB_cut a r
      rw [← hrem, ← HX.out] at hm1 hm2
      have CH := zH (fun W => st_Cut_hit X 10 a.length W (by rw [HX.out]; exact hi) (by omega) (by omega))
      rw [hm1, hm2] at CH
      obtain ⟨XA, hXA⟩ : ∃ XA, XA = mkB a := ⟨_, rfl⟩
      obtain ⟨XR, hXR⟩ : ∃ XR, XR = mkB r := ⟨_, rfl⟩
      rw [← hXA, ← hXR] at CH
      have CS := zH (fun W => st_Split XA 32 W (by rw [hXA]; show a.length ≤ _; omega))
      rw [show XA.data.toList = a by rw [hXA]] at CS
      obtain ⟨h, tl, hpc⟩ := pcs_head 32 a
      rw [hpc] at CS HPl
      have htl : tl.length ≤ 5000 := by
       have h1 := pcs_length 32 a
       have h2 := List.count_le_length (a := (32 : UInt8)) (l := a)
       rw [hpc] at h1; simp at h1; omega
      have Hlens := zH (And.intro hrl hXs)
      have HXR := zH hXR
      have CRd := zH (fun W (hW : Pk b b c W) (hBW : b ≤ W.heap.size) vw (hw : RowS W vw (h :: tl)) => c_read b b c false h tl vw W hW hBW hw htl (by have := HF.out.1; omega) (fun j hj => by have := HF.out.2 j hj; omega))
      clear hm1 hm2 hXA hXR hpc hrl hXs hi hna hfb hrem
      go_wp2_with (first
       | (go_at_call 92; refine (CH.out _).mono ?_; rintro e w' ⟨rfl, rfl⟩)
       | (go_at_call 13; refine (CS.out _).mono ?_; rintro e w' ⟨rfl, rfl⟩))
      obtain ⟨WS, hWS⟩ : ∃ WS, WS = (wr.drewN 1).alloc (.cells (strRow (h :: tl)) 9) := ⟨_, rfl⟩
      have HBS := zH (show Below wr.heap.size wr WS by rw [hWS]; exact (below_drewN (Below.refl _ _) 1).alloc (Nat.le_refl _) _)
      have HRS := zH (show RowS WS (.slice (some ⟨wr.heap.size, 0, none⟩) (tl.length + 1) (tl.length + 1)) (h :: tl) by rw [hWS]; exact strRow_row (wr.drewN 1) (h :: tl) (by simp; omega))
      rw [← hWS]
      clear hWS
      have hlb : b ≤ WS.heap.size := by have := HBS.out.size; have := (HPk.out).lt; omega
      refine (CRd.out WS (HPk.out.go HBS.out) hlb _ HRS.out).mono ?_
      intro e w3 hpost
      have HBb := zH (show Below b W1 WS from HB.out.trans (HBS.out.mono (by have := (HPk.out).lt; omega)))
      cases hst : stepLine c false (h :: tl) with
      | none =>
       rw [hst] at hpost HPl
       obtain ⟨hb3, rfl⟩ := hpost
       have HB3 := zH (HBb.out.trans hb3)
       have HRl := zH (show R = (emptyC, (n : Int), 3) by rw [hRp.out, HPl.out])
       have hrr : w3.heap[w.heap.size]? = some _ := (HB3.out.block w.heap.size (by have := Hb.out; omega)).trans K0.out
       have Hrr := zH hrr
       have g0 : w3.cell? ⟨w.heap.size, 0, none⟩ = some (.int .i64 0) := cell_blk hrr 0
       have g1 : w3.cell? ⟨w.heap.size, 1, none⟩ = some (.slice none 0 0) := cell_blk hrr 1
       have f0 : w3.frozen? ⟨w.heap.size, 0, none⟩ = false := free_blk hrr 0
       have f1 : w3.frozen? ⟨w.heap.size, 1, none⟩ = false := free_blk hrr 1
       have Hbel := zH (below_b H1.out Hb.out HB3.out)
       clear hrr hb3 hst CRd CH CS
       go_wp2_with (fail)
       have hz := zero_box Hrr.out Hbel.out
       obtain ⟨d0, d1, hbz⟩ := hz
       generalize (w3.setCell ⟨w.heap.size, 0, none⟩ (.int .i64 0)).setCell ⟨w.heap.size, 1, none⟩ (.slice none 0 0) = wz at *
       exact bodyPost_ret (v := .tuple #[.agg #[.int .i64 0, .slice none 0 0], .int .i64 (n : Int), .int .i64 3]) (by simp [results, Tryz.results59, go_sem, d0, d1]) rfl ⟨.agg #[.int .i64 0, .slice none 0 0], by rw [HRl.out], by rw [HRl.out]; exact isC_empty _, hbz⟩
      | some c' =>
       rw [hst] at hpost HPl
       obtain ⟨hb3, rfl, hpk⟩ := hpost
       have HB3 := zH (HBb.out.trans hb3)
       have HPk3 := zH hpk
       have HF3 := zH (step_few hst HF.out)
       have hn3 : n + 1 + r.length ≤ 4097 := by have := Hlens.out.1; omega
       have hmeas : XR.size < X.size := by have := Hlens.out; rw [HXR.out, this.2, this.1]; show r.toArray.size < _; simp
       clear hb3 hst CRd CH CS hpk
       go_wp2_with (fail)
       go_roundw
       case rel => exact ⟨n + 1, c', r, by go_num, by rw [HXR.out], by omega, hn3, HPk3.out, HF3.out, HB3.out, HPl.out⟩
       case measure => exact hmeas
end Go.Proofs.YtlfneeobnihocaaGreatDoor
/- Plain law: what is printed of a right circuit is read as it was; what is read is printed as it stood. No condition. -/
namespace Go.Proofs.YtlfneeobnihocaaGreatDoor
set_option maxRecDepth 100000
set_option linter.unusedVariables false
open Go.RowKit Tally
def numL (n : Int) : List UInt8 := Lib.decDigits n.toNat
theorem u8_of {a : UInt8} {x : Nat} (h : a.toNat = x) (hx : x < 256) : UInt8.ofNat x = a := by
 apply UInt8.toNat_inj.mp
 rw [UInt8.toNat_ofNat', h]; omega
theorem numL_numP {l : List UInt8} (h : 0 ≤ numP l) : numL (numP l) = l := by
 unfold numL
 match l, h with
 | [a], h =>
  have e : numP [a] = if digB a then (a.toNat : Int) - 48 else -1 := rfl
  by_cases ha : digB a = true
  ·rw [if_pos ha] at e
   unfold digB at ha; have ha := of_decide_eq_true ha
   rw [e, Lib.decDigits_one (by omega), u8_of (a := a) (by omega) (by omega)]
  ·rw [if_neg ha] at e; omega
 | [a, b], h =>
  have e : numP [a, b] = if (a.toNat : Int) = 48 then -1 else if digB a && digB b then 10 * ((a.toNat : Int) - 48) + ((b.toNat : Int) - 48) else -1 := rfl
  by_cases h0 : (a.toNat : Int) = 48
  ·rw [if_pos h0] at e; omega
  ·rw [if_neg h0] at e
   by_cases hd : (digB a && digB b) = true
   ·rw [if_pos hd] at e
    rw [Bool.and_eq_true] at hd
    unfold digB at hd
    have ha := of_decide_eq_true hd.1
    have hb := of_decide_eq_true hd.2
    rw [e, Lib.decDigits_two (by omega) (by omega), u8_of (a := a) (by omega) (by omega), u8_of (a := b) (by omega) (by omega)]
   ·rw [if_neg hd] at e; omega
 | [], h => exact absurd h (by decide)
 | a :: b :: c :: r, h => exact absurd (show (0 : Int) ≤ -1 from h) (by decide)
def lnI (n : Int) : List UInt8 := inputsL ++ 32 :: numL n
def lnL (n : Int) : List UInt8 := layerL ++ 32 :: numL n
def wordL (m : Bool) : List UInt8 := if m then mulL else addL
def lnG (g : Gt) : List UInt8 := wordL g.mul ++ 32 :: (numL g.a ++ 32 :: numL g.b)
def layLines (l : Ly) : List (List UInt8) := lnL l.log :: l.gates.map lnG
def bodyLines (ls : List Ly) : List (List UInt8) := ls.flatMap layLines
def linesOf (c : Ci) : List (List UInt8) := lnI c.log :: bodyLines c.layers
def unl : List (List UInt8) → List UInt8
 | [] => []
 | p :: ps => p ++ 10 :: unl ps
theorem unl_append : ∀ a b : List (List UInt8), unl (a ++ b) = unl a ++ unl b
 | [], b => rfl
 | p :: ps, b => by show p ++ 10 :: unl (ps ++ b) = (p ++ 10 :: unl ps) ++ unl b; rw [unl_append ps b]; simp
def joinP (c : UInt8) : List (List UInt8) → List UInt8
 | [] => []
 | [x] => x
 | x :: y :: r => x ++ c :: joinP c (y :: r)
theorem joinP_pcs (c : UInt8) : ∀ l : List UInt8, joinP c (pcs c l) = l
 | [] => rfl
 | b :: l => by
  have ih := joinP_pcs c l
  obtain ⟨p, ps, hp⟩ := pcs_head c l
  by_cases h : b = c
  ·have e : pcs c (b :: l) = [] :: pcs c l := by show (if b = c then _ else _) = _; rw [if_pos h]
   rw [e, hp]
   show [] ++ c :: joinP c (p :: ps) = _
   rw [← hp, ih, h]; rfl
  ·rw [pcs_cons c b l h hp]
   rw [hp] at ih
   cases ps with
   | nil => show b :: p = _; rw [show p = l from ih]
   | cons q r => show b :: (p ++ c :: joinP c (q :: r)) = _; rw [show p ++ c :: joinP c (q :: r) = l from ih]
theorem joinP_unl : ∀ ls : List (List UInt8), joinP 10 (ls ++ [[]]) = unl ls
 | [] => rfl
 | p :: ps => by
  have ih := joinP_unl ps
  match h : ps ++ [[]] with
  | [] => simp at h
  | q :: r =>
   rw [List.cons_append, h]
   show p ++ 10 :: joinP 10 (q :: r) = p ++ 10 :: unl ps
   rw [← h, ih]
theorem numB_list (n : Int) : (numB n).data.toList = numL n := by simp [numB, numL]
theorem inB_list (n : Int) : (inB n).data.toList = unl [lnI n] := by
 simp [inB, ByteArray.data_append, numB_list, unl, lnI, inputsL]
theorem headB_list (n : Int) : (headB n).data.toList = unl [lnL n] := by
 simp [headB, ByteArray.data_append, numB_list, unl, lnL, layerL]
theorem gateB_list (g : Gt) : (gateB g).data.toList = unl [lnG g] := by
 obtain ⟨m, a, b⟩ := g
 cases m <;> simp [gateB, wordB, ByteArray.data_append, numB_list, unl, lnG, wordL, addL, mulL]
theorem gatesB_list (gs : List Gt) : ∀ j, j ≤ gs.length → (gatesB gs j).data.toList = unl ((gs.take j).map lnG)
 | 0, _ => by simp [gatesB, unl]
 | j + 1, h => by
  show (gatesB gs j ++ gateB (atg gs j)).data.toList = _
  rw [ByteArray.data_append, Array.toList_append, gatesB_list gs j (by omega), gateB_list, List.take_add_one, List.map_append, unl_append]
  congr 1
  have hj : j < gs.length := by omega
  rw [List.getElem?_eq_getElem hj]
  simp [atg, hj]
theorem layB_list (l : Ly) : (layB l).data.toList = unl (layLines l) := by
 unfold layB
 rw [ByteArray.data_append, Array.toList_append, headB_list, gatesB_list _ _ (Nat.le_refl _), List.take_length]
 show _ = unl ([lnL l.log] ++ l.gates.map lnG)
 rw [unl_append]
theorem laysB_list (ls : List Ly) : ∀ k, k ≤ ls.length → (laysB ls k).data.toList = unl (bodyLines (ls.take k))
 | 0, _ => by simp [laysB, unl, bodyLines]
 | k + 1, h => by
  show (laysB ls k ++ layB (aty ls k)).data.toList = _
  rw [ByteArray.data_append, Array.toList_append, laysB_list ls k (by omega), layB_list, List.take_add_one]
  unfold bodyLines
  rw [List.flatMap_append, unl_append]
  congr 1
  have hk : k < ls.length := by omega
  rw [List.getElem?_eq_getElem hk]
  simp [aty, hk]
theorem circB_list (c : Ci) : (circB c).data.toList = unl (linesOf c) := by
 unfold circB
 rw [ByteArray.data_append, Array.toList_append, inB_list, laysB_list _ _ (Nat.le_refl _), List.take_length]
 show _ = unl ([lnI c.log] ++ bodyLines c.layers)
 rw [unl_append]
-- the pieces of a line
theorem stepL_eq (c : Ci) (f : Bool) (h : List UInt8) (t : List (List UInt8)) : stepLine c f (h :: t) = if numsOk t = false then none
   else if h = inputsL then (if f = true ∧ t.length = 1 then some ⟨numP (ats t 0), c.layers⟩ else none)
   else if h = layerL then (if f = false ∧ t.length = 1 then some ⟨c.log, c.layers ++ [⟨numP (ats t 0), []⟩]⟩ else none)
   else if h = addL ∨ h = mulL then
    (if f = false ∧ t.length = 2 ∧ 0 < c.layers.length then
     some ⟨c.log, c.layers.set (c.layers.length - 1) ⟨(aty c.layers (c.layers.length - 1)).log, (aty c.layers (c.layers.length - 1)).gates ++ [⟨decide (h = mulL), numP (ats t 0), numP (ats t 1)⟩]⟩⟩ else none)
   else none := rfl
theorem aty_last (ls : List Ly) (y : Ly) : aty (ls ++ [y]) ((ls ++ [y]).length - 1) = y := by simp [aty]
theorem set_last (ls : List Ly) (y z : Ly) : (ls ++ [y]).set ((ls ++ [y]).length - 1) z = ls ++ [z] := by
 rw [show (ls ++ [y]).length - 1 = ls.length by simp, List.set_append_right _ _ (Nat.le_refl _)]; simp
def SmG (g : Gt) : Prop := 0 ≤ g.a ∧ g.a < 100 ∧ 0 ≤ g.b ∧ g.b < 100
def SmC (c : Ci) : Prop := 0 ≤ c.log ∧ c.log < 100 ∧ ∀ y ∈ c.layers, 0 ≤ y.log ∧ y.log < 100 ∧ ∀ g ∈ y.gates, SmG g
theorem Good.small {c : Ci} (h : Good c) : SmC c := by
 refine ⟨h.log0, by have := h.log4; omega, fun y hy => ?_⟩
 obtain ⟨k, hk, rfl⟩ := List.getElem_of_mem hy
 have e : c.layers[k] = aty c.layers k := by simp [aty, hk]
 rw [e]
 refine ⟨h.l0 k hk, by have := h.l4 k hk; omega, fun g hg => ?_⟩
 obtain ⟨j, hj, rfl⟩ := List.getElem_of_mem hg
 have e2 : (aty c.layers k).gates[j] = atg (aty c.layers k).gates j := by simp [atg, hj]
 rw [e2]
 exact h.gates100 hk hj
theorem numsOk_at {t : List (List UInt8)} (h : ¬ numsOk t = false) {j : Nat} (hj : j < t.length) : 0 ≤ numP (ats t j) := by
 have h1 : numsOk t = true := by cases hh : numsOk t with | true => rfl | false => exact absurd hh h
 unfold numsOk at h1
 rw [List.all_eq_true] at h1
 have := h1 t[j] (List.getElem_mem hj)
 simpa [ats, hj] using this
theorem body_snoc (ls : List Ly) (y : Ly) : bodyLines (ls ++ [y]) = bodyLines ls ++ layLines y := by simp [bodyLines]
theorem step_first {c c' : Ci} {p : List UInt8} (h : stepLine c true (pcs 32 p) = some c') : ∃ n, p = lnI n ∧ c' = ⟨n, c.layers⟩ := by
 have hj := joinP_pcs 32 p
 obtain ⟨a, t, e⟩ := pcs_head 32 p
 rw [e] at h hj
 rw [stepL_eq] at h
 by_cases k0 : numsOk t = false
 ·rw [if_pos k0] at h; cases h
 rw [if_neg k0] at h
 by_cases k1 : a = inputsL
 ·rw [if_pos k1] at h
  by_cases k : true = true ∧ t.length = 1
  ·rw [if_pos k] at h
   cases h
   match t, k.2 with
   | [x], _ =>
    refine ⟨_, ?_, rfl⟩
    have h0 := numsOk_at k0 (j := 0) (by simp)
    have h1 : numL (numP x) = x := numL_numP h0
    rw [← hj, k1]
    show inputsL ++ 32 :: x = inputsL ++ 32 :: numL (numP x)
    rw [h1]
  ·rw [if_neg k] at h; cases h
 ·rw [if_neg k1] at h
  by_cases k2 : a = layerL
  ·rw [if_pos k2, if_neg (fun e => by cases e.1)] at h; cases h
  ·rw [if_neg k2] at h
   by_cases k3 : a = addL ∨ a = mulL
   ·rw [if_pos k3, if_neg (fun e => by cases e.1)] at h; cases h
   ·rw [if_neg k3] at h; cases h
theorem step_next {c c' : Ci} {p : List UInt8} (h : stepLine c false (pcs 32 p) = some c') : linesOf c' = linesOf c ++ [p] := by
 have hj := joinP_pcs 32 p
 obtain ⟨a, t, e⟩ := pcs_head 32 p
 rw [e] at h hj
 rw [stepL_eq] at h
 by_cases k0 : numsOk t = false
 ·rw [if_pos k0] at h; cases h
 rw [if_neg k0] at h
 by_cases k1 : a = inputsL
 ·rw [if_pos k1, if_neg (fun e => by cases e.1)] at h; cases h
 rw [if_neg k1] at h
 by_cases k2 : a = layerL
 ·rw [if_pos k2] at h
  by_cases k : false = false ∧ t.length = 1
  ·rw [if_pos k] at h
   cases h
   match t, k.2 with
   | [x], _ =>
    have h0 := numsOk_at k0 (j := 0) (by simp)
    have h1 : numL (numP x) = x := numL_numP h0
    show lnI c.log :: bodyLines (c.layers ++ [⟨numP x, []⟩]) = _
    rw [body_snoc]
    show lnI c.log :: (bodyLines c.layers ++ [lnL (numP x)]) = lnI c.log :: bodyLines c.layers ++ [p]
    rw [← hj, k2]
    show _ = lnI c.log :: (bodyLines c.layers ++ [layerL ++ 32 :: x])
    unfold lnL
    rw [h1]
  ·rw [if_neg k] at h; cases h
 rw [if_neg k2] at h
 by_cases k3 : a = addL ∨ a = mulL
 ·rw [if_pos k3] at h
  by_cases k : false = false ∧ t.length = 2 ∧ 0 < c.layers.length
  ·rw [if_pos k] at h
   cases h
   match t, k.2.1 with
   | [x, z], _ =>
    have h0 := numsOk_at k0 (j := 0) (by simp)
    have h2 := numsOk_at k0 (j := 1) (by simp)
    have h1 : numL (numP x) = x := numL_numP h0
    have h3 : numL (numP z) = z := numL_numP h2
    have hw : wordL (decide (a = mulL)) = a := by rcases k3 with rfl | rfl <;> decide
    obtain ⟨ls, y, hls⟩ : ∃ ls y, c.layers = ls ++ [y] := by
     have hne : c.layers ≠ [] := by intro e; rw [e] at k; exact absurd k.2.2 (by simp)
     exact ⟨_, _, (List.dropLast_concat_getLast hne).symm⟩
    obtain ⟨lg, L⟩ := c
    dsimp only at hls ⊢
    subst hls
    show lnI lg :: bodyLines ((ls ++ [y]).set ((ls ++ [y]).length - 1) ⟨(aty (ls ++ [y]) ((ls ++ [y]).length - 1)).log, (aty (ls ++ [y]) ((ls ++ [y]).length - 1)).gates ++ [⟨decide (a = mulL), numP x, numP z⟩]⟩) = (lnI lg :: bodyLines (ls ++ [y])) ++ [p]
    rw [set_last, aty_last, body_snoc, body_snoc, List.cons_append, List.append_assoc]
    congr 2
    show lnL y.log :: (y.gates ++ [_]).map lnG = (lnL y.log :: y.gates.map lnG) ++ [p]
    rw [List.map_append, List.cons_append]
    congr 2
    show [lnG ⟨decide (a = mulL), numP x, numP z⟩] = [p]
    unfold lnG
    dsimp only
    rw [hw, h1, h3, ← hj]
    rfl
  ·rw [if_neg k] at h; cases h
 ·rw [if_neg k3] at h; cases h
theorem read_next : ∀ (ps : List (List UInt8)) (n : Nat) (c c' : Ci), n ≠ 1 → 0 < n → parseL n c ps = .inr c' → linesOf c ++ ps = linesOf c' ++ [[]]
 | [], n, c, c', _, _, h => by cases h
 | [p], n, c, c', hn, h0, h => by
  have e : parseL n c [p] = if n ≠ 1 ∧ p = [] then .inr c else .inl n := rfl
  rw [e] at h
  by_cases hp : n ≠ 1 ∧ p = []
  ·rw [if_pos hp] at h; cases h; rw [hp.2]
  ·rw [if_neg hp] at h; cases h
 | p :: q :: r, n, c, c', hn, h0, h => by
  have e : parseL n c (p :: q :: r) = match stepLine c (n == 1) (pcs 32 p) with | none => .inl n | some c' => parseL (n + 1) c' (q :: r) := rfl
  rw [e, show (n == 1) = false from beq_false_of_ne hn] at h
  match hs : stepLine c false (pcs 32 p) with
  | none => rw [hs] at h; cases h
  | some c1 =>
   rw [hs] at h
   have ih := read_next (q :: r) (n + 1) c1 c' (by omega) (by omega) h
   rw [step_next hs] at ih
   rw [← ih]; simp
theorem read_all {ps : List (List UInt8)} {c' : Ci} (h : parseL 1 emptyC ps = .inr c') : ps = linesOf c' ++ [[]] := by
 match ps, h with
 | [], h => cases h
 | [p], h =>
  have e : parseL 1 emptyC [p] = if (1 : Nat) ≠ 1 ∧ p = [] then .inr emptyC else .inl 1 := rfl
  rw [e, if_neg (fun h => h.1 rfl)] at h; cases h
 | p :: q :: r, h =>
  have e : parseL 1 emptyC (p :: q :: r) = match stepLine emptyC true (pcs 32 p) with | none => .inl 1 | some c' => parseL 2 c' (q :: r) := rfl
  rw [e] at h
  match hs : stepLine emptyC true (pcs 32 p) with
  | none => rw [hs] at h; cases h
  | some c1 =>
   rw [hs] at h
   have ih := read_next (q :: r) 2 c1 c' (by omega) (by omega) h
   obtain ⟨n, rfl, rfl⟩ := step_first hs
   rw [← ih]; rfl
theorem back_read {s : ByteArray} (h : (parseR s.data.toList).2.2 = 0) : checkC (parseR s.data.toList).1 = 0 ∧ circB (parseR s.data.toList).1 = s := by
 unfold parseR at h ⊢
 by_cases hb : 4096 < s.data.toList.length
 ·rw [if_pos hb] at h; exact absurd h (by decide)
 rw [if_neg hb] at h ⊢
 match hp : parseL 1 emptyC (pcs 10 s.data.toList) with
 | .inl n => rw [hp] at h; exact absurd h (by show ¬ (3 : Int) = 0; decide)
 | .inr c =>
  rw [hp] at h
  dsimp only at h ⊢
  by_cases hc : checkC c = 0
  ·rw [if_pos hc]
   refine ⟨hc, ?_⟩
   have e := read_all hp
   have e2 := joinP_pcs 10 s.data.toList
   rw [e, joinP_unl, ← circB_list] at e2
   exact ByteArray.ext (Array.toList_inj.mp e2)
  ·rw [if_neg hc] at h
   exact absurd h (by show ¬ (checkC c : Int) = 0; omega)
end Go.Proofs.YtlfneeobnihocaaGreatDoor
