/- What a circuit's text says; the walk of circuit.Parse. -/
import Derived.Test.YtlfneeobnihocaaGreatDoorReadW
namespace Go.Proofs.YtlfneeobnihocaaGreatDoor
set_option maxRecDepth 100000
set_option linter.unusedVariables false
open Go.RowKit Tally
def parseL : Nat → Ci → List (List UInt8) → Nat ⊕ Ci
  | n, _, [] => .inl n
  | n, c, [p] => if n ≠ 1 ∧ p = [] then .inr c else .inl n
  | n, c, p :: q :: r =>
    match stepLine c (n == 1) (pcs 32 p) with
    | none => .inl n
    | some c' => parseL (n + 1) c' (q :: r)
def emptyC : Ci := ⟨0, []⟩
/-- what Parse answers of a text: the circuit, the line, the error -/
def parseR (s : List UInt8) : Ci × Int × Int :=
  if 4096 < s.length then (emptyC, 0, 2) else
    match parseL 1 emptyC (pcs 10 s) with
    | .inl n => (emptyC, (n : Int), 3)
    | .inr c => if checkC c = 0 then (c, 0, 0) else (emptyC, 0, (checkC c : Int))
/-- a circuit of few layers and gates -/
def FewC (c : Ci) (n : Nat) : Prop := c.layers.length ≤ n ∧ ∀ j, j < c.layers.length → (aty c.layers j).gates.length ≤ n
theorem step_few {c c' : Ci} {f : Bool} {l : List (List UInt8)} {n : Nat} (h : stepLine c f l = some c') (hc : FewC c n) : FewC c' (n + 1) := by
  obtain ⟨h1, h2⟩ := hc
  match l with
  | [] => simp [stepLine] at h
  | a :: t =>
    have e : stepLine c f (a :: t) = if numsOk t = false then none
      else if a = inputsL then (if f = true ∧ t.length = 1 then some ⟨numP (ats t 0), c.layers⟩ else none)
      else if a = layerL then (if f = false ∧ t.length = 1 then some ⟨c.log, c.layers ++ [⟨numP (ats t 0), []⟩]⟩ else none)
      else if a = addL ∨ a = mulL then
        (if f = false ∧ t.length = 2 ∧ 0 < c.layers.length then
          some ⟨c.log, c.layers.set (c.layers.length - 1) ⟨(aty c.layers (c.layers.length - 1)).log, (aty c.layers (c.layers.length - 1)).gates ++ [⟨decide (a = mulL), numP (ats t 0), numP (ats t 1)⟩]⟩⟩ else none)
      else none := rfl
    rw [e] at h
    by_cases k0 : numsOk t = false
    · rw [if_pos k0] at h; cases h
    rw [if_neg k0] at h
    by_cases k1 : a = inputsL
    · rw [if_pos k1] at h
      by_cases k : f = true ∧ t.length = 1
      · rw [if_pos k] at h
        cases h
        exact ⟨Nat.le_succ_of_le h1, fun j hj => Nat.le_succ_of_le (h2 j hj)⟩
      · rw [if_neg k] at h; cases h
    rw [if_neg k1] at h
    by_cases k2 : a = layerL
    · rw [if_pos k2] at h
      by_cases k : f = false ∧ t.length = 1
      · rw [if_pos k] at h
        cases h
        refine ⟨by show (c.layers ++ [_]).length ≤ _; simp; omega, fun j hj => ?_⟩
        show (aty (c.layers ++ [_]) j).gates.length ≤ _
        by_cases hj2 : j < c.layers.length
        · have := h2 j hj2
          rw [show ∀ x : Ly, aty (c.layers ++ [x]) j = aty c.layers j from fun x => by simp [aty, List.getElem?_append_left hj2]]; omega
        · have : j = c.layers.length := by
            have : j < (c.layers ++ [_]).length := hj
            simp at this; omega
          subst this
          rw [show ∀ x : Ly, aty (c.layers ++ [x]) c.layers.length = x from fun x => by simp [aty]]; simp
      · rw [if_neg k] at h; cases h
    rw [if_neg k2] at h
    by_cases k3 : a = addL ∨ a = mulL
    · rw [if_pos k3] at h
      by_cases k : f = false ∧ t.length = 2 ∧ 0 < c.layers.length
      · rw [if_pos k] at h
        cases h
        refine ⟨by show (c.layers.set _ _).length ≤ _; rw [List.length_set]; omega, fun j hj => ?_⟩
        have hj' : j < c.layers.length := by
          have : j < (c.layers.set _ _).length := hj
          rwa [List.length_set] at this
        show (aty (c.layers.set _ _) j).gates.length ≤ _
        rw [aty_set _ _ _ _ (by omega)]
        by_cases ej : j = c.layers.length - 1
        · rw [if_pos ej]
          have := h2 (c.layers.length - 1) (by omega)
          simp; omega
        · rw [if_neg ej]
          have := h2 j hj'; omega
      · rw [if_neg k] at h; cases h
    · rw [if_neg k3] at h; cases h
theorem mkB_cut (a r : List UInt8) : (mkB (a ++ 10 :: r)).extract 0 a.length = mkB a ∧ (mkB (a ++ 10 :: r)).extract (a.length + 1) (mkB (a ++ 10 :: r)).size = mkB r := by
  constructor
  · refine Go.WideShapes.bytes_inj ?_
    rw [Lib.extract_from_zero]; simp
  · refine Go.WideShapes.bytes_inj ?_
    rw [Lib.extract_to_end]
    show (a ++ 10 :: r).drop (a.length + 1) = r
    rw [List.drop_append]; simp
theorem parseL_last (n : Nat) (c : Ci) (p : List UInt8) : parseL n c [p] = if n ≠ 1 ∧ p = [] then .inr c else .inl n := rfl
theorem parseL_next (n : Nat) (c : Ci) (p : List UInt8) (r : List UInt8) : parseL n c (p :: pcs 10 r) = match stepLine c (n == 1) (pcs 32 p) with | none => .inl n | some c' => parseL (n + 1) c' (pcs 10 r) := by
  obtain ⟨q, r', h⟩ := pcs_head 10 r
  rw [h]; rfl
theorem strRow_row (w : World) (l : List (List UInt8)) (hl : l.length ≤ 1000000) : RowS (w.alloc (.cells (strRow l) 9)) (.slice (some ⟨w.heap.size, 0, none⟩) l.length l.length) l := by
  refine ⟨hl, _, _, rfl, Nat.le_refl _, by omega, fun h0 => ⟨w.heap.size, 0, rfl, by simp, ⟨_, alloc_blk w _⟩, fun j hj => ?_⟩⟩
  rw [cell_blk (alloc_blk w _), Nat.zero_add]
  simp [strRow, ats, hj]
theorem isC_empty (w : World) : IsC w (.agg #[.int .i64 0, .slice none 0 0]) emptyC := ⟨by show I64 0; unfold I64; omega, _, rfl, by intro l hl; exact absurd hl (by simp [emptyC]), by simp [emptyC], none, 0, rfl, fun h => absurd h (by simp [emptyC])⟩
def strLenV : Value → Nat
  | .string x => x.size
  | _ => 0
theorem two_blocksP (w : World) (cs ds : Array Value) (t u : Nat) : ∃ W, (w.alloc (.cells cs t)).alloc (.cells ds u) = W ∧ W.heap[w.heap.size]? = some (.cells cs t (0, 0)) ∧ W.heap[w.heap.size + 1]? = some (.cells ds u (0, 0)) ∧ W.heap.size = w.heap.size + 2 ∧ Below w.heap.size w W := by
  refine ⟨_, rfl, ?_, ?_, by simp, ((Below.refl _ _).alloc (Nat.le_refl _) _).alloc (by simp) _⟩
  · rw [Lib.alloc_old _ _ _ (by simp)]; exact alloc_blk w _
  · have := alloc_blk (w.alloc (.cells cs t)) (.cells ds u)
    simpa using this
theorem below_b {w W1 wr : World} {b : Nat} (h1 : Below w.heap.size w W1) (hb : b = w.heap.size + 1) (h : Below b W1 wr) : Below w.heap.size w wr := h1.trans (h.mono (by omega))
theorem below_chainP {a b c : World} (h : Below a.heap.size a b) (k : Below b.heap.size b c) : Below a.heap.size a c := h.trans (k.mono h.size)
theorem put_box {w W : World} {t : TypeId} {x y : Value} (h : W.heap[w.heap.size]? = some (.cells #[x, y] t (0, 0))) (hb : Below w.heap.size w W) (u v : Value) :
    ((W.setCell ⟨w.heap.size, 0, none⟩ u).setCell ⟨w.heap.size, 1, none⟩ v).cell? ⟨w.heap.size, 0, none⟩ = some u ∧ ((W.setCell ⟨w.heap.size, 0, none⟩ u).setCell ⟨w.heap.size, 1, none⟩ v).cell? ⟨w.heap.size, 1, none⟩ = some v ∧
      Below w.heap.size w ((W.setCell ⟨w.heap.size, 0, none⟩ u).setCell ⟨w.heap.size, 1, none⟩ v) := by
  have hk := blk_setCell (blk_setCell h 0 u) 1 v
  exact ⟨cell_blk hk 0, cell_blk hk 1, (hb.setCell (p := ⟨w.heap.size, 0, none⟩) (Nat.le_refl _) u).setCell (p := ⟨w.heap.size, 1, none⟩) (Nat.le_refl _) v⟩
theorem isC_put {B k : Nat} {c : Ci} {w : World} {vL u v x y : Value} (hlog : I64 c.log) (hN : NewL B w vL c.layers) (hk : w.heap[k]? = some (.cells #[x, y] 62 (0, 0))) :
    IsC ((w.setCell ⟨k, 0, none⟩ u).setCell ⟨k, 1, none⟩ v) (.agg #[.int .i64 c.log, vL]) c := by
  refine ⟨hlog, vL, rfl, NewL.row (NewL.keep hN fun g cs t hg ht => ?_)⟩
  have hne : g ≠ k := ne_kind hg hk (by rcases ht with rfl | rfl <;> decide)
  rw [Below.heap_setCell _ _ _ _ hne, Below.heap_setCell _ _ _ _ hne]
theorem zero_box {w W : World} {t : TypeId} {x y : Value} (h : W.heap[w.heap.size]? = some (.cells #[x, y] t (0, 0))) (hb : Below w.heap.size w W) :
    ((W.setCell ⟨w.heap.size, 0, none⟩ (.int .i64 0)).setCell ⟨w.heap.size, 1, none⟩ (.slice none 0 0)).cell? ⟨w.heap.size, 0, none⟩ = some (.int .i64 0) ∧ ((W.setCell ⟨w.heap.size, 0, none⟩ (.int .i64 0)).setCell ⟨w.heap.size, 1, none⟩ (.slice none 0 0)).cell? ⟨w.heap.size, 1, none⟩ = some (.slice none 0 0) ∧
      Below w.heap.size w ((W.setCell ⟨w.heap.size, 0, none⟩ (.int .i64 0)).setCell ⟨w.heap.size, 1, none⟩ (.slice none 0 0)) := put_box h hb _ _
set_option maxRecDepth 100000 in
set_option maxHeartbeats 8000000 in
theorem c_Parse (s : ByteArray) (w : World) (hs : s.size ≤ 9223372036854775807) :
    Calls Tryz.prog 59 #[.string s] w fun e w' => ∃ v, e = .returned (.tuple #[v, .int .i64 (parseR s.data.toList).2.1, .int .i64 (parseR s.data.toList).2.2]) ∧ IsC w' v (parseR s.data.toList).1 ∧ Below w.heap.size w w' := by
  obtain ⟨R, hR⟩ : ∃ R, R = parseR s.data.toList := ⟨_, rfl⟩
  rw [← hR]
  have HR := Lib.hid hR
  have hsl : s.data.toList.length = s.size := by rw [Array.length_toList]; rfl
  by_cases hbig : 4096 < s.size
  · have hRb : R = (emptyC, 0, 2) := by rw [hR]; unfold parseR; rw [if_pos (by rw [hsl]; exact hbig)]
    have HRb := Lib.hid hRb
    have hb1 : decide ((4096 : Int) < (s.size : Int)) = true := decide_eq_true (by omega)
    clear hR hRb hbig
    go_enter Tryz.func59, Tryz.ntmps59
    go_wp2_with (fail)
    obtain ⟨W1, hW1, d0, d1, B1, s1⟩ := copied2' w (.int .i64 0) (.slice none 0 0) 62
    rw [hW1]
    exact bodyPost_ret (v := .tuple #[.agg #[.int .i64 0, .slice none 0 0], .int .i64 0, .int .i64 2]) (by simp [results, Tryz.results59, go_sem, d0, d1]) rfl ⟨_, by rw [HRb.out], by rw [HRb.out]; exact isC_empty _, B1⟩
  · have hb1 : decide ((4096 : Int) < (s.size : Int)) = false := decide_eq_false (by omega)
    have hs4 : s.size ≤ 4096 := by omega
    have hRp := Lib.hid (show R = match parseL 1 emptyC (pcs 10 s.data.toList) with
      | .inl n => (emptyC, (n : Int), 3)
      | .inr c => if checkC c = 0 then (c, 0, 0) else (emptyC, 0, (checkC c : Int)) by
        rw [hR]; unfold parseR; rw [if_neg (by rw [hsl]; exact hbig)])
    obtain ⟨P, hP⟩ : ∃ P, P = parseL 1 emptyC (pcs 10 s.data.toList) := ⟨_, rfl⟩
    rw [← hP] at hRp
    have HP := Lib.hid hP
    have Hsl := Lib.hid hsl
    clear hR HR hbig hP hsl
    go_enter Tryz.func59, Tryz.ntmps59
    go_wp2_with (fail)
    obtain ⟨W1, hW1, k0, k1, s1, B1⟩ := two_blocksP w #[.int .i64 0, .slice none 0 0] #[.int .i64 0, .slice none 0 0] 62 62
    rw [hW1]
    obtain ⟨b, hb⟩ : ∃ b, b = w.heap.size + 1 := ⟨_, rfl⟩
    rw [← hb] at k1 ⊢
    have Hb := Lib.hid hb
    have H1 := Lib.hid B1
    have K0 := Lib.hid k0
    have HP1 := Lib.hid (show Pk b b emptyC W1 from ⟨Nat.le_refl _, by show I64 0; unfold I64; omega, .slice none 0 0, k1, NewL.nil _ _⟩)
    have S1 := Lib.hid s1
    clear hW1 k0 k1 s1 B1 hb
    go_loopw [0, 6] (fun sv i wr => ∃ (n : Nat) (c : Ci) (rem : List UInt8), i = .int .i64 (n : Int) ∧ sv = .string (mkB rem) ∧ 1 ≤ n ∧ n + rem.length ≤ 4097 ∧ Hid (Pk b b c wr) ∧ Hid (FewC c n) ∧ Hid (Below b W1 wr) ∧ Hid (P = parseL n c (pcs 10 rem))) (fun sv _ _ => strLenV sv)
    case atStart => exact ⟨1, emptyC, s.data.toList, rfl, rfl, by omega, by rw [Hsl.out]; omega, HP1.out, ⟨by simp [emptyC], fun j hj => absurd hj (by simp [emptyC])⟩, Below.refl _ _, HP.out⟩
    case round =>
      obtain ⟨n, c, rem, rfl, rfl, hn1, hn2, HPk, HF, HB, HPP⟩ := hrel
      obtain ⟨X, hX⟩ : ∃ X, X = mkB rem := ⟨_, rfl⟩
      have HX := Lib.hid hX
      rw [← hX]
      clear hX
      by_cases e1 : n = 1
      · have bn : ((n : Int) == 1) = true := by rw [e1]; rfl
        rcases index_split 10 rem with ⟨hi, hno⟩ | ⟨a, r, hrem, hna, hi⟩
        · have HPl := Lib.hid (show P = .inl n by rw [HPP.out, pcs_none 10 rem hno, parseL_last, if_neg (fun h => h.1 (by omega))])
          have CM := Lib.hid (fun W => st_Cut_miss X 10 W (by rw [HX.out]; exact hi))
          have HRl := Lib.hid (show R = (emptyC, 1, 3) by rw [hRp.out, HPl.out]; rw [e1]; rfl)
          have hrr : wr.heap[w.heap.size]? = some _ := (HB.out.block w.heap.size (by have := Hb.out; omega)).trans K0.out
          have Hrr := Lib.hid hrr
          have g0 : wr.cell? ⟨w.heap.size, 0, none⟩ = some (.int .i64 0) := cell_blk hrr 0
          have g1 : wr.cell? ⟨w.heap.size, 1, none⟩ = some (.slice none 0 0) := cell_blk hrr 1
          have f0 : wr.frozen? ⟨w.heap.size, 0, none⟩ = false := free_blk hrr 0
          have f1 : wr.frozen? ⟨w.heap.size, 1, none⟩ = false := free_blk hrr 1
          have Hbel := Lib.hid (below_b H1.out Hb.out HB.out)
          clear hrr hi hno
          go_wp2_with (go_at_call 92; refine (CM.out _).mono ?_; rintro e w' ⟨rfl, rfl⟩)
          have hz := zero_box Hrr.out Hbel.out
          obtain ⟨d0, d1, hbz⟩ := hz
          generalize (wr.setCell ⟨w.heap.size, 0, none⟩ (.int .i64 0)).setCell ⟨w.heap.size, 1, none⟩ (.slice none 0 0) = wz at *
          exact bodyPost_ret (v := .tuple #[.agg #[.int .i64 0, .slice none 0 0], .int .i64 1, .int .i64 3]) (by simp [results, Tryz.results59, go_sem, d0, d1]) rfl ⟨.agg #[.int .i64 0, .slice none 0 0], by rw [HRl.out], by rw [HRl.out]; exact isC_empty _, hbz⟩
        · have HPl := Lib.hid (show P = match stepLine c (n == 1) (pcs 32 a) with | none => .inl n | some c' => parseL (n + 1) c' (pcs 10 r) by rw [HPP.out, hrem, pcs_sep 10 a r hna, parseL_next])
          have hfb : (n == 1) = true := by simpa using e1
          rw [hfb] at HPl
          have hrl : rem.length = a.length + 1 + r.length := by rw [hrem]; simp; omega
          have hXs : X.size = rem.length := by rw [HX.out]; rfl
          obtain ⟨hm1, hm2⟩ := mkB_cut a r
          rw [← hrem, ← HX.out] at hm1 hm2
          have CH := Lib.hid (fun W => st_Cut_hit X 10 a.length W (by rw [HX.out]; exact hi) (by omega) (by omega))
          rw [hm1, hm2] at CH
          obtain ⟨XA, hXA⟩ : ∃ XA, XA = mkB a := ⟨_, rfl⟩
          obtain ⟨XR, hXR⟩ : ∃ XR, XR = mkB r := ⟨_, rfl⟩
          rw [← hXA, ← hXR] at CH
          have CS := Lib.hid (fun W => st_Split XA 32 W (by rw [hXA]; show a.length ≤ _; omega))
          rw [show XA.data.toList = a by rw [hXA]] at CS
          obtain ⟨h, tl, hpc⟩ := pcs_head 32 a
          rw [hpc] at CS HPl
          have htl : tl.length ≤ 5000 := by
            have h1 := pcs_length 32 a
            have h2 := List.count_le_length (a := (32 : UInt8)) (l := a)
            rw [hpc] at h1; simp at h1; omega
          have Hlens := Lib.hid (And.intro hrl hXs)
          have HXR := Lib.hid hXR
          have CRd := Lib.hid (fun W (hW : Pk b b c W) (hBW : b ≤ W.heap.size) vw (hw : RowS W vw (h :: tl)) => c_read b b c true h tl vw W hW hBW hw htl (by have := HF.out.1; omega) (fun j hj => by have := HF.out.2 j hj; omega))
          clear hm1 hm2 hXA hXR hpc hrl hXs hi hna hfb hrem
          go_wp2_with (first
            | (go_at_call 92; refine (CH.out _).mono ?_; rintro e w' ⟨rfl, rfl⟩)
            | (go_at_call 13; refine (CS.out _).mono ?_; rintro e w' ⟨rfl, rfl⟩))
          obtain ⟨WS, hWS⟩ : ∃ WS, WS = (wr.drewN 1).alloc (.cells (strRow (h :: tl)) 9) := ⟨_, rfl⟩
          have HBS := Lib.hid (show Below wr.heap.size wr WS by rw [hWS]; exact (below_drewN (Below.refl _ _) 1).alloc (Nat.le_refl _) _)
          have HRS := Lib.hid (show RowS WS (.slice (some ⟨wr.heap.size, 0, none⟩) (tl.length + 1) (tl.length + 1)) (h :: tl) by rw [hWS]; exact strRow_row (wr.drewN 1) (h :: tl) (by simp; omega))
          rw [← hWS]
          clear hWS
          have hlb : b ≤ WS.heap.size := by have := HBS.out.size; have := (HPk.out).lt; omega
          refine (CRd.out WS (HPk.out.go HBS.out) hlb _ HRS.out).mono ?_
          intro e w3 hpost
          have HBb := Lib.hid (show Below b W1 WS from HB.out.trans (HBS.out.mono (by have := (HPk.out).lt; omega)))
          cases hst : stepLine c true (h :: tl) with
          | none =>
            rw [hst] at hpost HPl
            obtain ⟨hb3, rfl⟩ := hpost
            have HB3 := Lib.hid (HBb.out.trans hb3)
            have HRl := Lib.hid (show R = (emptyC, 1, 3) by rw [hRp.out, HPl.out]; rw [e1]; rfl)
            have hrr : w3.heap[w.heap.size]? = some _ := (HB3.out.block w.heap.size (by have := Hb.out; omega)).trans K0.out
            have Hrr := Lib.hid hrr
            have g0 : w3.cell? ⟨w.heap.size, 0, none⟩ = some (.int .i64 0) := cell_blk hrr 0
            have g1 : w3.cell? ⟨w.heap.size, 1, none⟩ = some (.slice none 0 0) := cell_blk hrr 1
            have f0 : w3.frozen? ⟨w.heap.size, 0, none⟩ = false := free_blk hrr 0
            have f1 : w3.frozen? ⟨w.heap.size, 1, none⟩ = false := free_blk hrr 1
            have Hbel := Lib.hid (below_b H1.out Hb.out HB3.out)
            clear hrr hb3 hst CRd CH CS
            go_wp2_with (fail)
            have hz := zero_box Hrr.out Hbel.out
            obtain ⟨d0, d1, hbz⟩ := hz
            generalize (w3.setCell ⟨w.heap.size, 0, none⟩ (.int .i64 0)).setCell ⟨w.heap.size, 1, none⟩ (.slice none 0 0) = wz at *
            exact bodyPost_ret (v := .tuple #[.agg #[.int .i64 0, .slice none 0 0], .int .i64 1, .int .i64 3]) (by simp [results, Tryz.results59, go_sem, d0, d1]) rfl ⟨.agg #[.int .i64 0, .slice none 0 0], by rw [HRl.out], by rw [HRl.out]; exact isC_empty _, hbz⟩
          | some c' =>
            rw [hst] at hpost HPl
            obtain ⟨hb3, rfl, hpk⟩ := hpost
            have HB3 := Lib.hid (HBb.out.trans hb3)
            have HPk3 := Lib.hid hpk
            have HF3 := Lib.hid (step_few hst HF.out)
            have hn3 : n + 1 + r.length ≤ 4097 := by have := Hlens.out.1; omega
            have hmeas : XR.size < X.size := by have := Hlens.out; rw [HXR.out, this.2, this.1]; show r.toArray.size < _; simp
            clear hb3 hst CRd CH CS hpk
            go_wp2_with (fail)
            go_roundw
            case rel => exact ⟨n + 1, c', r, by go_num, by rw [HXR.out], by omega, hn3, HPk3.out, HF3.out, HB3.out, HPl.out⟩
            case measure => exact hmeas
      · have bn : ((n : Int) == 1) = false := beq_false_of_ne (by omega)
        by_cases e2 : rem = []
        · have bX : X.toList.isEmpty = true := by rw [HX.out, ByteArray.toList_eq, e2]; rfl
          have HPl := Lib.hid (show P = .inr c by rw [HPP.out, e2]; show parseL n c [[]] = _; rw [parseL_last, if_pos ⟨e1, rfl⟩])
          obtain ⟨hbB, hlog, vL, hbox, hNL⟩ := HPk.out
          obtain ⟨aL, cL, rfl⟩ := NewL.isSlice hNL
          have HC := Lib.hid (show IsC wr (.agg #[.int .i64 c.log, .slice aL c.layers.length cL]) c from ⟨hlog, _, rfl, hNL.row⟩)
          have y0 : wr.cell? ⟨b, 0, none⟩ = some (.int .i64 c.log) := cell_blk hbox 0
          have y1 : wr.cell? ⟨b, 1, none⟩ = some (.slice aL c.layers.length cL) := cell_blk hbox 1
          have Hbox := Lib.hid hbox
          have CK := Lib.hid (c_Check _ c wr HC.out)
          have HNLr := Lib.hid hNL; have Hlog := Lib.hid hlog
          clear hNL hbox e2
          go_wp2_with (fail)
          refine CK.out.mono ?_
          rintro e w2 ⟨rfl, hb2⟩
          have H2 := Lib.hid hb2
          have hrr : w2.heap[w.heap.size]? = some _ := (hb2.block w.heap.size (by have := Hb.out; have := blk_lt Hbox.out; omega)).trans ((HB.out.block w.heap.size (by have := Hb.out; omega)).trans K0.out)
          have Hrr := Lib.hid hrr
          have g0 : w2.cell? ⟨w.heap.size, 0, none⟩ = some (.int .i64 0) := cell_blk hrr 0
          have g1 : w2.cell? ⟨w.heap.size, 1, none⟩ = some (.slice none 0 0) := cell_blk hrr 1
          have f0 : w2.frozen? ⟨w.heap.size, 0, none⟩ = false := free_blk hrr 0
          have f1 : w2.frozen? ⟨w.heap.size, 1, none⟩ = false := free_blk hrr 1
          have z0 := (hb2.cell (p := ⟨b, 0, none⟩) (blk_lt Hbox.out)).trans y0
          have z1 := (hb2.cell (p := ⟨b, 1, none⟩) (blk_lt Hbox.out)).trans y1
          have Hbel := Lib.hid (below_chainP (below_b H1.out Hb.out HB.out) hb2)
          have HC2 := Lib.hid (HC.out.below hb2 (Nat.le_refl _))
          obtain ⟨E, hE⟩ : ∃ E : Int, E = (checkC c : Int) := ⟨_, rfl⟩
          rw [← hE]
          clear hb2 y0 y1 hrr
          by_cases e3 : checkC c = 0
          · have HRl := Lib.hid (show R = (c, 0, 0) by rw [hRp.out, HPl.out]; show (if checkC c = 0 then _ else _) = _; rw [if_pos e3])
            obtain rfl : E = 0 := by rw [hE, e3]
            clear hE e3
            go_wp2_with (fail)
            have hz := put_box Hrr.out Hbel.out (.int .i64 c.log) (.slice aL c.layers.length cL)
            obtain ⟨d0, d1, hbz⟩ := hz
            have HC3 := Lib.hid (isC_put (u := .int .i64 c.log) (v := .slice aL c.layers.length cL) Hlog.out (NewL.keep HNLr.out fun g cs t hg _ => H2.out.block g (blk_lt hg)) Hrr.out)
            generalize (w2.setCell ⟨w.heap.size, 0, none⟩ (.int .i64 c.log)).setCell ⟨w.heap.size, 1, none⟩ (.slice aL c.layers.length cL) = wz at *
            exact bodyPost_ret (v := .tuple #[.agg #[.int .i64 c.log, .slice aL c.layers.length cL], .int .i64 0, .int .i64 0]) (by simp [results, Tryz.results59, go_sem, d0, d1]) rfl ⟨_, by rw [HRl.out], by rw [HRl.out]; exact HC3.out, hbz⟩
          · have HRl := Lib.hid (show R = (emptyC, 0, E) by rw [hRp.out, HPl.out]; show (if checkC c = 0 then _ else _) = _; rw [if_neg e3, hE])
            have bE : (E != 0) = true := by rw [hE]; simpa using e3
            clear hE e3
            go_wp2_with (fail)
            have hz := zero_box Hrr.out Hbel.out
            obtain ⟨d0, d1, hbz⟩ := hz
            generalize (w2.setCell ⟨w.heap.size, 0, none⟩ (.int .i64 0)).setCell ⟨w.heap.size, 1, none⟩ (.slice none 0 0) = wz at *
            exact bodyPost_ret (v := .tuple #[.agg #[.int .i64 0, .slice none 0 0], .int .i64 0, .int .i64 E]) (by simp [results, Tryz.results59, go_sem, d0, d1]) rfl ⟨.agg #[.int .i64 0, .slice none 0 0], by rw [HRl.out], by rw [HRl.out]; exact isC_empty _, hbz⟩
        · have bX : X.toList.isEmpty = false := by rw [HX.out, ByteArray.toList_eq]; show rem.isEmpty = false; cases rem with | nil => exact absurd rfl e2 | cons _ _ => rfl
          rcases index_split 10 rem with ⟨hi, hno⟩ | ⟨a, r, hrem, hna, hi⟩
          · have HPl := Lib.hid (show P = .inl n by rw [HPP.out, pcs_none 10 rem hno, parseL_last, if_neg (fun h => e2 h.2)])
            have CM := Lib.hid (fun W => st_Cut_miss X 10 W (by rw [HX.out]; exact hi))
            have HRl := Lib.hid (show R = (emptyC, (n : Int), 3) by rw [hRp.out, HPl.out])
            have hrr : wr.heap[w.heap.size]? = some _ := (HB.out.block w.heap.size (by have := Hb.out; omega)).trans K0.out
            have Hrr := Lib.hid hrr
            have g0 : wr.cell? ⟨w.heap.size, 0, none⟩ = some (.int .i64 0) := cell_blk hrr 0
            have g1 : wr.cell? ⟨w.heap.size, 1, none⟩ = some (.slice none 0 0) := cell_blk hrr 1
            have f0 : wr.frozen? ⟨w.heap.size, 0, none⟩ = false := free_blk hrr 0
            have f1 : wr.frozen? ⟨w.heap.size, 1, none⟩ = false := free_blk hrr 1
            have Hbel := Lib.hid (below_b H1.out Hb.out HB.out)
            clear hrr hi hno
            go_wp2_with (go_at_call 92; refine (CM.out _).mono ?_; rintro e w' ⟨rfl, rfl⟩)
            have hz := zero_box Hrr.out Hbel.out
            obtain ⟨d0, d1, hbz⟩ := hz
            generalize (wr.setCell ⟨w.heap.size, 0, none⟩ (.int .i64 0)).setCell ⟨w.heap.size, 1, none⟩ (.slice none 0 0) = wz at *
            exact bodyPost_ret (v := .tuple #[.agg #[.int .i64 0, .slice none 0 0], .int .i64 (n : Int), .int .i64 3]) (by simp [results, Tryz.results59, go_sem, d0, d1]) rfl ⟨.agg #[.int .i64 0, .slice none 0 0], by rw [HRl.out], by rw [HRl.out]; exact isC_empty _, hbz⟩
          · have HPl := Lib.hid (show P = match stepLine c (n == 1) (pcs 32 a) with | none => .inl n | some c' => parseL (n + 1) c' (pcs 10 r) by rw [HPP.out, hrem, pcs_sep 10 a r hna, parseL_next])
            have hfb : (n == 1) = false := by simpa using e1
            rw [hfb] at HPl
            have hrl : rem.length = a.length + 1 + r.length := by rw [hrem]; simp; omega
            have hXs : X.size = rem.length := by rw [HX.out]; rfl
            obtain ⟨hm1, hm2⟩ := mkB_cut a r
            rw [← hrem, ← HX.out] at hm1 hm2
            have CH := Lib.hid (fun W => st_Cut_hit X 10 a.length W (by rw [HX.out]; exact hi) (by omega) (by omega))
            rw [hm1, hm2] at CH
            obtain ⟨XA, hXA⟩ : ∃ XA, XA = mkB a := ⟨_, rfl⟩
            obtain ⟨XR, hXR⟩ : ∃ XR, XR = mkB r := ⟨_, rfl⟩
            rw [← hXA, ← hXR] at CH
            have CS := Lib.hid (fun W => st_Split XA 32 W (by rw [hXA]; show a.length ≤ _; omega))
            rw [show XA.data.toList = a by rw [hXA]] at CS
            obtain ⟨h, tl, hpc⟩ := pcs_head 32 a
            rw [hpc] at CS HPl
            have htl : tl.length ≤ 5000 := by
              have h1 := pcs_length 32 a
              have h2 := List.count_le_length (a := (32 : UInt8)) (l := a)
              rw [hpc] at h1; simp at h1; omega
            have Hlens := Lib.hid (And.intro hrl hXs)
            have HXR := Lib.hid hXR
            have CRd := Lib.hid (fun W (hW : Pk b b c W) (hBW : b ≤ W.heap.size) vw (hw : RowS W vw (h :: tl)) => c_read b b c false h tl vw W hW hBW hw htl (by have := HF.out.1; omega) (fun j hj => by have := HF.out.2 j hj; omega))
            clear hm1 hm2 hXA hXR hpc hrl hXs hi hna hfb hrem
            go_wp2_with (first
              | (go_at_call 92; refine (CH.out _).mono ?_; rintro e w' ⟨rfl, rfl⟩)
              | (go_at_call 13; refine (CS.out _).mono ?_; rintro e w' ⟨rfl, rfl⟩))
            obtain ⟨WS, hWS⟩ : ∃ WS, WS = (wr.drewN 1).alloc (.cells (strRow (h :: tl)) 9) := ⟨_, rfl⟩
            have HBS := Lib.hid (show Below wr.heap.size wr WS by rw [hWS]; exact (below_drewN (Below.refl _ _) 1).alloc (Nat.le_refl _) _)
            have HRS := Lib.hid (show RowS WS (.slice (some ⟨wr.heap.size, 0, none⟩) (tl.length + 1) (tl.length + 1)) (h :: tl) by rw [hWS]; exact strRow_row (wr.drewN 1) (h :: tl) (by simp; omega))
            rw [← hWS]
            clear hWS
            have hlb : b ≤ WS.heap.size := by have := HBS.out.size; have := (HPk.out).lt; omega
            refine (CRd.out WS (HPk.out.go HBS.out) hlb _ HRS.out).mono ?_
            intro e w3 hpost
            have HBb := Lib.hid (show Below b W1 WS from HB.out.trans (HBS.out.mono (by have := (HPk.out).lt; omega)))
            cases hst : stepLine c false (h :: tl) with
            | none =>
              rw [hst] at hpost HPl
              obtain ⟨hb3, rfl⟩ := hpost
              have HB3 := Lib.hid (HBb.out.trans hb3)
              have HRl := Lib.hid (show R = (emptyC, (n : Int), 3) by rw [hRp.out, HPl.out])
              have hrr : w3.heap[w.heap.size]? = some _ := (HB3.out.block w.heap.size (by have := Hb.out; omega)).trans K0.out
              have Hrr := Lib.hid hrr
              have g0 : w3.cell? ⟨w.heap.size, 0, none⟩ = some (.int .i64 0) := cell_blk hrr 0
              have g1 : w3.cell? ⟨w.heap.size, 1, none⟩ = some (.slice none 0 0) := cell_blk hrr 1
              have f0 : w3.frozen? ⟨w.heap.size, 0, none⟩ = false := free_blk hrr 0
              have f1 : w3.frozen? ⟨w.heap.size, 1, none⟩ = false := free_blk hrr 1
              have Hbel := Lib.hid (below_b H1.out Hb.out HB3.out)
              clear hrr hb3 hst CRd CH CS
              go_wp2_with (fail)
              have hz := zero_box Hrr.out Hbel.out
              obtain ⟨d0, d1, hbz⟩ := hz
              generalize (w3.setCell ⟨w.heap.size, 0, none⟩ (.int .i64 0)).setCell ⟨w.heap.size, 1, none⟩ (.slice none 0 0) = wz at *
              exact bodyPost_ret (v := .tuple #[.agg #[.int .i64 0, .slice none 0 0], .int .i64 (n : Int), .int .i64 3]) (by simp [results, Tryz.results59, go_sem, d0, d1]) rfl ⟨.agg #[.int .i64 0, .slice none 0 0], by rw [HRl.out], by rw [HRl.out]; exact isC_empty _, hbz⟩
            | some c' =>
              rw [hst] at hpost HPl
              obtain ⟨hb3, rfl, hpk⟩ := hpost
              have HB3 := Lib.hid (HBb.out.trans hb3)
              have HPk3 := Lib.hid hpk
              have HF3 := Lib.hid (step_few hst HF.out)
              have hn3 : n + 1 + r.length ≤ 4097 := by have := Hlens.out.1; omega
              have hmeas : XR.size < X.size := by have := Hlens.out; rw [HXR.out, this.2, this.1]; show r.toArray.size < _; simp
              clear hb3 hst CRd CH CS hpk
              go_wp2_with (fail)
              go_roundw
              case rel => exact ⟨n + 1, c', r, by go_num, by rw [HXR.out], by omega, hn3, HPk3.out, HF3.out, HB3.out, HPl.out⟩
              case measure => exact hmeas
end Go.Proofs.YtlfneeobnihocaaGreatDoor
