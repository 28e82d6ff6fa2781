/- Several texts in one: FiatNo, FiatSaysWalk. What each says, and its conditions, stands at its head. -/
import Derived.Test.YtnleihjdllpniaaDoorFiatW
import Derived.Test.YtnleihjdllpniaaDoorFiatP
import Derived.Test.YtnleihjdllpniaaDoorRFiat
import Derived.Test.YtnleihjdllpniaaDoorGkrProvesWalk
/- The walks of fiat's Words, and of its Prove where it refuses. -/
namespace Go.Proofs.YtnleihjdllpniaaDoor
set_option maxRecDepth 100000
set_option linter.unusedVariables false
open Go.RowKit Tally
set_option maxHeartbeats 2000000 in
theorem fiat_Words (v : Value) (c : Ci) (w : World) (h : IsC w v c) (hc0 : checkC c = 0) :
    Calls Tryd.prog 44 #[v] w fun e w' => ∃ vw, e = .returned (.tuple #[vw, .int .i64 0]) ∧ NewU w.heap.size w' vw (wordsI c) ∧ Below w.heap.size w w' := by
  have HC := Lib.hid h; have Hc := Lib.hid hc0
  obtain ⟨ac, cc, rfl⟩ := h.shape
  clear h hc0
  go_enter Tryd.func44, Tryd.ntmps44
  go_wp2_with (fail)
  obtain ⟨W1, hW, k0, k1, B1, s1⟩ := copied2' w (.int .i64 c.log) (.slice ac c.layers.length cc) 24
  rw [hW]
  have L1 : w.heap.size < W1.heap.size := by omega
  have H1 := Lib.hid B1
  clear hW s1 B1
  refine (c_Check _ c _ (HC.out.go H1.out)).mono ?_
  rintro e w2 ⟨rfl, hb2⟩
  rw [Hc.out]
  have H2 := Lib.hid (below_two H1.out hb2)
  have r0 := (hb2.cell (p := ⟨w.heap.size, 0, none⟩) L1).trans k0
  have r1 := (hb2.cell (p := ⟨w.heap.size, 1, none⟩) L1).trans k1
  clear k0 k1 hb2 L1
  go_wp2_with (fail)
  refine (fiat_words _ c _ (HC.out.go H2.out) (good_of_check Hc.out)).mono ?_
  rintro e w3 ⟨vw, rfl, hn, hb3⟩
  have HN := Lib.hid (hn.mono H2.out.size)
  have H3 := Lib.hid (below_two H2.out hb3)
  clear hn hb3 r0 r1
  go_wp2
  go_ret2
  exact ⟨_, rfl, HN.out, H3.out⟩
set_option maxHeartbeats 2000000 in
theorem fiat_Words_no (v : Value) (c : Ci) (w : World) (h : IsC w v c) (hc : (checkC c != 0) = true) :
    Calls Tryd.prog 44 #[v] w fun e w' => e = .returned (.tuple #[.slice none 0 0, .int .i64 (checkC c)]) ∧ Below w.heap.size w w' := by
  have HC := Lib.hid h
  obtain ⟨ac, cc, rfl⟩ := h.shape
  clear h
  go_enter Tryd.func44, Tryd.ntmps44
  go_wp2_with (fail)
  obtain ⟨W1, hW, k0, k1, B1, s1⟩ := copied2' w (.int .i64 c.log) (.slice ac c.layers.length cc) 24
  rw [hW]
  have H1 := Lib.hid B1
  clear hW s1 B1
  refine (c_Check _ c _ (HC.out.go H1.out)).mono ?_
  rintro e w2 ⟨rfl, hb2⟩
  have H2 := Lib.hid (below_two H1.out hb2)
  clear k0 k1 hb2
  go_wp2
  go_ret2
  exact ⟨rfl, H2.out⟩
set_option maxRecDepth 100000 in
set_option maxHeartbeats 4000000 in
theorem fiat_Prove_no (v : Value) (c : Ci) (vi : Value) (E : Int) (w : World) (h : IsC w v c) (hE : (E != 0) = true)
    (hrun : ∀ W, Below w.heap.size w W → Calls Tryd.prog 17 #[v, vi] W fun e w' => e = .returned (.tuple #[.slice none 0 0, .int .i64 E]) ∧ Below W.heap.size W w') :
    Calls Tryd.prog 21 #[v, vi] w fun e w' => e = .returned (.tuple #[.slice none 0 0, .agg #[.slice none 0 0], .int .i64 E]) ∧ Below w.heap.size w w' := by
  obtain ⟨ac, cc, rfl⟩ := h.shape
  have HR := Lib.hid hrun
  clear hrun h
  go_enter Tryd.func21, Tryd.ntmps21
  go_wp2_with (fail)
  obtain ⟨W, hW, hb1, hb2, s1, B1⟩ := two_blocks w #[.int .i64 c.log, .slice ac c.layers.length cc] #[.slice none 0 0] 24 37
  rw [hW]
  have H1 := Lib.hid B1
  have Hb2 := Lib.hid hb2
  have lrs : w.heap.size + 1 < W.heap.size := by omega
  clear hW hb1 hb2 B1 s1
  refine (HR.out W H1.out).mono ?_
  rintro e w1 ⟨rfl, bw1⟩
  have H2 := Lib.hid (below_two H1.out bw1)
  have hrr := (bw1.block (w.heap.size + 1) lrs).trans Hb2.out
  have ff := free_blk hrr 0
  have g0 : w1.cell? ⟨w.heap.size + 1, 0, none⟩ = some (.slice none 0 0) := cell_blk hrr 0
  clear bw1
  go_wp2_with (fail)
  have hbk := blk_setCell hrr 0 (.slice none 0 0)
  have hbz := H2.out.setCell (p := ⟨w.heap.size + 1, 0, none⟩) (Nat.le_succ _) (.slice none 0 0)
  generalize w1.setCell ⟨w.heap.size + 1, 0, none⟩ (.slice none 0 0) = wz at *
  have d0 : wz.cell? ⟨w.heap.size + 1, 0, none⟩ = some (.slice none 0 0) := cell_blk hbk 0
  exact bodyPost_ret (v := .tuple #[.slice none 0 0, .agg #[.slice none 0 0], .int .i64 E]) (by simp [results, Tryd.results21, go_sem, d0]) rfl ⟨rfl, hbz⟩
end Go.Proofs.YtnleihjdllpniaaDoor

/- The walk of the law FiatSays: it returns true, whatever is handed in. The table of bits lies as its initialiser lays it. -/
namespace Go.Proofs.YtnleihjdllpniaaDoor
set_option maxRecDepth 100000
set_option linter.unusedVariables false
open Go.RowKit Tally
structure FBox (z : Nat) (w6 : World) (vo vs : Value) (O : List Int) (P : List Pi) (w' : World) : Prop where
  blk : w'.heap[z]? = some (.cells #[vs] 37 (0, 0))
  row : RowU w' vo O
  isp : IsP w' (.agg #[vs]) P
  below : Below z w6 w'
theorem FBox.make {z B : Nat} {w6 w' : World} {vo x vs : Value} {O : List Int} {P : List Pi} {S : Nat → Prop} (hk : w'.heap[z]? = some (.cells #[x] 37 (0, 0))) (hz : z < w6.heap.size) (hr : NewU B w' vo O) (hzB : z < B)
    (hf : Far S (fun X => IsP X (.agg #[vs]) P) w') (hS : S z) (hb : Below w6.heap.size w6 w') : FBox z w6 vo vs O P (w'.setCell ⟨z, 0, none⟩ vs) :=
  ⟨blk_setCell hk 0 vs, (hr.low hzB 0 vs).row, (hf.set hS 0 vs).now, (hb.mono (Nat.le_of_lt hz)).setCell (p := ⟨z, 0, none⟩) (Nat.le_refl _) vs⟩
set_option maxRecDepth 100000 in
set_option maxHeartbeats 8000000 in
theorem fiatSays_walk (w : World) (hT : Tab w) (v : Value) (c : Ci) (h : IsC w v c) (vi : Value) (inp : List Int) (hi : RowU w vi inp) :
    Calls Tryd.prog 9 #[v, vi] w fun e w' => e = .returned (.bool true) ∧ Below w.heap.size w w' := by
  obtain ⟨ac, cc, rfl⟩ := h.shape
  have HT := Lib.hid hT; have HC := Lib.hid h; have Hi := Lib.hid hi
  obtain ⟨_, _, ai, ci, rfl, _⟩ := hi
  clear hT h
  go_enter Tryd.func9, Tryd.ntmps9
  go_wp2_with (fail)
  obtain ⟨W1, hW, k0, k1, B1, s1⟩ := copied2' w (.int .i64 c.log) (.slice ac c.layers.length cc) 24
  rw [hW]
  obtain ⟨tb, htb⟩ : ∃ tb, tb = w.heap.size := ⟨_, rfl⟩
  rw [← htb] at k0 k1 s1 ⊢
  have HX1 := Lib.hid (show Boxed tb (.int .i64 c.log) (.slice ac c.layers.length cc) W1 from ⟨k0, k1, by omega⟩)
  have H1 := Lib.hid B1
  clear hW s1 k0 k1 B1 htb
  refine (rc_Circuit _ c _ (HC.out.go H1.out)).mono ?_
  rintro e w2 ⟨rfl, hb2⟩
  have H2 := Lib.hid (below_two H1.out hb2)
  have HX2 := Lib.hid (HX1.out.go hb2)
  clear hb2
  have r0 := HX2.out.c0; have r1 := HX2.out.c1
  by_cases hc : checkC c = 0
  · have Hc := Lib.hid hc
    have HG := Lib.hid (good_of_check hc)
    rw [hc]
    clear hc
    go_wp2_with (fail)
    refine (fiat_Words _ c _ (HC.out.go H2.out) Hc.out).mono ?_
    rintro e w3 ⟨vw, rfl, hn3, hb3⟩
    have H3 := Lib.hid (below_two H2.out hb3)
    have HX3 := Lib.hid (HX2.out.go hb3)
    have HW3 := Lib.hid hn3.row
    clear hb3 hn3 r0 r1
    have r0 := HX3.out.c0; have r1 := HX3.out.c1
    go_wp2_with (fail)
    refine (ref_Words _ c _ (HC.out.go H3.out) HG.out).mono ?_
    rintro e w4 ⟨vr, rfl, hn4, hb4⟩
    have H4 := Lib.hid (below_two H3.out hb4)
    have HX4 := Lib.hid (HX3.out.go hb4)
    have HW4 := Lib.hid hn4.row
    have HW3' := Lib.hid (HW3.out.go hb4)
    clear hb4 hn4 r0 r1
    have r0 := HX4.out.c0; have r1 := HX4.out.c1
    go_wp2_with (fail)
    refine (slices_Equal (wordsI c) _ _ _ HW3'.out HW4.out).mono ?_
    rintro e w5 ⟨rfl, hd5⟩
    have H5 := Lib.hid (below_two H4.out hd5.below)
    have HX5 := Lib.hid (HX4.out.go hd5.below)
    clear hd5 r0 r1
    have r0 := HX5.out.c0; have r1 := HX5.out.c1
    have hn1 := HG.out.n1; have hn4 := HG.out.n4
    obtain ⟨bL, oL, rfl, hbLlt, hLc⟩ : ∃ bL oL, ac = some ⟨bL, oL, none⟩ ∧ bL < w.heap.size ∧ ∀ j, j < c.layers.length →
      w.cell? ⟨bL, oL + j * 2, none⟩ = some (.int .i64 (aty c.layers j).log) := by
      obtain ⟨_, u, e, _, _, a', cp', rfl, hr⟩ := HC.out
      cases e
      obtain ⟨b', o', rfl, h1, h2⟩ := hr hn1
      exact ⟨b', o', rfl, h1, fun j hj => (h2 j hj).1⟩
    have HLc := Lib.hid (hLc (c.layers.length - 1) (by omega))
    obtain ⟨G, hG⟩ : ∃ G, G = (aty c.layers (c.layers.length - 1)).log := ⟨_, rfl⟩
    rw [← hG] at HLc
    obtain ⟨m, hm⟩ : ∃ m : Nat, m = c.layers.length - 1 := ⟨_, rfl⟩
    rw [← hm] at HLc
    have hmi : (c.layers.length : Int) - 1 = (m : Int) := by omega
    have hml : (m : Int) < (c.layers.length : Int) := by omega
    have Hmi := Lib.hid hmi; have Hml := Lib.hid hml
    clear hLc hG hm hmi hml
    go_wp2_with (fail)
    go_loopw [71] (fun iv wr => ∃ i : Nat, i ≤ c.layers.length + 1 ∧ iv = .int .i64 (i : Int) ∧ Hid (Below w5.heap.size w5 wr)) (fun iv _ => c.layers.length + 1 - (intOf iv).toNat)
    case atStart => exact ⟨0, by omega, rfl, Below.refl _ _⟩
    case round =>
      obtain ⟨i, hil, rfl, HB⟩ := hrel
      have HXr := Lib.hid (HX5.out.go HB.out)
      have HBr := Lib.hid (below_two H5.out HB.out)
      clear r0 r1
      have r0 := HXr.out.c0; have r1 := HXr.out.c1
      by_cases hz : i < c.layers.length
      · have hz1 : (i : Int) < (c.layers.length : Int) + 1 := by omega
        have hz2 : (i : Int) < (c.layers.length : Int) := by omega
        have hz3 : ((i : Int) == (c.layers.length : Int)) = false := by rw [beq_eq_false_iff_ne]; omega
        go_wp2_with (fail)
        refine (ref_Below _ c i _ (HC.out.go HBr.out) (by omega) hn4).mono ?_
        rintro e w6 ⟨rfl, hb6⟩
        have HB6 := Lib.hid (below_two HB.out hb6)
        have HX6 := Lib.hid (HXr.out.go hb6)
        have HBr6 := Lib.hid (below_two HBr.out hb6)
        clear hb6 r0 r1
        have r0 := HX6.out.c0; have r1 := HX6.out.c1
        obtain ⟨bl, hbl⟩ : ∃ bl, bl = belowLog c i := ⟨_, rfl⟩
        rw [← hbl]
        clear hbl
        by_cases h2 : bl ≤ 1
        · have hd2 : decide (1 < bl) = false := decide_eq_false (by omega)
          clear h2
          go_wp2
          go_roundw
          case rel => exact ⟨i + 1, by omega, by go_num, HB6.out⟩
          case measure => simp [intOf]; omega
        · have hd2 : decide (1 < bl) = true := decide_eq_true (by omega)
          clear h2
          go_wp2
          go_ret
          exact ⟨rfl, HBr6.out⟩
      · by_cases hz4 : i = c.layers.length
        · subst hz4
          have hm1 := Hmi.out; have hm2 := Hml.out
          have g0 := (HBr.out.cell (p := ⟨bL, oL + m * 2, none⟩) hbLlt).trans HLc.out
          by_cases h2 : G ≤ 1
          · have hd2 : decide (1 < G) = false := decide_eq_false (by omega)
            clear h2
            go_wp2
            go_roundw
            case rel => exact ⟨c.layers.length + 1, by omega, by go_num, HB.out⟩
            case measure => simp [intOf]
          · have hd2 : decide (1 < G) = true := decide_eq_true (by omega)
            clear h2
            go_wp2
            go_ret
            exact ⟨rfl, HBr.out⟩
        · obtain rfl : i = c.layers.length + 1 := by omega
          have hl4 := HG.out.log4; have hl0 := HG.out.log0
          have hw := wrap4 hl4
          obtain ⟨P, hP⟩ : ∃ P, wrap64 (2 ^ c.log.toNat) = P := ⟨_, rfl⟩
          have HPe := Lib.hid (show P = ((2 ^ c.log.toNat : Nat) : Int) by rw [← hP, hw])
          clear hw
          obtain ⟨W6, hW6, kz, B6, s6⟩ := copied1' wr (.slice none 0 0) 37
          have Hbz := Lib.hid (show W6.heap[wr.heap.size]? = some (.cells #[.slice none 0 0] 37 (0, 0)) by rw [← hW6]; exact alloc_blk wr _)
          have H6 := Lib.hid (below_two HBr.out B6)
          have HX6 := Lib.hid (HXr.out.go B6)
          have lz : wr.heap.size < W6.heap.size := by omega
          clear r0 r1 B6 s6
          have r0 := HX6.out.c0; have r1 := HX6.out.c1
          have htb6 := HX6.out.lt
          by_cases hl : inp.length = 2 ^ c.log.toNat
          · have hbn : ((inp.length : Int) == P) = true := by rw [HPe.out, beq_iff_eq]; exact congrArg _ hl
            have Hl := Lib.hid hl
            clear hl kz
            obtain ⟨OUT, hO⟩ : ∃ OUT, OUT = (valF c (inp.map phi) c.layers.length).map psi := ⟨_, rfl⟩
            have HO := Lib.hid hO
            obtain ⟨PR, hPR⟩ : ∃ PR, PR = proveI c inp (fiatD c inp OUT) := ⟨_, rfl⟩
            have HPR := Lib.hid hPR
            clear hO hPR
            have hm0 : (1 : Int) ≤ (c.layers.length : Int) := by omega
            have htbr := HXr.out.lt
            have hwl : IntKind.i64.wrap ((c.layers.length : Int) - 1) = (c.layers.length : Int) - 1 := by rw [IntKind.wrap_i64]; omega
            have hwr := HBr.out.size
            have K6 := Lib.hid (show ∀ X, Below wr.heap.size W6 X → Below wr.heap.size W6 X ∧ X.cell? ⟨tb, 0, none⟩ = some (.int .i64 c.log) ∧ X.cell? ⟨tb, 1, none⟩ = some (.slice (some ⟨bL, oL, none⟩) c.layers.length cc) from fun X hX =>
              ⟨hX, (hX.cell (p := ⟨tb, 0, none⟩) htbr).trans HX6.out.c0, (hX.cell (p := ⟨tb, 1, none⟩) htbr).trans HX6.out.c1⟩)
            have CV := Lib.hid (fun W (hB : Below W6.heap.size W6 W) x (hx : x = (c.layers.length : Int) - 1) => show Calls Tryd.prog 46 #[.agg #[.int .i64 c.log, .slice (some ⟨bL, oL, none⟩) c.layers.length cc], .slice ai inp.length ci, .int .i64 x] W fun e w' => ∃ a n cp, e = .returned (.slice a n cp) ∧ NewU W.heap.size w' (.slice a n cp) OUT ∧ Below W.heap.size W w' from by
              subst hx
              refine (ref_Values c inp HG.out Hl.out c.layers.length (Nat.le_refl _) _ _ W (HC.out.go (below_two H6.out hB)) (Hi.out.go (below_two H6.out hB))).mono ?_
              rintro e w' ⟨v', he, hn, hb⟩
              obtain ⟨a, cp, rfl⟩ := hn.isSlice
              rw [← HO.out] at hn he
              exact ⟨_, _, _, he, hn, hb⟩)
            have CF := Lib.hid (fun W (hB : Below W6.heap.size W6 W) => show Calls Tryd.prog 47 #[.agg #[.int .i64 c.log, .slice (some ⟨bL, oL, none⟩) c.layers.length cc], .slice ai inp.length ci] W fun e w' => ∃ a n cp, e = .returned (.agg #[.slice a n cp]) ∧ Far (fun b => b < W.heap.size) (fun X => IsP X (.agg #[.slice a n cp]) PR) w' ∧ Below W.heap.size W w' from by
              refine (ref_FiatN _ c _ inp OUT W (HC.out.go (below_two H6.out hB)) HG.out (Hi.out.go (below_two H6.out hB)) Hl.out HO.out).mono ?_
              rintro e w' ⟨vp, he, hf, hb⟩
              rw [← HPR.out] at hf
              obtain ⟨u, rfl, hr⟩ := hf.now
              obtain ⟨_, a, cp, rfl, _⟩ := hr
              exact ⟨_, _, _, he, hf, hb⟩)
            have hdw := Lib.hid (show Below W6.heap.size W6 W6.drew from below_drewN (Below.refl _ _) 1)
            have hdS := hdw.out.mono (Nat.le_of_lt lz)
            have lzd : wr.heap.size < W6.drew.heap.size := lz
            go_wp2_with (fail)
            clear hW6
            go_region_held3 (fun w' => Below wr.heap.size W6 w' ∧ w'.cell? ⟨tb, 0, none⟩ = some (.int .i64 c.log) ∧ w'.cell? ⟨tb, 1, none⟩ = some (.slice (some ⟨bL, oL, none⟩) c.layers.length cc))
              (first
                | exact K6.out _ hdS
                | exact K6.out _ hSv
                | exact K6.out _ hSf
                | exact K6.out _ hSz
                | exact K6.out _ HK.out.below)
              (first
                | (go_at_call 46; (with_reducible refine (CV.out W6.drew hdw.out _ (by first | exact hwl | rfl)).mono ?_); rintro e wv ⟨aV, nV, cV, rfl, hnv, hbv⟩; have hBv := below_two hdw.out hbv; have hSv := hBv.mono (Nat.le_of_lt lz))
                | (go_at_call 47; (with_reducible refine (CF.out wv hBv).mono ?_); rintro e wz ⟨aF, nF, cF, rfl, hfar, hbz⟩; have hBz := below_two hBv hbz; have hSz := hBz.mono (Nat.le_of_lt lz); have gO := (hBz.block wr.heap.size lz).trans Hbz.out; have HK := Lib.hid (FBox.make gO lz (hnv.go hbz) lzd hfar (Nat.lt_of_lt_of_le lz hBv.size) hBz); have gO0 := cell_blk gO 0; have gf := free_blk gO 0; clear hnv hfar)
                | (go_at_call 47; (with_reducible refine (CF.out W6.drew hdw.out).mono ?_); rintro e wf ⟨aF, nF, cF, rfl, hfar, hbf⟩; have hBf := below_two hdw.out hbf; have hSf := hBf.mono (Nat.le_of_lt lz))
                | (go_at_call 46; (with_reducible refine (CV.out wf hBf _ (by first | exact hwl | rfl)).mono ?_); rintro e wz ⟨aV, nV, cV, rfl, hnv, hbz⟩; have hBz := below_two hBf hbz; have hSz := hBz.mono (Nat.le_of_lt lz); have gO := (hBz.block wr.heap.size lz).trans Hbz.out; have HK := Lib.hid (FBox.make gO lz hnv (Nat.lt_of_lt_of_le lz hBf.size) (hfar.go hbz) lzd hBz); have gO0 := cell_blk gO 0; have gf := free_blk gO 0; clear hnv hfar))
            all_goals
              have hbK := HK.out.below
              clear hSz gO gO0 gf hBz hbz
              generalize wz.setCell ⟨wr.heap.size, 0, none⟩ (.slice aF nF cF) = w8 at *
              have H8 := Lib.hid (show Below w.heap.size w w8 from H6.out.trans (hbK.mono hwr))
              have lz8 : wr.heap.size < w8.heap.size := blk_lt HK.out.blk
              clear r0 r1
              have r0 := (K6.out w8 hbK).2.1; have r1 := (K6.out w8 hbK).2.2
              go_wp2_with (fail)
              refine (fiat_Prove _ c _ inp w8 (HT.out.below H8.out) (HC.out.go H8.out) Hc.out (Hi.out.go H8.out) Hl.out).mono ?_
              rintro e w9 ⟨vo, vq, rfl, hro, hq, hb9⟩
              rw [← HO.out] at hro hq
              rw [← HPR.out] at hq
              obtain ⟨uq, rfl, hrq⟩ := hq
              have Hro := Lib.hid hro
              have Hq := Lib.hid hrq
              obtain ⟨_, aq, cq, rfl, _⟩ := hrq
              obtain ⟨_, _, ao, co, rfl, _⟩ := hro
              have cz9 := cell_blk ((hb9.block wr.heap.size lz8).trans HK.out.blk) 0
              have lz9 : wr.heap.size < w9.heap.size := Nat.lt_of_lt_of_le lz8 hb9.size
              have Hv9 := Lib.hid (HK.out.row.go hb9)
              have Hp9 := Lib.hid (HK.out.isp.go hb9)
              have H9 := Lib.hid (below_two H8.out hb9)
              obtain ⟨W10, hW10, kq, B10, s10⟩ := copied1' w9 (.slice aq PR.length cq) 37
              have cz10 := (B10.cell (p := ⟨wr.heap.size, 0, none⟩) lz9).trans cz9
              have H10 := Lib.hid (below_two H9.out B10)
              have l9 : w9.heap.size < W10.heap.size := by omega
              have lz10 : wr.heap.size < W10.heap.size := by omega
              clear r0 r1 cz9 hb9
              go_wp2_with (fail)
              refine (slices_Equal OUT _ _ W10 (Hro.out.go B10) (Hv9.out.go B10)).mono ?_
              rintro e w11 ⟨rfl, hd11⟩
              have hb11 := hd11.below
              have q0 := (hb11.cell (p := ⟨w9.heap.size, 0, none⟩) l9).trans kq
              have q1 := (hb11.cell (p := ⟨wr.heap.size, 0, none⟩) lz10).trans cz10
              have HQ := Lib.hid ((show IsP W10 (.agg #[.slice aq PR.length cq]) PR from ⟨_, rfl, Hq.out.below B10 (Nat.le_refl _)⟩).go hb11)
              have HV := Lib.hid ((Hp9.out.go B10).go hb11)
              have H11 := Lib.hid (below_two H10.out hb11)
              clear kq cz10 hW10 hd11 hb11
              go_wp2_with (fail)
              refine (ref_SameProof PR _ _ w11 HQ.out HV.out).mono ?_
              rintro e w12 ⟨rfl, hb12⟩
              have H12 := Lib.hid (below_two H11.out hb12)
              clear hb12
              go_wp2
              go_ret
              exact ⟨rfl, H12.out⟩
          · have hbn : ((inp.length : Int) == P) = false := by rw [HPe.out, beq_eq_false_iff_ne]; exact fun e => hl (Int.ofNat_inj.mp e)
            have Hl := Lib.hid hl
            clear hl
            go_wp2_with (fail)
            refine (fiat_Prove_no _ c _ 4 W6 (HC.out.go H6.out) rfl (fun W hW => c_Run_form _ c _ inp W (HC.out.go (below_two H6.out hW)) (Hi.out.go (below_two H6.out hW)) HG.out Hc.out Hl.out)).mono ?_
            rintro e w7 ⟨rfl, hb7⟩
            have cz7 := (hb7.cell (p := ⟨wr.heap.size, 0, none⟩) lz).trans kz
            have lz7 : wr.heap.size < w7.heap.size := Nat.lt_of_lt_of_le lz hb7.size
            have H7 := Lib.hid (below_two H6.out hb7)
            clear r0 r1 kz hb7 hW6
            go_wp2_with (fail)
            obtain ⟨W8, hW8, kq, B8, s8⟩ := copied1' w7 (.slice none 0 0) 37
            rw [hW8]
            have cz8 := (B8.cell (p := ⟨wr.heap.size, 0, none⟩) lz7).trans cz7
            have H8 := Lib.hid (below_two H7.out B8)
            have l8 : w7.heap.size < W8.heap.size := by omega
            have lz8 : wr.heap.size < W8.heap.size := by omega
            clear cz7
            refine (slices_Equal [] _ _ W8 (NewU.nil W8.heap.size W8).row (NewU.nil W8.heap.size W8).row).mono ?_
            rintro e w9 ⟨rfl, hd9⟩
            have q0 := (hd9.below.cell (p := ⟨w7.heap.size, 0, none⟩) l8).trans kq
            have q1 := (hd9.below.cell (p := ⟨wr.heap.size, 0, none⟩) lz8).trans cz8
            have H9 := Lib.hid (below_two H8.out hd9.below)
            clear hd9 kq cz8 hW8
            go_wp2_with (fail)
            refine (ref_SameProof [] _ _ _ (isP_nil _) (isP_nil _)).mono ?_
            rintro e w10 ⟨rfl, hb10⟩
            have H10 := Lib.hid (below_two H9.out hb10)
            clear hb10
            go_wp2
            go_ret
            exact ⟨rfl, H10.out⟩
  · have hcb : (checkC c != 0) = true := by rw [bne_iff_ne]; exact hc
    have Hcb := Lib.hid hcb
    clear hc
    go_wp2_with (fail)
    refine (fiat_Words_no _ c _ (HC.out.go H2.out) Hcb.out).mono ?_
    rintro e w3 ⟨rfl, hb3⟩
    have H3 := Lib.hid (below_two H2.out hb3)
    have HX3 := Lib.hid (HX2.out.go hb3)
    clear hb3 r0 r1
    have r0 := HX3.out.c0; have r1 := HX3.out.c1
    go_wp2_with (fail)
    refine (fiat_Prove_no _ c _ (checkC c) _ (HC.out.go H3.out) Hcb.out (fun W hW => c_Run_no _ c _ inp W (HC.out.go (below_two H3.out hW)) (Hi.out.go (below_two H3.out hW)) Hcb.out)).mono ?_
    rintro e w4 ⟨rfl, hb4⟩
    have H4 := Lib.hid (below_two H3.out hb4)
    clear hb4 r0 r1
    go_wp2
    go_ret
    exact ⟨rfl, H4.out.alloc H4.out.size _⟩
end Go.Proofs.YtnleihjdllpniaaDoor
