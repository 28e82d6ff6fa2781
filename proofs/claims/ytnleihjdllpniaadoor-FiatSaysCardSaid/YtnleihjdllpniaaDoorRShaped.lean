/- The walk of the reference's Shaped: is a proof as it must be? The circuit is right; the proof is a value that reads as data. -/
import Derived.Test.YtnleihjdllpniaaDoorGkrVerW
import Derived.Test.YtnleihjdllpniaaDoorRCircW
import Derived.Test.YtnleihjdllpniaaDoorSmall
namespace Go.Proofs.YtnleihjdllpniaaDoor
set_option maxRecDepth 100000
set_option linter.unusedVariables false
open Go.RowKit Tally
noncomputable instance (c : Ci) (ps : List Pi) : Decidable (ShapedI c ps) := Classical.propDecidable _
noncomputable def shapeB (c : Ci) (ps : List Pi) : Bool := decide (ShapedI c ps)
theorem shapeB_yes {c : Ci} {ps : List Pi} (h : ShapedI c ps) : shapeB c ps = true := decide_eq_true h
theorem shapeB_no {c : Ci} {ps : List Pi} (h : ¬ ShapedI c ps) : shapeB c ps = false := decide_eq_false h
theorem shapeB_is {c : Ci} {ps : List Pi} (h : shapeB c ps = true) : ShapedI c ps := of_decide_eq_true h
set_option maxRecDepth 100000 in
set_option maxHeartbeats 8000000 in
theorem ref_Shaped (v : Value) (c : Ci) (vp : Value) (ps : List Pi) (w : World) (h : IsC w v c) (hc0 : checkC c = 0) (hp : IsP w vp ps) :
    Calls Tryd.prog 24 #[v, vp] w fun e w' => e = .returned (.bool (shapeB c ps)) ∧ Below w.heap.size w w' := by
  have hG := good_of_check hc0
  have HC := Lib.hid h; have HG := Lib.hid hG
  have h4 := hG.n4; have h1 := hG.n1
  obtain ⟨ac, cc, rfl⟩ := h.shape
  obtain ⟨vs, rfl, hps⟩ := hp
  obtain ⟨_, aP, cP, rfl, hpr⟩ := hps
  have Hpr := Lib.hid hpr
  clear h hG hc0 hpr
  by_cases hlen : ps.length = c.layers.length
  · have hlb : ((ps.length : Int) != (c.layers.length : Int)) = false := by simp [hlen]
    have Hlen := Lib.hid hlen
    have hP4 : ps.length ≤ 4 := by omega
    have hPL : (ps.length : Int) ≤ (c.layers.length : Int) := by omega
    have hLP : (c.layers.length : Int) ≤ (ps.length : Int) := by omega
    clear hlen
    go_enter Tryd.func24, Tryd.ntmps24
    go_wp2_with (fail)
    obtain ⟨W, tb, hW, htb, hb1, hb2, s1, B1⟩ := two_blocks' w #[.int .i64 c.log, .slice ac c.layers.length cc] #[.slice aP ps.length cP] 24 37
    rw [hW, ← htb]
    have H1 := Lib.hid B1
    have Hb1 := Lib.hid hb1; have Hb2 := Lib.hid hb2
    clear hW hb1 hb2 B1 htb s1 hlb
    go_loopw [5] (fun i wr => ∃ j : Nat, j ≤ ps.length ∧ i = .int .i64 (j : Int) ∧ Hid (∀ q, q < j → PiOk (atp ps q) (belowLog c (c.layers.length - 1 - q)).toNat) ∧ Hid (Below W.heap.size W wr)) (fun i _ => ps.length - (intOf i).toNat)
    case atStart => exact ⟨0, by omega, rfl, fun q hq => absurd hq (by omega), Below.refl _ _⟩
    case round =>
      obtain ⟨j, hj, rfl, HJ, HB⟩ := hrel
      have r0 : wr.cell? ⟨tb, 0, none⟩ = some _ := cell_blk ((HB.out.block tb (blk_lt Hb1.out)).trans Hb1.out) 0
      have r1 : wr.cell? ⟨tb, 1, none⟩ = some _ := cell_blk ((HB.out.block tb (blk_lt Hb1.out)).trans Hb1.out) 1
      have r2 : wr.cell? ⟨tb + 1, 0, none⟩ = some _ := cell_blk ((HB.out.block (tb + 1) (blk_lt Hb2.out)).trans Hb2.out) 0
      have Hbr := Lib.hid (H1.out.trans (HB.out.mono H1.out.size))
      by_cases hz : j < ps.length
      · obtain ⟨b, off, rfl, hblt, hcell⟩ := Hpr.out (by omega)
        obtain ⟨u, u2, c0, c1, hu, hu2⟩ := hcell j hz
        obtain ⟨_, aR, cR, rfl, hrr⟩ := hu
        obtain ⟨_, _, aL, cL, rfl, -⟩ := hu2
        have Hrr := Lib.hid hrr
        have hs1 : (c.layers.length : Int) - 1 - (j : Int) = ((c.layers.length - 1 - j : Nat) : Int) := by omega
        have hji : (j : Int) < (ps.length : Int) := by omega
        have hj0 : (0 : Int) ≤ (j : Int) := by omega
        have C0 := Lib.hid c0; have C1 := Lib.hid c1
        clear c0 c1 hcell hrr
        go_wp2_with (fail)
        clear r0 r1 r2
        refine (ref_Below _ c (c.layers.length - 1 - j) _ (HC.out.go Hbr.out) (by omega) h4).mono ?_
        rintro e w9 ⟨rfl, hb9⟩
        have k0 := HG.out.below0 (k := c.layers.length - 1 - j) (by omega)
        have k4 := HG.out.below4 (k := c.layers.length - 1 - j) (by omega)
        obtain ⟨k, hk⟩ : ∃ k : Nat, belowLog c (c.layers.length - 1 - j) = (k : Int) := ⟨(belowLog c (c.layers.length - 1 - j)).toNat, by omega⟩
        rw [hk] at k0 k4 ⊢
        have Hkk := Lib.hid (show (belowLog c (c.layers.length - 1 - j)).toNat = k by rw [hk]; simp)
        have hk4 : k ≤ 4 := by omega
        have HB9 := Lib.hid (HB.out.trans (hb9.mono HB.out.size))
        have Hb9 := Lib.hid (H1.out.trans (HB9.out.mono H1.out.size))
        have r2 : w9.cell? ⟨tb + 1, 0, none⟩ = some _ := cell_blk ((HB9.out.block (tb + 1) (blk_lt Hb2.out)).trans Hb2.out) 0
        have q0 := (Hb9.out.cell (p := ⟨b, off + j * 2, none⟩) hblt).trans C0.out
        have q1 := (Hb9.out.cell (p := ⟨b, off + j * 2 + 1, none⟩) hblt).trans C1.out
        clear hk k0 k4 hb9 hs1
        by_cases hR : (atp ps j).rounds.length = 2 * k
        · by_cases hL : (atp ps j).line.length = k + 1
          · have hRb : (((atp ps j).rounds.length : Int) != 2 * (k : Int)) = false := by rw [bne_eq_false_iff_eq]; omega
            have hLb : (((atp ps j).line.length : Int) != (k : Int) + 1) = false := by rw [bne_eq_false_iff_eq]; omega
            have HR := Lib.hid hR; have HL := Lib.hid hL
            have hRk : (atp ps j).rounds.length ≤ 8 := by omega
            have hRk2 : ((atp ps j).rounds.length : Int) ≤ 2 * (k : Int) := by omega
            have hRk3 : 2 * (k : Int) ≤ ((atp ps j).rounds.length : Int) := by omega
            clear hR hL
            go_wp2_with (fail)
            clear hRb hLb
            go_loop [7] (fun i => ∃ q : Nat, q ≤ (atp ps j).rounds.length ∧ i = .int .i64 (q : Int) ∧ Hid (∀ p, p < q → (atl (atp ps j).rounds p).length = 3)) (fun i => (atp ps j).rounds.length - (intOf i).toNat)
            case atStart => exact ⟨0, by omega, rfl, fun q hq => absurd hq (by omega)⟩
            case round =>
              obtain ⟨q, hq, rfl, HQ⟩ := hrel
              by_cases hz2 : q < (atp ps j).rounds.length
              · obtain ⟨br, or, rfl, hbrlt, hrc⟩ := Hrr.out (by omega)
                obtain ⟨u, cu, ru⟩ := hrc q hz2
                obtain ⟨_, hul, au, cau, rfl, -⟩ := ru
                have qq := (Hb9.out.cell (p := ⟨br, or + q, none⟩) hbrlt).trans cu
                have hqi : (q : Int) < ((atp ps j).rounds.length : Int) := by omega
                have hqk : (q : Int) < 2 * (k : Int) := by omega
                have hq0 : (0 : Int) ≤ (q : Int) := by omega
                clear hrc cu
                by_cases h3 : (atl (atp ps j).rounds q).length = 3
                · have h3b : (((atl (atp ps j).rounds q).length : Int) != 3) = false := by rw [bne_eq_false_iff_eq]; omega
                  have H3 := Lib.hid h3
                  clear h3
                  go_wp2
                  go_round
                  case rel => exact ⟨q + 1, by omega, by go_num, fun p hp => if e : p = q then by subst e; exact H3.out else HQ.out p (by omega)⟩
                  case measure => simp [intOf]; omega
                · have h3b : (((atl (atp ps j).rounds q).length : Int) != 3) = true := by rw [bne_iff_ne]; omega
                  have HN := Lib.hid (show ¬ ShapedI c ps from fun h => h3 ((h.2 j hz).r q (by rw [Hkk.out, ← HR.out]; exact hz2)))
                  clear h3
                  go_wp2
                  go_ret
                  exact ⟨ret_b (shapeB_no HN.out).symm, Hb9.out⟩
              · obtain rfl : q = (atp ps j).rounds.length := by omega
                have HOk := Lib.hid (show PiOk (atp ps j) (belowLog c (c.layers.length - 1 - j)).toNat by
                  rw [Hkk.out]; exact ⟨HR.out, fun p hp => HQ.out p (by rw [HR.out]; exact hp), HL.out⟩)
                go_wp2
                go_roundw
                case rel => exact ⟨j + 1, by omega, by go_num, fun q hq => if e : q = j then by subst e; exact HOk.out else HJ.out q (by omega), HB9.out⟩
                case measure => simp [intOf]; omega
          · have hRb : (((atp ps j).rounds.length : Int) != 2 * (k : Int)) = false := by rw [bne_eq_false_iff_eq]; omega
            have hLb : (((atp ps j).line.length : Int) != (k : Int) + 1) = true := by rw [bne_iff_ne]; omega
            have HN := Lib.hid (show ¬ ShapedI c ps from fun h => hL (by rw [← Hkk.out]; exact (h.2 j hz).l))
            clear hR hL
            go_wp2
            go_ret
            exact ⟨ret_b (shapeB_no HN.out).symm, Hb9.out⟩
        · have hRb : (((atp ps j).rounds.length : Int) != 2 * (k : Int)) = true := by rw [bne_iff_ne]; omega
          have HN := Lib.hid (show ¬ ShapedI c ps from fun h => hR (by rw [← Hkk.out]; exact (h.2 j hz).n))
          clear hR
          go_wp2
          go_ret
          exact ⟨ret_b (shapeB_no HN.out).symm, Hb9.out⟩
      · obtain rfl : j = ps.length := by omega
        have HY := Lib.hid (show ShapedI c ps from ⟨Hlen.out, HJ.out⟩)
        go_wp2
        go_ret
        exact ⟨ret_b (shapeB_yes HY.out).symm, Hbr.out⟩
  · have hlb : ((ps.length : Int) != (c.layers.length : Int)) = true := by rw [bne_iff_ne]; omega
    have HN := Lib.hid (show ¬ ShapedI c ps from fun h => hlen h.1)
    clear hlen
    go_enter Tryd.func24, Tryd.ntmps24
    go_wp2
    go_ret
    exact ⟨ret_b (shapeB_no HN.out).symm, ((Below.refl _ _).alloc (Nat.le_refl _) _).alloc (by simp) _⟩
end Go.Proofs.YtnleihjdllpniaaDoor
