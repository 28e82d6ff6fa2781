/- Several texts in one: GkrForm, GkrVer, GkrVerW, GkrRight. What each says, and its conditions, stands at its head. -/
import Derived.Test.YtlfneeobnihocaaGreatDoorGkrHolds
import Derived.Test.YtlfneeobnihocaaGreatDoorKeepM
/- The walk of gkr's Form: is a proof as it must be? The circuit is right; the proof is a value that reads as data. -/
namespace Go.Proofs.YtlfneeobnihocaaGreatDoor
set_option maxRecDepth 100000
set_option linter.unusedVariables false
open Go.RowKit Tally
/-- a proof as it must be, for a circuit -/
def ShapedI (c : Ci) (ps : List Pi) : Prop := ps.length = c.layers.length ∧ ∀ j, j < ps.length → PiOk (atp ps j) (belowLog c (c.layers.length - 1 - j)).toNat
open Classical in
/-- what Form answers of a right circuit -/
noncomputable def shapeE (c : Ci) (ps : List Pi) : Int := if ShapedI c ps then 0 else 4
theorem shapeE_yes {c : Ci} {ps : List Pi} (h : ShapedI c ps) : shapeE c ps = 0 := by unfold shapeE; rw [if_pos h]
theorem shapeE_no {c : Ci} {ps : List Pi} (h : ¬ ShapedI c ps) : shapeE c ps = 4 := by unfold shapeE; rw [if_neg h]
theorem two_blocks' (w : World) (cs1 cs2 : Array Value) (t1 t2 : Nat) : ∃ W tb, (w.alloc (.cells cs1 t1)).alloc (.cells cs2 t2) = W ∧ tb = w.heap.size ∧ W.heap[tb]? = some (.cells cs1 t1 (0, 0)) ∧ W.heap[tb + 1]? = some (.cells cs2 t2 (0, 0)) ∧ W.heap.size = tb + 2 ∧ Below w.heap.size w W := by
  obtain ⟨W, h1, h2, h3, h4, h5⟩ := two_blocks w cs1 cs2 t1 t2
  exact ⟨W, _, h1, rfl, h2, h3, h4, h5⟩
set_option maxRecDepth 100000 in
set_option maxHeartbeats 8000000 in
theorem gkr_Form (v : Value) (c : Ci) (vp : Value) (ps : List Pi) (w : World) (h : IsC w v c) (hc0 : checkC c = 0) (hp : IsP w vp ps) :
    Calls Tryz.prog 165 #[v, vp] w fun e w' => e = .returned (.int .i64 (shapeE c ps)) ∧ Below w.heap.size w w' := by
  have hG := good_of_check hc0
  have HC := Lib.hid h; have HG := Lib.hid hG; have Hp := Lib.hid hp; have Hc0 := Lib.hid hc0
  have h4 := hG.n4; have h1 := hG.n1
  obtain ⟨ac, cc, rfl⟩ := h.shape
  obtain ⟨vs, rfl, hps⟩ := hp
  obtain ⟨_, aP, cP, rfl, hpr⟩ := hps
  have Hpr := Lib.hid hpr
  clear h hG hc0 hpr
  go_enter Tryz.func165, Tryz.ntmps165
  go_wp2_with (fail)
  obtain ⟨W, tb, hW, htb, hb1, hb2, s1, B1⟩ := two_blocks' w #[.int .i64 c.log, .slice ac c.layers.length cc] #[.slice aP ps.length cP] 62 93
  rw [hW, ← htb]
  have H1 := Lib.hid B1; have Htb := Lib.hid htb
  have Hb1 := Lib.hid hb1; have Hb2 := Lib.hid hb2
  clear hW hb1 hb2 B1 htb s1
  refine (c_Check _ c _ (HC.out.go H1.out)).mono ?_
  rintro e w2 ⟨rfl, bw2⟩
  rw [Hc0.out]
  have Bw2 := Lib.hid bw2
  have H2 := Lib.hid (below_two H1.out bw2)
  have hbt := (bw2.block tb (blk_lt Hb1.out)).trans Hb1.out
  have hbp := (bw2.block (tb + 1) (blk_lt Hb2.out)).trans Hb2.out
  have Hbt := Lib.hid hbt; have Hbp := Lib.hid hbp
  have r1 : w2.cell? ⟨tb, 1, none⟩ = some _ := cell_blk hbt 1
  have r2 : w2.cell? ⟨tb + 1, 0, none⟩ = some _ := cell_blk hbp 0
  clear bw2 hbt hbp
  by_cases hlen : ps.length = c.layers.length
  · have hlb : ((ps.length : Int) != (c.layers.length : Int)) = false := by simp [hlen]
    have Hlen := Lib.hid hlen
    have hP4 : ps.length ≤ 4 := by omega
    have hPL : (ps.length : Int) ≤ (c.layers.length : Int) := by omega
    have hLP : (c.layers.length : Int) ≤ (ps.length : Int) := by omega
    clear hlen
    go_wp2_with (fail)
    clear r1 r2
    go_loopw [26] (fun i wr => ∃ j : Nat, j ≤ ps.length ∧ i = .int .i64 (j : Int) ∧ Hid (∀ q, q < j → PiOk (atp ps q) (belowLog c (c.layers.length - 1 - q)).toNat) ∧ Hid (Below w2.heap.size w2 wr)) (fun i _ => ps.length - (intOf i).toNat)
    case atStart => exact ⟨0, by omega, rfl, fun q hq => absurd hq (by omega), Below.refl _ _⟩
    case round =>
      obtain ⟨j, hj, rfl, HJ, HB⟩ := hrel
      have hbt := (HB.out.block tb (blk_lt Hbt.out)).trans Hbt.out
      have hbp := (HB.out.block (tb + 1) (blk_lt Hbp.out)).trans Hbp.out
      have r0 : wr.cell? ⟨tb, 0, none⟩ = some _ := cell_blk hbt 0
      have r1 : wr.cell? ⟨tb, 1, none⟩ = some _ := cell_blk hbt 1
      have ltb := blk_lt hbt
      have Hbr := Lib.hid (H2.out.trans (HB.out.mono H2.out.size))
      clear hbt hbp
      by_cases hz : j < ps.length
      · obtain ⟨b, off, rfl, hblt, hcell⟩ := Hpr.out (by omega)
        obtain ⟨u, u2, c0, c1, hu, hu2⟩ := hcell j hz
        obtain ⟨_, aR, cR, rfl, hrr⟩ := hu
        obtain ⟨_, _, aL, cL, rfl, -⟩ := hu2
        have Hrr := Lib.hid hrr
        have q0 := (Hbr.out.cell (p := ⟨b, off + j * 2, none⟩) hblt).trans c0
        have q1 := (Hbr.out.cell (p := ⟨b, off + j * 2 + 1, none⟩) hblt).trans c1
        have hs1 : (c.layers.length : Int) - 1 - (j : Int) = ((c.layers.length - 1 - j : Nat) : Int) := by omega
        have hji : (j : Int) < (ps.length : Int) := by omega
        have HPi := Lib.hid (show ∀ P : Prop, (P ↔ PiOk (atp ps j) (belowLog c (c.layers.length - 1 - j)).toNat) → True from fun _ _ => trivial)
        clear c0 c1 hcell hrr
        go_wp2_with (fail)
        obtain ⟨W8, hW8, d0, d1, B8, s8⟩ := copied2' wr (.slice aR (atp ps j).rounds.length cR) (.slice aL (atp ps j).line.length cL) 143
        rw [hW8]
        have lg : wr.heap.size < W8.heap.size := by omega
        have HB8 := Lib.hid B8
        have D0 := Lib.hid d0; have D1 := Lib.hid d1
        clear hW8 s8 B8 d0 d1 q0 q1 r0 r1 HPi
        refine (wiring_Below _ c (c.layers.length - 1 - j) _ (HC.out.go (below_two Hbr.out HB8.out)) (by omega) h4).mono ?_
        rintro e w9 ⟨rfl, hb9⟩
        have k0 := HG.out.below0 (k := c.layers.length - 1 - j) (by omega)
        have k4 := HG.out.below4 (k := c.layers.length - 1 - j) (by omega)
        obtain ⟨k, hk⟩ : ∃ k : Nat, belowLog c (c.layers.length - 1 - j) = (k : Int) := ⟨(belowLog c (c.layers.length - 1 - j)).toNat, by omega⟩
        rw [hk] at k0 k4 ⊢
        have Hkk := Lib.hid (show (belowLog c (c.layers.length - 1 - j)).toNat = k by rw [hk]; simp)
        have hk4 : k ≤ 4 := by omega
        have HB9 := Lib.hid (below_two (below_two HB.out HB8.out) hb9)
        have d0 := (hb9.cell (p := ⟨wr.heap.size, 0, none⟩) lg).trans D0.out
        have d1 := (hb9.cell (p := ⟨wr.heap.size, 1, none⟩) lg).trans D1.out
        have lg9 : wr.heap.size < w9.heap.size := by have := hb9.size; omega
        have Hb9 := Lib.hid hb9
        have Hb89 := Lib.hid (Hbr.out.trans ((below_two HB8.out hb9).mono Hbr.out.size))
        obtain ⟨gb, hgb⟩ : ∃ gb, gb = wr.heap.size := ⟨_, rfl⟩
        rw [← hgb] at d0 d1 lg9 ⊢
        clear hk k0 k4 hb9 hs1 hgb
        by_cases hR : (atp ps j).rounds.length = 2 * k
        · by_cases hL : (atp ps j).line.length = k + 1
          · have hRb : (((atp ps j).rounds.length : Int) != 2 * (k : Int)) = false := by rw [bne_eq_false_iff_eq]; omega
            have hLb : (((atp ps j).line.length : Int) != (k : Int) + 1) = false := by rw [bne_eq_false_iff_eq]; omega
            have HR := Lib.hid hR; have HL := Lib.hid hL
            have hRk : (atp ps j).rounds.length ≤ 8 := by omega
            clear hR hL
            go_wp2_with (fail)
            clear d1 hRb hLb
            go_loopw [56] (fun i wr => ∃ q : Nat, q ≤ (atp ps j).rounds.length ∧ i = .int .i64 (q : Int) ∧ Hid (∀ p, p < q → (atl (atp ps j).rounds p).length = 3) ∧ Hid (wr = w9)) (fun i _ => (atp ps j).rounds.length - (intOf i).toNat)
            case atStart => exact ⟨0, by omega, rfl, fun q hq => absurd hq (by omega), rfl⟩
            case round =>
              rename_i wq
              obtain ⟨q, hq, rfl, HQ, HE⟩ := hrel
              have e9 := HE.out
              subst e9
              have HEE := HE
              clear HE
              by_cases hz2 : q < (atp ps j).rounds.length
              · obtain ⟨br, or, rfl, hbrlt, hrc⟩ := Hrr.out (by omega)
                obtain ⟨u, cu, ru⟩ := hrc q hz2
                obtain ⟨_, hul, au, cau, rfl, -⟩ := ru
                have qq := (Hb89.out.cell (p := ⟨br, or + q, none⟩) hbrlt).trans cu
                have hqi : (q : Int) < ((atp ps j).rounds.length : Int) := by omega
                clear hrc cu
                by_cases h3 : (atl (atp ps j).rounds q).length = 3
                · have h3b : (((atl (atp ps j).rounds q).length : Int) != 3) = false := by rw [bne_eq_false_iff_eq]; omega
                  have H3 := Lib.hid h3
                  clear h3
                  go_wp2
                  go_roundw
                  case rel => exact ⟨q + 1, by omega, by go_num, fun p hp => if e : p = q then by subst e; exact H3.out else HQ.out p (by omega), trivial⟩
                  case measure => simp [intOf]; omega
                · have h3b : (((atl (atp ps j).rounds q).length : Int) != 3) = true := by rw [bne_iff_ne]; omega
                  have HN := Lib.hid (show ¬ ShapedI c ps from fun h => h3 ((h.2 j hz).r q (by rw [Hkk.out, ← HR.out]; exact hz2)))
                  clear h3
                  go_wp2
                  go_ret
                  exact ⟨ret_i64 (shapeE_no HN.out).symm, H2.out.trans (HB9.out.mono H2.out.size)⟩
              · obtain rfl : q = (atp ps j).rounds.length := by omega
                have HOk := Lib.hid (show PiOk (atp ps j) (belowLog c (c.layers.length - 1 - j)).toNat by
                  rw [Hkk.out]; exact ⟨HR.out, fun p hp => HQ.out p (by rw [HR.out]; exact hp), HL.out⟩)
                go_wp2
                go_roundw
                case rel => exact ⟨j + 1, by omega, by go_num, fun q hq => if e : q = j then by subst e; exact HOk.out else HJ.out q (by omega), HB9.out⟩
                case measure => simp [intOf]; omega
          · have hRb : (((atp ps j).rounds.length : Int) != 2 * (k : Int)) = false := by rw [bne_eq_false_iff_eq]; omega
            have hLb : (((atp ps j).line.length : Int) != (k : Int) + 1) = true := by rw [bne_iff_ne]; omega
            have HN := Lib.hid (show ¬ ShapedI c ps from fun h => hL (by rw [← Hkk.out]; exact (h.2 j hz).l))
            clear hR hL
            go_wp2
            go_ret
            exact ⟨ret_i64 (shapeE_no HN.out).symm, H2.out.trans (HB9.out.mono H2.out.size)⟩
        · have hRb : (((atp ps j).rounds.length : Int) != 2 * (k : Int)) = true := by rw [bne_iff_ne]; omega
          have HN := Lib.hid (show ¬ ShapedI c ps from fun h => hR (by rw [← Hkk.out]; exact (h.2 j hz).n))
          clear hR
          go_wp2
          go_ret
          exact ⟨ret_i64 (shapeE_no HN.out).symm, H2.out.trans (HB9.out.mono H2.out.size)⟩
      · obtain rfl : j = ps.length := by omega
        have HY := Lib.hid (show ShapedI c ps from ⟨Hlen.out, HJ.out⟩)
        go_wp2
        go_ret
        exact ⟨ret_i64 (shapeE_yes HY.out).symm, Hbr.out⟩
  · have hlb : ((ps.length : Int) != (c.layers.length : Int)) = true := by rw [bne_iff_ne]; omega
    have HN := Lib.hid (show ¬ ShapedI c ps from fun h => hlen h.1)
    clear hlen
    go_wp2
    go_ret
    exact ⟨ret_i64 (shapeE_no HN.out).symm, H2.out⟩
end Go.Proofs.YtlfneeobnihocaaGreatDoor
/- The walks of gkr's form and Verify. The table of bits lies as its initialiser lays it; the circuit and the proof are values that read as data, the lists are slices of 64-bit numbers. -/
namespace Go.Proofs.YtlfneeobnihocaaGreatDoor
set_option maxRecDepth 100000
set_option linter.unusedVariables false
open Go.RowKit Tally
open Classical in
/-- what Verify's error is, of a right circuit -/
noncomputable def verE (c : Ci) (inp out : List Int) (ps : List Pi) (d : List Int) : Int := if inp.length = 2 ^ c.log.toNat ∧ out.length = 2 ^ (belowLog c c.layers.length).toNat then (if ShapedI c ps then (if d.length = drawsN c then 0 else 1) else 4) else 4
theorem verE_size {c : Ci} {inp out : List Int} {ps : List Pi} {d : List Int} (h : ¬ (inp.length = 2 ^ c.log.toNat ∧ out.length = 2 ^ (belowLog c c.layers.length).toNat)) : verE c inp out ps d = 4 := by unfold verE; rw [if_neg h]
theorem verE_form {c : Ci} {inp out : List Int} {ps : List Pi} {d : List Int} (h1 : inp.length = 2 ^ c.log.toNat) (h2 : out.length = 2 ^ (belowLog c c.layers.length).toNat) (h : ¬ ShapedI c ps) : verE c inp out ps d = 4 := by unfold verE; rw [if_pos ⟨h1, h2⟩, if_neg h]
theorem verE_arg {c : Ci} {inp out : List Int} {ps : List Pi} {d : List Int} (h1 : inp.length = 2 ^ c.log.toNat) (h2 : out.length = 2 ^ (belowLog c c.layers.length).toNat) (h : ShapedI c ps) (h3 : ¬ d.length = drawsN c) : verE c inp out ps d = 1 := by unfold verE; rw [if_pos ⟨h1, h2⟩, if_pos h, if_neg h3]
theorem verE_ok {c : Ci} {inp out : List Int} {ps : List Pi} {d : List Int} (h1 : inp.length = 2 ^ c.log.toNat) (h2 : out.length = 2 ^ (belowLog c c.layers.length).toNat) (h : ShapedI c ps) (h3 : d.length = drawsN c) : verE c inp out ps d = 0 := by unfold verE; rw [if_pos ⟨h1, h2⟩, if_pos h, if_pos h3]
theorem neqb {a b : Nat} {P : Int} (hP : P = (b : Int)) (h : a = b) : ((a : Int) != P) = false := by rw [hP, h]; simp
theorem neqt {a b : Nat} {P : Int} (hP : P = (b : Int)) (h : ¬ a = b) : ((a : Int) != P) = true := by rw [hP, bne_iff_ne]; exact fun e => h (Int.ofNat_inj.mp e)
set_option maxRecDepth 100000 in
set_option maxHeartbeats 8000000 in
theorem gkr_form (v : Value) (c : Ci) (vi vo vp vd : Value) (inp out : List Int) (ps : List Pi) (d : List Int) (w : World) (h : IsC w v c) (hc0 : checkC c = 0) (hi : RowU w vi inp) (ho : RowU w vo out) (hp : IsP w vp ps) (hd : RowU w vd d) :
    Calls Tryz.prog 147 #[v, vi, vo, vp, vd] w fun e w' => e = .returned (.int .i64 (verE c inp out ps d)) ∧ Below w.heap.size w w' := by
  have hG := good_of_check hc0
  have HC := Lib.hid h; have HG := Lib.hid hG; have Hp := Lib.hid hp; have Hc0 := Lib.hid hc0
  obtain ⟨ac, cc, rfl⟩ := h.shape
  obtain ⟨vs, rfl, hps⟩ := hp
  obtain ⟨_, aP, cP, rfl, -⟩ := hps
  obtain ⟨_, hi2, ai, ci, rfl, -⟩ := hi
  obtain ⟨_, ho2, ao, co, rfl, -⟩ := ho
  obtain ⟨_, hd2, ad, cd, rfl, -⟩ := hd
  have hl0 := hG.log0; have hl4 := hG.log4
  have ht0 := hG.below0 (k := c.layers.length) (Nat.le_refl _)
  have ht4 := hG.below4 (k := c.layers.length) (Nat.le_refl _)
  obtain ⟨T, hTop⟩ : ∃ T : Nat, belowLog c c.layers.length = (T : Int) := ⟨(belowLog c c.layers.length).toNat, by omega⟩
  have HTop := Lib.hid hTop
  have hT4 : T ≤ 4 := by omega
  have HT2 := Lib.hid (show (belowLog c c.layers.length).toNat = T by rw [hTop]; simp)
  have Hw := Lib.hid (wrap4 hl4)
  have HwT := Lib.hid (pow_wrap8 (n := T) (by omega))
  have hD40 := drawsN_le hG
  clear h hG hc0 hTop ht0 ht4
  obtain ⟨DN, hDN⟩ : ∃ DN, DN = drawsN c := ⟨_, rfl⟩
  rw [← hDN] at hD40
  have HDN := Lib.hid hDN
  clear hDN
  go_enter Tryz.func147, Tryz.ntmps147
  go_wp2_with (fail)
  obtain ⟨W, tb, hW, htb, hb1, hb2, s1, B1⟩ := two_blocks' w #[.int .i64 c.log, .slice ac c.layers.length cc] #[.slice aP ps.length cP] 62 93
  rw [hW, ← htb]
  have H1 := Lib.hid B1
  have Hb1 := Lib.hid hb1; have Hb2 := Lib.hid hb2
  clear hW hb1 hb2 B1 htb s1
  refine (c_Check _ c _ (HC.out.go H1.out)).mono ?_
  rintro e w2 ⟨rfl, bw2⟩
  rw [Hc0.out]
  have H2 := Lib.hid (below_two H1.out bw2)
  have hbt := (bw2.block tb (blk_lt Hb1.out)).trans Hb1.out
  have hbp := (bw2.block (tb + 1) (blk_lt Hb2.out)).trans Hb2.out
  have Hbt := Lib.hid hbt; have Hbp := Lib.hid hbp
  have r0 : w2.cell? ⟨tb, 0, none⟩ = some _ := cell_blk hbt 0
  have r1 : w2.cell? ⟨tb, 1, none⟩ = some _ := cell_blk hbt 1
  clear bw2 hbt hbp
  obtain ⟨P, hP⟩ : ∃ P, wrap64 (2 ^ c.log.toNat) = P := ⟨_, rfl⟩
  have HP := Lib.hid (show P = ((2 ^ c.log.toNat : Nat) : Int) by rw [← hP]; exact Hw.out)
  by_cases h1 : inp.length = 2 ^ c.log.toNat
  · have hb := neqb HP.out h1
    have H1' := Lib.hid h1
    clear h1
    go_wp2_with (fail)
    refine (gkr_top _ c _ (HC.out.go H2.out) HG.out).mono ?_
    rintro e w3 ⟨rfl, bw3⟩
    rw [HTop.out]
    have H3 := Lib.hid (below_two H2.out bw3)
    have hbt := (bw3.block tb (blk_lt Hbt.out)).trans Hbt.out
    have hbp := (bw3.block (tb + 1) (blk_lt Hbp.out)).trans Hbp.out
    have Hbt3 := Lib.hid hbt; have Hbp3 := Lib.hid hbp
    clear r0 r1
    have r0 : w3.cell? ⟨tb, 0, none⟩ = some _ := cell_blk hbt 0
    have r1 : w3.cell? ⟨tb, 1, none⟩ = some _ := cell_blk hbt 1
    have r2 : w3.cell? ⟨tb + 1, 0, none⟩ = some _ := cell_blk hbp 0
    clear bw3 hbt hbp
    obtain ⟨PT, hPT⟩ : ∃ PT, wrap64 (2 ^ T) = PT := ⟨_, rfl⟩
    have HPT := Lib.hid (show PT = ((2 ^ T : Nat) : Int) by rw [← hPT]; exact HwT.out)
    by_cases h2 : out.length = 2 ^ T
    · have hb2 := neqb HPT.out h2
      have H2' := Lib.hid (show out.length = 2 ^ (belowLog c c.layers.length).toNat by rw [HT2.out]; exact h2)
      clear h2
      go_wp2_with (fail)
      refine (gkr_Form _ c _ ps _ (HC.out.go H3.out) Hc0.out (Hp.out.go H3.out)).mono ?_
      rintro e w4 ⟨rfl, bw4⟩
      have H4 := Lib.hid (below_two H3.out bw4)
      have hbt := (bw4.block tb (blk_lt Hbt3.out)).trans Hbt3.out
      clear r0 r1 r2
      have r0 : w4.cell? ⟨tb, 0, none⟩ = some _ := cell_blk hbt 0
      have r1 : w4.cell? ⟨tb, 1, none⟩ = some _ := cell_blk hbt 1
      clear bw4 hbt
      by_cases hS : ShapedI c ps
      · rw [shapeE_yes hS]
        have HS := Lib.hid hS
        clear hS
        go_wp2_with (fail)
        refine (gkr_draws _ c _ (HC.out.go H4.out) HG.out).mono ?_
        rintro e w5 ⟨rfl, bw5⟩
        rw [← HDN.out]
        have H5 := Lib.hid (below_two H4.out bw5)
        clear bw5
        by_cases hdl : d.length = DN
        · have hb3 := neqb (P := (DN : Int)) rfl hdl
          have HV := Lib.hid (verE_ok H1'.out H2'.out HS.out (hdl.trans HDN.out))
          clear hdl
          go_wp2
          go_ret
          exact ⟨ret_i64 HV.out.symm, H5.out⟩
        · have hb3 := neqt (P := (DN : Int)) rfl hdl
          have HV := Lib.hid (verE_arg H1'.out H2'.out HS.out (fun e => hdl (e.trans HDN.out.symm)))
          clear hdl
          go_wp2
          go_ret
          exact ⟨ret_i64 HV.out.symm, H5.out⟩
      · rw [shapeE_no hS]
        have HV := Lib.hid (verE_form (d := d) H1'.out H2'.out hS)
        clear hS
        go_wp2
        go_ret
        exact ⟨ret_i64 HV.out.symm, H4.out⟩
    · have hb2 := neqt HPT.out h2
      have HV := Lib.hid (verE_size (c := c) (inp := inp) (out := out) (ps := ps) (d := d) fun e => h2 (by rw [← HT2.out]; exact e.2))
      clear h2
      go_wp2
      go_ret
      exact ⟨ret_i64 HV.out.symm, H3.out⟩
  · have hb := neqt HP.out h1
    have HV := Lib.hid (verE_size (c := c) (inp := inp) (out := out) (ps := ps) (d := d) fun e => h1 e.1)
    clear h1
    go_wp2
    go_ret
    exact ⟨ret_i64 HV.out.symm, H2.out⟩
end Go.Proofs.YtlfneeobnihocaaGreatDoor
/- The walk of gkr's Verify. The table of bits lies as its initialiser lays it; the circuit and the proof are values that read as data, the lists are slices of 64-bit numbers. -/
namespace Go.Proofs.YtlfneeobnihocaaGreatDoor
set_option maxRecDepth 100000
set_option linter.unusedVariables false
open Go.RowKit Tally
/-- does a proof hold? -/
def verO (inp : List F) (o : Option (F × List F)) : Bool := match o with
  | none => false
  | some (cl, z) => psi (evalF inp z) == psi cl
def verB (c : Ci) (inp out : List Int) (ps : List Pi) (d : List Int) : Bool := verO (inp.map phi) (holdsFrom c c.layers.length ((d.map phi).take (belowLog c c.layers.length).toNat) (evalF (out.map phi) ((d.map phi).take (belowLog c c.layers.length).toNat)) (ps.map Pi.toF) ((d.map phi).drop (belowLog c c.layers.length).toNat))
theorem atp_drop {ps : List Pi} {j : Nat} (h : j < ps.length) : ps.drop j = atp ps j :: ps.drop (j + 1) := by
  rw [List.drop_eq_getElem_cons h]; simp [atp, List.getElem?_eq_getElem h]
theorem holdsFrom_no {c : Ci} {q k : Nat} {z d : List F} {cl : F} {P : Pi} {ps : List Pi} {OO : Option (F × List F)} (hk : (belowLog c q).toNat = k) (h : holdsFrom c (q + 1) z cl ((P :: ps).map Pi.toF) d = OO) (hn : holdsF (aty c.layers q).gates z cl k P.toF d = none) : OO = none := by
  rw [← h]
  show (match holdsF _ _ _ _ _ _ with | none => none | some cl' => holdsFrom c q _ cl' _ _) = none
  rw [hk, hn]
theorem holdsFrom_yes {c : Ci} {q k : Nat} {z d : List F} {cl x : F} {P : Pi} {ps : List Pi} {OO : Option (F × List F)} (hk : (belowLog c q).toNat = k) (h : holdsFrom c (q + 1) z cl ((P :: ps).map Pi.toF) d = OO) (hn : holdsF (aty c.layers q).gates z cl k P.toF d = some x) :
    holdsFrom c q (nextZ k d) x (ps.map Pi.toF) (d.drop (2 * k + 1)) = OO := by
  rw [← h]
  show _ = (match holdsF _ _ _ _ _ _ with | none => none | some cl' => holdsFrom c q _ cl' _ _)
  rw [hk, hn]
theorem holdsF_cut {gs : List Gt} {z : List F} {cl : F} {k n : Nat} {P : Pt} {d : List F} (h : 2 * k < n) : holdsF gs z cl k P (d.take n) = holdsF gs z cl k P d := by
  unfold holdsF
  rw [List.take_take, Nat.min_eq_left (by omega), List.take_take, Nat.min_eq_left (by omega), List.drop_take, List.take_take, Nat.min_eq_left (by omega)]
  have : atF (d.take n) (2 * k) = atF d (2 * k) := by simp [atF, h]
  rw [this]
theorem ret_b2 {a b : Bool} {n : Int} (h : a = b) : Ending.returned (.tuple #[.bool a, .int .i64 n]) = .returned (.tuple #[.bool b, .int .i64 n]) := by rw [h]
set_option maxRecDepth 100000 in
set_option maxHeartbeats 8000000 in
theorem gkr_Verify (v : Value) (c : Ci) (vi vo vp vd : Value) (inp out : List Int) (ps : List Pi) (d : List Int) (w : World) (hT : Tab w) (h : IsC w v c) (hc0 : checkC c = 0) (hi : RowU w vi inp) (ho : RowU w vo out) (hp : IsP w vp ps) (hd : RowU w vd d) (hcd : CapOk vd)
    (hil : inp.length = 2 ^ c.log.toNat) (hol : out.length = 2 ^ (belowLog c c.layers.length).toNat) (hS : ShapedI c ps) (hdl : d.length = drawsN c) :
    Calls Tryz.prog 106 #[v, vi, vo, vp, vd] w fun e w' => e = .returned (.tuple #[.bool (verB c inp out ps d), .int .i64 0]) ∧ Below w.heap.size w w' := by
  have hG := good_of_check hc0
  have HT := Lib.hid hT; have HC := Lib.hid h; have HG := Lib.hid hG; have Hp := Lib.hid hp; have Hc0 := Lib.hid hc0; have Hi := Lib.hid hi; have Ho := Lib.hid ho; have Hd := Lib.hid hd
  have Hil := Lib.hid hil; have Hol := Lib.hid hol; have HS := Lib.hid hS; have Hdl := Lib.hid hdl
  have hps1 := hS.1
  have HpsL := Lib.hid hps1
  obtain ⟨ac, cc, rfl⟩ := h.shape
  obtain ⟨vs, rfl, hps⟩ := hp
  obtain ⟨_, aP, cP, rfl, hpr⟩ := hps
  obtain ⟨bP, oP, rfl, hPlt, hPc⟩ := hpr (by rw [hps1]; exact hG.n1)
  have HPc := Lib.hid hPc
  obtain ⟨ud, _, ad, cd, rfl, hdr⟩ := hd
  obtain ⟨hdc, hdm⟩ := hcd _ _ _ rfl
  have Ud := Lib.hid ud
  have h4 := hG.n4; have h1 := hG.n1
  have hD40 := drawsN_le hG
  have ht0 := hG.below0 (k := c.layers.length) (Nat.le_refl _)
  have ht4 := hG.below4 (k := c.layers.length) (Nat.le_refl _)
  obtain ⟨T, hTop⟩ : ∃ T : Nat, belowLog c c.layers.length = (T : Int) := ⟨(belowLog c c.layers.length).toNat, by omega⟩
  have HTop := Lib.hid hTop
  have HT2 := Lib.hid (show (belowLog c c.layers.length).toNat = T by rw [hTop]; simp)
  have HD := Lib.hid (show drawsN c = T + needFrom c c.layers.length by unfold drawsN; rw [hTop]; rfl)
  have Hnd := Lib.hid (show 1 ≤ needFrom c c.layers.length by
    obtain ⟨m, hm⟩ : ∃ m, c.layers.length = m + 1 := ⟨c.layers.length - 1, by omega⟩
    rw [hm]; show 1 ≤ 2 * _ + 1 + _; omega)
  obtain ⟨bd, od, rfl, hdlt, hdcell⟩ := hdr (by rw [hdl, HD.out]; have := Hnd.out; omega)
  have Hdc := Lib.hid hdcell
  rw [hdl] at hdc Hd ⊢
  have hT4 : T ≤ 4 := by omega
  obtain ⟨OO, hOO⟩ : ∃ OO, OO = holdsFrom c c.layers.length ((d.map phi).take T) (evalF (out.map phi) ((d.map phi).take T)) (ps.map Pi.toF) ((d.map phi).drop T) := ⟨_, rfl⟩
  obtain ⟨BB, hBB⟩ : ∃ BB, BB = verB c inp out ps d := ⟨_, rfl⟩
  rw [← hBB]
  have HBB := Lib.hid (show BB = verO (inp.map phi) OO by rw [hBB, hOO]; unfold verB; rw [HT2.out])
  have HOO := Lib.hid hOO
  rw [hps1]
  have Hp' := Lib.hid (show IsP w (.agg #[.slice (some ⟨bP, oP, none⟩) c.layers.length cP]) ps by rw [← hps1]; exact Hp.out)
  clear hT h hG hi ho hcd hil hol hS hdl hdr hdcell ud hc0 hTop ht0 ht4 hpr hPc hOO hBB Hp hps1
  obtain ⟨DN, hDN⟩ : ∃ DN, DN = drawsN c := ⟨_, rfl⟩
  rw [← hDN] at hdc hD40 Hd ⊢
  have HDN := Lib.hid hDN
  have hTD : T < DN := by rw [hDN, HD.out]; have := Hnd.out; omega
  clear hDN
  go_enter Tryz.func106, Tryz.ntmps106
  go_wp2_with (fail)
  obtain ⟨W, tb, hW, htb, hb1, hb2, s1, B1⟩ := two_blocks' w #[.int .i64 c.log, .slice ac c.layers.length cc] #[.slice (some ⟨bP, oP, none⟩) c.layers.length cP] 62 93
  rw [hW, ← htb]
  have H1 := Lib.hid B1
  have Hb1 := Lib.hid hb1; have Hb2 := Lib.hid hb2
  clear hW hb1 hb2 B1 htb s1
  refine (gkr_form _ c _ _ _ _ inp out ps d _ (HC.out.go H1.out) Hc0.out (Hi.out.go H1.out) (Ho.out.go H1.out) (Hp'.out.go H1.out) (Hd.out.go H1.out)).mono ?_
  rintro e w2 ⟨rfl, bw2⟩
  rw [verE_ok Hil.out Hol.out HS.out Hdl.out]
  have H2 := Lib.hid (below_two H1.out bw2)
  have hbt := (bw2.block tb (blk_lt Hb1.out)).trans Hb1.out
  have hbp := (bw2.block (tb + 1) (blk_lt Hb2.out)).trans Hb2.out
  have Hbt := Lib.hid hbt; have Hbp := Lib.hid hbp
  have r0 : w2.cell? ⟨tb, 0, none⟩ = some _ := cell_blk hbt 0
  have r1 : w2.cell? ⟨tb, 1, none⟩ = some _ := cell_blk hbt 1
  clear bw2 hbt hbp
  go_wp2_with (fail)
  refine (gkr_top _ c _ (HC.out.go H2.out) HG.out).mono ?_
  rintro e w3 ⟨rfl, bw3⟩
  rw [HTop.out]
  have H3 := Lib.hid (below_two H2.out bw3)
  have hbt := (bw3.block tb (blk_lt Hbt.out)).trans Hbt.out
  have Hbt3 := Lib.hid hbt; have Hbp3 := Lib.hid ((bw3.block (tb + 1) (blk_lt Hbp.out)).trans Hbp.out)
  clear r0 r1
  have r0 : w3.cell? ⟨tb, 0, none⟩ = some _ := cell_blk hbt 0
  have r1 : w3.cell? ⟨tb, 1, none⟩ = some _ := cell_blk hbt 1
  clear bw3 hbt
  go_wp2_with (fail)
  refine (gkr_top _ c _ (HC.out.go H3.out) HG.out).mono ?_
  rintro e w4 ⟨rfl, bw4⟩
  rw [HTop.out]
  have H4 := Lib.hid (below_two H3.out bw4)
  have Hbt4 := Lib.hid ((bw4.block tb (blk_lt Hbt3.out)).trans Hbt3.out); have Hbp4 := Lib.hid ((bw4.block (tb + 1) (blk_lt Hbp3.out)).trans Hbp3.out)
  clear bw4 r0 r1
  have hud : ∀ W, Below w.heap.size w W → ∀ p n cp, p + n ≤ d.length → RowU W (.slice (some ⟨bd, od + p, none⟩) n cp) ((d.drop p).take n) := fun W hB p n cp h => RowU.piece Ud.out (Nat.lt_of_lt_of_le hdlt hB.size) (fun j hj => (hB.cell (p := ⟨bd, od + j, none⟩) hdlt).trans (Hdc.out j hj)) (by rw [Hdl.out, ← HDN.out]; omega) p n h
  have Hud := Lib.hid hud
  have Hz0 := Lib.hid (show RowU w4 (.slice (some ⟨bd, od, none⟩) T cd) (d.take T) from hud w4 H4.out 0 T cd (by rw [Hdl.out, ← HDN.out]; omega))
  have Hzl0 := Lib.hid (show (d.take T).length = T by rw [List.length_take, Hdl.out, ← HDN.out]; omega)
  clear hud
  go_wp2_with (fail)
  refine (mle_Eval out (d.take T) _ _ _ (HT.out.below H4.out) (Ho.out.go H4.out) Hz0.out (by rw [Hol.out, HT2.out, Hzl0.out]) (by rw [Hzl0.out]; omega)).mono ?_
  rintro e w5 ⟨rfl, bw5⟩
  have H5 := Lib.hid (below_two H4.out bw5)
  have Hbt5 := Lib.hid ((bw5.block tb (blk_lt Hbt4.out)).trans Hbt4.out); have Hbp5 := Lib.hid ((bw5.block (tb + 1) (blk_lt Hbp4.out)).trans Hbp4.out)
  have Hz5 := Lib.hid (Hz0.out.go bw5)
  have r2 : w5.cell? ⟨tb + 1, 0, none⟩ = some _ := cell_blk Hbp5.out 0
  obtain ⟨cl0, hcl0⟩ : ∃ cl0, cl0 = evalF (out.map phi) ((d.take T).map phi) := ⟨_, rfl⟩
  rw [← hcl0]
  have HH0 := Lib.hid (show holdsFrom c c.layers.length ((d.take T).map phi) cl0 ((ps.drop 0).map Pi.toF) ((d.drop T).map phi) = OO by rw [HOO.out, hcl0, List.drop_zero, List.map_take, List.map_drop])
  have Hdl0 := Lib.hid (show (d.drop T).length = needFrom c c.layers.length by rw [List.length_drop, Hdl.out, HD.out]; omega)
  have HDN0 := Lib.hid (show DN - T = needFrom c c.layers.length by rw [HDN.out, HD.out]; omega)
  clear bw5 hcl0
  go_wp2_with (fail)
  clear r2
  go_loopw [4, 13, 14, 51] (fun dv zv cv iv wr => ∃ (j m n : Nat) (z dd : List Int) (clF : F) (ad : Option Addr) (cd' : Nat), j + m = c.layers.length ∧ dv = .slice ad n cd' ∧ n ≤ cd' ∧ cd' ≤ 9223372036854775807 ∧ iv = .int .i64 (j : Int) ∧ cv = .int .u64 (psi clF) ∧ Hid (n = needFrom c m) ∧ Hid (RowU wr zv z) ∧ Hid (∃ p, dd = d.drop p ∧ p + n = DN ∧ (0 < n → ad = some ⟨bd, od + p, none⟩)) ∧ Hid (z.length = (belowLog c m).toNat) ∧ Hid (dd.length = n) ∧ Hid (holdsFrom c m (z.map phi) clF ((ps.drop j).map Pi.toF) (dd.map phi) = OO) ∧ Hid (Below w5.heap.size w5 wr)) (fun _ _ _ iv _ => c.layers.length - (intOf iv).toNat)
  case atStart => exact ⟨0, c.layers.length, DN - T, d.take T, d.drop T, cl0, _, _, by omega, rfl, by omega, by omega, rfl, rfl, HDN0.out, Hz5.out, ⟨T, rfl, by omega, fun _ => rfl⟩, by rw [HT2.out]; exact Hzl0.out, by rw [HDN0.out]; exact Hdl0.out, HH0.out, Below.refl _ _⟩
  case round =>
    clear Hz5 Hz0 Hzl0 HH0 Hdl0 HDN0
    obtain ⟨j, m, n, z, dd, clF, ad, cd', hjm, rfl, hn1, hn2, rfl, rfl, Hn, HZ, HDD, HZl, HDl, HH, HB⟩ := hrel
    have hBr := Lib.hid (H5.out.trans (HB.out.mono H5.out.size))
    have hbt := (HB.out.block tb (blk_lt Hbt5.out)).trans Hbt5.out
    have r0 : wr.cell? ⟨tb, 0, none⟩ = some _ := cell_blk hbt 0
    have r1 : wr.cell? ⟨tb, 1, none⟩ = some _ := cell_blk hbt 1
    have ltb := blk_lt hbt
    have Hjm := Lib.hid hjm
    clear hbt
    by_cases hz : j < c.layers.length
    · obtain ⟨q, rfl⟩ : ∃ q, m = q + 1 := ⟨m - 1, by omega⟩
      have hq : q < c.layers.length := by omega
      have hs1 : (c.layers.length : Int) - 1 - (j : Int) = (q : Int) := by omega
      have hji : (j : Int) < (c.layers.length : Int) := by omega
      obtain ⟨u, u2, e0, e1, hu, hu2⟩ := HPc.out j (by rw [HpsL.out]; exact hz)
      have Hu := Lib.hid hu; have Hu2 := Lib.hid hu2
      obtain ⟨_, aR, cR, rfl, -⟩ := hu
      obtain ⟨_, _, aL, cL, rfl, -⟩ := hu2
      have q0 := (hBr.out.cell (p := ⟨bP, oP + j * 2, none⟩) hPlt).trans e0
      have q1 := (hBr.out.cell (p := ⟨bP, oP + j * 2 + 1, none⟩) hPlt).trans e1
      clear e0 e1 hjm
      obtain ⟨nR, hnR⟩ : ∃ nR, nR = (atp ps j).rounds.length := ⟨_, rfl⟩
      obtain ⟨nL, hnL⟩ : ∃ nL, nL = (atp ps j).line.length := ⟨_, rfl⟩
      rw [← hnR] at q0 Hu; rw [← hnL] at q1 Hu2
      clear hnR hnL
      go_wp2_with (fail)
      obtain ⟨W8, hW8, d0, d1, B8, s8⟩ := copied2' wr (.slice aR nR cR) (.slice aL nL cL) 143
      rw [hW8]
      have lg : wr.heap.size < W8.heap.size := by omega
      have HB8 := Lib.hid B8
      have D0 := Lib.hid d0; have D1 := Lib.hid d1
      have R0 := Lib.hid r0; have R1 := Lib.hid r1
      clear hW8 s8 B8 d0 d1 q0 q1 r0 r1
      refine (wiring_Below _ c q _ (HC.out.go (below_two hBr.out HB8.out)) (by omega) h4).mono ?_
      rintro e w9 ⟨rfl, hb9⟩
      have k0 := HG.out.below0 (k := q) (by omega)
      have k4 := HG.out.below4 (k := q) (by omega)
      obtain ⟨k, hk⟩ : ∃ k : Nat, belowLog c q = (k : Int) := ⟨(belowLog c q).toNat, by omega⟩
      rw [hk] at k0 k4 ⊢
      have Hk := Lib.hid hk
      have Hkk := Lib.hid (show (belowLog c q).toNat = k by rw [hk]; simp)
      have hk4 : k ≤ 4 := by omega
      have HB9 := Lib.hid (below_two HB8.out hb9)
      have d0 := (hb9.cell (p := ⟨wr.heap.size, 0, none⟩) lg).trans D0.out
      have d1 := (hb9.cell (p := ⟨wr.heap.size, 1, none⟩) lg).trans D1.out
      have r0 := (HB9.out.cell (p := ⟨tb, 0, none⟩) ltb).trans R0.out
      have r1 := (HB9.out.cell (p := ⟨tb, 1, none⟩) ltb).trans R1.out
      have lg9 : wr.heap.size < w9.heap.size := by have := hb9.size; omega
      have ltb9 : tb < w9.heap.size := by omega
      obtain ⟨gb, hgb⟩ : ∃ gb, gb = wr.heap.size := ⟨_, rfl⟩
      rw [← hgb] at d0 d1 lg9 ⊢
      clear hk k0 k4 hb9 hs1 hgb
      have Hn' := Lib.hid (show n = 2 * k + 1 + needFrom c q by rw [Hn.out]; show 2 * (belowLog c q).toNat + 1 + needFrom c q = _; rw [Hkk.out])
      have hkn : 2 * k + 1 ≤ n := by rw [Hn'.out]; omega
      obtain ⟨p, hdd, hpn, hadd⟩ := HDD.out
      obtain rfl := hadd (by omega)
      have Hdd := Lib.hid hdd; have Hpn := Lib.hid hpn
      have hPo := Lib.hid (show PiOk (atp ps j) k by
        have := HS.out.2 j (by rw [HpsL.out]; exact hz)
        rwa [show c.layers.length - 1 - j = q by have := Hjm.out; omega, Hkk.out] at this)
      have Ch := Lib.hid (fun W (hB : Below w9.heap.size w9 W) => gkr_holds (.agg #[.int .i64 c.log, .slice ac c.layers.length cc]) c q u13 (.slice aR nR cR) (.slice aL nL cL) (.slice (some ⟨bd, od + p, none⟩) (2 * k + 1) cd') z (dd.take (2 * k + 1)) (psi clF) (atp ps j) W
        (HC.out.go (hBr.out.trans ((below_two HB9.out hB).mono hBr.out.size))) Hc0.out hq (HZ.out.go (below_two HB9.out hB)) (U64.psi _) (Hu.out.below (hBr.out.trans ((below_two HB9.out hB).mono hBr.out.size)) (Nat.le_refl _)) (Hu2.out.go (hBr.out.trans ((below_two HB9.out hB).mono hBr.out.size)))
        (by rw [Hdd.out]; exact Hud.out W (hBr.out.trans ((below_two HB9.out hB).mono hBr.out.size)) p (2 * k + 1) cd' (by rw [Hdl.out, ← HDN.out]; have := Hpn.out; omega)) (CapOk.mk (by omega) hn2)
        (by rw [HZl.out, belowLog_succ]; have := HG.out.l0 q hq; omega) k Hk.out hPo.out (by rw [List.length_take, HDl.out]; omega))
      have hk0 : (0 : Int) ≤ 2 * (k : Int) + 1 := by omega
      have hkc : 2 * (k : Int) + 1 ≤ (cd' : Int) := by omega
      have hktn : (2 * (k : Int) + 1).toNat = 2 * k + 1 := by omega
      clear hdd hpn hadd
      go_wp2_with (fail)
      go_region_held3 (fun w' => Below w9.heap.size w9 w' ∧ w'.cell? ⟨tb, 0, none⟩ = some (.int .i64 c.log) ∧ w'.cell? ⟨tb, 1, none⟩ = some (.slice ac c.layers.length cc) ∧ w'.cell? ⟨gb, 0, none⟩ = some (.slice aR nR cR) ∧ w'.cell? ⟨gb, 1, none⟩ = some (.slice aL nL cL))
        (first
          | exact ⟨below_drewN (Below.refl _ _) 1, r0, r1, d0, d1⟩
          | exact ⟨by assumption, by assumption, by assumption, by assumption, by assumption⟩
          | (have hz9 : Below w9.heap.size w9 _ := below_two (below_drewN (Below.refl _ _) 1) hbF; exact ⟨hz9, (hz9.cell (p := ⟨tb, 0, none⟩) ltb9).trans r0, (hz9.cell (p := ⟨tb, 1, none⟩) ltb9).trans r1, (hz9.cell (p := ⟨gb, 0, none⟩) lg9).trans d0, (hz9.cell (p := ⟨gb, 1, none⟩) lg9).trans d1⟩))
        (first
          | (go_at_call 148; (with_reducible refine (Ch.out w9.drew (below_drewN (Below.refl _ _) 1)).mono ?_); rintro e wf ⟨cl', vn, b, rfl, hsay, hbF⟩; have HSay := Lib.hid hsay; clear hsay))
      have HBf := Lib.hid (show Below w9.heap.size w9 wf from below_two (below_drewN (Below.refl _ _) 1) hbF)
      have HBf5 := Lib.hid (show Below w5.heap.size w5 wf from HB.out.trans ((below_two HB9.out HBf.out).mono HB.out.size))
      clear hbF hktn
      have HDl2 := Lib.hid (show holdsF (aty c.layers q).gates (z.map phi) (phi (psi clF)) k (atp ps j).toF ((dd.take (2 * k + 1)).map phi) = holdsF (aty c.layers q).gates (z.map phi) clF k (atp ps j).toF (dd.map phi) by
        rw [phi_psi, List.map_take, holdsF_cut (by omega)])
      have HH2 := Lib.hid (show holdsFrom c (q + 1) (z.map phi) clF ((atp ps j :: ps.drop (j + 1)).map Pi.toF) (dd.map phi) = OO by rw [← atp_drop (by rw [HpsL.out]; exact hz)]; exact HH.out)
      have hs := HSay.out
      rw [HDl2.out] at hs
      have hHo : ∀ o, holdsF (aty c.layers q).gates (z.map phi) clF k (atp ps j).toF (dd.map phi) = o → o = none ∨ ∃ x, o = some x := fun o _ => by cases o <;> simp
      rcases hHo _ rfl with ho | ⟨x, ho⟩
      · rw [ho] at hs
        obtain rfl : b = false := hs.1
        have HN := Lib.hid (show BB = false by rw [HBB.out, holdsFrom_no Hkk.out HH2.out ho]; rfl)
        clear hs ho hHo
        go_wp2
        go_ret2
        exact ⟨ret_b2 HN.out.symm, H5.out.trans (HBf5.out.mono H5.out.size)⟩
      · rw [ho] at hs
        obtain rfl : b = true := hs.1
        obtain ⟨rfl, hn⟩ := hs.2 x rfl
        have Hvn := Lib.hid hn.row
        have HH3 := Lib.hid (holdsFrom_yes Hkk.out HH2.out ho)
        have HNl := Lib.hid (show (nextI k (dd.take (2 * k + 1))).length = (belowLog c q).toNat by unfold nextI; rw [List.length_map, nextZ_length k _ (by rw [List.length_map, List.length_take, HDl.out]; omega), Hkk.out])
        have HNx := Lib.hid (show (nextI k (dd.take (2 * k + 1))).map phi = nextZ k (dd.map phi) by rw [nextI_cut _ _ _ (by omega)]; exact mapphi_psi _)
        clear hs ho hHo hn
        have HNn := Lib.hid (show n - (2 * k + 1) = needFrom c q by rw [Hn'.out]; omega)
        have Hl1 := Lib.hid (show (dd.drop (2 * k + 1)).length = n - (2 * k + 1) by rw [List.length_drop, HDl.out])
        have HH4 := Lib.hid (show holdsFrom c q ((nextI k (dd.take (2 * k + 1))).map phi) x ((ps.drop (j + 1)).map Pi.toF) ((dd.drop (2 * k + 1)).map phi) = OO by rw [HNx.out, show (dd.drop (2 * k + 1)).map phi = (dd.map phi).drop (2 * k + 1) by rw [List.map_drop]]; exact HH3.out)
        have hjm2 : j + 1 + q = c.layers.length := by have := Hjm.out; omega
        go_wp2_with (fail)
        by_cases hcc : cd' = 2 * k + 1
        · obtain rfl : n = 2 * k + 1 := by omega
          subst hcc
          go_quiet (fail)
          go_wp2
          go_roundw
          case rel => exact ⟨j + 1, q, 0, nextI k (dd.take (2 * k + 1)), dd.drop (2 * k + 1), x, _, _, hjm2, rfl, by omega, by omega, by go_num, rfl, by have := HNn.out; rwa [Nat.sub_self] at this, Hvn.out.go (below_drewN (Below.refl _ _) nq), ⟨p + (2 * k + 1), by rw [Hdd.out, List.drop_drop], by have := Hpn.out; omega, fun h => by omega⟩, HNl.out, by have := Hl1.out; rwa [Nat.sub_self] at this, HH4.out, below_drewN HBf5.out nq⟩
          case measure => simp [intOf]; omega
        · go_quiet (fail)
          go_wp2
          go_roundw
          case rel => exact ⟨j + 1, q, n - (2 * k + 1), nextI k (dd.take (2 * k + 1)), dd.drop (2 * k + 1), x, _, _, hjm2, rfl, by omega, by omega, by go_num, rfl, HNn.out, Hvn.out.go (below_drewN (Below.refl _ _) nq), ⟨p + (2 * k + 1), by rw [Hdd.out, List.drop_drop], by have := Hpn.out; omega, fun h => by first | rfl | (congr 2; omega)⟩, HNl.out, Hl1.out, HH4.out, below_drewN HBf5.out nq⟩
          case measure => simp [intOf]; omega
    · obtain rfl : j = c.layers.length := by omega
      obtain rfl : m = 0 := by omega
      have HE := Lib.hid (show BB = (psi (evalF (inp.map phi) (z.map phi)) == psi clF) by
        rw [HBB.out, ← HH.out]; rfl)
      have HZr := Lib.hid HZ.out
      clear r0 r1
      go_wp2_with (fail)
      refine (mle_Eval inp z _ _ _ (HT.out.below hBr.out) (Hi.out.go hBr.out) HZr.out (by rw [Hil.out, HZl.out]; rfl) (by rw [HZl.out]; have := HG.out.log4; show c.log.toNat ≤ 8; omega)).mono ?_
      rintro e w6 ⟨rfl, hb6⟩
      have H6 := Lib.hid (hBr.out.trans (hb6.mono hBr.out.size))
      clear hb6
      go_wp2
      go_ret2
      exact ⟨ret_b2 HE.out.symm, H6.out⟩
end Go.Proofs.YtlfneeobnihocaaGreatDoor
/- Plain law: a right proof is as it must be; it holds for other outputs or other inputs only if these are the same where it begins or ends; no program in sight, no condition. -/
namespace Go.Proofs.YtlfneeobnihocaaGreatDoor
set_option maxRecDepth 100000
set_option linter.unusedVariables false
open Tally
theorem told_other (gs : List Gt) (z V : List F) (k : Nat) (d : List F) (cl : F) (hk : 0 < k) (hd : 2 * k ≤ d.length) (hne : cl ≠ sumAt gs z V k []) : told cl ((List.range (2 * k)).map fun j => roundAt gs z V k (d.take j)) (d.take (2 * k)) = none := by
  unfold told
  refine toldTo_none (k := 1) (by rw [List.length_map, List.length_range]; omega) ?_
  have e : ((List.range (2 * k)).map fun j => roundAt gs z V k (d.take j))[0]?.getD [] = roundAt gs z V k [] := by
    simp [show 0 < 2 * k by omega]
  have e0 : atF (roundAt gs z V k []) 0 = sumAt gs z V k ([] ++ [0]) := by
    rw [← lag_roundAt gs z V k _ (by simp; omega) 0]
    exact (lag_at _ (by rw [roundAt_length]; omega) 0 (by rw [roundAt_length]; omega)).symm
  have e1 : atF (roundAt gs z V k []) 1 = sumAt gs z V k ([] ++ [1]) := by
    rw [← lag_roundAt gs z V k _ (by simp; omega) 1]
    exact (lag_at _ (by rw [roundAt_length]; omega) 1 (by rw [roundAt_length]; omega)).symm
  simp only [toldTo]
  rw [e, e0, e1, sumAt_split gs z V k _ (by simp; omega), if_neg (fun h => hne h.symm)]
/-- a right part does not hold for another claim -/
theorem holds_other (gs : List Gt) (z V : List F) (k : Nat) (d : List F) (hd : 2 * k < d.length) (hV : V.length = 2 ^ k) (hk : k < 1000) (hG : GatesIn gs (2 ^ k)) (hz : gs.length = 2 ^ z.length) (cl : F) (hne : cl ≠ evalF (layF V gs) z) :
    holdsF gs z cl k (partF gs z V k d) d = none := by
  by_cases hk0 : k = 0
  · subst hk0
    have hr := holds_lay gs z V 0 d hd hV hk hG hz
    have key : ∀ c, holdsF gs z c 0 (partF gs z V 0 d) d = if stepF gs z (d.take 0) ((d.drop 0).take 0) (lag (partF gs z V 0 d).line 0) (lag (partF gs z V 0 d).line 0) = c then some (lag (partF gs z V 0 d).line (atF d (2 * 0))) else none := fun c => by
      have hr0 : (partF gs z V 0 d).rounds = [] := rfl
      have ht : told c [] (d.take (2 * 0)) = some c := rfl
      unfold holdsF
      rw [hr0, ht]
      simp only [if_true]
    rw [key] at hr ⊢
    by_cases h : stepF gs z (d.take 0) ((d.drop 0).take 0) (lag (partF gs z V 0 d).line 0) (lag (partF gs z V 0 d).line 0) = evalF (layF V gs) z
    · rw [if_neg (fun e => hne (by rw [← e, h]))]
    · rw [if_neg h] at hr; cases hr
  · unfold holdsF partF
    simp only []
    rw [told_other gs z V k d cl (by omega) (by omega) (by rw [sumAt_start gs z V k hV hG hz]; exact hne)]
/-- what is told rightly, held for other outputs and other inputs -/
theorem holds_prove {c : Ci} (hg : Good c) (I : List F) (hI : I.length = 2 ^ c.log.toNat) (z d : List F) (hz : z.length = (belowLog c c.layers.length).toNat) (hd : d.length = needFrom c c.layers.length) (cl : F) :
    holdsFrom c c.layers.length z cl (proofFrom c I c.layers.length z d) d = if cl = evalF (valF c I c.layers.length) z then some (evalF I (endZ c c.layers.length z d), endZ c c.layers.length z d) else none := by
  by_cases h : cl = evalF (valF c I c.layers.length) z
  · rw [if_pos h, h]; exact holds_right hg I hI _ (Nat.le_refl _) z d hz hd
  · rw [if_neg h]
    obtain ⟨i, hi⟩ : ∃ i, c.layers.length = i + 1 := ⟨c.layers.length - 1, by have := hg.n1; omega⟩
    rw [hi] at h hz hd ⊢
    have hd' : d.length = 2 * (belowLog c i).toNat + 1 + needFrom c i := hd
    have h4 := hg.below4 (k := i) (by omega)
    show (match holdsF (aty c.layers i).gates z cl (belowLog c i).toNat (partF (aty c.layers i).gates z (valF c I i) (belowLog c i).toNat d) d with
      | none => none
      | some cl' => holdsFrom c i _ cl' _ _) = none
    rw [holds_other (aty c.layers i).gates z (valF c I i) (belowLog c i).toNat d (by omega) (valF_length hg I hI i (by omega)) (by omega) (hg.gatesIn (by omega)) (by rw [hz, belowLog_succ]; exact hg.len i (by omega)) cl h]
/-- where a proof begins, and where it ends -/
def topZ (c : Ci) (d : List Int) : List F := (d.map phi).take (belowLog c c.layers.length).toNat
def lowZ (c : Ci) (d : List Int) : List F := endZ c c.layers.length (topZ c d) ((d.map phi).drop (belowLog c c.layers.length).toNat)
theorem topZ_length {c : Ci} (d : List Int) (hd : d.length = drawsN c) : (topZ c d).length = (belowLog c c.layers.length).toNat := by
  unfold topZ; rw [List.length_take, List.length_map, hd]; unfold drawsN; omega
theorem proveI_toF (c : Ci) (inp d : List Int) : (proveI c inp d).map Pi.toF = proofFrom c (inp.map phi) c.layers.length (topZ c d) ((d.map phi).drop (belowLog c c.layers.length).toNat) := by
  unfold proveI topZ
  rw [proofFromI_toF, List.map_take, List.map_drop]
theorem verB_prove {c : Ci} (hg : Good c) (inp inp2 out d : List Int) (hi : inp.length = 2 ^ c.log.toNat) (hd : d.length = drawsN c) :
    verB c inp2 out (proveI c inp d) d = if evalF (out.map phi) (topZ c d) = evalF (valF c (inp.map phi) c.layers.length) (topZ c d) then (psi (evalF (inp2.map phi) (lowZ c d)) == psi (evalF (inp.map phi) (lowZ c d))) else false := by
  unfold verB
  rw [proveI_toF]
  show verO _ (holdsFrom c c.layers.length (topZ c d) (evalF (out.map phi) (topZ c d)) (proofFrom c (inp.map phi) c.layers.length (topZ c d) _) _) = _
  rw [holds_prove hg (inp.map phi) (by rw [List.length_map, hi]) (topZ c d) _ (topZ_length d hd) (by rw [List.length_drop, List.length_map, hd]; unfold drawsN; omega)]
  split <;> rfl
theorem piOk_from (c : Ci) (I : List F) : ∀ i z d, d.length = needFrom c i → ∀ j, j < i → PiOk (atp (proofFromI c I i z d) j) (belowLog c (i - 1 - j)).toNat
  | 0, _, _, _, j, hj => absurd hj (by omega)
  | i + 1, z, d, hd, j, hj => by
    have hd' : d.length = 2 * (belowLog c i).toNat + 1 + needFrom c i := hd
    cases j with
    | zero =>
      rw [show i + 1 - 1 - 0 = i by omega]
      show PiOk (⟨roundsI _ _ _ _ _, pLineI _ _ _⟩ : Pi) _
      refine ⟨roundsI_length _ _ _ _ _, fun r hr => ?_, pLineI_length _ _ _ (by omega)⟩
      simp only [atl, roundsI]
      rw [List.getElem?_map, List.getElem?_range hr]
      simp [roundAt_length]
    | succ j =>
      have := piOk_from c I i (nextI (belowLog c i).toNat d) (d.drop (2 * (belowLog c i).toNat + 1)) (by rw [List.length_drop]; omega) j (by omega)
      rw [show i + 1 - 1 - (j + 1) = i - 1 - j by omega]
      exact this
theorem shaped_prove (c : Ci) (inp d : List Int) (hd : d.length = drawsN c) : ShapedI c (proveI c inp d) := by
  have hl : (proveI c inp d).length = c.layers.length := proofFromI_length _ _ _ _ _
  refine ⟨hl, fun j hj => ?_⟩
  rw [hl] at hj
  exact piOk_from c _ _ _ _ (by rw [List.length_drop, hd]; unfold drawsN; omega) j hj
end Go.Proofs.YtlfneeobnihocaaGreatDoor
