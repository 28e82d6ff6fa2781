/- The walk of the reference's Holds. The circuit is right, the proof has its shape, the lists have the circuit's sizes. -/
import Derived.Test.YtlfneeobnihocaaGreatDoorRNeed
import Derived.Test.YtlfneeobnihocaaGreatDoorRMle
namespace Go.Proofs.YtlfneeobnihocaaGreatDoor
set_option maxRecDepth 100000
set_option linter.unusedVariables false
open Go.RowKit Tally
open Go.Sort (grow)
theorem phi_zero : phi 0 = 0 := by decide
theorem phi_one : phi 1 = 1 := by decide
theorem lag_zero (l : List Int) (h : 0 < l.length) (h8 : l.length ≤ 1000) : lag (l.map phi) 0 = phi (at0 l 0) := by
 have := lag_at (l.map phi) (by rw [List.length_map]; omega) 0 (by rw [List.length_map]; omega)
 rw [show phi ((0 : Nat) : Int) = 0 from phi_zero, atF_map l 0 h] at this
 exact this
theorem lag_one (l : List Int) (h : 1 < l.length) (h8 : l.length ≤ 1000) : lag (l.map phi) 1 = phi (at0 l 1) := by
 have := lag_at (l.map phi) (by rw [List.length_map]; omega) 1 (by rw [List.length_map]; omega)
 rw [show phi ((1 : Nat) : Int) = 1 from phi_one, atF_map l 1 h] at this
 exact this
theorem holdsF_at (gs : List Gt) (z : List F) (cl : F) (k : Nat) (P : Pi) (d : List Int) (n : Nat) (hn : n + 2 * k < d.length) :
  holdsF gs z cl k P.toF ((d.map phi).drop n) = match told cl (phis P.rounds) (((d.drop n).take (2 * k)).map phi) with
   | none => none
   | some now => if stepF gs z (((d.drop n).take k).map phi) (((d.drop (n + k)).take k).map phi) (lag (P.line.map phi) 0) (if k = 0 then lag (P.line.map phi) 0 else lag (P.line.map phi) 1) = now then some (lag (P.line.map phi) (phi (at0 d (n + 2 * k)))) else none := by
 have e1 : atF ((d.map phi).drop n) (2 * k) = phi (at0 d (n + 2 * k)) := by simp [atF, at0, hn]
 unfold holdsF
 rw [e1, List.drop_drop, ← List.map_drop, ← List.map_drop, ← List.map_take, ← List.map_take, ← List.map_take]
 rfl
theorem nextZ_at (k : Nat) (d : List Int) (n : Nat) (hn : n + 2 * k < d.length) : nextZ k ((d.map phi).drop n) = (lineI ((d.drop n).take k) ((d.drop (n + k)).take k) (at0 d (n + 2 * k))).map phi := by
 have e1 : atF ((d.map phi).drop n) (2 * k) = phi (at0 d (n + 2 * k)) := by simp [atF, at0, hn]
 unfold nextZ
 rw [lineI_phi, e1, List.drop_drop, ← List.map_drop, ← List.map_drop, ← List.map_take, ← List.map_take]
set_option maxHeartbeats 8000000 in
theorem ref_Holds (v : Value) (c : Ci) (vi vo vp vd : Value) (inp out : List Int) (ps : List Pi) (d : List Int) (w : World) (h : IsC w v c) (hc0 : checkC c = 0) (hi : RowU w vi inp) (ho : RowU w vo out) (hp : IsP w vp ps) (hd : RowU w vd d) (hcd : CapOk vd)
  (hil : inp.length = 2 ^ c.log.toNat) (hol : out.length = 2 ^ (belowLog c c.layers.length).toNat) (hS : ShapedI c ps) (hdl : d.length = drawsN c) :
  Calls Tryz.prog 84 #[v, vi, vo, vp, vd] w fun e w' => e = .returned (.bool (verB c inp out ps d)) ∧ Below w.heap.size w w' := by
 have hG := good_of_check hc0
 have HC := zH h; have HG := zH hG; have Hc0 := zH hc0; have Hi := zH hi; have Ho := zH ho; have Hd := zH hd
 have Hil := zH hil; have Hol := zH hol; have HS := zH hS; have Hdl := zH hdl
 have hn1 := hG.n1; have hn4 := hG.n4
 obtain ⟨ac, cc, rfl⟩ := h.shape
 obtain ⟨vs, rfl, hps⟩ := hp
 have Hps := zH hps
 obtain ⟨_, aP, cP, rfl, hpr⟩ := hps
 obtain ⟨bP, oP, rfl, -⟩ := hpr (by rw [hS.1]; omega)
 rw [hS.1] at Hps ⊢
 obtain ⟨ud, _, ad, cd, rfl, hdr⟩ := hd
 obtain ⟨hdc, hdm⟩ := hcd _ _ _ rfl
 have hD40 := drawsN_le hG
 obtain ⟨T, hT⟩ : ∃ T, T = (belowLog c c.layers.length).toNat := ⟨_, rfl⟩
 have hDN : drawsN c = T + needFrom c c.layers.length := by unfold drawsN; rw [hT]
 have hT4 : T ≤ 4 := by have := hG.below4 (k := c.layers.length) (Nat.le_refl _); omega
 have hnd : 1 ≤ needFrom c c.layers.length := by
  obtain ⟨i, hi⟩ : ∃ i, c.layers.length = i + 1 := ⟨c.layers.length - 1, by omega⟩
  rw [hi]; show 1 ≤ 2 * _ + 1 + _; omega
 obtain ⟨bd, od, rfl, hdlt, hdcell⟩ := hdr (by omega)
 have Hdc := zH hdcell; have Ud := zH ud
 obtain ⟨DN, hDNe⟩ : ∃ DN, DN = drawsN c := ⟨_, rfl⟩
 rw [hdl, ← hDNe] at hdc Hd ⊢
 rw [← hDNe] at hD40 hDN
 have hTD : T < DN := by omega
 have HDNe := zH hDNe; have HDN := zH hDN; have HTe := zH hT
 obtain ⟨OO, hOO⟩ : ∃ OO, OO = holdsFrom c c.layers.length ((d.map phi).take T) (evalF (out.map phi) ((d.map phi).take T)) (ps.map Pi.toF) ((d.map phi).drop T) := ⟨_, rfl⟩
 obtain ⟨BB, hBB⟩ : ∃ BB, BB = verB c inp out ps d := ⟨_, rfl⟩
 rw [← hBB]
 have HBB := zH (show BB = verO (inp.map phi) OO by rw [hBB, hOO]; unfold verB; rw [hT])
 have HOO := zH hOO
 obtain ⟨hlog, uu, e, hL⟩ := HC.out
 simp only [Value.agg.injEq, Array.mk.injEq, List.cons.injEq] at e
 obtain ⟨-, rfl, -⟩ := e
 obtain ⟨hls, hll, a', cap', e, hr⟩ := hL
 cases e
 obtain ⟨m, hm⟩ : ∃ m, c.layers.length = m + 1 := ⟨c.layers.length - 1, by omega⟩
 have hbl : belowLog c c.layers.length = (aty c.layers m).log := by rw [hm, belowLog_succ]
 obtain ⟨bC, oC, rfl, hCl, hcell⟩ := hr (by omega)
 obtain ⟨c1, _⟩ := hcell m (by omega)
 have t0 := hG.below0 (k := c.layers.length) (Nat.le_refl _)
 have hTi : belowLog c c.layers.length = (T : Int) := by rw [hT]; exact (Int.toNat_of_nonneg t0).symm
 rw [← hbl, hTi] at c1
 have hs1 : (c.layers.length : Int) - 1 = (m : Int) := by omega
 have hml : (m : Int) < (c.layers.length : Int) := by omega
 have hm0 : (0 : Int) ≤ (m : Int) := by omega
 have hTc : (T : Int) ≤ (cd : Int) := by omega
 have hT0 : (0 : Int) ≤ (T : Int) := by omega
 have Hm := zH hm
 have hm4 : m < 4 := by omega
 clear h hG hc0 hi ho hpr hdr hdcell ud hcd hil hol hS hdl hDNe hDN hT hnd hOO hBB hcell hr hls hll hlog hbl hTi t0 hm
 go_enter Tryz.func84, Tryz.ntmps84
 go_wp2_with (fail)
 obtain ⟨W, tb, hW, htb, hb1, hb2, s1, B1⟩ := two_blocks' w #[.int .i64 c.log, .slice (some ⟨bC, oC, none⟩) c.layers.length cc] #[.slice (some ⟨bP, oP, none⟩) c.layers.length cP] 62 93
 rw [hW, ← htb]
 have H1 := zH B1
 have Hb1 := zH hb1; have Hb2 := zH hb2
 clear hW hb1 hb2 B1 htb s1 c1
 have HZ0 := zH (show RowU W (.slice (some ⟨bd, od, none⟩) T cd) (d.take T) from (Hd.out.go H1.out).front (by omega))
 refine (ref_Eval out (d.take T) _ _ _ (Ho.out.go H1.out) HZ0.out).mono ?_
 rintro e w2 ⟨rfl, hb2⟩
 have HZl0 := zH (show (d.take T).length = T by rw [List.length_take, Hdl.out, ← HDNe.out]; omega)
 rw [← eval_dot _ _ (by rw [List.length_map, List.length_map, Hol.out, HZl0.out, ← HTe.out])]
 obtain ⟨cl0, hcl0⟩ : ∃ cl0, cl0 = evalF (out.map phi) ((d.take T).map phi) := ⟨_, rfl⟩
 rw [← hcl0]
 have HO0 := zH (show holdsFrom c (m + 1) ((d.take T).map phi) cl0 ((ps.drop 0).map Pi.toF) ((d.map phi).drop T) = OO by
  rw [HOO.out, List.drop_zero, hcl0, ← Hm.out, List.map_take])
 have HN0 := zH (show T + needFrom c (m + 1) = DN by rw [HDN.out, ← Hm.out])
 have HL0 := zH (show ((d.take T).length : Int) = belowLog c (m + 1) by rw [HZl0.out, ← Hm.out]; have := HG.out.below0 (k := c.layers.length) (Nat.le_refl _); have := HTe.out; omega)
 have HB2 := zH hb2.below
 clear hb2 hcl0
 go_wp2_with (fail)
 go_loopw [15, 13, 14, 12] (fun jv av cv zv wr => ∃ (j n q : Nat) (z : List Int) (cl : F), j + q = m + 1 ∧ jv = .int .i64 (j : Int) ∧ av = .int .i64 (n : Int) ∧ cv = .int .u64 (psi cl) ∧ n ≤ DN ∧ Hid (RowU wr zv z) ∧ Hid ((z.length : Int) = belowLog c q) ∧ Hid (n + needFrom c q = DN) ∧ Hid (holdsFrom c q (z.map phi) cl ((ps.drop j).map Pi.toF) ((d.map phi).drop n) = OO) ∧ Hid (Below W.heap.size W wr)) (fun jv _ _ _ _ => m + 1 - (intOf jv).toNat)
 case atStart => exact ⟨0, T, m + 1, d.take T, cl0, by omega, rfl, rfl, rfl, by omega, HZ0.out.go HB2.out, HL0.out, HN0.out, HO0.out, HB2.out⟩
 case round =>
  obtain ⟨j, n, q, z, cl, hjq, rfl, rfl, rfl, hnD, HZ, HZl, HN, HH, HB⟩ := hrel
  have Hbr := zH (H1.out.trans (HB.out.mono H1.out.size))
  rcases q with _ | q
  ·obtain rfl : j = m + 1 := by omega
   have hjm : (m : Int) < ((m + 1 : Nat) : Int) := by omega
   have HE := zH (show BB = (psi (evalF (inp.map phi) (z.map phi)) == psi cl) by rw [HBB.out, ← HH.out]; rfl)
   go_wp2_with (fail)
   refine (ref_Eval inp z _ _ _ (Hi.out.go Hbr.out) HZ.out).mono ?_
   rintro e w3 ⟨rfl, hb3⟩
   rw [← eval_dot _ _ (by rw [List.length_map, List.length_map, Hil.out]; have h1 := HZl.out; have h2 : belowLog c 0 = c.log := rfl; rw [h2] at h1; congr 1; omega)]
   have H3 := zH (Hbr.out.trans (hb3.below.mono Hbr.out.size))
   clear hb3
   go_wp2
   go_ret
   exact ⟨ret_b HE.out.symm, H3.out⟩
  ·have hjm : (j : Int) ≤ (m : Int) := by omega
   have hs2 : (m : Int) - (j : Int) = (q : Int) := by omega
   have hq : q < c.layers.length := by rw [Hm.out]; omega
   have hjL : j < c.layers.length := by rw [Hm.out]; omega
   have hjq2 := zH (show c.layers.length - 1 - j = q by rw [Hm.out]; omega)
   have r0 : wr.cell? ⟨tb, 0, none⟩ = some _ := cell_blk ((HB.out.block tb (blk_lt Hb1.out)).trans Hb1.out) 0
   have r1 : wr.cell? ⟨tb, 1, none⟩ = some _ := cell_blk ((HB.out.block tb (blk_lt Hb1.out)).trans Hb1.out) 1
   go_wp2_with (fail)
   clear r0 r1
   refine (ref_Below _ c q _ (HC.out.go Hbr.out) (by omega) hn4).mono ?_
   rintro e w3 ⟨rfl, hb3⟩
   have k0 := HG.out.below0 (k := q) (by omega)
   have k4 := HG.out.below4 (k := q) (by omega)
   obtain ⟨k, hk⟩ : ∃ k : Nat, belowLog c q = (k : Int) := ⟨(belowLog c q).toNat, by omega⟩
   rw [hk] at k0 k4 ⊢
   have hk4 : k ≤ 4 := by omega
   have Hk := zH hk
   have Hkk := zH (show (belowLog c q).toNat = k by rw [hk]; simp)
   have HB3 := zH (HB.out.trans (hb3.mono HB.out.size))
   have Hb3 := zH (H1.out.trans (HB3.out.mono H1.out.size))
   have HZ3 := zH (HZ.out.go hb3)
   have hnk : n + (2 * k + 1) ≤ DN := by
    have h1 := HN.out
    have h2 : needFrom c (q + 1) = 2 * (belowLog c q).toNat + 1 + needFrom c q := rfl
    rw [Hkk.out] at h2; omega
   have Hpo := zH (show PiOk (atp ps j) k by have := HS.out.2 j (by rw [HS.out.1]; exact hjL); rwa [hjq2.out, Hkk.out] at this)
   obtain ⟨b', o', cp', aR, cR, bL, oL, cL, e, hlt, c1, c2, hR, hLn⟩ := Hps.out.partR (by rw [HS.out.1]; exact hjL) Hpo.out
   simp only [Value.slice.injEq, Option.some.injEq, Addr.mk.injEq] at e
   obtain ⟨⟨rfl, rfl, -⟩, -, -⟩ := e
   have HR := zH hR; have HLn := zH hLn
   obtain ⟨_, _, aL', cL', e, hLc⟩ := hLn
   simp only [Value.slice.injEq] at e
   obtain ⟨e1, -, -⟩ := e
   obtain ⟨bL', oL', e2, hbL, hLc⟩ := hLc (by rw [Hpo.out.l]; omega)
   rw [← e1] at e2
   simp only [Option.some.injEq, Addr.mk.injEq] at e2
   obtain ⟨rfl, rfl, -⟩ := e2
   clear e1
   have C1 := zH (show ∀ X, Below W.heap.size W X → X.cell? ⟨tb, 0, none⟩ = some (.int .i64 c.log) ∧ X.cell? ⟨tb, 1, none⟩ = some (.slice (some ⟨bC, oC, none⟩) c.layers.length cc) ∧ X.cell? ⟨tb + 1, 0, none⟩ = some (.slice (some ⟨bP, oP, none⟩) c.layers.length cP) ∧ X.cell? ⟨bP, oP + j * 2, none⟩ = some (.slice aR (2 * k) cR) ∧ X.cell? ⟨bP, oP + j * 2 + 1, none⟩ = some (.slice (some ⟨bL, oL, none⟩) (k + 1) cL) from fun X hX => by
    have hw := H1.out.trans (hX.mono H1.out.size)
    exact ⟨cell_blk ((hX.block _ (blk_lt Hb1.out)).trans Hb1.out) 0, cell_blk ((hX.block _ (blk_lt Hb1.out)).trans Hb1.out) 1, cell_blk ((hX.block _ (blk_lt Hb2.out)).trans Hb2.out) 0, (hw.cell (p := ⟨bP, oP + j * 2, none⟩) hlt).trans c1, (hw.cell (p := ⟨bP, oP + j * 2 + 1, none⟩) hlt).trans c2⟩)
   have CL := zH (show ∀ X, Below W.heap.size W X → ∀ i, i < k + 1 → X.cell? ⟨bL, oL + i, none⟩ = some (.int .u64 (at0 (atp ps j).line i)) from fun X hX i hi => ((H1.out.trans (hX.mono H1.out.size)).cell (p := ⟨bL, oL + i, none⟩) hbL).trans (hLc i (by rw [Hpo.out.l]; exact hi)))
   have HHo := zH (show (match holdsF (aty c.layers q).gates (z.map phi) cl k (atp ps j).toF ((d.map phi).drop n) with | none => none | some cl' => holdsFrom c q (nextZ k ((d.map phi).drop n)) cl' ((ps.drop (j + 1)).map Pi.toF) (((d.map phi).drop n).drop (2 * k + 1))) = OO by
    have := HH.out
    rw [atp_drop (by rw [HS.out.1]; exact hjL)] at this
    rw [← this, ← Hkk.out]; rfl)
   rw [holdsF_at _ _ _ _ _ _ _ (by rw [Hdl.out, ← HDNe.out]; omega), nextZ_at _ _ _ (by rw [Hdl.out, ← HDNe.out]; omega)] at HHo
   have u0 := zH (Ud.out _ (at0_mem (l := d) (j := n + 2 * k) (by rw [Hdl.out, ← HDNe.out]; omega)))
   have cD := (Hb3.out.cell (p := ⟨bd, od + (n + 2 * k), none⟩) hdlt).trans (Hdc.out (n + 2 * k) (by rw [Hdl.out, ← HDNe.out]; omega))
   have HX := zH (fun X (hX : Below w.heap.size w X) cp => (Hd.out.go hX).cut n k cp (by omega))
   have HY := zH (fun X (hX : Below w.heap.size w X) cp => (Hd.out.go hX).cut (n + k) k cp (by omega))
   have HD2 := zH (fun X (hX : Below w.heap.size w X) cp => (Hd.out.go hX).cut n (2 * k) cp (by omega))
   obtain ⟨X, hXe⟩ : ∃ X, X = (d.drop n).take k := ⟨_, rfl⟩
   obtain ⟨Y, hYe⟩ : ∃ Y, Y = (d.drop (n + k)).take k := ⟨_, rfl⟩
   obtain ⟨D2, hD2e⟩ : ∃ D2, D2 = (d.drop n).take (2 * k) := ⟨_, rfl⟩
   obtain ⟨tau, hte⟩ : ∃ tau, tau = at0 d (n + 2 * k) := ⟨_, rfl⟩
   rw [← hXe, ← hYe, ← hD2e, ← hte] at HHo
   rw [← hXe] at HX; rw [← hYe] at HY; rw [← hD2e] at HD2; rw [← hte] at u0 cD
   have HXl := zH (show X.length = k by rw [hXe, List.length_take, List.length_drop, Hdl.out, ← HDNe.out]; omega)
   have HYl := zH (show Y.length = k by rw [hYe, List.length_take, List.length_drop, Hdl.out, ← HDNe.out]; omega)
   have HD2l := zH (show D2.length = 2 * k by rw [hD2e, List.length_take, List.length_drop, Hdl.out, ← HDNe.out]; omega)
   obtain ⟨q0, q1, q2, q3, q4⟩ := C1.out w3 HB3.out
   have g1 : IntKind.i64.wrap ((n : Int) + (k : Int)) = ((n + k : Nat) : Int) := by rw [show (n : Int) + (k : Int) = ((n + k : Nat) : Int) by omega]; exact IntWalk.i64_in _ (by omega)
   have g2 : IntKind.i64.wrap (2 * (k : Int)) = 2 * (k : Int) := IntWalk.i64_in _ (by omega)
   have g3 : IntKind.i64.wrap ((n : Int) + 2 * (k : Int)) = ((n + 2 * k : Nat) : Int) := by rw [show (n : Int) + 2 * (k : Int) = ((n + 2 * k : Nat) : Int) by omega]; exact IntWalk.i64_in _ (by omega)
   have f1 : (0 : Int) ≤ (n : Int) := by omega
   have f2 : (n : Int) ≤ ((n + k : Nat) : Int) := by omega
   have f3 : ((n + k : Nat) : Int) ≤ ((n + 2 * k : Nat) : Int) := by omega
   have f4 : ((n + 2 * k : Nat) : Int) ≤ (cd : Int) := by omega
   have f5 : ((n + k : Nat) : Int) ≤ (cd : Int) := by omega
   have f6 : (0 : Int) ≤ ((n + k : Nat) : Int) := by omega
   have f7 : (0 : Int) ≤ ((n + 2 * k : Nat) : Int) := by omega
   have f8 : (n : Int) ≤ ((n + 2 * k : Nat) : Int) := by omega
   have f9 : (n : Int) + 2 * (k : Int) < (DN : Int) := by omega
   have f10 : ((n : Int) + 2 * (k : Int)).toNat = n + 2 * k := by omega
   have f11 : (0 : Int) ≤ (n : Int) + 2 * (k : Int) := by omega
   have hji : (j : Int) < (c.layers.length : Int) := by omega
   have hj0 : (0 : Int) ≤ (j : Int) := by omega
   clear hk k0 k4 hb3 hlt c1 c2 hR hLc hXe hYe hD2e hte hs2
   go_wp2_with (fail)
   go_quiet (fail)
   rw [show n + k - n = k by omega, show n + 2 * k - (n + k) = k by omega]
   obtain ⟨w4, hw4⟩ : ∃ w4, w4 = w3.drewN nq := ⟨_, rfl⟩
   rw [← hw4]
   have HB4 := zH (show Below W.heap.size W w4 by rw [hw4]; exact below_drewN HB3.out nq)
   have Hb4 := zH (H1.out.trans (HB4.out.mono H1.out.size))
   have H34 := zH (show Below w3.heap.size w3 w4 by rw [hw4]; exact below_drewN (Below.refl _ _) nq)
   have cD := (H34.out.cell (p := ⟨bd, od + (n + 2 * k), none⟩) (Nat.lt_of_lt_of_le hdlt Hb3.out.size)).trans cD
   clear q0 q1 q2 q3 q4 g1 g2 g3 hw4
   obtain ⟨q0, q1, q2, q3, q4⟩ := C1.out w4 HB4.out
   go_wp2_with (fail)
   have g2 : IntKind.i64.wrap (2 * (k : Int)) = 2 * (k : Int) := IntWalk.i64_in _ (by omega)
   have g3 : IntKind.i64.wrap ((n : Int) + 2 * (k : Int)) = ((n + 2 * k : Nat) : Int) := by rw [show (n : Int) + 2 * (k : Int) = ((n + 2 * k : Nat) : Int) by omega]; exact IntWalk.i64_in _ (by omega)
   have CT := zH (fun N => ref_Told (psi cl) (U64.psi _) (.slice aR (2 * k) cR) (atp ps j).rounds (.slice (some ⟨bd, od + n, none⟩) (2 * k) (cd - n)) D2 (w4.drewN N) ((HR.out.go Hb4.out).go (below_drewN (Below.refl _ _) N)) ((HD2.out w4 Hb4.out _).drewN N) (by rw [Hpo.out.n, HD2l.out]) Hpo.out.good)
   obtain ⟨o, ho⟩ : ∃ o, o = told cl (phis (atp ps j).rounds) (D2.map phi) := ⟨_, rfl⟩
   rw [phi_psi, ← ho] at CT
   rw [← ho] at HHo
   have e2k : n + 2 * k - n = 2 * k := by omega
   clear ho cD
   have HLl := zH Hpo.out.l
   obtain ⟨v0, hv0⟩ : ∃ v0, v0 = at0 (atp ps j).line 0 := ⟨_, rfl⟩
   have uv0 := zH (show U64 v0 by rw [hv0]; exact HLn.out.at (by rw [Hpo.out.l]; omega))
   have Hv0 := zH (show lag ((atp ps j).line.map phi) 0 = phi v0 by rw [hv0]; exact lag_zero _ (by rw [Hpo.out.l]; omega) (by rw [Hpo.out.l]; omega))
   have hl00 := CL.out w4 HB4.out 0 (by omega)
   rw [← hv0, Nat.add_zero] at hl00
   have Hl0 := zH hl00
   clear hv0 hl00
   have hk1 : 0 < k + 1 := by omega
   by_cases hk0 : k = 0
   ·have hkb : decide (0 < k) = false := decide_eq_false (by omega)
    obtain ⟨vy, hvy⟩ : ∃ vy, vy = psi (phi v0) := ⟨_, rfl⟩
    have Hvy := zH (show phi vy = (if k = 0 then lag ((atp ps j).line.map phi) 0 else lag ((atp ps j).line.map phi) 1) by rw [if_pos hk0, Hv0.out, hvy, phi_psi])
    have Hvy2 := zH hvy
    clear hvy hk0
    rcases o with _ | now
    ·have HF := zH (show BB = false by rw [HBB.out, ← HHo.out]; rfl)
     rw [show toldV none = 0 from rfl, show toldB none = false from rfl] at CT
     go_quiet ((go_at_call 122; exact flipD (CT.out _)))
     obtain ⟨w5, hw5⟩ : ∃ w5, w5 = w4.drewN nq := ⟨_, rfl⟩
     have HB5 := zH (show Below W.heap.size W w5 by rw [hw5]; exact below_drewN HB4.out nq)
     have H45 := zH (show Below w4.heap.size w4 w5 by rw [hw5]; exact below_drewN (Below.refl _ _) nq)
     rw [← hw5]
     clear q0 q1 q2 q3 q4 g2 g3 e2k hw5
     obtain ⟨q0, q1, q2, q3, q4⟩ := C1.out w5 HB5.out
     have l0 := (H45.out.cell (p := ⟨bL, oL, none⟩) (Nat.lt_of_lt_of_le hbL Hb4.out.size)).trans Hl0.out
     go_wp2_with (go_at_call 47; (with_reducible refine (ref_Norm _ _ uv0.out).mono ?_); rintro e w' ⟨rfl, rfl⟩)
     try rw [← Hvy2.out]
     go_quiet (fail)
     go_wp2
     go_ret
     exact ⟨ret_b HF.out.symm, below_drewN (H1.out.trans (HB5.out.mono H1.out.size)) _⟩
    ·rw [show toldV (some now) = psi now from rfl, show toldB (some now) = true from rfl] at CT
     go_quiet ((go_at_call 122; exact flipD (CT.out _)))
     obtain ⟨w5, hw5⟩ : ∃ w5, w5 = w4.drewN nq := ⟨_, rfl⟩
     have HB5 := zH (show Below W.heap.size W w5 by rw [hw5]; exact below_drewN HB4.out nq)
     have H45 := zH (show Below w4.heap.size w4 w5 by rw [hw5]; exact below_drewN (Below.refl _ _) nq)
     rw [← hw5]
     clear q0 q1 q2 q3 q4 g2 g3 e2k hw5
     obtain ⟨q0, q1, q2, q3, q4⟩ := C1.out w5 HB5.out
     have l0 := (H45.out.cell (p := ⟨bL, oL, none⟩) (Nat.lt_of_lt_of_le hbL Hb4.out.size)).trans Hl0.out
     go_wp2_with (go_at_call 47; (with_reducible refine (ref_Norm _ _ uv0.out).mono ?_); rintro e w' ⟨rfl, rfl⟩)
     try rw [← Hvy2.out]
     have Hb5 := zH (H1.out.trans (HB5.out.mono H1.out.size))
     have H35 := zH (below_two H34.out H45.out)
     obtain ⟨st, hst⟩ : ∃ st, st = stepI c q z X Y (phi v0) (phi vy) := ⟨_, rfl⟩
     have uvy : U64 vy := by rw [Hvy2.out]; exact U64.psi _
     have CSt := zH (fun d' os => Calls.regrown_of (ref_Step _ c q _ _ _ z X Y v0 vy (grow (redrawn w5 d') os) ((HC.out.go Hb5.out).go (below_regrown w5 d' os)) ((HZ3.out.go H35.out).go (below_regrown w5 d' os)) ((HX.out w5 Hb5.out (cd - n)).go (below_regrown w5 d' os)) ((HY.out w5 Hb5.out (cd - (n + k))).go (below_regrown w5 d' os)) uv0.out uvy ⟨HG.out, hq, by rw [HZl.out, belowLog_succ], by rw [HXl.out, Hk.out], by rw [HYl.out, Hk.out]⟩))
     rw [← hst] at CSt
     have G0 := cell_regrown q0; have G1 := cell_regrown q1; have L0 := cell_regrown l0
     have HHs := zH (show (if st = now then holdsFrom c q ((lineI X Y tau).map phi) (lag ((atp ps j).line.map phi) (phi tau)) ((ps.drop (j + 1)).map Pi.toF) ((d.map phi).drop (n + (2 * k + 1))) else none) = OO by
      have := HHo.out
      rw [← Hvy.out, Hv0.out, show stepF (aty c.layers q).gates (z.map phi) (X.map phi) (Y.map phi) (phi v0) (phi vy) = st from hst.symm, List.drop_drop] at this
      rw [← this]
      by_cases e : st = now
      ·rw [if_pos e, if_pos e]
      ·rw [if_neg e, if_neg e])
     by_cases hs : st = now
     ·have hsb : (psi st != psi now) = false := by rw [hs]; simp
      have HHt := zH (show holdsFrom c q ((lineI X Y tau).map phi) (lag ((atp ps j).line.map phi) (phi tau)) ((ps.drop (j + 1)).map Pi.toF) ((d.map phi).drop (n + (2 * k + 1))) = OO by have := HHs.out; rwa [if_pos hs] at this)
      clear hs hst
      refine wp_region_quiet_below (by kernel_rfl) (by kernel_rfl) ?_
      repeat (any_goals (first | go_big_quiet_step (first | (go_at_call 123; with_reducible exact CSt.out _ _)) | quiet_step (first | (go_at_call 123; with_reducible exact CSt.out _ _))))
      refine wpQuiet_nil ?_; intro _ hw'; obtain ⟨⟨dq, osq⟩, hw''⟩ := hw'; subst hw''
      obtain ⟨w6, hw6⟩ : ∃ w6, w6 = grow (redrawn w5 dq) osq := ⟨_, rfl⟩
      rw [← hw6]
      have H56 := zH (show Below w5.heap.size w5 w6 by rw [hw6]; exact below_regrown w5 dq osq)
      clear hw6 G0 G1 L0 q0 q1 q2 q3 q4 l0  hsb
      have Hb6 := zH (below_two Hb5.out H56.out)
      have HB6 := zH (HB5.out.trans (H56.out.mono HB5.out.size))
      go_wp2_with (fail)
      refine (ref_At (atp ps j).line _ tau w6 (HLn.out.go Hb6.out) u0.out (by rw [HLl.out]; omega)).mono ?_
      rintro e w7 ⟨rfl, rfl⟩
      go_wp2_with (fail)
      refine (ref_line X Y _ _ tau w6 (HX.out w6 Hb6.out (cd - n)) (HY.out w6 Hb6.out (cd - (n + k))) (by rw [HXl.out, HYl.out]) (by rw [HXl.out]; omega) u0.out).mono ?_
      rintro e w8 ⟨vn, rfl, hn8, hb8⟩
      have HN8 := zH hn8.row
      have HB8 := zH (HB6.out.trans (hb8.mono HB6.out.size))
      have HNl := zH (show ((lineI X Y tau).length : Int) = belowLog c q by rw [lineI_length _ _ _ (by rw [HXl.out, HYl.out]), HXl.out, Hk.out])
      have HNe := zH (show n + (2 * k + 1) + needFrom c q = DN by
       have h1 := HN.out
       have h2 : needFrom c (q + 1) = 2 * (belowLog c q).toNat + 1 + needFrom c q := rfl
       rw [Hkk.out] at h2; omega)
      clear hn8 hb8
      go_wp2
      go_roundw
      case rel => exact ⟨j + 1, n + (2 * k + 1), q, lineI X Y tau, lag ((atp ps j).line.map phi) (phi tau), by omega, by go_num, by go_num, rfl, by omega, HN8.out, HNl.out, HNe.out, HHt.out, HB8.out⟩
      case measure => simp [intOf]; omega
     ·have hsb : (psi st != psi now) = true := by rw [bne_iff_ne]; exact fun e => hs (psi_inj e)
      have HF := zH (show BB = false by rw [HBB.out, ← HHs.out, if_neg hs]; rfl)
      clear hs hst HHs
      refine wp_region_quiet_below (by kernel_rfl) (by kernel_rfl) ?_
      repeat (any_goals (first | go_big_quiet_step (first | (go_at_call 123; with_reducible exact CSt.out _ _)) | quiet_step (first | (go_at_call 123; with_reducible exact CSt.out _ _))))
      refine wpQuiet_nil ?_; intro _ hw'; obtain ⟨⟨dq, osq⟩, hw''⟩ := hw'; subst hw''
      have HE := zH (below_two Hb5.out (below_regrown w5 dq osq))
      go_wp2
      go_ret
      exact ⟨ret_b HF.out.symm, HE.out⟩
   ·have hkb : decide (0 < k) = true := decide_eq_true (by omega)
    obtain ⟨v1, hv1⟩ : ∃ v1, v1 = at0 (atp ps j).line 1 := ⟨_, rfl⟩
    have uv1 := zH (show U64 v1 by rw [hv1]; exact HLn.out.at (by rw [Hpo.out.l]; omega))
    have Hl1 := zH (show w4.cell? ⟨bL, oL + 1, none⟩ = some (.int .u64 v1) by rw [hv1]; exact CL.out w4 HB4.out 1 (by omega))
    obtain ⟨vy, hvy⟩ : ∃ vy, vy = psi (phi v1) := ⟨_, rfl⟩
    have Hvy := zH (show phi vy = (if k = 0 then lag ((atp ps j).line.map phi) 0 else lag ((atp ps j).line.map phi) 1) by rw [if_neg hk0, lag_one _ (by rw [Hpo.out.l]; omega) (by rw [Hpo.out.l]; omega), ← hv1, hvy, phi_psi])
    have Hvy2 := zH hvy
    have hki1 : (1 : Int) < ((k + 1 : Nat) : Int) := by omega
    have hki2 : (1 : Int) < (k : Int) + 1 := by omega
    clear hvy hk0 hv1
    rcases o with _ | now
    ·have HF := zH (show BB = false by rw [HBB.out, ← HHo.out]; rfl)
     rw [show toldV none = 0 from rfl, show toldB none = false from rfl] at CT
     go_quiet ((go_at_call 122; exact flipD (CT.out _)))
     obtain ⟨w5, hw5⟩ : ∃ w5, w5 = w4.drewN nq := ⟨_, rfl⟩
     have HB5 := zH (show Below W.heap.size W w5 by rw [hw5]; exact below_drewN HB4.out nq)
     have H45 := zH (show Below w4.heap.size w4 w5 by rw [hw5]; exact below_drewN (Below.refl _ _) nq)
     rw [← hw5]
     clear q0 q1 q2 q3 q4 g2 g3 e2k hw5
     obtain ⟨q0, q1, q2, q3, q4⟩ := C1.out w5 HB5.out
     have l0 := (H45.out.cell (p := ⟨bL, oL, none⟩) (Nat.lt_of_lt_of_le hbL Hb4.out.size)).trans Hl0.out; have l1 := (H45.out.cell (p := ⟨bL, oL + 1, none⟩) (Nat.lt_of_lt_of_le hbL Hb4.out.size)).trans Hl1.out
     go_wp2_with (first | (go_at_call 47; (with_reducible refine (ref_Norm _ _ uv0.out).mono ?_); rintro e w' ⟨rfl, rfl⟩) | (go_at_call 47; (with_reducible refine (ref_Norm _ _ uv1.out).mono ?_); rintro e w' ⟨rfl, rfl⟩))
     try rw [← Hvy2.out]
     go_quiet (fail)
     go_wp2
     go_ret
     exact ⟨ret_b HF.out.symm, below_drewN (H1.out.trans (HB5.out.mono H1.out.size)) _⟩
    ·rw [show toldV (some now) = psi now from rfl, show toldB (some now) = true from rfl] at CT
     go_quiet ((go_at_call 122; exact flipD (CT.out _)))
     obtain ⟨w5, hw5⟩ : ∃ w5, w5 = w4.drewN nq := ⟨_, rfl⟩
     have HB5 := zH (show Below W.heap.size W w5 by rw [hw5]; exact below_drewN HB4.out nq)
     have H45 := zH (show Below w4.heap.size w4 w5 by rw [hw5]; exact below_drewN (Below.refl _ _) nq)
     rw [← hw5]
     clear q0 q1 q2 q3 q4 g2 g3 e2k hw5
     obtain ⟨q0, q1, q2, q3, q4⟩ := C1.out w5 HB5.out
     have l0 := (H45.out.cell (p := ⟨bL, oL, none⟩) (Nat.lt_of_lt_of_le hbL Hb4.out.size)).trans Hl0.out; have l1 := (H45.out.cell (p := ⟨bL, oL + 1, none⟩) (Nat.lt_of_lt_of_le hbL Hb4.out.size)).trans Hl1.out
     go_wp2_with (first | (go_at_call 47; (with_reducible refine (ref_Norm _ _ uv0.out).mono ?_); rintro e w' ⟨rfl, rfl⟩) | (go_at_call 47; (with_reducible refine (ref_Norm _ _ uv1.out).mono ?_); rintro e w' ⟨rfl, rfl⟩))
     try rw [← Hvy2.out]
     have Hb5 := zH (H1.out.trans (HB5.out.mono H1.out.size))
     have H35 := zH (below_two H34.out H45.out)
     obtain ⟨st, hst⟩ : ∃ st, st = stepI c q z X Y (phi v0) (phi vy) := ⟨_, rfl⟩
     have uvy : U64 vy := by rw [Hvy2.out]; exact U64.psi _
     have CSt := zH (fun d' os => Calls.regrown_of (ref_Step _ c q _ _ _ z X Y v0 vy (grow (redrawn w5 d') os) ((HC.out.go Hb5.out).go (below_regrown w5 d' os)) ((HZ3.out.go H35.out).go (below_regrown w5 d' os)) ((HX.out w5 Hb5.out (cd - n)).go (below_regrown w5 d' os)) ((HY.out w5 Hb5.out (cd - (n + k))).go (below_regrown w5 d' os)) uv0.out uvy ⟨HG.out, hq, by rw [HZl.out, belowLog_succ], by rw [HXl.out, Hk.out], by rw [HYl.out, Hk.out]⟩))
     rw [← hst] at CSt
     have G0 := cell_regrown q0; have G1 := cell_regrown q1; have L0 := cell_regrown l0
     have HHs := zH (show (if st = now then holdsFrom c q ((lineI X Y tau).map phi) (lag ((atp ps j).line.map phi) (phi tau)) ((ps.drop (j + 1)).map Pi.toF) ((d.map phi).drop (n + (2 * k + 1))) else none) = OO by
      have := HHo.out
      rw [← Hvy.out, Hv0.out, show stepF (aty c.layers q).gates (z.map phi) (X.map phi) (Y.map phi) (phi v0) (phi vy) = st from hst.symm, List.drop_drop] at this
      rw [← this]
      by_cases e : st = now
      ·rw [if_pos e, if_pos e]
      ·rw [if_neg e, if_neg e])
     by_cases hs : st = now
     ·have hsb : (psi st != psi now) = false := by rw [hs]; simp
      have HHt := zH (show holdsFrom c q ((lineI X Y tau).map phi) (lag ((atp ps j).line.map phi) (phi tau)) ((ps.drop (j + 1)).map Pi.toF) ((d.map phi).drop (n + (2 * k + 1))) = OO by have := HHs.out; rwa [if_pos hs] at this)
      clear hs hst
      refine wp_region_quiet_below (by kernel_rfl) (by kernel_rfl) ?_
      repeat (any_goals (first | go_big_quiet_step (first | (go_at_call 123; with_reducible exact CSt.out _ _)) | quiet_step (first | (go_at_call 123; with_reducible exact CSt.out _ _))))
      refine wpQuiet_nil ?_; intro _ hw'; obtain ⟨⟨dq, osq⟩, hw''⟩ := hw'; subst hw''
      obtain ⟨w6, hw6⟩ : ∃ w6, w6 = grow (redrawn w5 dq) osq := ⟨_, rfl⟩
      rw [← hw6]
      have H56 := zH (show Below w5.heap.size w5 w6 by rw [hw6]; exact below_regrown w5 dq osq)
      clear hw6 G0 G1 L0 q0 q1 q2 q3 q4 l0 l1 hsb
      have Hb6 := zH (below_two Hb5.out H56.out)
      have HB6 := zH (HB5.out.trans (H56.out.mono HB5.out.size))
      go_wp2_with (fail)
      refine (ref_At (atp ps j).line _ tau w6 (HLn.out.go Hb6.out) u0.out (by rw [HLl.out]; omega)).mono ?_
      rintro e w7 ⟨rfl, rfl⟩
      go_wp2_with (fail)
      refine (ref_line X Y _ _ tau w6 (HX.out w6 Hb6.out (cd - n)) (HY.out w6 Hb6.out (cd - (n + k))) (by rw [HXl.out, HYl.out]) (by rw [HXl.out]; omega) u0.out).mono ?_
      rintro e w8 ⟨vn, rfl, hn8, hb8⟩
      have HN8 := zH hn8.row
      have HB8 := zH (HB6.out.trans (hb8.mono HB6.out.size))
      have HNl := zH (show ((lineI X Y tau).length : Int) = belowLog c q by rw [lineI_length _ _ _ (by rw [HXl.out, HYl.out]), HXl.out, Hk.out])
      have HNe := zH (show n + (2 * k + 1) + needFrom c q = DN by
       have h1 := HN.out
       have h2 : needFrom c (q + 1) = 2 * (belowLog c q).toNat + 1 + needFrom c q := rfl
       rw [Hkk.out] at h2; omega)
      clear hn8 hb8
      go_wp2
      go_roundw
      case rel => exact ⟨j + 1, n + (2 * k + 1), q, lineI X Y tau, lag ((atp ps j).line.map phi) (phi tau), by omega, by go_num, by go_num, rfl, by omega, HN8.out, HNl.out, HNe.out, HHt.out, HB8.out⟩
      case measure => simp [intOf]; omega
     ·have hsb : (psi st != psi now) = true := by rw [bne_iff_ne]; exact fun e => hs (psi_inj e)
      have HF := zH (show BB = false by rw [HBB.out, ← HHs.out, if_neg hs]; rfl)
      clear hs hst HHs
      refine wp_region_quiet_below (by kernel_rfl) (by kernel_rfl) ?_
      repeat (any_goals (first | go_big_quiet_step (first | (go_at_call 123; with_reducible exact CSt.out _ _)) | quiet_step (first | (go_at_call 123; with_reducible exact CSt.out _ _))))
      refine wpQuiet_nil ?_; intro _ hw'; obtain ⟨⟨dq, osq⟩, hw''⟩ := hw'; subst hw''
      have HE := zH (below_two Hb5.out (below_regrown w5 dq osq))
      go_wp2
      go_ret
      exact ⟨ret_b HF.out.symm, HE.out⟩
end Go.Proofs.YtlfneeobnihocaaGreatDoor
