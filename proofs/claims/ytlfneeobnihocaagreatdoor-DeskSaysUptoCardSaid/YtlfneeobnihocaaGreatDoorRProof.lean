/- The walk of the reference's Proof: each value by its sum. The circuit is right, there are as many inputs and draws as it wants. -/
import Derived.Test.YtlfneeobnihocaaGreatDoorRValues
import Derived.Test.YtlfneeobnihocaaGreatDoorGkrProve
import Derived.Test.YtlfneeobnihocaaGreatDoorRMle
import Derived.Test.YtlfneeobnihocaaGreatDoorWireS
namespace Go.Proofs.YtlfneeobnihocaaGreatDoor
set_option maxRecDepth 100000
set_option linter.unusedVariables false
open Go.RowKit Tally
open Go.Sort (grow)
theorem row_snoc (gs : List Gt) (zF VF dF : List F) (k j m v : Nat) (hV : VF.length = 2 ^ k) (hG : GatesIn gs (2 ^ k)) (hj : j ≤ dF.length) (hm : j + 1 + m = 2 * k) (hv : v < 3) :
  ((roundAt gs zF VF k (dF.take j)).map psi).take (v + 1) = ((roundAt gs zF VF k (dF.take j)).map psi).take v ++ [psi (sumTo (fun b => stepAt gs zF VF (((dF.take j ++ [phi (v : Int)]) ++ bitsF b m).take k) (((dF.take j ++ [phi (v : Int)]) ++ bitsF b m).drop k)) (2 ^ m))] := by
 have h1 := roundT_take ((layT gs zF VF (2 ^ k)).fixes (dF.take j)) v hv
 have h2 := sum_fixes gs zF VF k m (dF.take j ++ [phi (v : Int)]) hV hG (by rw [List.length_append, List.length_take, List.length_singleton]; omega)
 rw [Tb.fixes_snoc] at h2
 rw [h2] at h1
 exact h1
theorem step_elem (c : Ci) (q k j m b : Nat) (z d : List Int) (V : List F) (v : Int) (hV : V.length = 2 ^ k) (hj : j ≤ d.length) (hm : j + 1 + m = 2 * k) (L : List Int) (hL : L = d.take j ++ [v] ++ bitsI b m) :
  stepI c q z (L.take k) (L.drop k) (phi (psi (dotEq ((V.map psi).map phi) ((L.take k).map phi)))) (phi (psi (dotEq ((V.map psi).map phi) ((L.drop k).map phi)))) =
   stepAt (aty c.layers q).gates (z.map phi) V ((((d.map phi).take j ++ [phi v]) ++ bitsF b m).take k) ((((d.map phi).take j ++ [phi v]) ++ bitsF b m).drop k) := by
 have e : L.map phi = ((d.map phi).take j ++ [phi v]) ++ bitsF b m := by
  rw [hL, List.map_append, List.map_append, List.map_take]
  congr 1
  exact mapphi_psi _
 have hl : L.length = 2 * k := by rw [hL, List.length_append, List.length_append, List.length_take, List.length_singleton]; unfold bitsI; rw [List.length_map, bitsF_length]; omega
 unfold stepI stepAt
 rw [phi_psi, phi_psi, mapphi_psi, ← e, ← List.map_take, ← List.map_drop, eval_dot _ _ (by rw [List.length_map, List.length_take, hV, hl]; congr 1; omega), eval_dot _ _ (by rw [List.length_map, List.length_drop, hV, hl]; congr 1; omega)]
theorem RowUN.lit3 (w : World) (v v2 v3 : Value) (l l2 l3 : List Int) (n : Nat) (h : RowU w v l) (hv : NilOk v) (h2 : RowU w v2 l2) (hv2 : NilOk v2) (h3 : RowU w v3 l3) (hv3 : NilOk v3) (hn : w.heap.size = n) : RowUN (w.alloc (.cells #[v, v2, v3] 53)) (.slice (some ⟨n, 0, none⟩) 3 3) [l, l2, l3] := by
 subst hn
 refine ⟨by simp, _, 3, rfl, fun _ => ⟨w.heap.size, 0, rfl, by simp, fun j hj => ?_⟩⟩
 have hj2 : j = 0 ∨ j = 1 ∨ j = 2 := by simp at hj; omega
 rcases hj2 with rfl | rfl | rfl
 ·exact ⟨v, by rw [World.cell?_alloc_at _ _ _ _ rfl]; rfl, h.more _, hv⟩
 ·exact ⟨v2, by rw [World.cell?_alloc_at _ _ _ _ rfl]; rfl, h2.more _, hv2⟩
 ·exact ⟨v3, by rw [World.cell?_alloc_at _ _ _ _ rfl]; rfl, h3.more _, hv3⟩
theorem three_le {l l2 l3 : List Int} (h : l.length ≤ 1000) (h2 : l2.length ≤ 1000) (h3 : l3.length ≤ 1000) : ∀ j, j < [l, l2, l3].length → (atl [l, l2, l3] j).length ≤ 1000 := by
 intro j hj
 have hj2 : j = 0 ∨ j = 1 ∨ j = 2 := by simp at hj; omega
 rcases hj2 with rfl | rfl | rfl
 ·exact h
 ·exact h2
 ·exact h3
theorem three_blocks' (w : World) (cs1 cs2 cs3 : Array Value) (t1 t2 t3 : Nat) : ∃ W tb, ((w.alloc (.cells cs1 t1)).alloc (.cells cs2 t2)).alloc (.cells cs3 t3) = W ∧ tb = w.heap.size ∧ W.heap[tb]? = some (.cells cs1 t1 (0, 0)) ∧ W.heap[tb + 1]? = some (.cells cs2 t2 (0, 0)) ∧ W.heap[tb + 1 + 1]? = some (.cells cs3 t3 (0, 0)) ∧ W.heap.size = tb + 3 ∧ Below w.heap.size w W := by
 refine ⟨_, _, rfl, rfl, ?_, ?_, ?_, by simp, (((Below.refl _ _).alloc (Nat.le_refl _) _).alloc (by simp <;> omega) _).alloc (by simp <;> omega) _⟩
 ·show (((w.heap.push _).push _).push _)[w.heap.size]? = _
  rw [Array.getElem?_push, if_neg (by simp <;> omega), Array.getElem?_push, if_neg (by simp), Array.getElem?_push, if_pos rfl]
 ·show (((w.heap.push _).push _).push _)[w.heap.size + 1]? = _
  rw [Array.getElem?_push, if_neg (by simp), Array.getElem?_push, if_pos (by simp)]
 ·show (((w.heap.push _).push _).push _)[w.heap.size + 1 + 1]? = _
  rw [Array.getElem?_push, if_pos (by simp)]
set_option maxHeartbeats 8000000 in
theorem ref_ProofN (v : Value) (c : Ci) (vi vd : Value) (inp d : List Int) (w : World) (h : IsC w v c) (hp : RowU w vi inp) (hd : RowU w vd d) (hcd : CapOk vd) (hG : Good c) (hl : inp.length = 2 ^ c.log.toNat) (hdl : d.length = drawsN c) :
  Calls Tryz.prog 120 #[v, vi, vd] w fun e w' => ∃ vp, e = .returned vp ∧ Far (fun b => b < w.heap.size) (fun W => IsP W vp (proveI c inp d)) w' ∧ Below w.heap.size w w' := by
 have HC := zH h; have HG := zH hG; have Hp := zH hp
 have Hl := zH hl; have Hdl := zH hdl; have Hd := zH hd
 have h4 := hG.n4; have h1 := hG.n1
 have hD40 := drawsN_le hG
 obtain ⟨ac, cc, rfl⟩ := h.shape
 obtain ⟨hlog, uu, e, hL⟩ := h
 simp only [Value.agg.injEq, Array.mk.injEq, List.cons.injEq] at e
 obtain ⟨-, rfl, -⟩ := e
 obtain ⟨hls, hll, a', cap', e, hr⟩ := hL
 cases e
 obtain ⟨m, hm⟩ : ∃ m, c.layers.length = m + 1 := ⟨c.layers.length - 1, by omega⟩
 have hbl : belowLog c c.layers.length = (aty c.layers m).log := by rw [hm, belowLog_succ]
 obtain ⟨bC, oC, rfl, hClt, hcell⟩ := hr (by omega)
 obtain ⟨c1, _⟩ := hcell m (by omega)
 have ht0 := hG.below0 (k := c.layers.length) (Nat.le_refl _)
 have ht4 := hG.below4 (k := c.layers.length) (Nat.le_refl _)
 rw [← hbl] at c1
 obtain ⟨T, hTop⟩ : ∃ T : Nat, belowLog c c.layers.length = (T : Int) := ⟨(belowLog c c.layers.length).toNat, by omega⟩
 have HTop := zH hTop
 have hT4 : T ≤ 4 := by omega
 rw [hTop] at c1
 have HDs := zH (show drawsN c = T + needFrom c c.layers.length by unfold drawsN; rw [hTop]; rfl)
 have Hnd := zH (show 1 ≤ needFrom c c.layers.length by
  rw [hm]; show 1 ≤ 2 * _ + 1 + _; omega)
 obtain ⟨ud, _, ad, cd, rfl, hdr⟩ := hd
 obtain ⟨hdc, hdm⟩ := hcd _ _ _ rfl
 obtain ⟨bd, od, rfl, hdlt, hdcell⟩ := hdr (by rw [hdl, HDs.out]; have := Hnd.out; omega)
 have Hdc := zH hdcell; have Ud := zH ud
 rw [hdl] at hdc
 have Hpr := zH (show proveI c inp d = proofFromI c (inp.map phi) c.layers.length (d.take T) (d.drop T) by unfold proveI; rw [hTop]; rfl)
 rw [Hpr.out]
 obtain ⟨DN, hDN⟩ : ∃ DN, DN = drawsN c := ⟨_, rfl⟩
 rw [← hDN] at hdc hD40
 have HDN := zH (show d.length = DN by rw [hdl, hDN])
 have HDT := zH (show DN = T + needFrom c c.layers.length by rw [hDN, HDs.out])
 have hTD : T < DN := by rw [HDT.out]; have := Hnd.out; omega
 rw [HDN.out] at Hd ⊢
 obtain ⟨_, _, ai, ci, rfl, -⟩ := hp
 have hs1 : (c.layers.length : Int) - 1 = (m : Int) := by omega
 have hml : (m : Int) < (c.layers.length : Int) := by omega
 have hTc : (T : Int) ≤ (cd : Int) := by omega
 have hT0 : (0 : Int) ≤ (T : Int) := by omega
 have Hm := zH hm
 clear hdr hdcell ud hDN hTop ht0 ht4 hls hll hcell hr hlog hbl hG hcd hl hdl hm
 obtain ⟨W, tb, hW, htb, hb1, hb2, hb3, s1, B1⟩ := three_blocks' w #[.int .i64 c.log, .slice (some ⟨bC, oC, none⟩) c.layers.length cc] #[.slice none 0 0] #[.slice none 0 0] 62 93 93
 have cR : W.cell? ⟨bC, oC + m * 2, none⟩ = some (.int .i64 (T : Int)) := (B1.cell (p := ⟨bC, oC + m * 2, none⟩) hClt).trans c1
 have k1 : W.cell? ⟨w.heap.size, 1, none⟩ = some (.slice (some ⟨bC, oC, none⟩) c.layers.length cc) := by have hq := hb1; rw [htb] at hq; exact cell_blk hq 1
 have H1 := zH B1
 have Hb1 := zH hb1; have Hb2 := zH hb2; have Hb3 := zH hb3
 have Hs1 := zH s1; have Htb := zH htb
 clear hb1 hb2 hb3 B1 s1 htb c1
 go_enter Tryz.func120, Tryz.ntmps120
 go_wp2_with (fail)
 rw [← Htb.out]
 obtain ⟨oo, hoo⟩ : ∃ oo, oo = tb + 1 + 1 := ⟨_, rfl⟩
 rw [← hoo] at Hb3 ⊢
 have htbo : tb + 1 < oo := by omega
 have Hoo := zH hoo
 clear hW cR k1 hoo
 obtain ⟨I, hI⟩ : ∃ I, I = inp.map phi := ⟨_, rfl⟩
 have HIl := zH (show I.length = 2 ^ c.log.toNat by rw [hI, List.length_map, Hl.out])
 have HI := zH hI
 have hwt : w.heap.size ≤ tb := Nat.le_of_eq Htb.out.symm
 have Hz0 := zH (show RowU W (.slice (some ⟨bd, od, none⟩) T cd) (d.take T) from (Hd.out.go H1.out).front (by omega))
 have Hzl0 := zH (show (d.take T).length = (belowLog c c.layers.length).toNat by rw [List.length_take, HDN.out, HTop.out]; simp; omega)
 have Hc0 := zH (show W.heap[oo]? = some (.cells #[.slice none 0 0] 93 (0, 0)) from Hb3.out)
 clear hI
 go_loopw [9, 10, 11] (fun zv av iv wr => ∃ (m p : Nat) (z : List Int) (A : List Pi) (vP : Value), m ≤ c.layers.length ∧ av = .int .i64 (p : Int) ∧ iv = .int .i64 ((m : Int) - 1) ∧ p + needFrom c m = DN ∧ Hid (RowU wr zv z) ∧ Hid (z.length = (belowLog c m).toNat) ∧ Hid (A ++ proofFromI c I m z (d.drop p) = proofFromI c I c.layers.length (d.take T) (d.drop T)) ∧ Hid (A.length + m = c.layers.length) ∧ Hid (wr.heap[oo]? = some (.cells #[vP] 93 (0, 0))) ∧ Hid (NewP (oo + 1) wr vP A) ∧ Hid (Below oo W wr)) (fun _ _ iv _ => (intOf iv + 1).toNat)
 case atStart => exact ⟨c.layers.length, T, d.take T, [], _, Nat.le_refl _, rfl, by rw [← hs1], HDT.out.symm, Hz0.out, Hzl0.out, rfl, by simp [Hid], Hc0.out, NewP.nil _ _, Below.refl _ _⟩
 case round =>
  clear Hz0 Hzl0 Hc0
  obtain ⟨m, p, z, A, vP, hm, rfl, rfl, hp, HZ, HZl, HA, HAl, HBo, HP, HB⟩ := hrel
  have hBr := zH (H1.out.trans (HB.out.mono (by omega)))
  have c0 : wr.cell? ⟨tb, 0, none⟩ = some _ := cell_blk ((HB.out.block tb (by omega)).trans Hb1.out) 0
  have c1 : wr.cell? ⟨tb, 1, none⟩ = some _ := cell_blk ((HB.out.block tb (by omega)).trans Hb1.out) 1
  have looW : oo < wr.heap.size := blk_lt HBo.out
  by_cases hm0 : m = 0
  ·subst hm0
   have g0 : wr.cell? ⟨oo, 0, none⟩ = some vP := cell_blk HBo.out 0
   have hrr := (HB.out.block (tb + 1) (by omega)).trans Hb2.out
   have f0 : wr.cell? ⟨tb + 1, 0, none⟩ = some _ := cell_blk hrr 0
   have ff := free_blk hrr 0
   rw [show ((0 : Nat) : Int) - 1 = -1 from rfl]
   obtain ⟨aP, cP, rfl⟩ := HP.out.isSlice
   go_wp2_with (fail)
   have HPI := zH (show A = proofFromI c I c.layers.length (d.take T) (d.drop T) by have := HA.out; rwa [show proofFromI c I 0 z (d.drop p) = [] from rfl, List.append_nil] at this)
   have hbz : Below w.heap.size w (wr.setCell ⟨tb + 1, 0, none⟩ (.slice aP A.length cP)) := hBr.out.setCell (p := ⟨tb + 1, 0, none⟩) (by show w.heap.size ≤ tb + 1; omega) _
   have hpz := (HP.out.low (show tb + 1 < oo + 1 by omega) 0 (.slice aP A.length cP)).far (S := fun b => b < w.heap.size) (fun b (hb : b < w.heap.size) => by omega)
   have hbk := blk_setCell hrr 0 (.slice aP A.length cP)
   generalize wr.setCell ⟨tb + 1, 0, none⟩ (.slice aP A.length cP) = wz at *
   have d0 : wz.cell? ⟨tb + 1, 0, none⟩ = some (.slice aP A.length cP) := cell_blk hbk 0
   exact bodyPost_ret (v := .agg #[.slice aP A.length cP]) (by simp [results, Tryz.results120, go_sem, d0]) rfl ⟨_, rfl, by rw [← HI.out, ← HPI.out]; exact hpz.imp fun W h => ⟨_, rfl, h⟩, hbz⟩
  ·obtain ⟨q, rfl⟩ : ∃ q, m = q + 1 := ⟨m - 1, by omega⟩
   rw [show ((q + 1 : Nat) : Int) - 1 = (q : Int) by omega]
   have hq : q < c.layers.length := by omega
   clear hm0
   go_wp2_with (fail)
   refine (ref_Below _ c q _ (HC.out.go hBr.out) (by omega) h4).mono ?_
   rintro e w6 ⟨rfl, bw6⟩
   have k0 := HG.out.below0 (k := q) (by omega)
   have k4 := HG.out.below4 (k := q) (by omega)
   obtain ⟨k, hk⟩ : ∃ k : Nat, belowLog c q = (k : Int) := ⟨(belowLog c q).toNat, by omega⟩
   have Hk := zH hk
   rw [hk] at k0 k4 ⊢
   have hk4 : k ≤ 4 := by omega
   clear hk k0 k4
   have Bw6 := zH bw6
   have Hn' := zH (show needFrom c (q + 1) = 2 * k + 1 + needFrom c q by show 2 * (belowLog c q).toNat + 1 + needFrom c q = _; rw [Hk.out]; simp)
   have hpk : p + (2 * k + 1) ≤ DN := by have := Hn'.out; omega
   have hB6 := zH (below_two hBr.out bw6)
   have c0' := (bw6.cell (p := ⟨tb, 0, none⟩) (by show tb < wr.heap.size; omega)).trans c0
   have c1' := (bw6.cell (p := ⟨tb, 1, none⟩) (by show tb < wr.heap.size; omega)).trans c1
   clear bw6 c0 c1
   go_wp2_with (fail)
   refine (ref_Values c inp HG.out Hl.out q (by omega) _ _ _ (HC.out.go hB6.out) (Hp.out.go hB6.out)).mono ?_
   rintro e w7 ⟨vb, rfl, hnb, bw7⟩
   rw [← HI.out] at hnb
   obtain ⟨V, hV⟩ : ∃ V, V = valF c I q := ⟨_, rfl⟩
   rw [← hV] at hnb
   have HVl := zH (show V.length = 2 ^ k by rw [hV, valF_length HG.out I HIl.out q (by omega), Hk.out, Int.toNat_natCast])
   have HV := zH hV
   have Hvb := zH hnb.row
   have hB7 := zH (below_two hB6.out bw7)
   have Bw7 := zH (below_two Bw6.out bw7)
   have d0 : w7.cell? ⟨bd, od + (p + 2 * k), none⟩ = some (.int .u64 (at0 d (p + 2 * k))) := (hB7.out.cell (p := ⟨bd, od + (p + 2 * k), none⟩) hdlt).trans (Hdc.out _ (by rw [HDN.out]; omega))
   have e0 : w7.cell? ⟨bd, od + ((p : Int) + 2 * (k : Int)).toNat, none⟩ = some (.int .u64 (at0 d (p + 2 * k))) := by rw [show ((p : Int) + 2 * (k : Int)).toNat = p + 2 * k by omega]; exact d0
   have hpc0 : (0 : Int) ≤ (p : Int) := by omega
   have hpc1 : (p : Int) ≤ (p : Int) + 2 * (k : Int) := by omega
   have hpc2 : (p : Int) + 2 * (k : Int) ≤ (cd : Int) := by omega
   have hpc3 : (p : Int) + 2 * (k : Int) < (DN : Int) := by omega
   have hpc4 : (0 : Int) ≤ (p : Int) + 2 * (k : Int) := by omega
   have hw2 : IntKind.i64.wrap (2 * (k : Int)) = 2 * (k : Int) := IntWalk.i64_in _ (by omega)
   clear hV bw7 hnb c0' c1'
   go_wp2_with (fail)
   obtain ⟨wo, hwo⟩ : ∃ x : World, x = wr := ⟨_, rfl⟩
   subst hwo
   rw [show p + 2 * k - p = 2 * k by omega]
   obtain ⟨W8, hW8⟩ : ∃ W8, w7.alloc (.cells #[.slice none 0 0, .slice none 0 0] 143) = W8 := ⟨_, rfl⟩
   have B8 : Below w7.heap.size w7 W8 := by rw [← hW8]; exact (Below.refl _ _).alloc (Nat.le_refl _) _
   have b8 : W8.heap[w7.heap.size]? = some (.cells #[.slice none 0 0, .slice none 0 0] 143 (0, 0)) := by rw [← hW8]; exact alloc_blk w7 _
   rw [hW8]
   have Bwo8 := zH (below_two Bw7.out B8)
   have HBw8 := zH (below_two hB7.out B8)
   obtain ⟨pp, hpp⟩ : ∃ pp, pp = w7.heap.size := ⟨_, rfl⟩
   rw [← hpp] at B8 b8 ⊢
   have HB8 := zH B8; have Hb8 := zH b8; have Hpp := zH hpp
   have hwpp : wo.heap.size ≤ pp := by have := Bw7.out.size; omega
   have hopp : oo < pp := Nat.lt_of_lt_of_le looW hwpp
   have hwwp : w.heap.size ≤ pp := by have := hBr.out.size; omega
   clear hW8 B8 b8 hpp e0 d0
   obtain ⟨dd, hdd⟩ : ∃ dd, dd = d.drop p := ⟨_, rfl⟩
   have HDD := zH hdd
   have HDl := zH (show dd.length = DN - p by rw [hdd, List.length_drop, HDN.out])
   have Htau := zH (show at0 d (p + 2 * k) = at0 dd (2 * k) by rw [hdd]; simp [at0])
   obtain ⟨gs, hgs⟩ : ∃ gs, gs = (aty c.layers q).gates := ⟨_, rfl⟩
   have HGs := zH hgs
   have HGi := zH (show GatesIn gs (2 ^ k) by rw [hgs]; have := HG.out.gatesIn hq; rw [Hk.out, Int.toNat_natCast] at this; exact this)
   have KX := zH (show ∀ X, Below pp W8 X → Below w.heap.size w X from fun X hX => HBw8.out.trans (hX.mono hwwp))
   have KZ := zH (show ∀ X, Below pp W8 X → RowU X u9 z from fun X hX => HZ.out.go (Bwo8.out.trans (hX.mono hwpp)))
   have KV := zH (show ∀ X, Below pp W8 X → RowU X vb (V.map psi) from fun X hX => Hvb.out.below (HB8.out.trans hX) (Nat.le_of_eq Hpp.out.symm))
   have KD := zH (show ∀ X n cap, Below pp W8 X → n ≤ 2 * k → RowU X (.slice (some ⟨bd, od + p, none⟩) n cap) (dd.take n) from fun X n cap hX hn => by
    rw [HDD.out]; exact (Hd.out.go (KX.out X hX)).cut p n cap (by omega))
   have KC := zH (show ∀ X, Below pp W8 X → IsC X (.agg #[.int .i64 c.log, .slice (some ⟨bC, oC, none⟩) c.layers.length cc]) c from fun X hX => HC.out.go (KX.out X hX))
   have Kb := zH (show ∀ X, Below pp W8 X → X.heap[tb]? = some (.cells #[.int .i64 c.log, .slice (some ⟨bC, oC, none⟩) c.layers.length cc] 62 (0, 0)) from fun X hX =>
    (hX.block tb (by omega)).trans ((Bwo8.out.block tb (by omega)).trans ((HB.out.block tb (by omega)).trans Hb1.out)))
   have hW8s : pp < W8.heap.size := blk_lt Hb8.out
   have Hzq := zH (show (z.length : Int) = (aty c.layers q).log by rw [HZl.out, belowLog_succ]; have := HG.out.l0 q hq; omega)
   clear hdd hgs hpc0 hpc1 hpc2 hpc3 hpc4
   go_loopw [17] (fun jv wr => ∃ (j : Nat) (vr : Value), j ≤ 2 * k ∧ jv = .int .i64 (j : Int) ∧ Hid (wr.heap[pp]? = some (.cells #[vr, .slice none 0 0] 143 (0, 0))) ∧ Hid (NewUU (pp + 1) wr vr ((roundsI gs z (V.map psi) k dd).take j)) ∧ Hid (Below pp W8 wr)) (fun jv _ => 2 * k - (intOf jv).toNat)
   case atStart => exact ⟨0, _, by omega, rfl, Hb8.out, NewUU.nil _ _, Below.refl _ _⟩
   case round =>
    obtain ⟨j, vr, hj, rfl, HBp, HRs, HBj⟩ := hrel
    obtain ⟨wj, hwj⟩ : ∃ x : World, x = wr := ⟨_, rfl⟩
    subst hwj
    by_cases hj2 : j < 2 * k
    ·have hj2i : (j : Int) < 2 * (k : Int) := by omega
     obtain ⟨n, hn⟩ : ∃ n, n = 2 * k - j - 1 := ⟨_, rfl⟩
     have hn8 : n ≤ 8 := by omega
     have hs : 2 * (k : Int) - (j : Int) - 1 = (n : Int) := by omega
     have hjn : j + 1 + n = 2 * k := by omega
     obtain ⟨M, hM⟩ : ∃ M, M = 2 ^ n := ⟨_, rfl⟩
     have HwM := zH (show wrap64 (2 ^ n) = (M : Int) by rw [hM]; exact pow_wrap8 hn8)
     have hM8 := pow_le8 hn8
     rw [← hM] at hM8
     have HM := zH hM
     have hppj : pp < wj.heap.size := blk_lt HBp.out
     obtain ⟨R, hR⟩ : ∃ R, R = (roundAt gs (z.map phi) V k ((dd.map phi).take j)).map psi := ⟨_, rfl⟩
     have HRl := zH (show R.length = 3 by rw [hR, List.length_map, roundAt_length])
     have HR := zH hR
     obtain ⟨SF, hSF⟩ : ∃ SF : Nat → Nat → F, SF = fun (v b : Nat) => stepAt gs (z.map phi) V ((((dd.map phi).take j ++ [phi (v : Int)]) ++ bitsF b n).take k) ((((dd.map phi).take j ++ [phi (v : Int)]) ++ bitsF b n).drop k) := ⟨_, rfl⟩
     have HSF := zH hSF
     have HRs2 := zH (show ∀ x, x < 3 → R.take (x + 1) = R.take x ++ [psi (sumTo (SF x) M)] from fun x hx => by
      rw [hR, hSF, hM]; exact row_snoc gs (z.map phi) V (dd.map phi) k j n x HVl.out HGi.out (by rw [List.length_map, HDl.out]; omega) hjn hx)
     clear hn hM hR hSF
     go_wp2_with (fail)
     go_loopw [18, 19] (fun rv xv wr => ∃ x : Nat, x ≤ 3 ∧ xv = .int .u64 (x : Int) ∧ Hid (NewU wj.heap.size wr rv (R.take x)) ∧ Hid (Below wj.heap.size wj wr)) (fun _ xv _ => 3 - (intOf xv).toNat)
     case atStart => exact ⟨0, by omega, rfl, NewU.nil _ _, Below.refl _ _⟩
     case round =>
      obtain ⟨x, hx, rfl, HO, HBx⟩ := hrel
      obtain ⟨wx, hwx⟩ : ∃ x : World, x = wr := ⟨_, rfl⟩
      subst hwx
      by_cases hx3 : x < 3
      ·have hxi : (x : Int) < 3 := by omega
       have ux : U64 (x : Int) := ⟨by omega, by omega⟩
       have HBJx := zH (show Below pp W8 wx from HBj.out.trans (HBx.out.mono (Nat.le_of_lt hppj)))
       have hppx : pp ≤ wx.heap.size := by have := HBx.out.size; omega
       have Hs3 := zH (HRs2.out x hx3)
       go_wp2_with (fail)
       go_loopw [20, 21] (fun sv bv wr => ∃ b : Nat, b ≤ M ∧ bv = .int .i64 (b : Int) ∧ sv = .int .u64 (psi (sumTo (SF x) b)) ∧ Hid (Below wx.heap.size wx wr)) (fun _ bv _ => M - (intOf bv).toNat)
       case atStart => exact ⟨0, Nat.zero_le _, rfl, congrArg _ psi_zero.symm, Below.refl _ _⟩
       case round =>
        obtain ⟨b, hb, rfl, rfl, HBb⟩ := hrel
        obtain ⟨wv, hwv⟩ : ∃ x : World, x = wr := ⟨_, rfl⟩
        subst hwv
        by_cases hbM : b < M
        ·have hbM1 : (b : Int) < (M : Int) := by omega
         have hlt : (b : Int) < wrap64 (2 ^ n) := by rw [HwM.out]; exact hbM1
         have HBJ := zH (show Below pp W8 wv from HBJx.out.trans (HBb.out.mono hppx))
         have hjc : (j : Int) ≤ ((cd - p : Nat) : Int) := by omega
         have hj0 : (0 : Int) ≤ (j : Int) := by omega
         have hb1 : b < 1000000 := by omega
         have Hbl := zH (show (bitsI b n).length = n by simp [bitsI, bitsF_length])
         have Hdj := zH (show (dd.take j).length = j by rw [List.length_take, HDl.out]; omega)
         have KDj := zH (show ∀ X, Below wv.heap.size wv X → RowU X (.slice (some ⟨bd, od + p, none⟩) j (cd - p)) (dd.take j) from fun X hX => KD.out X j (cd - p) (HBJ.out.trans (hX.mono (by have := HBb.out.size; omega))) (by omega))
         go_wp2_with (fail)
         clear hlt
         have hsj : IntKind.i64.wrap (2 * (k : Int) - (j : Int)) = 2 * (k : Int) - (j : Int) := IntWalk.i64_in _ (by omega)
         have hsn : IntKind.i64.wrap (2 * (k : Int) - (j : Int) - 1) = (n : Int) := by rw [hs]; exact IntWalk.i64_in _ (by omega)
         have hnw : IntKind.i64.wrap (n : Int) = (n : Int) := IntWalk.i64_in _ (by omega)
         have hal := zH (show Below wv.heap.size wv (wv.alloc (.cells #[.int .u64 (x : Int)] 57)).drew from below_drewN ((Below.refl _ _).alloc (Nat.le_refl _) _) 1)
         have H3 := zH (show ∀ j', j' < [dd.take j, [(x : Int)], bitsI b n].length → (atl [dd.take j, [(x : Int)], bitsI b n] j').length ≤ 1000 from three_le (by rw [Hdj.out]; omega) (by simp) (by rw [Hbl.out]; omega))
         go_region_held3 (fun w' => Below wv.heap.size wv w')
          (first
           | exact below_dr _
           | exact hal.out
           | assumption
           | exact hzA
           | exact below_chain hzA (below_alloc wA _)
           | exact below_chain (below_chain hzA (below_alloc wA _)) (below_alloc _ _)
           | exact hzC)
          (first
           | (go_at_call 78; (with_reducible refine (ref_bits b n (wv.alloc (.cells #[.int .u64 (x : Int)] 57)).drew hb1 hn8).mono ?_); rintro e wA ⟨vA, rfl, hnA, hbA⟩; have HnA := zH hnA.row; have HnN := zH hnA.nilOk; have hzA := below_chain hal.out hbA; have HnX := zH ((row1 wv wv.heap.size (x : Int) ux rfl).go ((below_drw _).trans (hbA.mono (Nat.le_refl _)))); obtain ⟨aA, cA, eA⟩ := hnA.isSlice; rw [Hbl.out] at eA; subst eA; clear hnA)
           | (go_at_call 78; (with_reducible refine (ref_bits b n wv.drew hb1 hn8).mono ?_); rintro e wA ⟨vA, rfl, hnA, hbA⟩; have HnA := zH hnA.row; have HnN := zH hnA.nilOk; have hzA := below_chain (below_dr wv) hbA; obtain ⟨aA, cA, eA⟩ := hnA.isSlice; rw [Hbl.out] at eA; subst eA; clear hnA)
           | (go_at_call 77; (with_reducible refine (ref_joined [dd.take j, [(x : Int)], bitsI b n] _ _ (RowUN.lit3 wA _ _ _ _ _ _ wA.heap.size (KDj.out wA hzA) (NilOk.some _ _ _) HnX.out (NilOk.some _ _ _) HnA.out HnN.out rfl) (by simp) H3.out).mono ?_); rintro e wC ⟨vC, rfl, hnC, hbC⟩; have HnC := zH hnC; have hzC := below_chain (below_chain hzA (below_alloc wA _)) hbC; clear hnC)
           | (go_at_call 77; (with_reducible refine (ref_joined [dd.take j, [(x : Int)], bitsI b n] _ _ (RowUN.lit3 (wA.alloc _) _ _ _ _ _ _ (wA.heap.size + 1) ((KDj.out wA hzA).more _) (NilOk.some _ _ _) (row1 wA wA.heap.size (x : Int) ux rfl) (NilOk.some _ _ _) (HnA.out.more _) HnN.out (by simp)) (by simp) H3.out).mono ?_); rintro e wC ⟨vC, rfl, hnC, hbC⟩; have HnC := zH hnC; have hzC := below_chain (below_chain (below_chain hzA (below_alloc wA _)) (below_alloc _ _)) hbC; clear hnC))
         all_goals
          obtain ⟨L, hL⟩ : ∃ L, L = dd.take j ++ [(x : Int)] ++ bitsI b n := ⟨_, rfl⟩
          rw [show [dd.take j, [(x : Int)], bitsI b n].flatten = L by rw [hL]; simp] at HnC
          have HLl := zH (show L.length = 2 * k by rw [hL, List.length_append, List.length_append, List.length_singleton, Hdj.out, Hbl.out]; omega)
          have hkk : 0 < L.length := by rw [HLl.out]; omega
          obtain ⟨g, cC, hsh, -, hgl, -, -⟩ := HnC.out.shape hkk
          have HL := zH hL
          have hcC := HnC.out.cap _ _ _ hsh
          have HnR := zH HnC.out.row
          subst hsh
          rw [HLl.out] at HnR hcC ⊢
          have hkc : (k : Int) ≤ (cC : Int) := by omega
          have hkc0 : (0 : Int) ≤ (k : Int) := by omega
          have hkc2 : (k : Int) ≤ ((2 * k : Nat) : Int) := by omega
          have HzC := zH hzC
          clear hkk hL hzC hzA HnC HnA HnN hbA hbC
          go_wp2_with (fail)
          go_quiet (fail)
          have HzD := zH (show Below wv.heap.size wv (wC.drewN nq) from below_drewN HzC.out nq)
          have HnD := zH (HnR.out.go (show Below wC.heap.size wC (wC.drewN nq) from below_drewN (Below.refl _ _) nq))
          generalize wC.drewN nq = wD at *
          rw [show 2 * k - k = k by omega]
          have HBD := zH (show Below pp W8 wD from HBJ.out.trans (HzD.out.mono (by have := HBb.out.size; omega)))
          have hppD : pp ≤ wD.heap.size := by have := HBD.out.size; omega
          have htbD : tb < wD.heap.size := by omega
          have rX := zH (show RowU wD (.slice (some ⟨g, 0, none⟩) k cC) (L.take k) from HnD.out.front (by omega))
          have rY := zH (show RowU wD (.slice (some ⟨g, k, none⟩) k (cC - k)) (L.drop k) from by
           have h1 := HnD.out.cut k k (cC - k) (by omega)
           rw [Nat.zero_add, List.take_of_length_le (by rw [List.length_drop, HLl.out]; omega)] at h1
           exact h1)
          have hbt := Kb.out wD HBD.out
          have t0 : wD.cell? ⟨tb, 0, none⟩ = some (.int .i64 c.log) := cell_blk hbt 0
          have t1 : wD.cell? ⟨tb, 1, none⟩ = some (.slice (some ⟨bC, oC, none⟩) c.layers.length cc) := cell_blk hbt 1
          have KD3 := zH (show ∀ X, Below wD.heap.size wD X → Below wD.heap.size wD X ∧ X.cell? ⟨tb, 0, none⟩ = some (.int .i64 c.log) ∧ X.cell? ⟨tb, 1, none⟩ = some (.slice (some ⟨bC, oC, none⟩) c.layers.length cc) from fun X hX => ⟨hX, (hX.cell (p := ⟨tb, 0, none⟩) htbD).trans t0, (hX.cell (p := ⟨tb, 1, none⟩) htbD).trans t1⟩)
          have KP := zH (show ∀ X, Below wD.heap.size wD X → Below pp W8 X from fun X hX => HBD.out.trans (hX.mono hppD))
          have HWi := zH (show Wire c q z (L.take k) (L.drop k) from ⟨HG.out, hq, Hzq.out, by rw [List.length_take, HLl.out, Hk.out]; omega, by rw [List.length_drop, HLl.out, Hk.out]; omega⟩)
          obtain ⟨EX, hEX⟩ : ∃ EX, EX = psi (dotEq ((V.map psi).map phi) ((L.take k).map phi)) := ⟨_, rfl⟩
          obtain ⟨EY, hEY⟩ : ∃ EY, EY = psi (dotEq ((V.map psi).map phi) ((L.drop k).map phi)) := ⟨_, rfl⟩
          have uEX : U64 EX := by rw [hEX]; exact U64.psi _
          have uEY : U64 EY := by rw [hEY]; exact U64.psi _
          have Cx := zH (show ∀ W, Below wD.heap.size wD W → Calls Tryz.prog 52 #[vb, .slice (some ⟨g, 0, none⟩) k cC] W (fun e w' => e = .returned (.int .u64 EX) ∧ Drawn W w') from fun W hB => by
           rw [hEX]; exact ref_Eval (V.map psi) (L.take k) vb (.slice (some ⟨g, 0, none⟩) k cC) W (KV.out W (KP.out W hB)) (rX.out.go hB))
          have Cy := zH (show ∀ W, Below wD.heap.size wD W → Calls Tryz.prog 52 #[vb, .slice (some ⟨g, k, none⟩) k (cC - k)] W (fun e w' => e = .returned (.int .u64 EY) ∧ Drawn W w') from fun W hB => by
           rw [hEY]; exact ref_Eval (V.map psi) (L.drop k) vb (.slice (some ⟨g, k, none⟩) k (cC - k)) W (KV.out W (KP.out W hB)) (rY.out.go hB))
          have Hst := zH (show stepI c q z (L.take k) (L.drop k) (phi EX) (phi EY) = SF x b from by
           rw [HSF.out, HGs.out, hEX, hEY]
           exact step_elem c q k j n b z dd V (x : Int) HVl.out (by rw [HDl.out]; omega) hjn L HL.out)
          have Cs := zH (show ∀ W, Below wD.heap.size wD W → Calls Tryz.prog 123 #[.agg #[.int .i64 c.log, .slice (some ⟨bC, oC, none⟩) c.layers.length cc], .int .i64 q, u9, .slice (some ⟨g, 0, none⟩) k cC, .slice (some ⟨g, k, none⟩) k (cC - k), .int .u64 EX, .int .u64 EY] W (fun e w' => e = .returned (.int .u64 (psi (SF x b))) ∧ Below W.heap.size W w') from fun W hB => by
           rw [← Hst.out]; exact ref_Step (.agg #[.int .i64 c.log, .slice (some ⟨bC, oC, none⟩) c.layers.length cc]) c q u9 (.slice (some ⟨g, 0, none⟩) k cC) (.slice (some ⟨g, k, none⟩) k (cC - k)) z (L.take k) (L.drop k) EX EY W (KC.out W (KP.out W hB)) (KZ.out W (KP.out W hB)) (rX.out.go hB) (rY.out.go hB) uEX uEY HWi.out)
          clear hEX hEY
          have Hs4 := zH (show sumTo (SF x) b + SF x b = sumTo (SF x) (b + 1) from rfl)
          clear hbt
          go_wp2_with (fail)
          go_region_held3 (fun w' => Below wD.heap.size wD w' ∧ w'.cell? ⟨tb, 0, none⟩ = some (.int .i64 c.log) ∧ w'.cell? ⟨tb, 1, none⟩ = some (.slice (some ⟨bC, oC, none⟩) c.layers.length cc))
           (first
            | exact KD3.out _ (below_dr _)
            | (go_split_ands; exact KD3.out _ (below_two (a := wD) (by assumption) hbS))
            | (go_split_ands; exact KD3.out _ (below_two (a := wD) (by assumption) hbY))
            | (go_split_ands; exact KD3.out _ (below_two (a := wD) (by assumption) hbX)))
           (first
            | (go_at_call 52; go_split_ands; (with_reducible refine (Cx.out _ (by assumption)).mono ?_); rintro e wX ⟨rfl, hdX⟩; have hbX := hdX.below)
            | (go_at_call 52; go_split_ands; (with_reducible refine (Cy.out _ (by assumption)).mono ?_); rintro e wY ⟨rfl, hdY⟩; have hbY := hdY.below)
            | (go_at_call 123; go_split_ands; (with_reducible refine (Cs.out _ (by assumption)).mono ?_); rintro e wS ⟨rfl, hbS⟩)
            | (go_at_call 43; (with_reducible refine (ref_Add _ _ _ (U64.psi _) (U64.psi _)).mono ?_); rintro e w' ⟨rfl, rfl⟩))
          all_goals
           go_split_ands
           rw [phi_psi, phi_psi, Hs4.out]
           have hBE : Below wx.heap.size wx wS := HBb.out.trans (((HzD.out).trans (Below.mono (by assumption : Below wD.heap.size wD wS) HzD.out.size)).mono HBb.out.size)
           go_wp2
           go_roundw
           case rel => exact ⟨b + 1, by omega, by go_num, rfl, hBE⟩
           case measure => simp [intOf]; omega
        ·obtain rfl : b = M := by omega
         have hge : ¬ ((b : Int) < wrap64 (2 ^ n)) := by rw [HwM.out]; omega
         have HOs := zH (HO.out.go HBb.out)
         have HBs := zH (show Below wj.heap.size wj wv from HBx.out.trans (HBb.out.mono HBx.out.size))
         have hszs := HBs.out.size
         have hcap : (R.take x).length + 1 ≤ 17592186043904 := by rw [List.length_take]; omega
         go_wp2_with (at_builtin; refine wpList_appU rfl _ _ rfl wj.heap.size _ _ rfl HOs.out _ rfl (U64.psi _) hcap hszs ?_; intro v4 w4 hn4 hb4; have Hn4 := zH hn4; clear hn4)
         go_roundw
         case rel => exact ⟨x + 1, by omega, by go_num, by rw [Hs3.out]; exact Hn4.out, HBs.out.trans hb4⟩
         case measure => simp [intOf]; omega
      ·obtain rfl : x = 3 := by omega
       have hO3 : NewU wj.heap.size wx u18 R := by have := HO.out; rwa [List.take_of_length_le (by rw [HRl.out]; exact Nat.le_refl _)] at this
       obtain ⟨TK, hTK⟩ : ∃ TK, TK = (roundsI gs z (V.map psi) k dd).take j := ⟨_, rfl⟩
       have Hst := zH (show (roundsI gs z (V.map psi) k dd).take (j + 1) = TK ++ [R] by
        rw [hTK, HR.out, roundsI_take gs z (V.map psi) k dd j hj2, mapphi_psi])
       have hR3 : NewUU (pp + 1) wx vr TK := by rw [hTK]; exact HRs.out.below HBx.out (Nat.le_refl _)
       have hbp := (HBx.out.block pp hppj).trans HBp.out
       have hcap : TK.length + 1 ≤ 5864062014634 := by rw [hTK, List.length_take, roundsI_length]; omega
       have hppv : pp + 1 ≤ wj.heap.size := hppj
       have hszp : pp + 1 ≤ wx.heap.size := Nat.le_trans hppv HBx.out.size
       have hvv := zH (show ∀ g, vr.ownBlock = some g → pp + 1 ≤ g ∧ g < wj.heap.size from fun g hg => HRs.out.lt hg)
       obtain ⟨ar, cr, rfl⟩ := hR3.isSlice
       obtain ⟨ao, co, rfl⟩ := hO3.isSlice
       have hlo := zH (show ∀ g, (Value.slice ar TK.length cr).ownBlock = some g → (Value.slice ao R.length co).ownBlock ≠ some g from fun g h1 h2 => by
        have h3 := (hvv.out g h1).2; have h4 := (hO3.lt h2).1; omega)
       have g0 : wx.cell? ⟨pp, 0, none⟩ = some (.slice ar TK.length cr) := cell_blk hbp 0
       have HO3 := zH (hO3.mono hppv); have HR3 := zH hR3
       have Hbp := zH hbp
       have HBJ3 := zH (show Below pp W8 wx from HBj.out.trans (HBx.out.mono (Nat.le_of_lt hppj)))
       clear hbp hO3 hR3 hTK HO
       go_wp2_with (at_builtin; refine wpList_appUUg rfl _ _ rfl (pp + 1) (.slice ar TK.length cr) _ rfl HR3.out _ _ HO3.out hlo.out rfl hcap hszp ?_; intro v5 w5 hn5 hu5 hb5 hg5; have HN5 := zH hn5; have HB5 := zH hb5; have Hbp5 := zH ((hg5.block pp (Nat.lt_of_succ_le hszp) (fun e => by have := (hvv.out pp e.symm).1; omega)).trans Hbp.out); have fp5 := free_blk Hbp5.out; have cp5 : w5.cell? ⟨pp, 0, none⟩ = some _ := cell_blk Hbp5.out 0; obtain ⟨a5, c5, e5⟩ := hn5.isSlice; subst e5; clear hn5 hu5 hb5 hg5)
       have hR6 := (show NewUU (pp + 1) w5 (.slice a5 (TK.length + 1) c5) (TK ++ [R]) by have := HN5.out; rwa [List.length_append, List.length_singleton] at this).setLow (Nat.lt_succ_self pp) 0 (.slice a5 (TK.length + 1) c5)
       go_roundw
       case rel => exact ⟨j + 1, .slice a5 (TK.length + 1) c5, by omega, by go_num, blk_setCell Hbp5.out 0 _, by rw [Hst.out]; exact hR6, (HBJ3.out.trans (HB5.out.mono (Nat.le_succ pp))).setCell (p := ⟨pp, 0, none⟩) (Nat.le_refl pp) _⟩
       case measure => simp [intOf]; omega
    ·obtain rfl : j = 2 * k := by omega
     have hkc : (k : Int) ≤ ((cd - p : Nat) : Int) := by omega
     have hkc0 : (0 : Int) ≤ (k : Int) := by omega
     have hkc2 : (k : Int) ≤ ((2 * k : Nat) : Int) := by omega
     rw [show ((2 * k : Nat) : Int) = 2 * (k : Int) by omega]
     go_wp2_with (fail)
     go_quiet (fail)
     rw [show 2 * k - k = k by omega]
     have HBq := zH (show Below pp W8 (wj.drewN nq) from below_drewN HBj.out nq)
     have Hbq := zH (show (wj.drewN nq).heap[pp]? = _ from HBp.out)
     have hrow : NewUU (pp + 1) (wj.drewN nq) vr (roundsI gs z (V.map psi) k dd) := by
      have h1 := HRs.out
      rw [List.take_of_length_le (by rw [roundsI_length]; exact Nat.le_refl _)] at h1
      exact h1.go (below_drewN (Below.refl _ _) nq)
     generalize wj.drewN nq = wq at *
     obtain ⟨R, hR⟩ : ∃ R, R = roundsI gs z (V.map psi) k dd := ⟨_, rfl⟩
     rw [← hR] at hrow
     have HR := zH hR
     obtain ⟨aR, cR, rfl⟩ := hrow.isSlice
     obtain ⟨Mq, hMq⟩ : ∃ Mq, Mq = wq.heap.size := ⟨_, rfl⟩
     have hppM : pp < Mq := by rw [hMq]; exact blk_lt Hbq.out
     have HMq := zH hMq
     have Hrows := zH (show Far (fun b => b ≤ pp ∨ Mq ≤ b) (fun W => RowUU W (.slice aR R.length cR) R) wq from hrow.farRow (fun b h1 h2 e => by omega))
     obtain ⟨dx, hdx⟩ : ∃ dx, dx = dd.take k := ⟨_, rfl⟩
     obtain ⟨dy, hdy⟩ : ∃ dy, dy = (dd.drop k).take k := ⟨_, rfl⟩
     have Hlx := zH (show dx.length = k by rw [hdx, List.length_take, HDl.out]; omega)
     have Hly := zH (show dy.length = k by rw [hdy, List.length_take, List.length_drop, HDl.out]; omega)
     have Px := zH (show ∀ X, Below w.heap.size w X → RowU X (.slice (some ⟨bd, od + p, none⟩) k (cd - p)) dx from fun X hX => by
      rw [hdx, HDD.out]; exact (Hd.out.go hX).cut p k (cd - p) (by omega))
     have Py := zH (show ∀ X, Below w.heap.size w X → RowU X (.slice (some ⟨bd, od + p + k, none⟩) k (cd - p - k)) dy from fun X hX => by
      have h1 := (Hd.out.go hX).cut (p + k) k (cd - p - k) (by omega)
      rw [← List.drop_drop, ← HDD.out, ← hdy, ← Nat.add_assoc] at h1
      exact h1)
     have HLS := zH (show ∀ t, t < k + 1 → (pLineI (V.map psi) k dd).take (t + 1) = (pLineI (V.map psi) k dd).take t ++ [psi (dotEq ((V.map psi).map phi) ((lineI dx dy (t : Int)).map phi))] from fun t ht => by
      rw [pLineI_take (V.map psi) k dd t (by rw [HDl.out]; omega) ht, hdx, hdy, eval_dot _ _ (by rw [List.length_map, List.length_map, List.length_map, lineI_length _ _ _ (by rw [← hdx, ← hdy, Hlx.out, Hly.out]), ← hdx, Hlx.out]; exact HVl.out)])
     have HLL := zH (pLineI_length (V.map psi) k dd (by rw [HDl.out]; omega))
     have HNX := zH (nextI_line k dd (by rw [HDl.out]; omega))
     rw [← hdx, ← hdy] at HNX
     obtain ⟨LL, hLL⟩ : ∃ LL, LL = pLineI (V.map psi) k dd := ⟨_, rfl⟩
     rw [← hLL] at HLS HLL
     have HLd := zH hLL
     clear hR hMq hrow hdx hdy hLL hkc hkc2 Hb8
     go_wp2_with (fail)
     go_loopw [27] (fun tv wr => ∃ (t : Nat) (vl : Value), t ≤ k + 1 ∧ tv = .int .i64 (t : Int) ∧ Hid (wr.heap[pp]? = some (.cells #[.slice aR R.length cR, vl] 143 (0, 0))) ∧ Hid (NewU Mq wr vl (LL.take t)) ∧ Hid (Far (fun b => b ≤ pp ∨ Mq ≤ b) (fun W => RowUU W (.slice aR R.length cR) R) wr) ∧ Hid (Below pp wq wr)) (fun tv _ => k + 1 - (intOf tv).toNat)
     case atStart => exact ⟨0, _, by omega, rfl, Hbq.out, NewU.nil _ _, Hrows.out, Below.refl _ _⟩
     case round =>
      clear Hbq Hrows
      obtain ⟨t, vl, ht, rfl, HBp2, HVl2, HRw, HBt⟩ := hrel
      have HBT := zH (show Below pp W8 wr from HBq.out.trans HBt.out)
      have hMr : Mq ≤ wr.heap.size := by have := HBt.out.size; have := HMq.out; omega
      have hppr : pp < wr.heap.size := by omega
      by_cases hz : t < k + 1
      ·have hzi : (t : Int) ≤ (k : Int) := by omega
       have ut : U64 (t : Int) := ⟨by omega, by omega⟩
       have hwt : IntKind.u64.wrap (t : Int) = (t : Int) := by rw [IntKind.wrap_u64]; omega
       have KT := zH (show ∀ X, Below wr.heap.size wr X → Below pp W8 X from fun X hX => HBT.out.trans (hX.mono (Nat.le_of_lt hppr)))
       have Kg := zH (show ∀ X, Below wr.heap.size wr X → X.cell? ⟨pp, 1, none⟩ = some vl from fun X hX => cell_blk ((hX.block pp hppr).trans HBp2.out) 1)
       obtain ⟨E, hE⟩ : ∃ E, E = psi (dotEq ((V.map psi).map phi) ((lineI dx dy (t : Int)).map phi)) := ⟨_, rfl⟩
       have uE : U64 E := by rw [hE]; exact U64.psi _
       obtain ⟨TK, hTK⟩ : ∃ TK, TK = LL.take t := ⟨_, rfl⟩
       have Hs5 := zH (show LL.take (t + 1) = TK ++ [E] by rw [hE, hTK]; exact HLS.out t hz)
       rw [← hTK] at HVl2
       have Cl := zH (show ∀ W, Below wr.heap.size wr W → Calls Tryz.prog 125 #[.slice (some ⟨bd, od + p, none⟩) k (cd - p), .slice (some ⟨bd, od + p + k, none⟩) k (cd - p - k), .int .u64 t] W (fun e w' => ∃ v', e = .returned v' ∧ NewU W.heap.size w' v' (lineI dx dy t) ∧ Below W.heap.size W w') from fun W hB => ref_line dx dy _ _ t W (Px.out W (KX.out W (KT.out W hB))) (Py.out W (KX.out W (KT.out W hB))) (by rw [Hlx.out, Hly.out]) (by rw [Hlx.out]; omega) ut)
       have Ce := zH (show ∀ W u, Below wr.heap.size wr W → RowU W u (lineI dx dy t) → Calls Tryz.prog 52 #[vb, u] W (fun e w' => e = .returned (.int .u64 E) ∧ Drawn W w') from fun W u hB hu => by
        rw [hE]; exact ref_Eval (V.map psi) (lineI dx dy t) vb u W (KV.out W (KT.out W hB)) hu)
       have hcap : TK.length + 1 ≤ 17592186043904 := by rw [hTK, List.length_take]; omega
       have hg0 : wr.cell? ⟨pp, 1, none⟩ = some vl := Kg.out wr (Below.refl _ _)
       have hg1 : wr.drew.cell? ⟨pp, 1, none⟩ = some vl := Kg.out _ (below_drw wr)
       have HVr := zH (show ∀ X, Below wr.heap.size wr X → NewU Mq X vl TK from fun X hX => HVl2.out.go hX)
       have Hvg := zH (show ∀ g, vl.ownBlock = some g → Mq ≤ g from fun g hg => (HVl2.out.lt hg).1)
       have Kz := zH (show ∀ X X', Below wr.heap.size wr X → X.grownBy X' vl.ownBlock → X'.heap[pp]? = some (.cells #[.slice aR R.length cR, vl] 143 (0, 0)) ∧ Below pp wq X' ∧ Far (fun b => b ≤ pp ∨ Mq ≤ b) (fun W => RowUU W (.slice aR R.length cR) R) X' from fun X X' hX hg => by
        have hs1 := hX.size
        refine ⟨(hg.block pp (by omega) (fun e => by have := Hvg.out pp e.symm; omega)).trans ((hX.block pp hppr).trans HBp2.out), (HBt.out.trans (hX.mono (Nat.le_of_lt hppr))).grown hg (by omega) (fun g e => by have := Hvg.out g e; omega), (HRw.out.go hX).grown hg (fun g e _ => .inr (Hvg.out g e))⟩)
       clear hE hTK
       go_wp2_with (fail)
       go_region_law
        (first
         | (go_simp; go_at_call 125; (with_reducible refine (Cl.out _ (below_drw wr)).mono ?_); rintro e wl ⟨vn, rfl, hnl, hbl⟩; have hbL : Below wr.heap.size wr wl := below_two (below_drw wr) hbl; have hg2 : wl.cell? ⟨pp, 1, none⟩ = some vl := Kg.out wl hbL)
         | (go_simp; go_at_call 52; (with_reducible refine (Ce.out _ _ hbL hnl.row).mono ?_); rintro e we ⟨rfl, hde⟩; have hbE : Below wr.heap.size wr we := below_two hbL hde.below; have hg3 : we.cell? ⟨pp, 1, none⟩ = some vl := Kg.out we hbE; have hppe : pp < we.heap.size := Nat.lt_of_lt_of_le hppr hbE.size; have HVe := zH (HVr.out we hbE); have hMe : Mq ≤ we.heap.size := Nat.le_trans hMr hbE.size)
         | (refine step_appUg rfl _ _ (by rfl) Mq _ _ (by rfl) HVe.out _ (by rfl) uE hcap hMe ?_; intro v3 w3 hn3 hg5; obtain ⟨a3, c3, rfl⟩ := hn3.isSlice; obtain ⟨hk1, hk2, hk3⟩ := Kz.out we w3 hbE hg5; have hk4 : w3.cell? ⟨pp, 1, none⟩ = some _ := cell_blk hk1 1; have hk5 := free_blk hk1; have HN3 := zH hn3; clear hn3))
       all_goals
        have hN5 : NewU Mq (w3.setCell ⟨pp, 1, none⟩ (.slice a3 (TK.length + 1) c3)) (.slice a3 (TK.length + 1) c3) (TK ++ [E]) := by
         have := HN3.out.low hppM 1 (.slice a3 (TK.length + 1) c3); rw [List.length_append, List.length_singleton] at this; exact this
        have hb5 := blk_setCell hk1 1 (.slice a3 (TK.length + 1) c3)
        have hf5 := hk3.set (b := pp) (.inl (Nat.le_refl _)) 1 (.slice a3 (TK.length + 1) c3)
        have hB5 := hk2.setCell (p := ⟨pp, 1, none⟩) (Nat.le_refl pp) (.slice a3 (TK.length + 1) c3)
        clear hk1 hk2 hk3 hk4 hk5 hg0 hg1 hg2 hg3
        go_wp2
        go_roundw
        case rel => exact ⟨t + 1, .slice a3 (TK.length + 1) c3, by omega, by go_num, hb5, by rw [Hs5.out]; exact hN5, hf5, hB5⟩
        case measure => simp [intOf]; omega
      ·obtain rfl : t = k + 1 := by omega
       have hzi : ¬ (((k + 1 : Nat)) : Int) ≤ (k : Int) := by omega
       have hV2 : NewU Mq wr vl LL := by have := HVl2.out; rwa [List.take_of_length_le (by rw [HLL.out]; exact Nat.le_refl _)] at this
       obtain ⟨av, cv, rfl⟩ := hV2.isSlice
       have d0 : wr.cell? ⟨pp, 0, none⟩ = some _ := cell_blk HBp2.out 0
       have d1 : wr.cell? ⟨pp, 1, none⟩ = some _ := cell_blk HBp2.out 1
       have hBw := zH (show Below wo.heap.size wo wr from Bwo8.out.trans (HBT.out.mono hwpp))
       have hbog := zH ((hBw.out.block oo looW).trans HBo.out)
       obtain ⟨aP, cP, rfl⟩ := HP.out.isSlice
       have g0 : wr.cell? ⟨oo, 0, none⟩ = some (.slice aP A.length cP) := cell_blk hbog.out 0
       have HPg := zH (HP.out.go hBw.out)
       have HPlt := zH (show ∀ g, (Value.slice aP A.length cP).ownBlock = some g → oo + 1 ≤ g ∧ g < wo.heap.size from fun g e => HP.out.lt e)
       have hA1000 : A.length + 1 ≤ 1000 := by have := HAl.out; omega
       have hBg : oo + 1 ≤ wr.heap.size := by omega
       have hsafe := zH (show Far (fun b => b < oo + 1 ∨ (Value.slice aP A.length cP).ownBlock = some b) (fun w => RowUU w (.slice aR R.length cR) R ∧ RowU w (.slice av LL.length cv) LL) wr from
        (HRw.out.less (S' := fun b => b < oo + 1 ∨ (Value.slice aP A.length cP).ownBlock = some b) fun b _ e => .inl (e.elim (fun e => by omega) (fun e => by have := (HPlt.out b e).2; omega))).and
         (hV2.farRow fun g hg e => by have h3 := (hV2.lt hg).1; exact e.elim (fun e => by omega) (fun e => by have := (HPlt.out g e).2; omega)))
       have HKX := zH (KX.out wr HBT.out)
       have ud := Ud.out _ (at0_mem (l := d) (j := p + 2 * k) (by rw [HDN.out]; omega))
       clear hV2
       go_wp2_with (at_builtin; refine wpList_appP rfl _ _ rfl (oo + 1) (.slice aP A.length cP) A rfl HPg.out _ _ ⟨R, LL⟩ hsafe.out rfl hA1000 hBg ?_; intro v5 w5 hn5 hb5 hg5; have HN5 := zH hn5; have HB5' := zH hb5; have Hbo5 := zH ((hg5.block oo (Nat.lt_of_succ_le hBg) (fun e => by have := (HPlt.out oo e.symm).1; omega)).trans hbog.out); have fp5 := free_blk Hbo5.out; have cp5 : w5.cell? ⟨oo, 0, none⟩ = some _ := cell_blk Hbo5.out 0; obtain ⟨a5, c5, e5⟩ := hn5.isSlice; subst e5; clear hn5 hb5 hg5)
       have H5w := zH (show Below oo W (w5.setCell ⟨oo, 0, none⟩ (.slice a5 (A.length + 1) c5)) from (((HB.out.trans (hBw.out.mono (Nat.le_of_lt looW))).trans (HB5'.out.mono (Nat.le_succ oo)))).setCell (p := ⟨oo, 0, none⟩) (Nat.le_refl oo) _)
       have H5x := zH (show Below w.heap.size w (w5.setCell ⟨oo, 0, none⟩ (.slice a5 (A.length + 1) c5)) from H1.out.trans (H5w.out.mono (by omega)))
       have Hp5 := zH (show NewP (oo + 1) (w5.setCell ⟨oo, 0, none⟩ (.slice a5 (A.length + 1) c5)) (.slice a5 (A.length + 1) c5) (A ++ [⟨R, LL⟩]) from by
        have := HN5.out; rw [List.length_append, List.length_singleton] at this; exact this.low (Nat.lt_succ_self oo) 0 _)
       have Hb5 := zH (show (w5.setCell ⟨oo, 0, none⟩ (.slice a5 (A.length + 1) c5)).heap[oo]? = some (.cells #[.slice a5 (A.length + 1) c5] 93 (0, 0)) from blk_setCell Hbo5.out 0 _)
       clear fp5 cp5 g0 d0 d1
       generalize w5.setCell ⟨oo, 0, none⟩ (.slice a5 (A.length + 1) c5) = wz at *
       refine (ref_line dx dy _ _ (at0 d (p + 2 * k)) wz (Px.out wz H5x.out) (Py.out wz H5x.out) (by rw [Hlx.out, Hly.out]) (by rw [Hlx.out]; omega) ud).mono ?_
       rintro e w9 ⟨vn, rfl, hnn, hbn⟩
       rw [Htau.out, ← HNX.out] at hnn
       have HNr := zH hnn.row
       have Hbn := zH hbn
       have HNl := zH (show (nextI k dd).length = (belowLog c q).toNat by rw [HNX.out, lineI_length dx dy _ (by rw [Hlx.out, Hly.out]), Hlx.out, Hk.out]; simp)
       have HAA := zH (show (A ++ [Pi.mk R LL]) ++ proofFromI c I q (nextI k dd) (d.drop (p + (2 * k + 1))) = proofFromI c I c.layers.length (d.take T) (d.drop T) by
        rw [← HA.out, List.append_assoc, HR.out, HLd.out, ← List.drop_drop, ← HDD.out, HGs.out, HV.out]
        show A ++ (_ :: proofFromI c I q _ _) = A ++ (_ :: proofFromI c I q _ _)
        rw [show (belowLog c q).toNat = k by rw [Hk.out]; simp])
       have HAl2 := zH (show (A ++ [Pi.mk R LL]).length + q = c.layers.length by rw [List.length_append, List.length_singleton]; have := HAl.out; omega)
       have hooz : oo < wz.heap.size := blk_lt Hb5.out
       have Hb9 := zH ((Hbn.out.block oo hooz).trans Hb5.out)
       have Hp9 := zH (Hp5.out.go Hbn.out)
       have H9 := zH (H5w.out.trans (Hbn.out.mono (Nat.le_of_lt hooz)))
       have hp9 : p + (2 * k + 1) + needFrom c q = DN := by have := Hn'.out; omega
       clear hnn hbn
       go_wp2
       go_roundw
       case rel => exact ⟨q, p + (2 * k + 1), nextI k dd, A ++ [Pi.mk R LL], .slice a5 (A.length + 1) c5, by omega, by congr 1, rfl, hp9, HNr.out, HNl.out, HAA.out, HAl2.out, Hb9.out, Hp9.out, H9.out⟩
       case measure => simp [intOf]
end Go.Proofs.YtlfneeobnihocaaGreatDoor
