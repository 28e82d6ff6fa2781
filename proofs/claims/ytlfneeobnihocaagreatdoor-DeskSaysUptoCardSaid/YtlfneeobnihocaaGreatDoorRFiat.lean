/- Several texts in one: RFiatM, RFiat. What each says, and its conditions, stands at its head. -/
import Derived.Test.YtlfneeobnihocaaGreatDoorFiatM
import Derived.Test.YtlfneeobnihocaaGreatDoorRProof
import Derived.Test.YtlfneeobnihocaaGreatDoorRDrawnW
/- The mathematics of the reference's Fiat: draw by draw, what stands ahead of a draw is right by then. -/
namespace Go.Proofs.YtlfneeobnihocaaGreatDoor
set_option maxRecDepth 100000
set_option linter.unusedVariables false
open Go.RowKit Tally
theorem tell_take (ls : List (List Int)) (t : Tl) (k : Nat) (hk : k ≤ ls.length) : (tellL ls t).ds.take (t.ds.length + k) = (tellL (ls.take k) t).ds := by
 have e : tellL ls t = tellL (ls.drop k) (tellL (ls.take k) t) := by rw [← tellL_append, List.take_append_drop]
 obtain ⟨r, hr⟩ := tellL_prefix (ls.drop k) (tellL (ls.take k) t)
 have hl : (tellL (ls.take k) t).ds.length = t.ds.length + k := by rw [tellL_length, List.length_take, Nat.min_eq_left hk]
 rw [e, hr, ← hl, List.take_left]
theorem at0_of_take {l l' : List Int} {n i : Nat} (h : l.take n = l'.take n) (hi : i < n) : at0 l i = at0 l' i := by
 have e := congrArg (fun q => q[i]?) h
 simp only [List.getElem?_take, hi, if_true] at e
 unfold at0
 rw [e]
theorem take_of_atl {ls ls' : List (List Int)} {k : Nat} (hk : k ≤ ls.length) (hk' : k ≤ ls'.length) (h : ∀ j, j < k → atl ls j = atl ls' j) : ls.take k = ls'.take k := by
 apply List.ext_getElem?
 intro j
 rw [List.getElem?_take, List.getElem?_take]
 by_cases hj : j < k
 ·rw [if_pos hj, if_pos hj, List.getElem?_eq_getElem (by omega), List.getElem?_eq_getElem (by omega)]
  have e := h j hj
  unfold atl at e
  rw [List.getElem?_eq_getElem (by omega), List.getElem?_eq_getElem (by omega)] at e
  exact congrArg some e
 ·rw [if_neg hj, if_neg hj]
theorem drawn_step (c : Ci) (inp out d : List Int) (i : Nat) (hd : d.length = drawsN c) (hi : i < drawsN c) (h : d.take i = (fiatD c inp out).take i) :
  at0 (drawnI c inp out (proveI c inp d)) i = at0 (fiatD c inp out) i := by
 have hF := fiatD_length c inp out
 have h1 := flatP_length (shaped_prove c inp d hd)
 have h2 := flatP_length (shaped_prove c inp (fiatD c inp out) hF)
 have hb := begT_length c inp out
 have hN : drawsN c = (belowLog c c.layers.length).toNat + needFrom c c.layers.length := rfl
 have go : ∀ k, k ≤ needFrom c c.layers.length → (∀ j, j < k → (belowLog c c.layers.length).toNat + j ≤ i) → (drawnI c inp out (proveI c inp d)).take ((belowLog c c.layers.length).toNat + k) = (fiatD c inp out).take ((belowLog c c.layers.length).toNat + k) := by
  intro k hk hj
  have e1 := tell_take (flatP (proveI c inp d)) (begT c inp out) k (by rw [h1]; exact hk)
  have e2 := tell_take (flatP (proveI c inp (fiatD c inp out))) (begT c inp out) k (by rw [h2]; exact hk)
  rw [hb] at e1 e2
  have e3 : (flatP (proveI c inp d)).take k = (flatP (proveI c inp (fiatD c inp out))).take k := take_of_atl (by rw [h1]; exact hk) (by rw [h2]; exact hk) fun j hjk => prove_hangs inp (by omega) hd hF (by
   have := congrArg (List.take ((belowLog c c.layers.length).toNat + j)) h
   rwa [List.take_take, List.take_take, Nat.min_eq_left (hj j hjk)] at this)
  rw [e3, ← e2] at e1
  have e4 := drawn_prove c inp out
  unfold drawnI endT at e4 ⊢
  rw [e1, e4]
 by_cases hT : i < (belowLog c c.layers.length).toNat
 ·exact at0_of_take (go 0 (Nat.zero_le _) fun j hj => absurd hj (Nat.not_lt_zero j)) (by omega)
 ·exact at0_of_take (go (i - (belowLog c c.layers.length).toNat + 1) (by omega) fun j hj => by omega) (by omega)
theorem take_next {l F : List Int} {i : Nat} (hl : i < l.length) (hF : i < F.length) (h : l.take i = F.take i) (e : at0 l i = at0 F i) : l.take (i + 1) = F.take (i + 1) := by
 rw [take_snoc l i 0 hl, take_snoc F i 0 hF, h]
 have e' : l[i]?.getD 0 = F[i]?.getD 0 := e
 rw [e']
theorem take_set {l F : List Int} {i : Nat} (hl : i < l.length) (hF : i < F.length) (h : l.take i = F.take i) : (l.set i (at0 F i)).take (i + 1) = F.take (i + 1) := by
 refine take_next (by rw [List.length_set]; exact hl) hF ?_ (at0_set_self _ _ _ hl)
 rw [← h]
 apply List.ext_getElem?
 intro j
 rw [List.getElem?_take, List.getElem?_take]
 by_cases hj : j < i
 ·rw [if_pos hj, if_pos hj, List.getElem?_set_ne (by omega)]
 ·rw [if_neg hj, if_neg hj]
end Go.Proofs.YtlfneeobnihocaaGreatDoor
/- The walk of the reference's Fiat: draw by draw. The circuit is right, there are as many inputs as it wants. -/
namespace Go.Proofs.YtlfneeobnihocaaGreatDoor
set_option maxRecDepth 100000
set_option linter.unusedVariables false
open Go.RowKit Tally
set_option maxHeartbeats 8000000 in
theorem ref_FiatN (v : Value) (c : Ci) (vi : Value) (inp OUT : List Int) (w : World) (h : IsC w v c) (hG : Good c) (hi : RowU w vi inp) (hil : inp.length = 2 ^ c.log.toNat) (hO : OUT = (valF c (inp.map phi) c.layers.length).map psi) :
  Calls Tryz.prog 83 #[v, vi] w fun e w' => ∃ vp, e = .returned vp ∧ Far (fun b => b < w.heap.size) (fun W => IsP W vp (proveI c inp (fiatD c inp OUT))) w' ∧ Below w.heap.size w w' := by
 have HC := zH h; have HG := zH hG; have Hi := zH hi; have Hil := zH hil; have HO := zH hO
 have hn1 := hG.n1; have hn4 := hG.n4
 have hD40 := drawsN_le hG
 obtain ⟨ac, cc, rfl⟩ := h.shape
 obtain ⟨_, _, ai, ci, rfl, _⟩ := hi
 clear h hG hil hO
 obtain ⟨W, hW, b1, b2, s1, B1⟩ := two_blocks w #[.int .i64 c.log, .slice ac c.layers.length cc] #[.slice none 0 0] 62 93
 have k0 : W.cell? ⟨w.heap.size, 0, none⟩ = some (.int .i64 c.log) := cell_blk b1 0
 have k1 : W.cell? ⟨w.heap.size, 1, none⟩ = some (.slice ac c.layers.length cc) := cell_blk b1 1
 have H1 := zH B1
 have Hb1 := zH b1; have Hb2 := zH b2
 clear b1 b2 B1
 have hm0 : (1 : Int) ≤ (c.layers.length : Int) := by omega
 go_enter Tryz.func83, Tryz.ntmps83
 go_wp2_with (fail)
 refine (ref_Values c inp HG.out Hil.out c.layers.length (Nat.le_refl _) _ _ _ (HC.out.go H1.out) (Hi.out.go H1.out)).mono ?_
 rintro e w2 ⟨vo, rfl, hno, hb2⟩
 rw [← HO.out] at hno
 have HNo := zH hno
 have H2 := zH (below_two H1.out hb2)
 have HBW := zH hb2
 have ltb : w.heap.size < W.heap.size := by omega
 have lrs : w.heap.size + 1 < W.heap.size := by omega
 have k0' : w2.cell? ⟨w.heap.size, 0, none⟩ = some _ := (hb2.cell (p := ⟨w.heap.size, 0, none⟩) ltb).trans k0
 have k1' : w2.cell? ⟨w.heap.size, 1, none⟩ = some _ := (hb2.cell (p := ⟨w.heap.size, 1, none⟩) ltb).trans k1
 clear k0 k1 hW hb2 hno
 go_wp2_with (fail)
 refine (ref_Need _ c _ (HC.out.go H2.out) HG.out).mono ?_
 rintro e w3 ⟨rfl, hb3⟩
 have H3 := zH (below_two H2.out hb3)
 have HB3 := zH (below_two HBW.out hb3)
 have HNo3 := zH (HNo.out.row.go hb3)
 obtain ⟨n, hn⟩ : ∃ n, n = drawsN c := ⟨_, rfl⟩
 have Hn := zH hn
 rw [← hn] at hD40 ⊢
 clear k0' k1' hb3 hn
 have q0 : ∀ X, Below w3.heap.size w3 X → X.cell? ⟨w.heap.size, 0, none⟩ = some (.int .i64 c.log) := fun X hX => cell_blk ((hX.block w.heap.size (Nat.lt_of_lt_of_le ltb HB3.out.size)).trans ((HB3.out.block w.heap.size ltb).trans Hb1.out)) 0
 have q1 : ∀ X, Below w3.heap.size w3 X → X.cell? ⟨w.heap.size, 1, none⟩ = some (.slice ac c.layers.length cc) := fun X hX => cell_blk ((hX.block w.heap.size (Nat.lt_of_lt_of_le ltb HB3.out.size)).trans ((HB3.out.block w.heap.size ltb).trans Hb1.out)) 1
 have Q0 := zH q0; have Q1 := zH q1
 clear q0 q1
 go_wp2_with (at_make; refine wpList_makeU _ rfl _ _ rfl _ _ n rfl rfl rfl rfl (by omega) ?_; intro w4 hn4 hb4; have HN4 := zH hn4; have HB4 := zH hb4; have r0 := Q0.out w4 hb4; have r1 := Q1.out w4 hb4; clear hn4 hb4)
 have H4 := zH (below_two H3.out HB4.out)
 refine (ref_ProofN _ c _ _ inp (List.replicate n 0) w4 (HC.out.go H4.out) (Hi.out.go H4.out) HN4.out.row (CapOk.mk (Nat.le_refl _) (by omega)) HG.out Hil.out (by rw [List.length_replicate, Hn.out])).mono ?_
 rintro e w5 ⟨vp, rfl, hf, hb5⟩
 obtain ⟨up, rfl, hrp⟩ := hf.now
 obtain ⟨_, ap, cp, rfl, _⟩ := hrp
 have Hf := zH hf
 have HB5 := zH hb5
 clear r0 r1 hf hb5
 go_wp2_with (fail)
 have hpl : ∀ d, (proveI c inp d).length = c.layers.length := fun d => proofFromI_length c _ _ _ _
 rw [hpl] at Hf ⊢
 have HPL := zH hpl
 obtain ⟨W6, hW6, -, B6, s6⟩ := copied1' w5 (.slice ap c.layers.length cp) 93
 have bz : W6.heap[w5.heap.size]? = some (.cells #[.slice ap c.layers.length cp] 93 (0, 0)) := by rw [← hW6]; exact alloc_blk w5 _
 rw [hW6]
 obtain ⟨zb, hzb⟩ : ∃ zb, zb = w5.heap.size := ⟨_, rfl⟩
 obtain ⟨gd, hgd⟩ : ∃ gd, gd = w3.heap.size := ⟨_, rfl⟩
 rw [← hzb] at bz ⊢
 rw [← hgd]
 have hgz : gd < zb := by
  have h1 := HB5.out.size
  have h2 := (HN4.out.lt (g := w3.heap.size) rfl).2
  omega
 have Hbz := zH bz
 have Hzb := zH hzb
 have Hgd := zH hgd
 have hw3 : w3.heap.size = gd := hgd.symm
 have H46 := zH (below_two HB5.out B6)
 have HB6 := zH (show Below w3.heap.size w3 W6 from below_two HB4.out H46.out)
 have HF6 := zH (show Far (fun b => b ≤ gd ∨ b = zb) (fun W => IsP W (.agg #[.slice ap c.layers.length cp]) (proveI c inp (List.replicate n 0))) W6 from by
  refine Hf.out.fresh B6.size (fun b hb _ => B6.block b hb) fun b hb e => ?_
  have h2 := (HN4.out.lt (g := w3.heap.size) rfl).2
  show b < w4.heap.size
  rcases e with e | e <;> omega)
 have HN6 := zH (show NewU gd W6 (.slice (some ⟨gd, 0, none⟩) n n) (List.replicate n 0) from by rw [hgd]; exact HN4.out.go H46.out)
 have HFl := zH (fiatD_length c inp OUT)
 clear bz hzb hgd B6 hW6 s6 hpl
 go_loopw [8] (fun iv wr => ∃ (i : Nat) (d : List Int) (ap : Option Addr) (cp : Nat), i ≤ n ∧ iv = .int .i64 (i : Int) ∧ Hid (d.length = n) ∧ Hid (d.take i = (fiatD c inp OUT).take i) ∧ Hid (NewU gd wr (.slice (some ⟨gd, 0, none⟩) n n) d) ∧ Hid (wr.heap[zb]? = some (.cells #[.slice ap c.layers.length cp] 93 (0, 0))) ∧ Hid (Far (fun b => b ≤ gd ∨ b = zb) (fun W => IsP W (.agg #[.slice ap c.layers.length cp]) (proveI c inp d)) wr) ∧ Hid (Below w3.heap.size w3 wr)) (fun iv _ => n - (intOf iv).toNat)
 case atStart => exact ⟨0, List.replicate n 0, ap, cp, Nat.zero_le _, rfl, by simp [Hid], by simp [Hid], HN6.out, Hbz.out, HF6.out, HB6.out⟩
 case round =>
  clear HN6 Hbz HF6 HB6 H46
  obtain ⟨i, d, a1, p1, hi, rfl, Hdl, Hdt, HN, HBz, HF, HB⟩ := hrel
  have r0 := Q0.out wr HB.out; have r1 := Q1.out wr HB.out
  have z0 : wr.cell? ⟨zb, 0, none⟩ = some _ := cell_blk HBz.out 0
  have HBr := zH (below_two H3.out HB.out)
  by_cases hz : i < n
  ·have hzi : (i : Int) < (n : Int) := by omega
   have HS := zH (shaped_prove c inp d (by rw [Hdl.out, Hn.out]))
   have Hstep := zH (drawn_step c inp OUT d i (by rw [Hdl.out, Hn.out]) (by rw [← Hn.out]; exact hz) Hdt.out)
   go_wp2_with (fail)
   refine (ref_Drawn _ c _ vo _ inp OUT (proveI c inp d) wr (HC.out.go HBr.out) HG.out (Hi.out.go HBr.out) (HNo3.out.go HB.out) HF.out.now HS.out (by rw [Hil.out]; have := (pow4 HG.out.log4).2; omega) (by rw [HO.out, List.length_map, valF_length HG.out _ (by rw [List.length_map, Hil.out]) _ (Nat.le_refl _)]; have := (pow4 (HG.out.below4 (k := c.layers.length) (Nat.le_refl _))).2; omega)).mono ?_
   rintro e w7 ⟨vd, rfl, hnd, hb7⟩
   obtain ⟨D, hD⟩ : ∃ D, D = drawnI c inp OUT (proveI c inp d) := ⟨_, rfl⟩
   have HDl := zH (show D.length = n by rw [hD, drawnI_length inp OUT HS.out, Hn.out])
   rw [← hD] at hnd Hstep
   obtain ⟨g, cg, hsh, -, hgl, hgc, -⟩ := hnd.shape (by rw [HDl.out]; omega)
   have e1 := hgc i (by rw [HDl.out]; exact hz)
   have uD := hnd.1 _ (at0_mem (l := D) (j := i) (by rw [HDl.out]; exact hz))
   subst hsh
   rw [HDl.out]
   have HN7 := zH (HN.out.go hb7)
   have e2 : w7.cell? ⟨gd, i, none⟩ = some (.int .u64 (at0 d i)) := HN7.out.cellAt i (by rw [Hdl.out]; exact hz)
   have H7 := zH (HB.out.trans (hb7.mono HB.out.size))
   have Hz7 := zH ((hb7.block zb (blk_lt HBz.out)).trans HBz.out)
   have HF7 := zH (HF.out.go hb7)
   rw [Hstep.out] at e1 uD
   clear hD hgc r0 r1 z0 hnd hb7
   by_cases he : at0 (fiatD c inp OUT) i = at0 d i
   ·have hbe : (at0 (fiatD c inp OUT) i != at0 d i) = false := by rw [bne_eq_false_iff_eq]; exact he
    have Hnx := zH (take_next (by rw [Hdl.out]; exact hz) (by rw [HFl.out, ← Hn.out]; exact hz) Hdt.out he.symm)
    clear he
    go_wp2_with (fail)
    go_quiet (fail)
    go_wp2
    go_roundw
    case rel => exact ⟨i + 1, d, a1, p1, by omega, by go_num, Hdl.out, Hnx.out, HN7.out.go (below_drewN (Below.refl _ _) nq), Hz7.out, HF7.out.go (below_drewN (Below.refl _ _) nq), below_drewN H7.out nq⟩
    case measure => simp [intOf]; omega
   ·have hbe : (at0 (fiatD c inp OUT) i != at0 d i) = true := by rw [bne_iff_ne]; exact he
    have Hst := zH (take_set (by rw [Hdl.out]; exact hz) (by rw [HFl.out, ← Hn.out]; exact hz) Hdt.out)
    clear he
    go_wp2_with (fail)
    go_quiet (fail)
    have hd := below_drewN (Below.refl w7.heap.size w7) nq
    have HN8 := zH (HN7.out.go hd)
    have Hz8 := zH ((hd.block zb (blk_lt Hz7.out)).trans Hz7.out)
    have H8 := zH (below_drewN H7.out nq)
    have f1 := (hd.cell (p := ⟨g, i, none⟩) hgl).trans e1
    have f2 := HN8.out.cellAt i (by rw [Hdl.out]; exact hz)
    have ff := HN8.out.freeAt i
    clear e1 e2 hd
    generalize w7.drewN nq = w8 at *
    have hgw : w.heap.size ≠ gd := by have := HB3.out.size; omega
    have s0 : ∀ u, (w8.setCell ⟨gd, i, none⟩ u).cell? ⟨w.heap.size, 0, none⟩ = some _ := fun u => keep_set1 u hgw (Q0.out w8 H8.out)
    have s1' : ∀ u, (w8.setCell ⟨gd, i, none⟩ u).cell? ⟨w.heap.size, 1, none⟩ = some _ := fun u => keep_set1 u hgw (Q1.out w8 H8.out)
    go_wp2_with (fail)
    have HN9 := zH (HN8.out.set i _ uD)
    have H9 := zH (H8.out.setCell (p := ⟨gd, i, none⟩) (Nat.le_of_eq hw3) (.int .u64 (at0 (fiatD c inp OUT) i)))
    have Hz9 := zH ((Below.heap_setCell w8 ⟨gd, i, none⟩ (.int .u64 (at0 (fiatD c inp OUT) i)) zb (Nat.ne_of_gt hgz)).trans Hz8.out)
    clear s0 s1' f1 f2 ff
    generalize w8.setCell ⟨gd, i, none⟩ (.int .u64 (at0 (fiatD c inp OUT) i)) = w9 at *
    obtain ⟨d2, hd2⟩ : ∃ d2, d2 = d.set i (at0 (fiatD c inp OUT) i) := ⟨_, rfl⟩
    rw [← hd2] at HN9 Hst
    have Hd2 := zH (show d2.length = n by rw [hd2, List.length_set, Hdl.out])
    clear hd2
    have H39 := zH (below_two H3.out H9.out)
    refine (ref_ProofN _ c _ _ inp d2 w9 (HC.out.go H39.out) (Hi.out.go H39.out) HN9.out.row (CapOk.mk (Nat.le_refl _) (by omega)) HG.out Hil.out (by rw [Hd2.out, Hn.out])).mono ?_
    rintro e w10 ⟨vp, rfl, hf, hb10⟩
    obtain ⟨up, rfl, hrp⟩ := hf.now
    obtain ⟨_, a2, p2, rfl, _⟩ := hrp
    rw [HPL.out] at hf ⊢
    have Hf10 := zH hf
    have lz9 := blk_lt Hz9.out
    have hz10 := (hb10.block zb lz9).trans Hz9.out
    have hzc : w10.cell? ⟨zb, 0, none⟩ = some _ := cell_blk hz10 0
    have hzf := free_blk hz10 0
    have HN10 := zH ((HN9.out.go hb10).other 0 (.slice a2 c.layers.length p2) (Nat.ne_of_lt hgz))
    have H10 := zH ((H9.out.trans (hb10.mono H9.out.size)).setCell (p := ⟨zb, 0, none⟩) (show w3.heap.size ≤ zb by omega) (.slice a2 c.layers.length p2))
    have hz11 := blk_setCell hz10 0 (.slice a2 c.layers.length p2)
    have lg9 := HN9.out.blk
    clear hf hb10
    go_wp2
    go_roundw
    case rel => exact ⟨i + 1, d2, a2, p2, by omega, by go_num, Hd2.out, Hst.out, HN10.out, hz11, (Hf10.out.set (b := zb) lz9 0 _).less (fun b _ e => by show b < w9.heap.size; rcases e with e | e <;> omega), H10.out⟩
    case measure => simp [intOf]; omega
  ·obtain rfl : i = n := by omega
   have hdF : d = fiatD c inp OUT := by
    have h1 := Hdt.out
    rwa [List.take_of_length_le (by rw [Hdl.out]; exact Nat.le_refl _), List.take_of_length_le (by rw [HFl.out, ← Hn.out]; exact Nat.le_refl _)] at h1
   have hrs := (HB.out.block (w.heap.size + 1) (Nat.lt_of_lt_of_le lrs HB3.out.size)).trans ((HB3.out.block (w.heap.size + 1) lrs).trans Hb2.out)
   have f0 : wr.cell? ⟨w.heap.size + 1, 0, none⟩ = some _ := cell_blk hrs 0
   have ff := free_blk hrs 0
   go_wp2_with (fail)
   have hbk := blk_setCell hrs 0 (.slice a1 c.layers.length p1)
   have hbz := HBr.out.setCell (p := ⟨w.heap.size + 1, 0, none⟩) (Nat.le_succ _) (.slice a1 c.layers.length p1)
   have hpz := (HF.out.set (b := w.heap.size + 1) (.inl (by have := HB3.out.size; omega)) 0 (.slice a1 c.layers.length p1)).less (S' := fun b => b < w.heap.size) (fun b _ e => show b ≤ gd ∨ b = zb from .inl (by have := HB3.out.size; have e' : b < w.heap.size := e; omega))
   rw [hdF] at hpz
   generalize wr.setCell ⟨w.heap.size + 1, 0, none⟩ (.slice a1 c.layers.length p1) = wz at *
   have d0 : wz.cell? ⟨w.heap.size + 1, 0, none⟩ = some (.slice a1 c.layers.length p1) := cell_blk hbk 0
   exact bodyPost_ret (v := .agg #[.slice a1 c.layers.length p1]) (by simp [results, Tryz.results83, go_sem, d0]) rfl ⟨_, rfl, hpz, hbz⟩
end Go.Proofs.YtlfneeobnihocaaGreatDoor
