/- The walk of tallytop.lie: does a proof that holds tell, somewhere, a polynomial that is wrong, and right at its draw? The table of bits lies as its initialiser lays it. -/
import Derived.Test.YtnleihjdllpniaaDoorTopS
import Derived.Test.YtnleihjdllpniaaDoorTopM
namespace Go.Proofs.YtnleihjdllpniaaDoor
set_option maxRecDepth 100000
set_option linter.unusedVariables false
open Go.RowKit Tally
noncomputable instance (A B : List F) (x : F) : Decidable ((∃ i : Nat, i < 9 ∧ lag A (phi i) ≠ lag B (phi i)) ∧ lag A x = lag B x) := Classical.propDecidable _
/-- wrong somewhere, and right at x -/
noncomputable def unlB (a b : List Int) (x : Int) : Bool := decide ((∃ i : Nat, i < 9 ∧ lag (a.map phi) (phi i) ≠ lag (b.map phi) (phi i)) ∧ lag (a.map phi) (phi x) = lag (b.map phi) (phi x))
theorem unlB_found {a b : List Int} {x : Int} {i : Nat} (hi : i < 9) (h : lag (a.map phi) (phi i) ≠ lag (b.map phi) (phi i)) : unlB a b x = (psi (lag (a.map phi) (phi x)) == psi (lag (b.map phi) (phi x))) := by
  unfold unlB
  by_cases e : lag (a.map phi) (phi x) = lag (b.map phi) (phi x)
  · rw [show (psi (lag (a.map phi) (phi x)) == psi (lag (b.map phi) (phi x))) = true by rw [e]; exact beq_self_eq_true _]; exact decide_eq_true ⟨⟨i, hi, h⟩, e⟩
  · rw [beq_eq_false_iff_ne.2 (fun e2 => e (psi_inj e2))]; exact decide_eq_false fun e2 => e e2.2
theorem unlB_none {a b : List Int} {x : Int} (h : ∀ i : Nat, i < 9 → lag (a.map phi) (phi i) = lag (b.map phi) (phi i)) : unlB a b x = false := by
  unfold unlB
  exact decide_eq_false fun e => by obtain ⟨i, hi, hne⟩ := e.1; exact hne (h i hi)
theorem unlB_of {a b : List Int} {x : Int} (h : Unlike (a.map phi) (b.map phi) (phi x)) : unlB a b x = true := by
  unfold unlB
  refine decide_eq_true ⟨?_, h.2⟩
  rcases h.1 with h | h
  · exact ⟨0, by omega, by rw [show phi ((0 : Nat) : Int) = 0 from by decide]; exact h⟩
  · exact ⟨1, by omega, by rw [show phi ((1 : Nat) : Int) = 1 from by decide]; exact h⟩
set_option maxRecDepth 100000 in
set_option maxHeartbeats 2000000 in
theorem top_unlike (a b : List Int) (va vb : Value) (x : Int) (w : World) (ha : RowU w va a) (hb : RowU w vb b) (hx : U64 x) (hla : a.length ≤ 1000000) (hlb : b.length ≤ 1000000) :
    Calls Tryd.prog 65 #[va, vb, .int .u64 x] w fun e w' => e = .returned (.bool (unlB a b x)) ∧ w = w' := by
  have Ha := Lib.hid ha; have Hb := Lib.hid hb; have Hx := Lib.hid hx; have Hla := Lib.hid hla; have Hlb := Lib.hid hlb
  obtain ⟨B, hB⟩ : ∃ B, B = unlB a b x := ⟨_, rfl⟩
  rw [← hB]
  have HB := Lib.hid hB
  clear ha hb hx hla hlb hB
  go_enter Tryd.func65, Tryd.ntmps65
  go_wp2
  go_loop [8] (fun i => ∃ k : Nat, k ≤ 9 ∧ i = .int .i64 (k : Int) ∧ Hid (∀ q : Nat, q < k → lag (a.map phi) (phi q) = lag (b.map phi) (phi q))) (fun i => 9 - (intOf i).toNat)
  case atStart => exact ⟨0, by omega, rfl, fun q hq => absurd hq (by omega)⟩
  case round =>
    obtain ⟨k, hk, rfl, HK⟩ := hrel
    by_cases hz : k < 9
    · have hk0 : (0 : Int) ≤ (k : Int) := by omega
      have hk9 : (k : Int) < 9 := by omega
      have uk := Lib.hid (U64.mk (a := (k : Int)) (by omega) (by omega))
      have Ca := Lib.hid (ref_At a va (k : Int) w Ha.out uk.out Hla.out)
      have Cb := Lib.hid (ref_At b vb (k : Int) w Hb.out uk.out Hlb.out)
      have Cax := Lib.hid (ref_At a va x w Ha.out Hx.out Hla.out)
      have Cbx := Lib.hid (ref_At b vb x w Hb.out Hx.out Hlb.out)
      obtain ⟨pa, hpa⟩ : ∃ pa, pa = psi (lag (a.map phi) (phi (k : Int))) := ⟨_, rfl⟩
      obtain ⟨pb, hpb⟩ : ∃ pb, pb = psi (lag (b.map phi) (phi (k : Int))) := ⟨_, rfl⟩
      obtain ⟨qa, hqa⟩ : ∃ qa, qa = psi (lag (a.map phi) (phi x)) := ⟨_, rfl⟩
      obtain ⟨qb, hqb⟩ : ∃ qb, qb = psi (lag (b.map phi) (phi x)) := ⟨_, rfl⟩
      rw [← hpa] at Ca; rw [← hpb] at Cb; rw [← hqa] at Cax; rw [← hqb] at Cbx
      by_cases he : lag (a.map phi) (phi (k : Int)) = lag (b.map phi) (phi (k : Int))
      · have hb : (pa != pb) = false := by rw [hpa, hpb, he]; simp
        have HK2 := Lib.hid (show ∀ q : Nat, q < k + 1 → lag (a.map phi) (phi q) = lag (b.map phi) (phi q) from fun q hq => if e : q = k then by subst e; exact he else HK.out q (by omega))
        clear he hpa hpb hqa hqb
        go_wp2_with (first
          | (go_at_call 66; (with_reducible refine Ca.out.mono ?_); rintro e w' ⟨rfl, rfl⟩)
          | (go_at_call 66; (with_reducible refine Cb.out.mono ?_); rintro e w' ⟨rfl, rfl⟩))
        go_round
        case rel => exact ⟨k + 1, by omega, by go_num, HK2.out⟩
        case measure => simp [intOf]; omega
      · have hb : (pa != pb) = true := by rw [hpa, hpb, bne_iff_ne]; exact fun e => he (psi_inj e)
        have HR := Lib.hid (show B = (qa == qb) by rw [HB.out, hqa, hqb]; exact unlB_found hz he)
        clear he hpa hpb hqa hqb
        go_wp2_with (first
          | (go_at_call 66; (with_reducible refine Ca.out.mono ?_); rintro e w' ⟨rfl, rfl⟩)
          | (go_at_call 66; (with_reducible refine Cb.out.mono ?_); rintro e w' ⟨rfl, rfl⟩)
          | (go_at_call 66; (with_reducible refine Cax.out.mono ?_); rintro e w' ⟨rfl, rfl⟩)
          | (go_at_call 66; (with_reducible refine Cbx.out.mono ?_); rintro e w' ⟨rfl, rfl⟩))
        go_ret
        exact ⟨ret_b (by rw [HR.out]), rfl⟩
    · obtain rfl : k = 9 := by omega
      have HR := Lib.hid (show B = false by rw [HB.out]; exact unlB_none HK.out)
      rw [show ((9 : Nat) : Int) = 9 from rfl]
      go_wp2
      go_ret
      exact ⟨ret_b HR.out.symm, rfl⟩
theorem three_blocks (w : World) (cs1 cs2 cs3 : Array Value) (t1 t2 t3 : Nat) : ∃ W tb, ((w.alloc (.cells cs1 t1)).alloc (.cells cs2 t2)).alloc (.cells cs3 t3) = W ∧ tb = w.heap.size ∧ W.heap[tb]? = some (.cells cs1 t1 (0, 0)) ∧ W.heap[tb + 1]? = some (.cells cs2 t2 (0, 0)) ∧ W.heap[tb + 1 + 1]? = some (.cells cs3 t3 (0, 0)) ∧ Below w.heap.size w W := by
  refine ⟨_, _, rfl, rfl, ?_, ?_, ?_, (((Below.refl _ _).alloc (Nat.le_refl _) _).alloc (by simp <;> omega) _).alloc (by simp <;> omega) _⟩
  · show (((w.heap.push _).push _).push _)[w.heap.size]? = _
    rw [Array.getElem?_push, if_neg (by simp <;> omega), Array.getElem?_push, if_neg (by simp), Array.getElem?_push, if_pos rfl]
  · show (((w.heap.push _).push _).push _)[w.heap.size + 1]? = _
    rw [Array.getElem?_push, if_neg (by simp), Array.getElem?_push, if_pos (by simp)]
  · show (((w.heap.push _).push _).push _)[w.heap.size + 1 + 1]? = _
    rw [Array.getElem?_push, if_pos (by simp)]
theorem RowU.head' {w : World} {b o D cap T : Nat} {d : List Int} (h : RowU w (.slice (some ⟨b, o, none⟩) D cap) d) (hT : T ≤ D) : RowU w (.slice (some ⟨b, o, none⟩) T cap) (d.take T) := by
  obtain ⟨hu, h2, a', cap', e, hr⟩ := h
  simp only [Value.slice.injEq] at e
  obtain ⟨rfl, hD, rfl⟩ := e
  refine ⟨fun x hx => hu x (List.mem_of_mem_take hx), by rw [List.length_take]; omega, _, _, by rw [List.length_take, Nat.min_eq_left (by omega)], fun h0 => ?_⟩
  rw [List.length_take] at h0
  obtain ⟨b', off, eb, hlt, hc⟩ := hr (by omega)
  refine ⟨b', off, eb, hlt, fun j hj => ?_⟩
  rw [List.length_take] at hj
  rw [hc j (by omega)]
  have e : at0 (d.take T) j = at0 d j := by simp [at0, show j < T by omega]
  rw [e]
/-- the cells of part j of a proof, its rounds and its line -/
theorem RowP.part {w : World} {v : Value} {l : List Pi} (h : RowP w v l) {j : Nat} (hj : j < l.length) {k : Nat} (hP : PiOk (atp l j) k) :
    ∃ b o cp aR cR bL oL cL, v = .slice (some ⟨b, o, none⟩) l.length cp ∧ b < w.heap.size ∧ w.cell? ⟨b, o + j * 2, none⟩ = some (.slice aR (2 * k) cR) ∧ w.cell? ⟨b, o + j * 2 + 1, none⟩ = some (.slice (some ⟨bL, oL, none⟩) (k + 1) cL) ∧
      RowUU w (.slice aR (2 * k) cR) (atp l j).rounds ∧ RowU w (.slice (some ⟨bL, oL, none⟩) (k + 1) cL) (atp l j).line := by
  obtain ⟨_, a, cap, rfl, hr⟩ := h
  obtain ⟨b, off, rfl, hlt, hc⟩ := hr (by omega)
  obtain ⟨u, u2, c1, c2, r1, r2⟩ := hc j hj
  have h1 := r1; have h2 := r2
  obtain ⟨_, aR, cR, rfl, -⟩ := r1
  obtain ⟨_, _, aL, cL, rfl, hL⟩ := r2
  obtain ⟨bL, oL, rfl, -⟩ := hL (by rw [hP.l]; omega)
  rw [hP.n] at c1 h1; rw [hP.l] at c2 h2
  exact ⟨b, off, cap, aR, cR, bL, oL, cL, rfl, hlt, c1, c2, h1, h2⟩
set_option maxRecDepth 100000 in
set_option maxHeartbeats 8000000 in
theorem top_lie (v : Value) (c : Ci) (vo vl vp vt vd : Value) (out last d : List Int) (ps qs : List Pi) (w : World) (hT : Tab w) (h : IsC w v c) (hG : Good c) (ho : RowU w vo out) (hl : RowU w vl last) (hp : IsP w vp ps) (hq : IsP w vt qs) (hd : RowU w vd d) (hcd : CapOk vd)
    (T : Nat) (hTl : T = (belowLog c c.layers.length).toNat) (hol : out.length = 2 ^ T) (hll : last.length = 2 ^ T) (hS : ShapedI c ps) (hS2 : ShapedI c qs) (hdl : d.length = drawsN c)
    (H : evalF (out.map phi) ((d.take T).map phi) = evalF (last.map phi) ((d.take T).map phi) ∨ ∃ m, m < needFrom c c.layers.length ∧ unlB (atl (flatP ps) m) (atl (flatP qs) m) (at0 d (T + m)) = true) :
    Calls Tryd.prog 26 #[v, vo, vl, vp, vt, vd] w fun e w' => e = .returned (.bool true) ∧ Below w.heap.size w w' := by
  have HT := Lib.hid hT; have HC := Lib.hid h; have HG := Lib.hid hG; have Ho := Lib.hid ho; have Hl := Lib.hid hl; have Hd := Lib.hid hd
  have HTl := Lib.hid hTl; have Hol := Lib.hid hol; have Hll := Lib.hid hll; have HS := Lib.hid hS; have HS2 := Lib.hid hS2; have Hdl := Lib.hid hdl; have HH := Lib.hid H
  have hn1 := hG.n1; have hn4 := hG.n4
  have hT4 : T ≤ 4 := by have := hG.below4 (k := c.layers.length) (Nat.le_refl _); omega
  have hDN := drawsN_le hG
  have HDN := Lib.hid (show drawsN c = T + needFrom c c.layers.length by unfold drawsN; rw [hTl])
  have hTD : T + 1 ≤ drawsN c := by
    rw [HDN.out]
    obtain ⟨i, hi⟩ : ∃ i, c.layers.length = i + 1 := ⟨c.layers.length - 1, by omega⟩
    have : 1 ≤ needFrom c c.layers.length := by rw [hi]; show 1 ≤ 2 * _ + 1 + _; omega
    omega
  obtain ⟨DN, hDNe⟩ : ∃ DN, DN = drawsN c := ⟨_, rfl⟩
  rw [← hDNe] at hDN HDN hTD hdl
  have HDNe := Lib.hid hDNe
  obtain ⟨ac, cc, rfl⟩ := h.shape
  obtain ⟨vs, rfl, hps⟩ := hp
  obtain ⟨vs2, rfl, hqs⟩ := hq
  have Hps := Lib.hid hps; have Hqs := Lib.hid hqs
  obtain ⟨_, aP, cP, rfl, hpr⟩ := hps
  obtain ⟨bP, oP, rfl, -⟩ := hpr (by rw [hS.1]; omega)
  obtain ⟨_, aQ, cQ, rfl, hqr⟩ := hqs
  obtain ⟨bQ, oQ, rfl, -⟩ := hqr (by rw [hS2.1]; omega)
  obtain ⟨ud, _, ad, cd, rfl, hdr⟩ := hd
  obtain ⟨hdc, hdm⟩ := hcd _ _ _ rfl
  obtain ⟨bd, od, rfl, hdlt, hdcell⟩ := hdr (by omega)
  have Hdc := Lib.hid hdcell; have Ud := Lib.hid ud
  rw [hdl] at hdc Hd ⊢
  rw [hS.1, hS2.1]
  rw [hS.1] at Hps; rw [hS2.1] at Hqs
  clear hT h hG ho hl hpr hqr hdr hdcell ud hcd hTl hol hll hS hS2 hdl H hDNe
  obtain ⟨L, hL⟩ : ∃ L, L = c.layers.length := ⟨_, rfl⟩
  have HL := Lib.hid hL
  rw [← hL] at hn1 hn4 Hps Hqs ⊢
  clear hL
  go_enter Tryd.func26, Tryd.ntmps26
  go_wp2_with (fail)
  obtain ⟨W1, tb, hW, htb, b1, b2, b3, B1⟩ := three_blocks w #[.int .i64 c.log, .slice ac L cc] #[.slice (some ⟨bP, oP, none⟩) L cP] #[.slice (some ⟨bQ, oQ, none⟩) L cQ] 24 37 37
  rw [hW, ← htb]
  have H1 := Lib.hid B1
  have Hb2 := Lib.hid b2; have Hb3 := Lib.hid b3
  clear hW htb b1 b2 b3 B1
  refine (ref_Vars last T _ _ (Hl.out.go H1.out) Hll.out (by omega)).mono ?_
  rintro e w2 ⟨rfl, rfl⟩
  have hTi : (T : Int) ≤ (DN : Int) := by omega
  have hTc : (T : Int) ≤ (cd : Int) := by omega
  have hT0 : (0 : Int) ≤ (T : Int) := by omega
  go_wp2_with (fail)
  have HZ := Lib.hid (show RowU W1 (.slice (some ⟨bd, od, none⟩) T cd) (d.take T) from (Hd.out.go H1.out).head' (by omega))
  refine (mle_Eval out (d.take T) _ _ _ (HT.out.below H1.out) (Ho.out.go H1.out) HZ.out (by rw [Hol.out, List.length_take, Hdl.out, ← HDNe.out, Nat.min_eq_left (by omega)]) (by rw [List.length_take]; omega)).mono ?_
  rintro e w3 ⟨rfl, hb3⟩
  obtain ⟨U1, hU1⟩ : ∃ U1, U1 = psi (evalF (out.map phi) ((d.take T).map phi)) := ⟨_, rfl⟩
  rw [← hU1]
  have HU1 := Lib.hid hU1
  have H3 := Lib.hid (below_two H1.out hb3)
  have H13 := Lib.hid hb3
  clear hb3 hU1
  go_wp2_with (fail)
  refine (mle_Eval last (d.take T) _ _ _ (HT.out.below H3.out) (Hl.out.go H3.out) (HZ.out.go H13.out) (by rw [Hll.out, List.length_take, Hdl.out, ← HDNe.out, Nat.min_eq_left (by omega)]) (by rw [List.length_take]; omega)).mono ?_
  rintro e w4 ⟨rfl, hb4⟩
  obtain ⟨U2, hU2⟩ : ∃ U2, U2 = psi (evalF (last.map phi) ((d.take T).map phi)) := ⟨_, rfl⟩
  rw [← hU2]
  have HU2 := Lib.hid hU2
  have H4 := Lib.hid (below_two H3.out hb4)
  have H14 := Lib.hid (below_two H13.out hb4)
  clear hb4 hU2
  by_cases hU : U1 = U2
  · subst hU
    go_wp2
    go_ret
    exact ⟨rfl, H4.out⟩
  · obtain ⟨m0, hm0, hu0⟩ := HH.out.resolve_left (fun e => hU (by rw [HU1.out, HU2.out, e]))
    have hUb : (U1 == U2) = false := by rw [beq_eq_false_iff_ne]; exact hU
    have Hm0 := Lib.hid hm0; have Hu0 := Lib.hid hu0
    clear hU hm0 hu0
    have q2 : w4.cell? ⟨tb + 1, 0, none⟩ = some _ := cell_blk ((H14.out.block _ (blk_lt Hb2.out)).trans Hb2.out) 0
    go_wp2_with (fail)
    clear q2
    go_loopw [46, 18] (fun i at1 wr => ∃ j n : Nat, j ≤ L ∧ i = .int .i64 (j : Int) ∧ at1 = .int .i64 (n : Int) ∧ Hid (n = T + offP c j) ∧ Hid (∀ m, m < offP c j → unlB (atl (flatP ps) m) (atl (flatP qs) m) (at0 d (T + m)) = false) ∧ Hid (Below w4.heap.size w4 wr)) (fun i _ _ => L - (intOf i).toNat)
    case atStart => exact ⟨0, T, by omega, rfl, rfl, rfl, fun m hm => absurd hm (by show ¬ m < 0; omega), Below.refl _ _⟩
    case round =>
      obtain ⟨j, n, hj, rfl, rfl, Hn, HJ, HB⟩ := hrel
      have H1r := Lib.hid (below_two H14.out HB.out)
      have Hwr := Lib.hid (below_two H1.out H1r.out)
      by_cases hz : j < L
      · have hzL : j < c.layers.length := by rw [← HL.out]; exact hz
        obtain ⟨k, hk⟩ : ∃ k, k = (belowLog c (c.layers.length - 1 - j)).toNat := ⟨_, rfl⟩
        have hk4 : k ≤ 4 := by have := HG.out.below4 (k := c.layers.length - 1 - j) (by omega); omega
        have hpo := HS.out.2 j (by rw [HS.out.1]; exact hzL)
        have hqo := HS2.out.2 j (by rw [HS2.out.1]; exact hzL)
        rw [← hk] at hpo hqo
        have Hpo := Lib.hid hpo; have Hqo := Lib.hid hqo
        obtain ⟨b', o', cp', aR, cR, bL, oL, cL, e, hlt, c1, c2, hR, hLn⟩ := Hps.out.part (by rw [HS.out.1]; exact hzL) hpo
        simp only [Value.slice.injEq, Option.some.injEq, Addr.mk.injEq] at e
        obtain ⟨⟨rfl, rfl, -⟩, -, -⟩ := e
        obtain ⟨b', o', cp', aS, cS, bM, oM, cM, e, hlt2, c3, c4, hR2, hLn2⟩ := Hqs.out.part (by rw [HS2.out.1]; exact hzL) hqo
        simp only [Value.slice.injEq, Option.some.injEq, Addr.mk.injEq] at e
        obtain ⟨⟨rfl, rfl, -⟩, -, -⟩ := e
        have C1 := Lib.hid (show ∀ X, Below w4.heap.size w4 X → X.cell? ⟨tb + 1, 0, none⟩ = some (.slice (some ⟨bP, oP, none⟩) L cP) ∧ X.cell? ⟨tb + 1 + 1, 0, none⟩ = some (.slice (some ⟨bQ, oQ, none⟩) L cQ) ∧ X.cell? ⟨bP, oP + j * 2, none⟩ = some (.slice aR (2 * k) cR) ∧ X.cell? ⟨bP, oP + j * 2 + 1, none⟩ = some (.slice (some ⟨bL, oL, none⟩) (k + 1) cL) ∧ X.cell? ⟨bQ, oQ + j * 2, none⟩ = some (.slice aS (2 * k) cS) ∧ X.cell? ⟨bQ, oQ + j * 2 + 1, none⟩ = some (.slice (some ⟨bM, oM, none⟩) (k + 1) cM) from fun X hX => by
          have h1 := below_two H14.out hX
          have hw := below_two H1.out h1
          exact ⟨cell_blk ((h1.block _ (blk_lt Hb2.out)).trans Hb2.out) 0, cell_blk ((h1.block _ (blk_lt Hb3.out)).trans Hb3.out) 0, (hw.cell (p := ⟨bP, oP + j * 2, none⟩) hlt).trans c1, (hw.cell (p := ⟨bP, oP + j * 2 + 1, none⟩) hlt).trans c2, (hw.cell (p := ⟨bQ, oQ + j * 2, none⟩) hlt2).trans c3, (hw.cell (p := ⟨bQ, oQ + j * 2 + 1, none⟩) hlt2).trans c4⟩)
        have HRp := Lib.hid hR; have HRq := Lib.hid hR2; have HLp := Lib.hid hLn; have HLq := Lib.hid hLn2
        have Hoff := Lib.hid (show offP c (j + 1) = offP c j + (2 * k + 1) by show _ + (2 * (belowLog c (c.layers.length - 1 - j)).toNat + 1) = _; rw [← hk])
        have HoffN := Lib.hid (show offP c j + (2 * k + 1) ≤ needFrom c c.layers.length by have := offP_le c hzL; rwa [← hk] at this)
        have Hfr := Lib.hid (show ∀ i, i < 2 * k → atl (flatP ps) (offP c j + i) = atl (atp ps j).rounds i ∧ atl (flatP qs) (offP c j + i) = atl (atp qs j).rounds i from fun i hi => ⟨flatP_round HS.out hzL (by rw [← hk]; exact hi), flatP_round HS2.out hzL (by rw [← hk]; exact hi)⟩)
        have Hfl := Lib.hid (show atl (flatP ps) (offP c j + 2 * k) = (atp ps j).line ∧ atl (flatP qs) (offP c j + 2 * k) = (atp qs j).line from ⟨by have := flatP_line HS.out hzL; rwa [← hk] at this, by have := flatP_line HS2.out hzL; rwa [← hk] at this⟩)
        have hji : (j : Int) < (L : Int) := by omega
        have hj0 : (0 : Int) ≤ (j : Int) := by omega
        obtain ⟨q1, q2, q3, q4, q5, q6⟩ := C1.out wr HB.out
        clear hpo hqo hlt hlt2 c1 c2 c3 c4 hR hR2 hLn hLn2 hk
        go_wp2_with (fail)
        clear q1 q2 q3 q4 q5 q6
        have hnd : n + (2 * k + 1) ≤ DN := by have h1 := Hn.out; have h2 := HoffN.out; have h3 := HDN.out; omega
        go_loopw [56, 18] (fun i at1 wr => ∃ r n' : Nat, r ≤ 2 * k ∧ i = .int .i64 (r : Int) ∧ at1 = .int .i64 (n' : Int) ∧ n' ≤ n + r ∧ n + r ≤ n' ∧ Hid (∀ m, m < offP c j + r → unlB (atl (flatP ps) m) (atl (flatP qs) m) (at0 d (T + m)) = false) ∧ Hid (Below w4.heap.size w4 wr)) (fun i _ _ => 2 * k - (intOf i).toNat)
        case atStart => exact ⟨0, n, by omega, rfl, rfl, by omega, by omega, HJ.out, HB.out⟩
        case round =>
          obtain ⟨r, n', hr, rfl, rfl, hn1', hn2', HR, HBr⟩ := hrel
          obtain ⟨q1, q2, q3, q4, q5, q6⟩ := C1.out wr HBr.out
          have Hwr2 := Lib.hid (below_two H1.out (below_two H14.out HBr.out))
          have hd1 : (n' : Int) < (DN : Int) := by omega
          have hd0 : (0 : Int) ≤ (n' : Int) := by omega
          have cD := (Hwr2.out.cell (p := ⟨bd, od + n', none⟩) hdlt).trans (Hdc.out n' (by rw [Hdl.out, ← HDNe.out]; omega))
          have Hux := Lib.hid (Ud.out _ (at0_mem (l := d) (j := n') (by rw [Hdl.out, ← HDNe.out]; omega)))
          by_cases hz2 : r < 2 * k
          · obtain ⟨_, aR', cR', e, hrc⟩ := HRp.out
            simp only [Value.slice.injEq] at e
            obtain ⟨rfl, e2, rfl⟩ := e
            obtain ⟨bR, oR, rfl, hbR, hrc⟩ := hrc (by rw [Hpo.out.n]; omega)
            obtain ⟨u, hu, hru⟩ := hrc r (by rw [Hpo.out.n]; exact hz2)
            obtain ⟨_, aS', cS', e, hsc⟩ := HRq.out
            simp only [Value.slice.injEq] at e
            obtain ⟨rfl, e3, rfl⟩ := e
            obtain ⟨bS, oS, rfl, hbS, hsc⟩ := hsc (by rw [Hqo.out.n]; omega)
            obtain ⟨u2, hu2, hru2⟩ := hsc r (by rw [Hqo.out.n]; exact hz2)
            have d1 := (Hwr2.out.cell (p := ⟨bR, oR + r, none⟩) hbR).trans hu
            have d2 := (Hwr2.out.cell (p := ⟨bS, oS + r, none⟩) hbS).trans hu2
            have hri : (r : Int) < 2 * (k : Int) := by omega
            have hri2 : (r : Int) < ((2 * k : Nat) : Int) := by omega
            have hr0 : (0 : Int) ≤ (r : Int) := by omega
            have Hn2 := Lib.hid (show T + (offP c j + r) = n' by have := Hn.out; omega)
            obtain ⟨B, hB⟩ : ∃ B, B = unlB (atl (atp ps j).rounds r) (atl (atp qs j).rounds r) (at0 d n') := ⟨_, rfl⟩
            have CL := Lib.hid (fun N => top_unlike (atl (atp ps j).rounds r) (atl (atp qs j).rounds r) u u2 (at0 d n') (wr.drewN N) ((hru.go Hwr2.out).drewN N) ((hru2.go Hwr2.out).drewN N) Hux.out (by rw [Hpo.out.r r hz2]; omega) (by rw [Hqo.out.r r hz2]; omega))
            rw [← hB] at CL
            have HBe := Lib.hid (show unlB (atl (flatP ps) (offP c j + r)) (atl (flatP qs) (offP c j + r)) (at0 d (T + (offP c j + r))) = B by rw [(Hfr.out r hz2).1, (Hfr.out r hz2).2, Hn2.out, hB])
            generalize at0 d n' = x at *
            clear hu hru hrc hu2 hru2 hsc e2 e3 hB
            cases B with
            | true =>
              go_wp2_with (fail)
              go_quiet ((go_at_call 65; exact flip (CL.out _)))
              go_wp2
              go_ret
              exact ⟨rfl, below_drewN Hwr2.out _⟩
            | false =>
              have HR2 := Lib.hid (show ∀ m, m < offP c j + (r + 1) → unlB (atl (flatP ps) m) (atl (flatP qs) m) (at0 d (T + m)) = false from fun m hm => if e : m = offP c j + r then by subst e; exact HBe.out else HR.out m (by omega))
              go_wp2_with (fail)
              go_quiet ((go_at_call 65; exact flip (CL.out _)))
              go_wp2
              go_roundw
              case rel => exact ⟨r + 1, n' + 1, by omega, by go_num, by go_num, by omega, by omega, HR2.out, below_drewN HBr.out _⟩
              case measure => simp [intOf]; omega
          · have hrk : 2 * (k : Int) ≤ (r : Int) := by omega
            have hrk2 : ((2 * k : Nat) : Int) ≤ (r : Int) := by omega
            have Hr2 := Lib.hid (show r = 2 * k by omega)
            have hk0 : (0 : Int) ≤ (k : Int) := by omega
            have Hn2 := Lib.hid (show T + (offP c j + r) = n' by have := Hn.out; omega)
            obtain ⟨B, hB⟩ : ∃ B, B = unlB (atp ps j).line (atp qs j).line (at0 d n') := ⟨_, rfl⟩
            have CL := Lib.hid (fun N => top_unlike (atp ps j).line (atp qs j).line (.slice (some ⟨bL, oL, none⟩) (k + 1) cL) (.slice (some ⟨bM, oM, none⟩) (k + 1) cM) (at0 d n') (wr.drewN N) ((HLp.out.go Hwr2.out).drewN N) ((HLq.out.go Hwr2.out).drewN N) Hux.out (by rw [Hpo.out.l]; omega) (by rw [Hqo.out.l]; omega))
            rw [← hB] at CL
            have HBe := Lib.hid (show unlB (atl (flatP ps) (offP c j + r)) (atl (flatP qs) (offP c j + r)) (at0 d (T + (offP c j + r))) = B by
              have h1 := Hn2.out
              rw [Hr2.out] at h1 ⊢
              rw [Hfl.out.1, Hfl.out.2, h1, hB])
            generalize at0 d n' = x at *
            clear hB
            cases B with
            | true =>
              go_wp2_with (fail)
              go_quiet ((go_at_call 65; exact flip (CL.out _)))
              go_wp2
              go_ret
              exact ⟨rfl, below_drewN Hwr2.out _⟩
            | false =>
              have HR2 := Lib.hid (show ∀ m, m < offP c (j + 1) → unlB (atl (flatP ps) m) (atl (flatP qs) m) (at0 d (T + m)) = false from fun m hm => if e : m = offP c j + r then by subst e; exact HBe.out else HR.out m (by have := Hoff.out; have := Hr2.out; omega))
              have Hn3 := Lib.hid (show n' + 1 = T + offP c (j + 1) by have := Hn.out; have := Hoff.out; have := Hr2.out; omega)
              go_wp2_with (fail)
              go_quiet ((go_at_call 65; exact flip (CL.out _)))
              go_wp2
              go_roundw
              case rel => exact ⟨j + 1, n' + 1, by omega, by go_num, by go_num, Hn3.out, HR2.out, below_drewN HBr.out _⟩
              case measure => simp [intOf]; omega
      · exfalso
        obtain rfl : j = L := by omega
        have h1 := HJ.out m0 (by rw [HL.out, offP_all]; exact Hm0.out)
        rw [Hu0.out] at h1
        cases h1
end Go.Proofs.YtnleihjdllpniaaDoor
