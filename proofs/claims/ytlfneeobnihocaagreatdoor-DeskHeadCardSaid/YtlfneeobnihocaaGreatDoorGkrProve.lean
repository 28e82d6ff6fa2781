/- The walk of gkr's Prove. The table of bits lies as its initialiser lays it; the circuit is a value that reads as data, the lists are slices of 64-bit numbers. -/
import Derived.Test.YtlfneeobnihocaaGreatDoorGkrPart
import Derived.Test.YtlfneeobnihocaaGreatDoorProof
import Derived.Test.YtlfneeobnihocaaGreatDoorLayM
namespace Go.Proofs.YtlfneeobnihocaaGreatDoor
set_option maxRecDepth 100000
set_option linter.unusedVariables false
open Go.RowKit Tally
/-- the parts of the layers below i, in numbers -/
def proofFromI (c : Ci) (I : List F) : Nat → List Int → List Int → List Pi
  | 0, _, _ => []
  | i + 1, z, d => ⟨roundsI (aty c.layers i).gates z ((valF c I i).map psi) (belowLog c i).toNat d, pLineI ((valF c I i).map psi) (belowLog c i).toNat d⟩ :: proofFromI c I i (nextI (belowLog c i).toNat d) (d.drop (2 * (belowLog c i).toNat + 1))
/-- what is proved -/
def proveI (c : Ci) (inp d : List Int) : List Pi := proofFromI c (inp.map phi) c.layers.length (d.take (belowLog c c.layers.length).toNat) (d.drop (belowLog c c.layers.length).toNat)
def Pi.toF (P : Pi) : Pt := ⟨P.rounds.map (·.map phi), P.line.map phi⟩
theorem proofFromI_toF (c : Ci) (I : List F) : ∀ i z d, (proofFromI c I i z d).map Pi.toF = proofFrom c I i (z.map phi) (d.map phi)
  | 0, _, _ => rfl
  | i + 1, z, d => by
    show Pi.toF _ :: (proofFromI c I i _ _).map Pi.toF = _ :: _
    rw [proofFromI_toF c I i]
    congr 1
    · show Pt.mk _ _ = Pt.mk _ _
      congr 1
      · show (roundsI _ _ _ _ _).map _ = _
        unfold roundsI
        rw [List.map_map]
        refine List.map_congr_left fun j _ => ?_
        show (List.map psi _).map phi = _
        rw [mapphi_psi, mapphi_psi]
      · show (pLineI _ _ _).map phi = _
        unfold pLineI
        rw [mapphi_psi, mapphi_psi]
    · congr 1
      · exact mapphi_psi _
      · exact List.map_drop ..
theorem proofFromI_length (c : Ci) (I : List F) : ∀ i z d, (proofFromI c I i z d).length = i
  | 0, _, _ => rfl
  | i + 1, z, d => by show (proofFromI c I i _ _).length + 1 = _; rw [proofFromI_length c I i]
theorem roundsI_cut (gs : List Gt) (z V : List Int) (k n : Nat) (d : List Int) (h : 2 * k ≤ n) : roundsI gs z V k (d.take n) = roundsI gs z V k d := by
  unfold roundsI
  refine List.map_congr_left fun j hj => ?_
  have hj := List.mem_range.1 hj
  rw [List.map_take, List.take_take, Nat.min_eq_left (by omega)]
theorem pLineI_cut (V : List Int) (k n : Nat) (d : List Int) (h : 2 * k ≤ n) : pLineI V k (d.take n) = pLineI V k d := by
  unfold pLineI
  rw [List.map_take, List.take_take, Nat.min_eq_left (by omega), List.drop_take, List.take_take, Nat.min_eq_left (by omega)]
theorem nextI_cut (k n : Nat) (d : List Int) (h : 2 * k < n) : nextI k (d.take n) = nextI k d := by
  unfold nextI nextZ
  rw [List.map_take, List.take_take, Nat.min_eq_left (by omega), List.drop_take, List.take_take, Nat.min_eq_left (by omega)]
  congr 2
  simp [atF, h]
theorem Far.safe {S : Nat → Prop} {Q : World → Prop} {w : World} (h : Far S Q w) {r : Option Nat} (hr : ∀ g, r = some g → S g) : Safe w r Q := fun w' hg =>
  h w' hg.size fun b hlt hn => hg.block b hlt fun e => hn (hr b e.symm)
/-- a part of a proof that lies in a block of its own -/
structure PK (w6 wg : World) (b : Nat) (sr sl vn : Value) (R : List (List Int)) (L NX : List Int) : Prop where
  c0 : wg.cell? ⟨b, 0, none⟩ = some sr
  c1 : wg.cell? ⟨b, 1, none⟩ = some sl
  far : Far (fun b => b < w6.heap.size) (fun W => RowUU W sr R ∧ RowU W sl L) wg
  next : NewU w6.heap.size wg vn NX
  below : Below w6.heap.size w6 wg
theorem PK.first {w6 wf X : World} {sr sl vn : Value} {R : List (List Int)} {L NX : List Int} (hX : X = (w6.alloc (.cells #[.slice none 0 0, .slice none 0 0] 143)).drew)
    (hf : Far (fun b => b < X.heap.size) (fun W => RowUU W sr R ∧ RowU W sl L) wf) (hn : NewU X.heap.size wf vn NX) (hb : Below X.heap.size X wf) :
    PK w6 ((wf.setCell ⟨w6.heap.size, 0, none⟩ sr).setCell ⟨w6.heap.size, 1, none⟩ sl) w6.heap.size sr sl vn R L NX := by
  have hs : X.heap.size = w6.heap.size + 1 := by rw [hX]; show (w6.alloc _).heap.size = _; simp
  have hbX : Below w6.heap.size w6 X := by rw [hX]; exact below_drewN ((Below.refl _ _).alloc (Nat.le_refl _) _) 1
  have hbk : X.heap[w6.heap.size]? = some (.cells #[.slice none 0 0, .slice none 0 0] 143 (0, 0)) := by rw [hX]; exact alloc_blk w6 _
  have hbk2 := blk_setCell (blk_setCell ((hb.block w6.heap.size (by omega)).trans hbk) 0 sr) 1 sl
  refine ⟨cell_blk hbk2 0, cell_blk hbk2 1, ?_, ?_, ?_⟩
  · exact (((hf.set (b := w6.heap.size) (by show w6.heap.size < X.heap.size; omega) 0 sr).set (b := w6.heap.size) (by show w6.heap.size < X.heap.size; omega) 1 sl)).less fun b _ h => by show b < X.heap.size; omega
  · exact ((hn.low (g := w6.heap.size) (by omega) 0 sr).low (g := w6.heap.size) (by omega) 1 sl).mono (by omega)
  · exact ((hbX.trans (hb.mono (by omega))).setCell (p := ⟨w6.heap.size, 0, none⟩) (Nat.le_refl _) _).setCell (p := ⟨w6.heap.size, 1, none⟩) (Nat.le_refl _) _
theorem PK.last {w6 wf X : World} {sr sl vn : Value} {R : List (List Int)} {L NX : List Int} (hX : X = w6.drew)
    (hf : Far (fun b => b < X.heap.size) (fun W => RowUU W sr R ∧ RowU W sl L) wf) (hn : NewU X.heap.size wf vn NX) (hb : Below X.heap.size X wf) :
    PK w6 (wf.alloc (.cells #[sr, sl] 143)) wf.heap.size sr sl vn R L NX := by
  have hs : X.heap.size = w6.heap.size := by rw [hX]; rfl
  have hbX : Below w6.heap.size w6 X := by rw [hX]; exact below_drewN (Below.refl _ _) 1
  have hbk := alloc_blk wf (.cells #[sr, sl] 143)
  rw [hs] at hf hn
  have hal : Below wf.heap.size wf (wf.alloc (.cells #[sr, sl] 143)) := (Below.refl _ _).alloc (Nat.le_refl _) _
  refine ⟨cell_blk hbk 0, cell_blk hbk 1, hf.go hal, hn.go hal, ?_⟩
  exact (below_two hbX hb).trans (hal.mono (below_two hbX hb).size)
theorem NewP.far {B : Nat} {w : World} {v : Value} {l : List Pi} {S : Nat → Prop} (h : NewP B w v l) (hS : ∀ b, S b → b < B) : Far S (fun W => RowP W v l) w := by
  intro w' hs hk
  have hlt := fun b (e : v.ownBlock = some b) => h.lt e
  obtain ⟨h1, us, h2, h3, h4⟩ := h
  refine NewP.row (B := B) ⟨h1, us, h2, ownsRow_same h3 fun b e => hk b (hlt b e).2 (fun e' => by have := hS b e'; have := (hlt b e).1; omega), fun j hj => ?_⟩
  obtain ⟨u, u2, e1, e2, hq⟩ := h4 j hj
  exact ⟨u, u2, e1, e2, hq.step hs fun b hb hn => hk b hb fun hSb => hn (.inl (hS b hSb))⟩
set_option maxRecDepth 100000 in
set_option maxHeartbeats 8000000 in
theorem gkr_ProveN (v : Value) (c : Ci) (vi vd : Value) (inp d : List Int) (w : World) (hT : Tab w) (h : IsC w v c) (hp : RowU w vi inp) (hd : RowU w vd d) (hcd : CapOk vd) (hc0 : checkC c = 0) (hl : inp.length = 2 ^ c.log.toNat) (hdl : d.length = drawsN c) :
    Calls Tryz.prog 102 #[v, vi, vd] w fun e w' => ∃ vp, e = .returned (.tuple #[vp, .int .i64 0]) ∧ Far (fun b => b < w.heap.size) (fun W => IsP W vp (proveI c inp d)) w' ∧ Below w.heap.size w w' := by
  have hG := good_of_check hc0
  have HT := Lib.hid hT; have HC := Lib.hid h; have HG := Lib.hid hG; have Hp := Lib.hid hp
  have Hc0 := Lib.hid hc0; have Hl := Lib.hid hl; have Hdl := Lib.hid hdl
  have h4 := hG.n4; have h1 := hG.n1
  have hD40 := drawsN_le hG
  obtain ⟨ac, cc, rfl⟩ := h.shape
  obtain ⟨ud, _, ad, cd, rfl, hdr⟩ := hd
  obtain ⟨hdc, hdm⟩ := hcd _ _ _ rfl
  have Ud := Lib.hid ud
  have ht0 := hG.below0 (k := c.layers.length) (Nat.le_refl _)
  have ht4 := hG.below4 (k := c.layers.length) (Nat.le_refl _)
  obtain ⟨T, hTop⟩ : ∃ T : Nat, belowLog c c.layers.length = (T : Int) := ⟨(belowLog c c.layers.length).toNat, by omega⟩
  have HTop := Lib.hid hTop
  have HD := Lib.hid (show drawsN c = T + needFrom c c.layers.length by unfold drawsN; rw [hTop]; rfl)
  have Hnd := Lib.hid (show 1 ≤ needFrom c c.layers.length by
    obtain ⟨m, hm⟩ : ∃ m, c.layers.length = m + 1 := ⟨c.layers.length - 1, by omega⟩
    rw [hm]; show 1 ≤ 2 * _ + 1 + _; omega)
  obtain ⟨bd, od, rfl, hdlt, hdcell⟩ := hdr (by rw [hdl, HD.out]; have := Hnd.out; omega)
  have Hdc := Lib.hid hdcell
  rw [hdl] at hdc ⊢
  have hT4 : T ≤ 4 := by omega
  have Hpr := Lib.hid (show proveI c inp d = proofFromI c (inp.map phi) c.layers.length (d.take T) (d.drop T) by unfold proveI; rw [hTop]; rfl)
  rw [Hpr.out]
  clear hT h hG hp hcd hl hdl hdr hdcell ud hc0 hTop ht0 ht4
  obtain ⟨DN, hDN⟩ : ∃ DN, DN = drawsN c := ⟨_, rfl⟩
  rw [← hDN] at hdc hD40 ⊢
  have HDN := Lib.hid hDN
  have hTD : T < DN := by rw [hDN, HD.out]; have := Hnd.out; omega
  clear hDN
  go_enter Tryz.func102, Tryz.ntmps102
  go_wp2_with (fail)
  obtain ⟨W, hW, hb1, hb2, s1, B1⟩ := two_blocks w #[.int .i64 c.log, .slice ac c.layers.length cc] #[.slice none 0 0] 62 93
  rw [hW]
  have H1 := Lib.hid B1
  obtain ⟨tb, htb⟩ : ∃ tb, tb = w.heap.size := ⟨_, rfl⟩
  rw [← htb] at hb1 hb2 s1 ⊢
  have Htb := Lib.hid htb
  have Hb1 := Lib.hid hb1; have Hb2 := Lib.hid hb2
  have ltb : tb < W.heap.size := by omega
  have lrs : tb + 1 < W.heap.size := by omega
  clear hW hb1 hb2 B1 htb s1
  refine (c_RunAt _ c _ inp _ (HC.out.go H1.out) (Hp.out.go H1.out) Hc0.out Hl.out).mono ?_
  rintro e w1 ⟨vx, rfl, hrun, bw1⟩
  obtain ⟨bx, ox, cx, rfl, hx1, hx2⟩ := hrun
  have HRun := Lib.hid (show RunAt w1 (.slice (some ⟨bx, ox, none⟩) (c.layers.length + 1) cx) c (inp.map phi) from ⟨bx, ox, cx, rfl, hx1, hx2⟩)
  have Bw1 := Lib.hid bw1
  have H2 := Lib.hid (below_two H1.out bw1)
  have r0 : w1.cell? ⟨tb, 0, none⟩ = some _ := cell_blk ((bw1.block tb ltb).trans Hb1.out) 0
  have r1 : w1.cell? ⟨tb, 1, none⟩ = some _ := cell_blk ((bw1.block tb ltb).trans Hb1.out) 1
  clear bw1 hx1 hx2
  go_wp2_with (fail)
  refine (gkr_draws _ c _ (HC.out.go H2.out) HG.out).mono ?_
  rintro e w2 ⟨rfl, bw2⟩
  rw [← HDN.out]
  have Bw2 := Lib.hid (below_two Bw1.out bw2)
  have H3 := Lib.hid (below_two H2.out bw2)
  have HRun2 := Lib.hid (HRun.out.go bw2)
  clear r0 r1 bw2
  have r0 : w2.cell? ⟨tb, 0, none⟩ = some _ := cell_blk ((Bw2.out.block tb ltb).trans Hb1.out) 0
  have r1 : w2.cell? ⟨tb, 1, none⟩ = some _ := cell_blk ((Bw2.out.block tb ltb).trans Hb1.out) 1
  go_wp2_with (fail)
  refine (gkr_top _ c _ (HC.out.go H3.out) HG.out).mono ?_
  rintro e w3 ⟨rfl, bw3⟩
  rw [HTop.out]
  have Bw3 := Lib.hid (below_two Bw2.out bw3)
  have H4 := Lib.hid (below_two H3.out bw3)
  have HRun3 := Lib.hid (HRun2.out.go bw3)
  clear r0 r1 bw3
  have r0 : w3.cell? ⟨tb, 0, none⟩ = some _ := cell_blk ((Bw3.out.block tb ltb).trans Hb1.out) 0
  have r1 : w3.cell? ⟨tb, 1, none⟩ = some _ := cell_blk ((Bw3.out.block tb ltb).trans Hb1.out) 1
  go_wp2_with (fail)
  refine (gkr_top _ c _ (HC.out.go H4.out) HG.out).mono ?_
  rintro e w4 ⟨rfl, bw4⟩
  rw [HTop.out]
  have Bw4 := Lib.hid (below_two Bw3.out bw4)
  have H5 := Lib.hid (below_two H4.out bw4)
  have HRun4 := Lib.hid (HRun3.out.go bw4)
  clear r0 r1 bw4
  have r0 : w4.cell? ⟨tb, 0, none⟩ = some _ := cell_blk ((Bw4.out.block tb ltb).trans Hb1.out) 0
  have r1 : w4.cell? ⟨tb, 1, none⟩ = some _ := cell_blk ((Bw4.out.block tb ltb).trans Hb1.out) 1
  have ltb4 : tb < w4.heap.size := by have := Bw4.out.size; omega
  go_wp2_with (fail)
  obtain ⟨oo, hoo⟩ : ∃ oo, oo = w4.heap.size := ⟨_, rfl⟩
  obtain ⟨W5, hW5⟩ : ∃ W5, w4.alloc (.cells #[.slice none 0 0] 93) = W5 := ⟨_, rfl⟩
  have B5 : Below oo w4 W5 := by rw [hoo, ← hW5]; exact (Below.refl _ _).alloc (Nat.le_refl _) _
  have bo : W5.heap[oo]? = some (.cells #[.slice none 0 0] 93 (0, 0)) := by rw [hoo, ← hW5]; exact alloc_blk w4 _
  rw [hW5, ← hoo]
  have HB5 := Lib.hid B5; have Hbo := Lib.hid bo
  have Hoo := Lib.hid hoo
  have htbo : tb + 1 < oo := by have := Bw4.out.size; omega
  have H6 := Lib.hid (show Below w.heap.size w W5 from H5.out.trans (B5.mono (by have := H5.out.size; omega)))
  have hwoo : w.heap.size ≤ oo := by have := H5.out.size; omega
  have Btb := Lib.hid (show Below tb w W5 by have := H6.out; rwa [← Htb.out] at this)
  have hcs := Lib.hid ((B5.block tb (by omega)).trans ((Bw4.out.block tb ltb).trans Hb1.out))
  have hrs := Lib.hid ((B5.block (tb + 1) (by omega)).trans ((Bw4.out.block (tb + 1) lrs).trans Hb2.out))
  obtain ⟨I, hI⟩ : ∃ I, I = inp.map phi := ⟨_, rfl⟩
  rw [← hI] at HRun4
  have HIl := Lib.hid (show I.length = 2 ^ c.log.toNat by rw [hI, List.length_map, Hl.out])
  have HI := Lib.hid hI
  have hud : ∀ W, Below w.heap.size w W → ∀ p n, p + n ≤ d.length → RowU W (.slice (some ⟨bd, od + p, none⟩) n (cd - p)) ((d.drop p).take n) := fun W hB p n h => RowU.piece Ud.out (Nat.lt_of_lt_of_le hdlt hB.size) (fun j hj => (hB.cell (p := ⟨bd, od + j, none⟩) hdlt).trans (Hdc.out j hj)) (by rw [Hdl.out, ← HDN.out]; omega) p n h
  have Hz0 := Lib.hid (show RowU W5 (.slice (some ⟨bd, od, none⟩) T cd) (d.take T) from hud W5 H6.out 0 T (by rw [Hdl.out, ← HDN.out]; omega))
  have Hd0 := Lib.hid (show RowU W5 (.slice (some ⟨bd, od + T, none⟩) (DN - T) (cd - T)) (d.drop T) by
    have := hud W5 H6.out T (DN - T) (by rw [Hdl.out, ← HDN.out]; omega)
    rwa [List.take_of_length_le (by rw [List.length_drop, Hdl.out, ← HDN.out]; exact Nat.le_refl _)] at this)
  have Hzl0 := Lib.hid (show (d.take T).length = (belowLog c c.layers.length).toNat by rw [List.length_take, Hdl.out, ← HDN.out, HTop.out]; simp; omega)
  have Hdl0 := Lib.hid (show (d.drop T).length = needFrom c c.layers.length by rw [List.length_drop, Hdl.out, HD.out]; omega)
  have HDN0 := Lib.hid (show DN - T = needFrom c c.layers.length by rw [HDN.out, HD.out]; omega)
  clear hud hW5 B5 bo hoo hI r0 r1
  go_loopw [2, 10, 12] (fun dv zv iv wr => ∃ (m n : Nat) (z dd : List Int) (A : List Pi) (ad : Option Addr) (cd' : Nat) (vP : Value), m ≤ c.layers.length ∧ dv = .slice ad n cd' ∧ n ≤ cd' ∧ cd' ≤ 9223372036854775807 ∧ iv = .int .i64 ((m : Int) - 1) ∧ Hid (n = needFrom c m) ∧ Hid (RowU wr zv z) ∧ Hid (∃ p, dd = d.drop p ∧ p + n = DN ∧ (0 < n → ad = some ⟨bd, od + p, none⟩)) ∧ Hid (z.length = (belowLog c m).toNat) ∧ Hid (dd.length = n) ∧ Hid (A ++ proofFromI c I m z dd = proofFromI c I c.layers.length (d.take T) (d.drop T)) ∧ Hid (A.length + m = c.layers.length) ∧ Hid (wr.heap[oo]? = some (.cells #[vP] 93 (0, 0))) ∧ Hid (NewP (oo + 1) wr vP A) ∧ Hid (Below oo W5 wr)) (fun _ _ iv _ => (intOf iv + 1).toNat)
  case atStart => exact ⟨c.layers.length, DN - T, d.take T, d.drop T, [], _, _, _, Nat.le_refl _, rfl, by omega, by omega, rfl, HDN0.out, Hz0.out, ⟨T, rfl, by omega, fun _ => rfl⟩, Hzl0.out, by rw [HDN0.out]; exact Hdl0.out, rfl, by simp [Hid], Hbo.out, NewP.nil _ _, Below.refl _ _⟩
  case round =>
    clear Hz0 Hd0 Hzl0 Hdl0 HDN0 Hbo
    obtain ⟨m, n, z, dd, A, ad, cd', vP, hm, rfl, hn1, hn2, rfl, Hn, HZ, HDD, HZl, HDl, HA, HAl, HBo, HP, HB⟩ := hrel
    have hBr := Lib.hid (H6.out.trans (HB.out.mono hwoo))
    have c0 : wr.cell? ⟨tb, 0, none⟩ = some _ := cell_blk ((HB.out.block tb (by omega)).trans hcs.out) 0
    have c1 : wr.cell? ⟨tb, 1, none⟩ = some _ := cell_blk ((HB.out.block tb (by omega)).trans hcs.out) 1
    have looW : oo < wr.heap.size := blk_lt HBo.out
    by_cases hm0 : m = 0
    · subst hm0
      have g0 : wr.cell? ⟨oo, 0, none⟩ = some vP := cell_blk HBo.out 0
      have hrr := (HB.out.block (tb + 1) (by omega)).trans hrs.out
      have f0 : wr.cell? ⟨tb + 1, 0, none⟩ = some _ := cell_blk hrr 0
      have ff := free_blk hrr 0
      rw [show ((0 : Nat) : Int) - 1 = -1 from rfl]
      obtain ⟨aP, cP, rfl⟩ := HP.out.isSlice
      go_wp2_with (fail)
      have HPI := Lib.hid (show A = proofFromI c I c.layers.length (d.take T) (d.drop T) by have := HA.out; rwa [show proofFromI c I 0 z dd = [] from rfl, List.append_nil] at this)
      have hbz : Below w.heap.size w (wr.setCell ⟨tb + 1, 0, none⟩ (.slice aP A.length cP)) := hBr.out.setCell (p := ⟨tb + 1, 0, none⟩) (by have := Htb.out; show w.heap.size ≤ tb + 1; omega) _
      have hpz := (HP.out.low (show tb + 1 < oo + 1 by omega) 0 (.slice aP A.length cP)).far (S := fun b => b < w.heap.size) (fun b (hb : b < w.heap.size) => by omega)
      have hbk := blk_setCell hrr 0 (.slice aP A.length cP)
      generalize wr.setCell ⟨tb + 1, 0, none⟩ (.slice aP A.length cP) = wz at *
      have d0 : wz.cell? ⟨tb + 1, 0, none⟩ = some (.slice aP A.length cP) := cell_blk hbk 0
      exact bodyPost_ret (v := .tuple #[.agg #[.slice aP A.length cP], .int .i64 0]) (by simp [results, Tryz.results102, go_sem, d0]) rfl ⟨_, rfl, by rw [← HI.out, ← HPI.out]; exact hpz.imp fun W h => ⟨_, rfl, h⟩, hbz⟩
    · obtain ⟨q, rfl⟩ : ∃ q, m = q + 1 := ⟨m - 1, by omega⟩
      rw [show ((q + 1 : Nat) : Int) - 1 = (q : Int) by omega]
      have hq : q < c.layers.length := by omega
      clear hm0
      go_wp2_with (fail)
      refine (wiring_Below _ c q _ (HC.out.go hBr.out) (by omega) h4).mono ?_
      rintro e w6 ⟨rfl, bw6⟩
      have k0 := HG.out.below0 (k := q) (by omega)
      have k4 := HG.out.below4 (k := q) (by omega)
      obtain ⟨k, hk⟩ : ∃ k : Nat, belowLog c q = (k : Int) := ⟨(belowLog c q).toNat, by omega⟩
      have Hk := Lib.hid hk
      rw [hk] at k0 k4 ⊢
      have hk4 : k ≤ 4 := by omega
      clear hk k0 k4
      have Bw6 := Lib.hid bw6
      have Hn' := Lib.hid (show n = 2 * k + 1 + needFrom c q by rw [Hn.out]; show 2 * (belowLog c q).toNat + 1 + needFrom c q = _; rw [Hk.out]; simp)
      have hkn : 2 * k + 1 ≤ n := by rw [Hn'.out]; omega
      obtain ⟨p, hdd, hpn, hadd⟩ := HDD.out
      obtain rfl := hadd (by omega)
      have Hdd := Lib.hid hdd; have Hpn := Lib.hid hpn
      have hpc := Lib.hid (fun W (hB : Below w.heap.size w W) m (h : m ≤ n) => show RowU W (.slice (some ⟨bd, od + p, none⟩) m cd') (dd.take m) from by
        rw [hdd]
        exact RowU.piece Ud.out (Nat.lt_of_lt_of_le hdlt hB.size) (fun j hj => (hB.cell (p := ⟨bd, od + j, none⟩) hdlt).trans (Hdc.out j hj)) (by rw [Hdl.out, ← HDN.out]; omega) p m (by rw [Hdl.out, ← HDN.out]; omega))
      clear hdd hpn hadd
      have hB4r : Below w4.heap.size w4 wr := by rw [← Hoo.out]; exact HB5.out.trans HB.out
      obtain ⟨bx', ox', cx', e, hbx, hrun⟩ := HRun4.out.go hB4r
      simp only [Value.slice.injEq, Option.some.injEq, Addr.mk.injEq] at e
      obtain ⟨⟨rfl, rfl, -⟩, -, rfl⟩ := e
      obtain ⟨u, hu, hru⟩ := hrun q (by omega)
      obtain ⟨V, hV⟩ : ∃ V, V = (valF c I q).map psi := ⟨_, rfl⟩
      have HVl := Lib.hid (show V.length = 2 ^ k by rw [hV, List.length_map, valF_length HG.out I HIl.out q (by omega), Hk.out, Int.toNat_natCast])
      rw [← hV] at hru
      have HV := Lib.hid hV
      have Hru := Lib.hid hru
      have c0' := (bw6.cell (p := ⟨tb, 0, none⟩) (by show tb < wr.heap.size; omega)).trans c0
      have c1' := (bw6.cell (p := ⟨tb, 1, none⟩) (by show tb < wr.heap.size; omega)).trans c1
      have cU : w6.cell? ⟨bx, ox + q, none⟩ = some u := (bw6.cell (p := ⟨bx, ox + q, none⟩) hbx).trans hu
      have hsz6 := bw6.size
      have lt0 : tb < w6.heap.size := by omega
      have ltx : bx < w6.heap.size := by omega
      obtain ⟨R, hR⟩ : ∃ R, R = roundsI (aty c.layers q).gates z V k dd := ⟨_, rfl⟩
      obtain ⟨L, hL⟩ : ∃ L, L = pLineI V k dd := ⟨_, rfl⟩
      obtain ⟨NX, hNX⟩ : ∃ NX, NX = nextI k dd := ⟨_, rfl⟩
      have Cp := Lib.hid (fun W (hB : Below w6.heap.size w6 W) => (gkr_part (.agg #[.int .i64 c.log, .slice ac c.layers.length cc]) c q u10 u (.slice (some ⟨bd, od + p, none⟩) (2 * k + 1) cd') z V (dd.take (2 * k + 1)) W
        (HT.out.below (hBr.out.trans ((below_two Bw6.out hB).mono hBr.out.size))) (HC.out.below (hBr.out.trans ((below_two Bw6.out hB).mono hBr.out.size)) (Nat.le_refl _)) HG.out hq (HZ.out.go (below_two Bw6.out hB)) (Hru.out.go (below_two Bw6.out hB)) (hpc.out W (hBr.out.trans ((below_two Bw6.out hB).mono hBr.out.size)) (2 * k + 1) (by omega)) (CapOk.mk (by omega) hn2)
        (by rw [HZl.out, belowLog_succ]; have := HG.out.l0 q hq; omega) k Hk.out HVl.out (by rw [List.length_take, HDl.out]; omega)).mono
        (show ∀ (e : Ending) (w' : World), _ → ∃ ar nr cr al nl cl vn, e = .returned (.tuple #[.agg #[.slice ar nr cr, .slice al nl cl], vn]) ∧ Far (fun b => b < W.heap.size) (fun X => RowUU X (.slice ar nr cr) R ∧ RowU X (.slice al nl cl) L) w' ∧ NewU W.heap.size w' vn NX ∧ Below W.heap.size W w' from fun e w' ⟨vr, vl, vn, he, hf, hn, hb⟩ => by
          rw [roundsI_cut _ _ _ _ _ _ (by omega), pLineI_cut _ _ _ _ (by omega), ← hR, ← hL] at hf
          rw [nextI_cut _ _ _ (by omega), ← hNX] at hn
          obtain ⟨_, ar, cr, e1, _⟩ := hf.now.1
          obtain ⟨_, _, al, cl, e2, _⟩ := hf.now.2
          subst e1; subst e2
          exact ⟨_, _, _, _, _, _, _, he, hf, hn, hb⟩))
      have HR := Lib.hid hR; have HL := Lib.hid hL; have HNX := Lib.hid hNX
      clear hR hL hNX
      have hkc : 2 * (k : Int) + 1 ≤ (cd' : Int) := by omega
      have hk0 : (0 : Int) ≤ 2 * (k : Int) + 1 := by omega
      have hkn' : 2 * (k : Int) + 1 ≤ (n : Int) := by omega
      have hql : (q : Int) < (c.layers.length : Int) + 1 := by omega
      have hq0 : (0 : Int) ≤ (q : Int) := by omega
      have hktn : (2 * (k : Int) + 1).toNat = 2 * k + 1 := by omega
      clear bw6 hru hu hrun c0 c1 hV
      go_wp2_with (fail)
      obtain ⟨aP, cP, rfl⟩ := HP.out.isSlice
      have hbo6 := Lib.hid ((Bw6.out.block oo looW).trans HBo.out)
      have lo6 : oo < w6.heap.size := blk_lt hbo6.out
      have HP6 := Lib.hid (HP.out.go Bw6.out)
      have HPlt := Lib.hid (show ∀ g, (Value.slice aP A.length cP).ownBlock = some g → g < w6.heap.size from fun g e => (HP6.out.lt e).2)
      have hA1000 : A.length + 1 ≤ 1000 := by have := HAl.out; omega
      have K3 := Lib.hid (show ∀ w', Below w6.heap.size w6 w' → Below w6.heap.size w6 w' ∧ w'.cell? ⟨tb, 0, none⟩ = some (.int .i64 c.log) ∧ w'.cell? ⟨tb, 1, none⟩ = some (.slice ac c.layers.length cc) ∧ w'.cell? ⟨bx, ox + q, none⟩ = some u from fun w' hz => ⟨hz, (hz.cell (p := ⟨tb, 0, none⟩) lt0).trans c0', (hz.cell (p := ⟨tb, 1, none⟩) lt0).trans c1', (hz.cell (p := ⟨bx, ox + q, none⟩) ltx).trans cU⟩)
      have hal := Lib.hid (show Below w6.heap.size w6 (w6.alloc (.cells #[.slice none 0 0, .slice none 0 0] 143)).drew from below_drewN ((Below.refl _ _).alloc (Nat.le_refl _) _) 1)
      have halc := Lib.hid (alloc_blk w6 (.cells #[.slice none 0 0, .slice none 0 0] 143))
      go_region_held3 (fun w' => Below w6.heap.size w6 w' ∧ w'.cell? ⟨tb, 0, none⟩ = some (.int .i64 c.log) ∧ w'.cell? ⟨tb, 1, none⟩ = some (.slice ac c.layers.length cc) ∧ w'.cell? ⟨bx, ox + q, none⟩ = some u)
        (first
          | exact K3.out _ (below_drewN (Below.refl _ _) 1)
          | exact ⟨by assumption, by assumption, by assumption, by assumption⟩
          | exact K3.out _ hal.out
          | exact K3.out _ (below_two (below_drewN (Below.refl _ _) 1) hbF)
          | exact K3.out _ (below_two hal.out hbF)
          | exact K3.out _ (PK.first rfl HF.out HN.out hbF).below
          | exact K3.out _ (PK.last rfl HF.out HN.out hbF).below
          | exact K3.out _ ((below_two (below_drewN (Below.refl _ _) 1) hbF).alloc (below_two (below_drewN (Below.refl _ _) 1) hbF).size _))
        (first
          | (go_at_call 144; (with_reducible refine (Cp.out w6.drew (below_drewN (Below.refl _ _) 1)).mono ?_); rintro e wf ⟨ar, nr, cr, al, nl, cl, vn, rfl, hfar, hnn, hbF⟩; have HF := Lib.hid hfar; have HN := Lib.hid hnn; clear hfar hnn)
          | (go_at_call 144; (with_reducible refine (Cp.out (w6.alloc (.cells #[.slice none 0 0, .slice none 0 0] 143)).drew hal.out).mono ?_); rintro e wf ⟨ar, nr, cr, al, nl, cl, vn, rfl, hfar, hnn, hbF⟩; have HF := Lib.hid hfar; have HN := Lib.hid hnn; clear hfar hnn; have gO := (hbF.block w6.heap.size (by show w6.heap.size < (w6.alloc _).heap.size; simp)).trans halc.out; have gO0 : wf.cell? ⟨w6.heap.size, 0, none⟩ = some (.slice none 0 0) := cell_blk gO 0; have gO1 : wf.cell? ⟨w6.heap.size, 1, none⟩ = some (.slice none 0 0) := cell_blk gO 1; have gf := free_blk gO; clear gO))
      all_goals
        first
        | (have HK := Lib.hid (PK.first rfl HF.out HN.out hbF)
           clear gO0 gO1 gf HF HN hbF
           generalize (wf.setCell ⟨w6.heap.size, 0, none⟩ (.slice ar nr cr)).setCell ⟨w6.heap.size, 1, none⟩ (.slice al nl cl) = wg at *)
        | (have HK := Lib.hid (PK.last rfl HF.out HN.out hbF)
           clear HF HN hbF
           generalize wf.alloc (.cells #[.slice ar nr cr, .slice al nl cl] 143) = wg at *)
        have g0 : wg.cell? ⟨oo, 0, none⟩ = some (.slice aP A.length cP) := cell_blk ((HK.out.below.block oo lo6).trans hbo6.out) 0
        have d0 := HK.out.c0; have d1 := HK.out.c1
        have HPg := Lib.hid (HP6.out.go HK.out.below)
        have hsafe := Lib.hid (HK.out.far.less (S' := fun b => b < oo + 1 ∨ (Value.slice aP A.length cP).ownBlock = some b) fun b _ e => e.elim (fun e => Nat.lt_of_lt_of_le e lo6) (fun e => HPlt.out b e))
        have hBg : oo + 1 ≤ wg.heap.size := Nat.le_trans lo6 HK.out.below.size
        have hbog := Lib.hid ((HK.out.below.block oo lo6).trans hbo6.out)
        go_wp2_with (at_builtin; refine wpList_appP rfl _ _ rfl (oo + 1) (.slice aP A.length cP) A rfl HPg.out _ _ ⟨R, L⟩ hsafe.out rfl hA1000 hBg ?_; intro v5 w5 hn5 hb5 hg5; have HN5 := Lib.hid hn5; have HG5 := Lib.hid hg5; have HB5' := Lib.hid hb5; have Hbo5 := Lib.hid ((hg5.block oo (Nat.lt_of_succ_le hBg) (fun e => by have := (HP6.out.lt e.symm).1; omega)).trans hbog.out); have fp5 := free_blk Hbo5.out; have cp5 : w5.cell? ⟨oo, 0, none⟩ = some _ := cell_blk Hbo5.out 0; obtain ⟨a5, c5, e5⟩ := hn5.isSlice; subst e5; clear hn5 hb5 hg5)
        have H5w := Lib.hid (show Below oo W5 (w5.setCell ⟨oo, 0, none⟩ (.slice a5 (A.length + 1) c5)) from ((((HB.out.trans (Bw6.out.mono (Nat.le_of_lt looW))).trans (HK.out.below.mono (Nat.le_of_lt lo6))).trans (HB5'.out.mono (Nat.le_succ oo)))).setCell (p := ⟨oo, 0, none⟩) (Nat.le_refl oo) _)
        have Hz5 := Lib.hid (show RowU (w5.setCell ⟨oo, 0, none⟩ (.slice a5 (A.length + 1) c5)) vn NX from ((HK.out.next.grownOther HG5.out (fun g hv e => by have := (HK.out.next.lt hv).1; have := HPlt.out g e; omega)).low lo6 0 _).row)
        have Hp5 := Lib.hid (show NewP (oo + 1) (w5.setCell ⟨oo, 0, none⟩ (.slice a5 (A.length + 1) c5)) (.slice a5 (A.length + 1) c5) (A ++ [⟨R, L⟩]) from by
          have := HN5.out; rw [List.length_append, List.length_singleton] at this; exact this.low (Nat.lt_succ_self oo) 0 _)
        have Hb5 := Lib.hid (show (w5.setCell ⟨oo, 0, none⟩ (.slice a5 (A.length + 1) c5)).heap[oo]? = some (.cells #[.slice a5 (A.length + 1) c5] 93 (0, 0)) from blk_setCell Hbo5.out 0 _)
        clear fp5 cp5 g0 d0 d1
        generalize w5.setCell ⟨oo, 0, none⟩ (.slice a5 (A.length + 1) c5) = wx at *
        have HNn := Lib.hid (show n - (2 * k + 1) = needFrom c q by rw [Hn'.out]; omega)
        have HNl := Lib.hid (show NX.length = (belowLog c q).toNat by rw [HNX.out]; unfold nextI; rw [List.length_map, nextZ_length k _ (by rw [List.length_map, HDl.out]; omega), Hk.out]; simp)
        have HAA := Lib.hid (show (A ++ [⟨R, L⟩]) ++ proofFromI c I q NX (dd.drop (2 * k + 1)) = proofFromI c I c.layers.length (d.take T) (d.drop T) by
          rw [← HA.out, List.append_assoc, HR.out, HL.out, HNX.out]
          show A ++ (_ :: proofFromI c I q _ _) = A ++ (_ :: proofFromI c I q _ _)
          rw [show (belowLog c q).toNat = k by rw [Hk.out]; simp, ← HV.out])
        have Hl1 := Lib.hid (show (dd.drop (2 * k + 1)).length = n - (2 * k + 1) by rw [List.length_drop, HDl.out])
        have HAl2 := Lib.hid (show (A ++ [Pi.mk R L]).length + q = c.layers.length by rw [List.length_append, List.length_singleton]; have := HAl.out; omega)
        by_cases hcc : cd' = 2 * k + 1
        · obtain rfl : n = 2 * k + 1 := by omega
          subst hcc
          go_quiet (fail)
          go_wp2
          go_roundw
          case rel => exact ⟨q, 0, NX, dd.drop (2 * k + 1), A ++ [Pi.mk R L], _, _, _, by omega, rfl, by omega, by omega, rfl, by have := HNn.out; rwa [Nat.sub_self] at this, Hz5.out.go (below_drewN (Below.refl _ _) nq), ⟨p + (2 * k + 1), by rw [Hdd.out, List.drop_drop], by have := Hpn.out; omega, fun h => by omega⟩, HNl.out, by have := Hl1.out; rwa [Nat.sub_self] at this, HAA.out, HAl2.out, Hb5.out, Hp5.out.go (below_drewN (Below.refl _ _) nq), below_drewN H5w.out nq⟩
          case measure => simp [intOf]
        · go_quiet (fail)
          go_wp2
          go_roundw
          case rel => exact ⟨q, n - (2 * k + 1), NX, dd.drop (2 * k + 1), A ++ [Pi.mk R L], _, _, _, by omega, rfl, by omega, by omega, rfl, HNn.out, Hz5.out.go (below_drewN (Below.refl _ _) nq), ⟨p + (2 * k + 1), by rw [Hdd.out, List.drop_drop], by have := Hpn.out; omega, fun h => by first | rfl | (congr 2; omega)⟩, HNl.out, Hl1.out, HAA.out, HAl2.out, Hb5.out, Hp5.out.go (below_drewN (Below.refl _ _) nq), below_drewN H5w.out nq⟩
          case measure => simp [intOf]
theorem gkr_Prove (v : Value) (c : Ci) (vi vd : Value) (inp d : List Int) (w : World) (hT : Tab w) (h : IsC w v c) (hp : RowU w vi inp) (hd : RowU w vd d) (hcd : CapOk vd) (hc0 : checkC c = 0) (hl : inp.length = 2 ^ c.log.toNat) (hdl : d.length = drawsN c) :
    Calls Tryz.prog 102 #[v, vi, vd] w fun e w' => ∃ vp, e = .returned (.tuple #[vp, .int .i64 0]) ∧ IsP w' vp (proveI c inp d) ∧ Below w.heap.size w w' :=
  (gkr_ProveN v c vi vd inp d w hT h hp hd hcd hc0 hl hdl).mono fun _ _ ⟨vp, e, hf, hb⟩ => ⟨vp, e, hf.now, hb⟩
end Go.Proofs.YtlfneeobnihocaaGreatDoor
