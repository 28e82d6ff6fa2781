/- The walk of gkr's part: what is told of a layer. The table of bits lies as its initialiser lays it; the circuit is a value that reads as data, the lists are slices of 64-bit numbers. -/
import Derived.Test.YtlfneeobnihocaaGreatDoorGkrMade
import Derived.Test.YtlfneeobnihocaaGreatDoorFar
import Derived.Test.YtlfneeobnihocaaGreatDoorCircO
import Derived.Test.YtlfneeobnihocaaGreatDoorOpen
import Derived.Outline
namespace Go.Proofs.YtlfneeobnihocaaGreatDoor
set_option maxRecDepth 100000
set_option linter.unusedVariables false
open Go.RowKit Tally
/-- the rounds that are told of a layer, in numbers -/
def roundsI (gs : List Gt) (z V : List Int) (k : Nat) (d : List Int) : List (List Int) := (List.range (2 * k)).map fun j => (roundAt gs (z.map phi) (V.map phi) k ((d.map phi).take j)).map psi
/-- the values along a line, in numbers -/
def pLineI (V : List Int) (k : Nat) (d : List Int) : List Int := (partL (V.map phi) ((d.map phi).take k) (((d.map phi).drop k).take k)).map psi
/-- the next z, in numbers -/
def nextI (k : Nat) (d : List Int) : List Int := (nextZ k (d.map phi)).map psi
theorem roundsI_length (gs : List Gt) (z V : List Int) (k : Nat) (d : List Int) : (roundsI gs z V k d).length = 2 * k := by simp [roundsI]
theorem roundsI_take (gs : List Gt) (z V : List Int) (k : Nat) (d : List Int) (j : Nat) (h : j < 2 * k) : (roundsI gs z V k d).take (j + 1) = (roundsI gs z V k d).take j ++ [(roundAt gs (z.map phi) (V.map phi) k ((d.map phi).take j)).map psi] := by
  rw [take_snoc _ j [] (by rw [roundsI_length]; exact h)]
  congr 2
  simp [roundsI, h]
/-- a round of tables in numbers -/
def roundT (T : Tb) : List Int := T.round.map psi
theorem roundT_length (T : Tb) : (roundT T).length = 3 := by unfold roundT; rw [List.length_map, Tb.round_length]
theorem roundT_take (T : Tb) (a : Nat) (h : a < 3) : (roundT T).take (a + 1) = (roundT T).take a ++ [psi (T.fix (phi a)).sum] := by
  rw [take_snoc _ a 0 (by rw [roundT_length]; exact h)]
  congr 2
  unfold roundT Tb.round; simp [h]
theorem pLineI_length (V : List Int) (k : Nat) (d : List Int) (h : k ≤ d.length) : (pLineI V k d).length = k + 1 := by
  unfold pLineI; rw [List.length_map, partL_length, List.length_take, List.length_map, Nat.min_eq_left h]
theorem pLineI_take (V : List Int) (k : Nat) (d : List Int) (t : Nat) (hd : k ≤ d.length) (h : t < k + 1) : (pLineI V k d).take (t + 1) = (pLineI V k d).take t ++ [psi (evalF (V.map phi) ((lineI (d.take k) ((d.drop k).take k) t).map phi))] := by
  rw [take_snoc _ t 0 (by rw [pLineI_length V k d hd]; exact h)]
  congr 2
  have hl : ((d.map phi).take k).length = k := by rw [List.length_take, List.length_map, Nat.min_eq_left hd]
  rw [lineI_phi, List.map_take, List.map_take, List.map_drop]
  rw [← partL_at (V.map phi) ((d.map phi).take k) (((d.map phi).drop k).take k) t (by rw [hl]; exact h)]
  unfold pLineI
  have hpl := partL_length (V.map phi) ((d.map phi).take k) (((d.map phi).drop k).take k)
  rw [hl] at hpl
  simp [atF, hpl, h]
theorem nextI_line (k : Nat) (d : List Int) (h : 2 * k < d.length) : nextI k d = lineI (d.take k) ((d.drop k).take k) (at0 d (2 * k)) := by
  unfold nextI nextZ lineI
  rw [List.map_take, List.map_take, List.map_drop, atF_map d _ h]
theorem NewT.shape {B : Nat} {w : World} {v : Value} {T : Ti} {N : Nat} (h : NewT B w v T) (hL : T.Len N) : ∃ aa ca am cm ax cx ay cy, v = .agg #[.slice aa N ca, .slice am N cm, .slice ax N cx, .slice ay N cy] ∧ NewU B w (.slice aa N ca) T.a ∧ NewU B w (.slice am N cm) T.m ∧ NewU B w (.slice ax N cx) T.x ∧ NewU B w (.slice ay N cy) T.y := by
  obtain ⟨va, vm, vx, vy, rfl, h1, h2, h3, h4⟩ := h
  obtain ⟨aa, ca, e1⟩ := h1.isSlice; obtain ⟨am, cm, e2⟩ := h2.isSlice; obtain ⟨ax, cx, e3⟩ := h3.isSlice; obtain ⟨ay, cy, e4⟩ := h4.isSlice
  rw [hL.a] at e1; rw [hL.m] at e2; rw [hL.x] at e3; rw [hL.y] at e4
  subst e1; subst e2; subst e3; subst e4
  exact ⟨_, _, _, _, _, _, _, _, rfl, h1, h2, h3, h4⟩
theorem two_blocks (w : World) (cs1 cs2 : Array Value) (t1 t2 : Nat) : ∃ W, (w.alloc (.cells cs1 t1)).alloc (.cells cs2 t2) = W ∧ W.heap[w.heap.size]? = some (.cells cs1 t1 (0, 0)) ∧ W.heap[w.heap.size + 1]? = some (.cells cs2 t2 (0, 0)) ∧ W.heap.size = w.heap.size + 2 ∧ Below w.heap.size w W := by
  refine ⟨_, rfl, ?_, ?_, by simp, ((Below.refl _ _).alloc (Nat.le_refl _) _).alloc (by simp <;> omega) _⟩
  · show ((w.heap.push _).push _)[w.heap.size]? = _
    rw [Array.getElem?_push, if_neg (by simp), Array.getElem?_push, if_pos rfl]
  · show ((w.heap.push _).push _)[w.heap.size + 1]? = _
    rw [Array.getElem?_push, if_pos (by simp)]
theorem NewT.far {B : Nat} {w : World} {v : Value} {T : Ti} {S : Nat → Prop} (h : NewT B w v T) (hS : ∀ b, B ≤ b → b < w.heap.size → ¬ S b) : Far S (fun w => IsT w v T) w := by
  obtain ⟨va, vm, vx, vy, rfl, h1, h2, h3, h4⟩ := h
  have go : ∀ {v : Value} {l : List Int}, NewU B w v l → Far S (fun w => RowU w v l) w := fun h => h.farRow fun g hg => hS g (h.lt hg).1 (h.lt hg).2
  exact fun w' a b => ⟨va, vm, vx, vy, rfl, go h1 w' a b, go h2 w' a b, go h3 w' a b, go h4 w' a b⟩
theorem IsT.shape {w : World} {va vm vx vy : Value} {T : Ti} {N : Nat} (h : IsT w (.agg #[va, vm, vx, vy]) T) (hL : T.Len N) : (∃ a c, va = .slice a N c) ∧ (∃ a c, vm = .slice a N c) ∧ (∃ a c, vx = .slice a N c) ∧ (∃ a c, vy = .slice a N c) := by
  obtain ⟨wa, wm, wx, wy, e, ⟨_, _, a1, c1, e1, _⟩, ⟨_, _, a2, c2, e2, _⟩, ⟨_, _, a3, c3, e3, _⟩, ⟨_, _, a4, c4, e4, _⟩⟩ := h
  cases e
  rw [hL.a] at e1; rw [hL.m] at e2; rw [hL.x] at e3; rw [hL.y] at e4
  exact ⟨⟨_, _, e1⟩, ⟨_, _, e2⟩, ⟨_, _, e3⟩, ⟨_, _, e4⟩⟩
/-- what stands at the head of a round -/
structure PS (tt pp : Nat) (gs : List Gt) (zF VF : List F) (k j : Nat) (dF : List F) (rs : List (List Int)) (va vm vx vy vr : Value) (T : Ti) (S : Nat → Prop) (W wr : World) : Prop where
  bt : wr.heap[tt]? = some (.cells #[va, vm, vx, vy] 198 (0, 0))
  bp : wr.heap[pp]? = some (.cells #[vr, .slice none 0 0] 143 (0, 0))
  tab : Far S (fun w => IsT w (.agg #[va, vm, vx, vy]) T) wr
  st : S tt
  sp : S pp
  sr : ∀ g, vr.ownBlock = some g → S g
  eq : T.toF = (layT gs zF VF (2 ^ k)).fixes (dF.take j)
  len : T.Len (2 ^ (2 * k - j))
  rows : NewUU (pp + 1) wr vr (rs.take j)
  below : Below tt W wr
theorem PS.size {tt pp : Nat} {gs : List Gt} {zF VF : List F} {k j : Nat} {dF : List F} {rs : List (List Int)} {va vm vx vy vr : Value} {T : Ti} {S : Nat → Prop} {W wr : World} (h : PS tt pp gs zF VF k j dF rs va vm vx vy vr T S W wr) : tt < wr.heap.size ∧ pp < wr.heap.size := ⟨blk_lt h.bt, blk_lt h.bp⟩
theorem PS.round {tt pp : Nat} {gs : List Gt} {zF VF : List F} {k j : Nat} {dF : List F} {rs : List (List Int)} {va vm vx vy vr : Value} {T : Ti} {S : Nat → Prop} {W wr : World} (h : PS tt pp gs zF VF k j dF rs va vm vx vy vr T S W wr) : roundT T.toF = (roundAt gs zF VF k (dF.take j)).map psi := by
  rw [h.eq]; rfl
theorem NewUU.setLow {B g : Nat} {w : World} {v : Value} {ll : List (List Int)} (h : NewUU B w v ll) (hg : g < B) (j : Nat) (u : Value) : NewUU B (w.setCell ⟨g, j, none⟩ u) v ll :=
  ((h.far (S := fun b => b = g) fun b h1 _ e => by omega).set rfl j u).now
theorem NewUU.go {B : Nat} {w w' : World} {v : Value} {ll : List (List Int)} (h : NewUU B w v ll) (hb : Below w.heap.size w w') : NewUU B w' v ll := h.below hb (Nat.le_refl _)
/-- the round is told; the tables are fixed -/
theorem PS.next {tt pp : Nat} {gs : List Gt} {zF VF : List F} {k j n : Nat} {dF : List F} {rs TK : List (List Int)} {A : List Int} {T : Ti} {X : Int} {W w5 w7 : World} {a5 : Option Addr} {c5 : Nat} {f1 f2 f3 f4 : Value}
    (htp : tt < pp) (hj : j < 2 * k) (hn : 2 * k - j = n + 1) (heq : T.toF = (layT gs zF VF (2 ^ k)).fixes (dF.take j)) (hlen : T.Len (2 ^ (2 * k - j))) (hjd : j < dF.length) (hX : atF dF j = phi X) (hst : rs.take (j + 1) = TK ++ [A])
    (hB5 : Below tt W w5) (hp5 : w5.heap[pp]? = some (.cells #[.slice a5 (TK.length + 1) c5, .slice none 0 0] 143 (0, 0))) (ht5 : ∃ cs, w5.heap[tt]? = some (.cells cs 198 (0, 0)) ∧ cs.size = 4) (hr5 : NewUU (pp + 1) w5 (.slice a5 (TK.length + 1) c5) (TK ++ [A]))
    (hn7 : NewT w5.heap.size w7 (.agg #[f1, f2, f3, f4]) (T.fix X)) (hb7 : Below w5.heap.size w5 w7) :
    PS tt pp gs zF VF k (j + 1) dF rs f1 f2 f3 f4 (.slice a5 (TK.length + 1) c5) (T.fix X) (fun b => b < w5.heap.size) W ((((w7.setCell ⟨tt, 0, none⟩ f1).setCell ⟨tt, 1, none⟩ f2).setCell ⟨tt, 2, none⟩ f3).setCell ⟨tt, 3, none⟩ f4) := by
  obtain ⟨cs, ht5, hcs⟩ := ht5
  have ltt := blk_lt ht5
  have lpp := blk_lt hp5
  have hsz := hb7.size
  refine ⟨?_, ?_, ?_, ltt, lpp, fun g e => (hr5.lt e).2, ?_, ?_, ?_, ?_⟩
  · have := blk_setCell (blk_setCell (blk_setCell (blk_setCell ((hb7.block tt ltt).trans ht5) 0 f1) 1 f2) 2 f3) 3 f4
    rw [this]
    match cs, hcs with
    | ⟨[x0, x1, x2, x3]⟩, _ => rfl
  · rw [Below.heap_setCell _ _ _ _ (by show pp ≠ tt; omega), Below.heap_setCell _ _ _ _ (by show pp ≠ tt; omega), Below.heap_setCell _ _ _ _ (by show pp ≠ tt; omega), Below.heap_setCell _ _ _ _ (by show pp ≠ tt; omega)]
    exact (hb7.block pp lpp).trans hp5
  · exact ((((hn7.far (S := fun b => b < w5.heap.size) fun b h1 _ => by omega).set ltt 0 f1).set ltt 1 f2).set ltt 2 f3).set ltt 3 f4
  · rw [Ti.fix_toF, heq, take_snoc dF j 0 hjd, Tb.fixes_snoc]
    rw [show dF[j]?.getD 0 = phi X from hX]
  · have e : 2 ^ (2 * k - j) = 2 * 2 ^ (2 * k - (j + 1)) := by rw [show 2 * k - j = (2 * k - (j + 1)) + 1 by omega, Nat.pow_succ]; omega
    exact Ti.Len.fix (by rw [← e]; exact hlen) X
  · rw [hst]
    exact ((((hr5.go hb7).setLow (by omega) 0 f1).setLow (by omega) 1 f2).setLow (by omega) 2 f3).setLow (by omega) 3 f4
  · exact ((((hB5.trans (hb7.mono (by omega))).setCell (p := ⟨tt, 0, none⟩) (Nat.le_refl _) f1).setCell (p := ⟨tt, 1, none⟩) (Nat.le_refl _) f2).setCell (p := ⟨tt, 2, none⟩) (Nat.le_refl _) f3).setCell (p := ⟨tt, 3, none⟩) (Nat.le_refl _) f4
/-- a piece of a list in memory -/
theorem RowU.piece {w : World} {b off cap : Nat} {l : List Int} (hu : ∀ x ∈ l, U64 x) (hlt : b < w.heap.size) (hc : ∀ j, j < l.length → w.cell? ⟨b, off + j, none⟩ = some (.int .u64 (at0 l j))) (hl : l.length ≤ 1000000) (p n : Nat) (h : p + n ≤ l.length) :
    RowU w (.slice (some ⟨b, off + p, none⟩) n cap) ((l.drop p).take n) := by
  have hn : ((l.drop p).take n).length = n := by rw [List.length_take, List.length_drop]; omega
  refine ⟨fun x hx => hu x (List.mem_of_mem_drop (List.mem_of_mem_take hx)), by omega, _, cap, by rw [hn], fun _ => ⟨b, off + p, rfl, hlt, fun j hj => ?_⟩⟩
  rw [hn] at hj
  rw [show off + p + j = off + (p + j) by omega, hc (p + j) (by omega)]
  simp [at0, hj]
theorem NewU.setLow {B g : Nat} {w : World} {v : Value} {l : List Int} (h : NewU B w v l) (hg : g < B) (j : Nat) (u : Value) : NewU B (w.setCell ⟨g, j, none⟩ u) v l := h.low hg j u
/-- a struct of two cells and one of two noughts, each in a block of its own -/
theorem part_start (w : World) (x y : Value) (t1 t2 : Nat) : ∃ W tb rs, (w.alloc (.cells #[x, y] t1)).alloc (.cells #[.slice none 0 0, .slice none 0 0] t2) = W ∧
    tb = w.heap.size ∧ rs = w.heap.size + 1 ∧ W.heap.size = w.heap.size + 2 ∧
    W.heap[tb]? = some (.cells #[x, y] t1 (0, 0)) ∧ W.heap[rs]? = some (.cells #[.slice none 0 0, .slice none 0 0] t2 (0, 0)) ∧ Below w.heap.size w W := by
  refine ⟨_, w.heap.size, w.heap.size + 1, rfl, rfl, rfl, by simp, ?_, ?_, ?_⟩
  · show ((w.heap.push _).push _)[w.heap.size]? = _
    rw [Array.getElem?_push, if_neg (by simp), Array.getElem?_push, if_pos rfl]
  · show ((w.heap.push _).push _)[w.heap.size + 1]? = _
    rw [Array.getElem?_push, if_pos (by simp)]
  · exact ((Below.refl _ _).alloc (Nat.le_refl _) _).alloc (by simp <;> omega) _
set_option maxRecDepth 100000 in
set_option maxHeartbeats 8000000 in
theorem gkr_part (v : Value) (c : Ci) (i : Nat) (vz vb vd : Value) (z V d : List Int) (w : World) (hT : Tab w) (h : IsC w v c) (hG : Good c) (hi : i < c.layers.length) (hz : RowU w vz z) (hb : RowU w vb V) (hd : RowU w vd d) (hcd : CapOk vd) (hzl : (z.length : Int) = (aty c.layers i).log) (k : Nat) (hk : belowLog c i = (k : Int)) (hV : V.length = 2 ^ k) (hdl : d.length = 2 * k + 1) :
    Calls Tryz.prog 144 #[v, .int .i64 i, vz, vb, vd] w fun e w' => ∃ vr vl vn, e = .returned (.tuple #[.agg #[vr, vl], vn]) ∧ Far (fun b => b < w.heap.size) (fun W => RowUU W vr (roundsI (aty c.layers i).gates z V k d) ∧ RowU W vl (pLineI V k d)) w' ∧ NewU w.heap.size w' vn (nextI k d) ∧ Below w.heap.size w w' := by
  have hk4 : k ≤ 4 := by have := hG.below4 (k := i) (by omega); omega
  have HT := Lib.hid hT; have HC := Lib.hid h; have HG := Lib.hid hG; have Hz := Lib.hid hz; have Hb := Lib.hid hb
  have Hzl := Lib.hid hzl; have Hk := Lib.hid hk; have HV := Lib.hid hV; have Hdl := Lib.hid hdl
  have h4 := hG.n4
  obtain ⟨ac, cc, rfl⟩ := h.shape
  obtain ⟨ud, _, ad, cd, rfl, hdr⟩ := hd
  obtain ⟨hdc, hdm⟩ := hcd _ _ _ rfl
  obtain ⟨bd, od, rfl, hdlt, hdcell⟩ := hdr (by omega)
  have Hdc := Lib.hid hdcell; have Ud := Lib.hid ud
  have Hd := Lib.hid (show RowU w (.slice (some ⟨bd, od, none⟩) d.length cd) d from ⟨ud, by omega, _, _, rfl, fun _ => ⟨bd, od, rfl, hdlt, hdcell⟩⟩)
  rw [hdl] at hdc ⊢
  rw [Hdl.out] at Hd
  clear hT h hG hz hb hcd hzl hk hV hdl hdr hdcell ud
  go_enter Tryz.func144, Tryz.ntmps144
  go_wp2_with (fail)
  obtain ⟨W, tb, rs, hW, e1, e2, s1, hb1, hb2, B1⟩ := part_start w (.int .i64 c.log) (.slice ac c.layers.length cc) 62 143
  rw [hW, ← e2, ← e1]
  have Htb := Lib.hid e1; have Hrs := Lib.hid e2; have Hs1 := Lib.hid s1
  have Hb1 := Lib.hid hb1; have Hb2 := Lib.hid hb2; have HB1 := Lib.hid B1
  have ltb : tb < W.heap.size := by omega
  have lrs : rs < W.heap.size := by omega
  clear hW e1 e2 s1 hb1 hb2 B1
  refine (wiring_Below _ c i _ (HC.out.go HB1.out) (by omega) h4).mono ?_
  rintro e w1 ⟨rfl, bw1⟩
  rw [Hk.out]
  have HB2 := Lib.hid (below_two HB1.out bw1)
  have Bw1 := Lib.hid bw1
  have r0 : w1.cell? ⟨tb, 0, none⟩ = some _ := cell_blk ((bw1.block tb ltb).trans Hb1.out) 0
  have r1 : w1.cell? ⟨tb, 1, none⟩ = some _ := cell_blk ((bw1.block tb ltb).trans Hb1.out) 1
  obtain ⟨N, hN⟩ : ∃ N, N = 2 ^ k := ⟨_, rfl⟩
  have HN := Lib.hid hN
  clear bw1 hN
  go_wp2_with (fail)
  refine (gkr_made _ c i _ _ z V _ (HC.out.go HB2.out) HG.out hi (Hz.out.go HB2.out) (Hb.out.go HB2.out) Hzl.out N (by rw [HV.out, HN.out]) (by rw [Hk.out, HN.out]; rfl)).mono ?_
  rintro e w2 ⟨vt, rfl, hnt, bw2⟩
  obtain ⟨aa, ca, am, cm, ax, cx, ay, cy, rfl, na, nm, nx, ny⟩ := hnt.shape (layI_len _ z V N)
  have Hnt := Lib.hid hnt
  have Na := Lib.hid na; have Nm := Lib.hid nm; have Nx := Lib.hid nx; have Ny := Lib.hid ny
  have HB3 := Lib.hid (below_two HB2.out bw2)
  have Bw2 := Lib.hid (below_two Bw1.out bw2)
  clear bw2 hnt na nm nx ny r0 r1
  go_wp2
  obtain ⟨W3, hW3, bt, bp, s3, B3⟩ := two_blocks w2 #[.slice aa (N * N) ca, .slice am (N * N) cm, .slice ax (N * N) cx, .slice ay (N * N) cy] #[.slice none 0 0, .slice none 0 0] 198 143
  rw [hW3]
  have HB4 := Lib.hid (below_two HB3.out B3)
  obtain ⟨tt, htt⟩ : ∃ tt, tt = w2.heap.size := ⟨_, rfl⟩
  obtain ⟨pp, hpp⟩ : ∃ pp, pp = tt + 1 := ⟨_, rfl⟩
  rw [← htt, ← hpp] at bp ⊢
  rw [← htt] at bt s3
  obtain ⟨gs, hgs⟩ : ∃ gs, gs = (aty c.layers i).gates := ⟨_, rfl⟩
  rw [← hgs] at Hnt
  have HPS := Lib.hid (show PS tt pp gs (z.map phi) (V.map phi) k 0 (d.map phi) (roundsI gs z V k d) (.slice aa (N * N) ca) (.slice am (N * N) cm) (.slice ax (N * N) cx) (.slice ay (N * N) cy) (.slice none 0 0) (layI gs z V N) (fun b => tt ≤ b) W3 W3 from
    ⟨bt, bp, (Hnt.out.far fun b _ h e => by omega).go B3, Nat.le_refl _, by omega, (fun g e => by cases e), by
      rw [layI_toF gs z V N (by rw [HN.out]; exact Nat.pow_pos (by decide)) (by rw [HV.out, HN.out]), HN.out]; rfl, by
      have := layI_len gs z V N; rw [HN.out, sq_pow] at this; rw [HN.out]; exact this, NewUU.nil _ _, Below.refl _ _⟩)
  have Hgs := Lib.hid hgs
  have hww : w.heap.size ≤ tt := by have := HB3.out.size; omega
  have Htp := Lib.hid hpp
  have htp : tt < pp := by omega
  have HBt := Lib.hid (show Below tt w2 W3 by rw [htt]; exact B3)
  have hrst : rs < tt := by have := Bw2.out.size; omega
  clear hW3 bt bp s3 B3 htt hpp hgs
  go_loopw [37] (fun i wr => ∃ (j : Nat) (va vm vx vy vr : Value) (T : Ti) (S : Nat → Prop), j ≤ 2 * k ∧ i = .int .i64 (j : Int) ∧ Hid (PS tt pp gs (z.map phi) (V.map phi) k j (d.map phi) (roundsI gs z V k d) va vm vx vy vr T S W3 wr)) (fun i _ => 2 * k - (intOf i).toNat)
  case atStart => exact ⟨0, _, _, _, _, _, _, _, by omega, rfl, HPS.out⟩
  case round =>
    clear HPS
    obtain ⟨j, va, vm, vx, vy, vr, T, S, hj, rfl, HP⟩ := hrel
    have hBr := Lib.hid (HB4.out.trans (HP.out.below.mono hww))
    by_cases hz : j < 2 * k
    · obtain ⟨n, hn⟩ : ∃ n, 2 * k - j = n + 1 := ⟨2 * k - j - 1, by omega⟩
      have hLen := Lib.hid (show T.Len (2 ^ (n + 1)) by rw [← hn]; exact HP.out.len)
      have hn8 : n + 1 ≤ 8 := by omega
      have Hn := Lib.hid hn
      clear hn
      obtain ⟨⟨aa, ca, rfl⟩, ⟨am, cm, rfl⟩, ⟨ax, cx, rfl⟩, ⟨ay, cy, rfl⟩⟩ := HP.out.tab.now.shape hLen.out
      have cd0 := (hBr.out.cell (p := ⟨bd, od + j, none⟩) hdlt).trans (Hdc.out j (by have := Hdl.out; omega))
      have ud0 := Ud.out _ (at0_mem (l := d) (j := j) (by have := Hdl.out; omega))
      have hji : (j : Int) < 2 * (k : Int) := by omega
      have hXd := Lib.hid (atF_map d j (by have := Hdl.out; omega))
      generalize at0 d j = X at *
      generalize 2 ^ (n + 1) = NN at *
      obtain ⟨wv, rfl⟩ : ∃ x : World, x = wr := ⟨_, rfl⟩
      go_wp2_with (fail)
      clear cd0
      go_loopw [17, 41] (fun o a wq => ∃ q : Nat, q ≤ 3 ∧ a = .int .u64 (q : Int) ∧ Hid (NewU wv.heap.size wq o ((roundT T.toF).take q)) ∧ Hid (Below wv.heap.size wv wq)) (fun _ a _ => 3 - (intOf a).toNat)
      case atStart => exact ⟨0, by omega, rfl, NewU.nil _ _, Below.refl _ _⟩
      case round =>
        obtain ⟨q, hq, rfl, HO, HBq⟩ := hrel
        have hbt := (HBq.out.block tt HP.out.size.1).trans HP.out.bt
        have e0 : wr.cell? ⟨tt, 0, none⟩ = some _ := cell_blk hbt 0
        have e1 : wr.cell? ⟨tt, 1, none⟩ = some _ := cell_blk hbt 1
        have e2 : wr.cell? ⟨tt, 2, none⟩ = some _ := cell_blk hbt 2
        have e3 : wr.cell? ⟨tt, 3, none⟩ = some _ := cell_blk hbt 3
        have HTq := Lib.hid (HP.out.tab.go HBq.out).now
        clear hbt
        by_cases hq3 : q < 3
        · go_wp2_with (fail)
          have HTw := Lib.hid (HT.out.below (hBr.out.trans (HBq.out.mono hBr.out.size)))
          have uq : U64 (q : Int) := ⟨by omega, by omega⟩
          have Hst := Lib.hid (roundT_take T.toF q hq3)
          have hcap : ((roundT T.toF).take q).length + 1 ≤ 17592186043904 := by rw [List.length_take]; omega
          have hszq := HBq.out.size
          refine (gkr_fix T n _ q _ HTw.out HTq.out (by have := HP.out.len; rw [Hn.out] at this; exact this) hn8 uq).mono ?_
          rintro e wf ⟨vf, rfl, hnf, hbf⟩
          have Hnf := Lib.hid hnf
          have HBf := Lib.hid hbf
          obtain ⟨fa, fca, fm, fcm, fx, fcx, fy, fcy, rfl, -, -, -, -⟩ := hnf.shape (Ti.Len.fix (N := 2 ^ n) (by have := HP.out.len; rw [Hn.out, Nat.pow_succ, Nat.mul_comm] at this; exact this) q)
          clear hnf hbf e0 e1 e2 e3
          go_wp2_with (fail)
          refine (gkr_sum (T.fix q) (2 ^ n) _ _ Hnf.out.isT (Ti.Len.fix (N := 2 ^ n) (by have := HP.out.len; rw [Hn.out, Nat.pow_succ, Nat.mul_comm] at this; exact this) q) (by have : (2 : Nat) ^ n ≤ 2 ^ 8 := Nat.pow_le_pow_right (by decide) (by omega); omega)).mono ?_
          rintro e ws ⟨rfl, hbs⟩
          rw [Ti.fix_toF]
          have HBs := Lib.hid (below_two (below_two HBq.out HBf.out) hbs)
          have HOs := Lib.hid ((HO.out.go HBf.out).go hbs)
          have hszs := HBs.out.size
          clear hbs
          go_wp2_with (at_builtin; refine wpList_appU rfl _ _ rfl wv.heap.size _ _ rfl HOs.out _ rfl (U64.psi _) hcap hszs ?_; intro v4 w4 hn4 hb4; have Hn4 := Lib.hid hn4; clear hn4)
          go_roundw
          case rel => exact ⟨q + 1, by omega, by go_num, by rw [Hst.out]; exact Hn4.out, HBs.out.trans hb4⟩
          case measure => simp [intOf]; omega
        · obtain rfl : q = 3 := by omega
          obtain ⟨A, hA⟩ : ∃ A, A = (roundAt gs (z.map phi) (V.map phi) k ((d.map phi).take j)).map psi := ⟨_, rfl⟩
          obtain ⟨TK, hTK⟩ : ∃ TK, TK = (roundsI gs z V k d).take j := ⟨_, rfl⟩
          have hO3 : NewU wv.heap.size wr u17 A := by
            rw [hA, ← HP.out.round]; have := HO.out; rwa [List.take_of_length_le (by rw [roundT_length]; exact Nat.le_refl _)] at this
          have Hst := Lib.hid (show (roundsI gs z V k d).take (j + 1) = TK ++ [A] by rw [hA, hTK]; exact roundsI_take gs z V k d j hz)
          have hR3 : NewUU (pp + 1) wr vr TK := by rw [hTK]; exact HP.out.rows.below HBq.out (Nat.le_refl _)
          have hbp := (HBq.out.block pp HP.out.size.2).trans HP.out.bp
          have hbt := (HBq.out.block tt HP.out.size.1).trans HP.out.bt
          have HBq2 := Lib.hid HBq.out
          have hcap : TK.length + 1 ≤ 5864062014634 := by rw [hTK, List.length_take, roundsI_length]; omega
          have hppv : pp + 1 ≤ wv.heap.size := HP.out.size.2
          have hszp : pp + 1 ≤ wr.heap.size := Nat.le_trans hppv HBq.out.size
          have hvv := Lib.hid (show ∀ g, vr.ownBlock = some g → pp + 1 ≤ g ∧ g < wv.heap.size from fun g hg => HP.out.rows.lt hg)
          obtain ⟨ar, cr, rfl⟩ := hR3.isSlice
          obtain ⟨ao, co, rfl⟩ := hO3.isSlice
          have hlo := Lib.hid (show ∀ g, (Value.slice ar TK.length cr).ownBlock = some g → (Value.slice ao A.length co).ownBlock ≠ some g from fun g h1 h2 => by
            have h3 := (hvv.out g h1).2; have h4 := (hO3.lt h2).1; omega)
          have g0 : wr.cell? ⟨pp, 0, none⟩ = some (.slice ar TK.length cr) := cell_blk hbp 0
          have HO3 := Lib.hid (hO3.mono hppv); have HR3 := Lib.hid hR3
          have Hbp := Lib.hid hbp; have Hbt := Lib.hid hbt
          have HPs1 : tt < wr.heap.size := by omega
          have htpn : tt ≠ pp := by omega
          clear hbp hbt hO3 hR3 HTq HO e0 e1 e2 e3 HBq hA hTK
          go_wp2_with (at_builtin; refine wpList_appUUg rfl _ _ rfl (pp + 1) (.slice ar TK.length cr) _ rfl HR3.out _ _ HO3.out hlo.out rfl hcap hszp ?_; intro v5 w5 hn5 hu5 hb5 hg5; have HN5 := Lib.hid hn5; have HG5 := Lib.hid hg5; have HB5 := Lib.hid hb5; have Hbp5 := Lib.hid ((hg5.block pp (Nat.lt_of_succ_le hszp) (fun e => by have := (hvv.out pp e.symm).1; omega)).trans Hbp.out); have fp5 := free_blk Hbp5.out; have cp5 : w5.cell? ⟨pp, 0, none⟩ = some _ := cell_blk Hbp5.out 0; have Hbt5 := Lib.hid ((hg5.block tt HPs1 (fun e => by have := (hvv.out tt e.symm).1; omega)).trans Hbt.out); have e0 : ∀ u, (w5.setCell ⟨pp, 0, none⟩ u).cell? ⟨tt, 0, none⟩ = some _ := fun u => keep_set1 u htpn (cell_blk Hbt5.out 0); have e1 : ∀ u, (w5.setCell ⟨pp, 0, none⟩ u).cell? ⟨tt, 1, none⟩ = some _ := fun u => keep_set1 u htpn (cell_blk Hbt5.out 1); have e2 : ∀ u, (w5.setCell ⟨pp, 0, none⟩ u).cell? ⟨tt, 2, none⟩ = some _ := fun u => keep_set1 u htpn (cell_blk Hbt5.out 2); have e3 : ∀ u, (w5.setCell ⟨pp, 0, none⟩ u).cell? ⟨tt, 3, none⟩ = some _ := fun u => keep_set1 u htpn (cell_blk Hbt5.out 3); obtain ⟨a5, c5, e5⟩ := hn5.isSlice; subst e5; clear hn5 hu5 hb5 hg5)
          clear e0 e1 e2 e3 fp5 cp5 g0
          have hne : ∀ g, (Value.slice ar TK.length cr).ownBlock = some g → S g := HP.out.sr
          have hT6 := (((HP.out.tab.go HBq2.out).grown HG5.out (fun g e _ => hne g e)).set HP.out.sp 0 (.slice a5 (TK.length + 1) c5)).now
          have hR6 := (show NewUU (pp + 1) w5 (.slice a5 (TK.length + 1) c5) (TK ++ [A]) by have := HN5.out; rwa [List.length_append, List.length_singleton] at this).setLow (Nat.lt_succ_self pp) 0 (.slice a5 (TK.length + 1) c5)
          have hB6 : Below tt W3 (w5.setCell ⟨pp, 0, none⟩ (.slice a5 (TK.length + 1) c5)) := ((HP.out.below.trans (HBq2.out.mono (by omega))).trans (HB5.out.mono (by omega))).setCell (p := ⟨pp, 0, none⟩) (Nat.le_of_lt htp) _
          have hp6 : (w5.setCell ⟨pp, 0, none⟩ (.slice a5 (TK.length + 1) c5)).heap[pp]? = some (.cells #[.slice a5 (TK.length + 1) c5, .slice none 0 0] 143 (0, 0)) := blk_setCell Hbp5.out 0 _
          have ht6 := (Below.heap_setCell w5 ⟨pp, 0, none⟩ (.slice a5 (TK.length + 1) c5) tt htpn).trans Hbt5.out
          generalize w5.setCell ⟨pp, 0, none⟩ (.slice a5 (TK.length + 1) c5) = w6 at *
          have HT6 := Lib.hid hT6; have HR6 := Lib.hid hR6; have HB6 := Lib.hid hB6; have Hp6 := Lib.hid hp6; have Ht6 := Lib.hid ht6
          clear hT6 hR6 hB6 hp6 ht6
          refine (gkr_fix T n _ X _ (HT.out.below (HB4.out.trans (HB6.out.mono hww))) HT6.out (by have := HP.out.len; rw [Hn.out] at this; exact this) hn8 ud0).mono ?_
          rintro e w7 ⟨v7, rfl, hn7, hb7⟩
          obtain ⟨f1, q1, f2, q2, f3, q3, f4, q4, rfl, -, -, -, -⟩ := hn7.shape (Ti.Len.fix (N := 2 ^ n) (by have := HP.out.len; rw [Hn.out, Nat.pow_succ, Nat.mul_comm] at this; exact this) X)
          have Hn7 := Lib.hid hn7; have Hb7 := Lib.hid hb7
          have hbt7 := (hb7.block tt (blk_lt Ht6.out)).trans Ht6.out
          have g0 : w7.cell? ⟨tt, 0, none⟩ = some _ := cell_blk hbt7 0
          have g1 : w7.cell? ⟨tt, 1, none⟩ = some _ := cell_blk hbt7 1
          have g2 : w7.cell? ⟨tt, 2, none⟩ = some _ := cell_blk hbt7 2
          have g3 : w7.cell? ⟨tt, 3, none⟩ = some _ := cell_blk hbt7 3
          have f0 := free_blk hbt7
          clear hn7 hb7 hbt7
          go_wp2
          go_roundw
          case rel => exact ⟨j + 1, _, _, _, _, _, _, _, by omega, by go_num, PS.next htp hz Hn.out HP.out.eq HP.out.len (by rw [List.length_map, Hdl.out]; omega) hXd.out Hst.out HB6.out Hp6.out ⟨_, Ht6.out, rfl⟩ HR6.out Hn7.out Hb7.out⟩
          case measure => simp [intOf]; omega
    · obtain rfl : j = 2 * k := by omega
      rw [show ((2 * k : Nat) : Int) = 2 * (k : Int) by omega]
      go_wp2_with (fail)
      go_quiet (fail)
      have hsz : (wr.drewN nq).heap.size = wr.heap.size := rfl
      obtain ⟨M, hM⟩ : ∃ M, M = wr.heap.size := ⟨_, rfl⟩
      have hppM : pp < M := by rw [hM]; exact HP.out.size.2
      have HBd := Lib.hid (show Below pp W3 (wr.drewN nq) ∨ True from .inr trivial)
      have Hrows := Lib.hid (show Far (fun b => b ≤ pp ∨ M ≤ b) (fun W => RowUU W vr (roundsI gs z V k d)) (wr.drewN nq) by
        have h1 := HP.out.rows
        rw [List.take_of_length_le (by rw [roundsI_length]; exact Nat.le_refl _)] at h1
        exact (h1.farRow (S := fun b => b ≤ pp ∨ M ≤ b) fun b h2 h3 e => by omega).go (below_drewN (Below.refl _ _) nq))
      have Hbpp := Lib.hid (show (wr.drewN nq).heap[pp]? = _ from HP.out.bp)
      have HBr2 := Lib.hid (show Below w.heap.size w (wr.drewN nq) from below_drewN hBr.out nq)
      have HBW := Lib.hid (show Below tt W3 (wr.drewN nq) from below_drewN HP.out.below nq)
      have hMq : M = (wr.drewN nq).heap.size := hM
      rw [show 2 * k - k = k by omega]
      obtain ⟨aR, cR, eR⟩ : ∃ a c, vr = .slice a (roundsI gs z V k d).length c := by
        have h1 := HP.out.rows
        rw [List.take_of_length_le (by rw [roundsI_length]; exact Nat.le_refl _)] at h1
        exact h1.isSlice
      subst eR
      rw [roundsI_length] at Hrows Hbpp
      generalize wr.drewN nq = wq at *
      clear hM hsz HP hBr
      have Px := Lib.hid (fun W (hB : Below w.heap.size w W) => RowU.piece (cap := cd) Ud.out (Nat.lt_of_lt_of_le hdlt hB.size) (fun j hj => (hB.cell (p := ⟨bd, od + j, none⟩) hdlt).trans (Hdc.out j hj)) (by rw [Hdl.out]; omega) 0 k (by rw [Hdl.out]; omega))
      have Py := Lib.hid (fun W (hB : Below w.heap.size w W) => RowU.piece (cap := cd - k) Ud.out (Nat.lt_of_lt_of_le hdlt hB.size) (fun j hj => (hB.cell (p := ⟨bd, od + j, none⟩) hdlt).trans (Hdc.out j hj)) (by rw [Hdl.out]; omega) k k (by rw [Hdl.out]; omega))
      simp only [Nat.add_zero, List.drop_zero] at Px
      have Hlx := Lib.hid (show (d.take k).length = k by rw [List.length_take, Hdl.out]; omega)
      have Hly := Lib.hid (show ((d.drop k).take k).length = k by rw [List.length_take, List.length_drop, Hdl.out]; omega)
      have HLS := Lib.hid (fun t ht => pLineI_take V k d t (by rw [Hdl.out]; omega) ht)
      have HLL := Lib.hid (pLineI_length V k d (by rw [Hdl.out]; omega))
      have HNX := Lib.hid (nextI_line k d (by rw [Hdl.out]; omega))
      have cdk := (HBr2.out.cell (p := ⟨bd, od + 2 * k, none⟩) hdlt).trans (Hdc.out (2 * k) (by rw [Hdl.out]; omega))
      have udk := Ud.out _ (at0_mem (l := d) (j := 2 * k) (by rw [Hdl.out]; omega))
      have Hcdk := Lib.hid cdk
      generalize at0 d (2 * k) = X at *
      clear cdk
      generalize d.take k = dx at *
      generalize (d.drop k).take k = dy at *
      go_wp2_with (fail)
      go_loopw [72] (fun i wr => ∃ (t : Nat) (vl : Value), t ≤ k + 1 ∧ i = .int .i64 (t : Int) ∧ Hid (wr.heap[pp]? = some (.cells #[.slice aR (2 * k) cR, vl] 143 (0, 0))) ∧ Hid (NewU M wr vl ((pLineI V k d).take t)) ∧ Hid (Far (fun b => b ≤ pp ∨ M ≤ b) (fun W => RowUU W (.slice aR (2 * k) cR) (roundsI gs z V k d)) wr) ∧ Hid (Below pp wq wr)) (fun i _ => k + 1 - (intOf i).toNat)
      case atStart => exact ⟨0, _, by omega, rfl, Hbpp.out, NewU.nil _ _, Hrows.out, Below.refl _ _⟩
      case round =>
        obtain ⟨t, vl, ht, rfl, HBp, HVl, HRw, HBt3⟩ := hrel
        have hMr : M ≤ wr.heap.size := by have := HBt3.out.size; omega
        have HBx := Lib.hid (HBr2.out.trans (HBt3.out.mono (by omega)))
        by_cases hz : t < k + 1
        · have ut : U64 (t : Int) := ⟨by omega, by omega⟩
          have wt : IntKind.u64.wrap (t : Int) = (t : Int) := by rw [IntKind.wrap_u64]; omega
          go_wp2_with (fail)
          refine (gkr_along dx dy _ _ (t : Int) _ (by have := Px.out _ HBx.out; rwa [← Hlx.out] at this ⊢) (by have := Py.out _ HBx.out; exact this) (by rw [Hlx.out, Hly.out]) (by rw [Hlx.out]; omega) ut).mono ?_
          rintro e wa ⟨va, rfl, hna, hba⟩
          obtain ⟨aa1, ca1, rfl⟩ := hna.isSlice
          have Hna := Lib.hid hna.row; have Hba := Lib.hid hba
          have HBa := Lib.hid (HBx.out.trans (hba.mono HBx.out.size))
          clear hna hba
          go_wp2_with (fail)
          refine (mle_Eval V (lineI dx dy t) _ _ _ (HT.out.below HBa.out) (Hb.out.below HBa.out (Nat.le_refl _)) Hna.out (by rw [HV.out, lineI_length dx dy t (by rw [Hlx.out, Hly.out]), Hlx.out]) (by rw [lineI_length dx dy t (by rw [Hlx.out, Hly.out]), Hlx.out]; omega)).mono ?_
          rintro e we ⟨rfl, hbe⟩
          have Hbe := Lib.hid (below_two Hba.out hbe)
          have hsze := Hbe.out.size
          have hbp := (Hbe.out.block pp (blk_lt HBp.out)).trans HBp.out
          have hpwr := blk_lt HBp.out
          have hVe : NewU M we vl ((pLineI V k d).take t) := HVl.out.go Hbe.out
          obtain ⟨av, cv, rfl⟩ := hVe.isSlice
          have g1 : we.cell? ⟨pp, 1, none⟩ = some _ := cell_blk hbp 1
          have HVe := Lib.hid hVe; have Hbpe := Lib.hid hbp
          have Hs := Lib.hid (HLS.out t hz)
          have hcap : ((pLineI V k d).take t).length + 1 ≤ 17592186043904 := by rw [List.length_take, HLL.out]; omega
          have hMe : M ≤ we.heap.size := by omega
          have hpe : pp < we.heap.size := by omega
          obtain ⟨TK, hTK⟩ : ∃ TK, TK = (pLineI V k d).take t := ⟨_, rfl⟩
          rw [← hTK] at HVe hcap Hs Hbpe g1
          obtain ⟨E, hE⟩ : ∃ E, E = psi (evalF (V.map phi) ((lineI dx dy t).map phi)) := ⟨_, rfl⟩
          rw [← hE] at Hs ⊢
          have uE : U64 E := by rw [hE]; exact U64.psi _
          have Hloc := Lib.hid (show ∀ g, (Value.slice av TK.length cv).ownBlock = some g → M ≤ g from fun g hg => (HVe.out.lt hg).1)
          clear hVe hbp hbe hTK hE
          go_wp2_with (at_builtin; refine wpList_appUg rfl _ _ rfl M _ _ rfl HVe.out _ rfl uE hcap hMe ?_; intro v4 w4 hn4 hb4 hg4; have Hn4 := Lib.hid hn4; have HB4' := Lib.hid hb4; have HG4 := Lib.hid hg4; have Hbp4 := Lib.hid ((hg4.block pp hpe (fun e => by have := Hloc.out pp e.symm; omega)).trans Hbpe.out); have fp4 := free_blk Hbp4.out; have cp4 : w4.cell? ⟨pp, 1, none⟩ = some _ := cell_blk Hbp4.out 1; obtain ⟨a4, c4, e4⟩ := hn4.isSlice; subst e4; clear hn4 hb4 hg4)
          have hS5 : Far (fun b => b ≤ pp ∨ M ≤ b) (fun W => RowUU W (.slice aR (2 * k) cR) (roundsI gs z V k d)) w4 := (HRw.out.go Hbe.out).grown HG4.out (fun g e _ => .inr (Hloc.out g e))
          go_roundw
          case rel => exact ⟨t + 1, .slice a4 (TK.length + 1) c4, by omega, by go_num, blk_setCell Hbp4.out 1 _, by rw [Hs.out]; have := Hn4.out.low hppM 1 (.slice a4 (TK ++ [E]).length c4); rw [List.length_append, List.length_singleton] at this; exact this, hS5.set (.inl (Nat.le_refl _)) 1 _, ((HBt3.out.trans (Hbe.out.mono (Nat.le_of_lt hpwr))).trans (HB4'.out.mono (Nat.le_of_lt hppM))).setCell (p := ⟨pp, 1, none⟩) (Nat.le_refl pp) _⟩
          case measure => simp [intOf]; omega
        · obtain rfl : t = k + 1 := by omega
          go_wp2_with (fail)
          have hV2 : NewU M wr vl (pLineI V k d) := by have := HVl.out; rwa [List.take_of_length_le (by rw [HLL.out]; exact Nat.le_refl _)] at this
          obtain ⟨av, cv, rfl⟩ := hV2.isSlice
          have HV2 := Lib.hid hV2
          have p0 : wr.cell? ⟨pp, 0, none⟩ = some _ := cell_blk HBp.out 0
          have p1 : wr.cell? ⟨pp, 1, none⟩ = some _ := cell_blk HBp.out 1
          have cX : wr.cell? ⟨bd, od + (2 * (k : Int)).toNat, none⟩ = some (.int .u64 X) := by
            rw [show (2 * (k : Int)).toNat = 2 * k by omega]; exact (HBt3.out.cell (p := ⟨bd, od + 2 * k, none⟩) (by have := HB4.out.size; have := HBr2.out.size; show bd < pp; omega)).trans Hcdk.out
          have lp : pp < wr.heap.size := blk_lt HBp.out
          have lb : bd < wr.heap.size := by have := HBx.out.size; omega
          have hrr : wr.heap[rs]? = some (.cells #[.slice none 0 0, .slice none 0 0] 143 (0, 0)) :=
            (HBt3.out.block rs (by omega)).trans ((HBW.out.block rs hrst).trans ((HBt.out.block rs hrst).trans ((Bw2.out.block rs lrs).trans Hb2.out)))
          have Hrr := Lib.hid hrr
          have lr : rs < wr.heap.size := by omega
          have hk0 : (0 : Int) ≤ 2 * (k : Int) := by omega
          have hk1 : 2 * (k : Int) < 2 * (k : Int) + 1 := by omega
          have hkw : IntKind.i64.wrap (2 * (k : Int)) = 2 * (k : Int) := IntWalk.i64_in _ (by omega)
          have np : pp ≠ rs := by omega
          have nb : bd ≠ rs := by have := Hrs.out; omega
          have Ca := Lib.hid (fun W (hB : Below wr.heap.size wr W) => gkr_along dx dy (.slice (some ⟨bd, od, none⟩) k cd) (.slice (some ⟨bd, od + k, none⟩) k (cd - k)) X W (Px.out W (HBx.out.trans (hB.mono HBx.out.size))) (Py.out W (HBx.out.trans (hB.mono HBx.out.size))) (by rw [Hlx.out, Hly.out]) (by rw [Hlx.out]; omega) udk)
          clear hV2 hrr
          go_region_held3 (fun w' => Below rs wr w' ∧ w'.cell? ⟨pp, 0, none⟩ = some (.slice aR (2 * k) cR) ∧ w'.cell? ⟨pp, 1, none⟩ = some (.slice av (pLineI V k d).length cv) ∧ w'.cell? ⟨bd, od + (2 * (k : Int)).toNat, none⟩ = some (.int .u64 X))
            (first
              | exact ⟨below_drewN (Below.refl _ _) 1, p0, p1, cX⟩
              | exact ⟨by assumption, by assumption, by assumption, by assumption⟩
              | exact ⟨hBF.mono (Nat.le_of_lt lr), (hBF.cell (p := ⟨pp, 0, none⟩) lp).trans p0, (hBF.cell (p := ⟨pp, 1, none⟩) lp).trans p1, (hBF.cell (p := ⟨bd, od + (2 * (k : Int)).toNat, none⟩) lb).trans cX⟩
              | exact ⟨((hBF.mono (Nat.le_of_lt lr)).setCell (p := ⟨rs, 0, none⟩) (Nat.le_refl rs) _).setCell (p := ⟨rs, 1, none⟩) (Nat.le_refl rs) _, keep_set1 _ np (keep_set1 _ np ((hBF.cell (p := ⟨pp, 0, none⟩) lp).trans p0)), keep_set1 _ np (keep_set1 _ np ((hBF.cell (p := ⟨pp, 1, none⟩) lp).trans p1)), keep_set1 _ nb (keep_set1 _ nb ((hBF.cell (p := ⟨bd, od + (2 * (k : Int)).toNat, none⟩) lb).trans cX))⟩)
            (first
              | (go_at_call 164; (with_reducible refine (Ca.out _ (below_drw wr)).mono ?_); rintro e wf ⟨vf, rfl, hnf, hbF⟩; have HN := Lib.hid (show NewU wr.heap.size wf vf (lineI dx dy X) from hnf); clear hnf; have hBF : Below wr.heap.size wr wf := below_two (below_drw wr) hbF; have hOf := (hBF.block rs lr).trans Hrr.out; have gO : wf.cell? ⟨rs, 0, none⟩ = some _ := cell_blk hOf 0; have gO1 : wf.cell? ⟨rs, 1, none⟩ = some _ := cell_blk hOf 1; have fO := free_blk hOf; have HOf := Lib.hid hOf; clear hOf; obtain ⟨af, cf, rfl⟩ := HN.out.isSlice))
          clear hbF
          go_wp2_with (fail)
          have hBz : Below w.heap.size w ((wf.setCell ⟨rs, 0, none⟩ (.slice aR (2 * k) cR)).setCell ⟨rs, 1, none⟩ (.slice av (pLineI V k d).length cv)) := ((HBx.out.trans (hBF.mono HBx.out.size)).setCell (p := ⟨rs, 0, none⟩) (by have := Hrs.out; show w.heap.size ≤ rs; omega) _).setCell (p := ⟨rs, 1, none⟩) (by have := Hrs.out; show w.heap.size ≤ rs; omega) _
          have hNz : NewU wr.heap.size ((wf.setCell ⟨rs, 0, none⟩ (.slice aR (2 * k) cR)).setCell ⟨rs, 1, none⟩ (.slice av (pLineI V k d).length cv)) _ _ := (HN.out.low lr 0 _).low lr 1 _
          have hFz : Far (fun b => b < w.heap.size) (fun W => RowUU W (.slice aR (2 * k) cR) (roundsI gs z V k d) ∧ RowU W (.slice av (pLineI V k d).length cv) (pLineI V k d)) ((wf.setCell ⟨rs, 0, none⟩ (.slice aR (2 * k) cR)).setCell ⟨rs, 1, none⟩ (.slice av (pLineI V k d).length cv)) := by
            have h1 := (((HRw.out.go hBF).set (b := rs) (.inl (by omega)) 0 (.slice aR (2 * k) cR)).set (b := rs) (.inl (by omega)) 1 (.slice av (pLineI V k d).length cv)).less (S' := fun b => b < w.heap.size) fun b _ h => .inl (by omega)
            have h2 := (((HV2.out.go hBF).low (g := rs) (by omega) 0 (.slice aR (2 * k) cR)).low (g := rs) (by omega) 1 (.slice av (pLineI V k d).length cv))
            exact h1.and (h2.farRow fun g hg h => by have := (h2.lt hg).1; omega)
          have hrz := blk_setCell (blk_setCell HOf.out 0 (.slice aR (2 * k) cR)) 1 (.slice av (pLineI V k d).length cv)
          generalize (wf.setCell ⟨rs, 0, none⟩ (.slice aR (2 * k) cR)).setCell ⟨rs, 1, none⟩ (.slice av (pLineI V k d).length cv) = wz at *
          have d0 : wz.cell? ⟨rs, 0, none⟩ = some (.slice aR (2 * k) cR) := cell_blk hrz 0
          have d1 : wz.cell? ⟨rs, 1, none⟩ = some (.slice av (pLineI V k d).length cv) := cell_blk hrz 1
          rw [Hgs.out] at hFz
          have hNw := hNz.mono (B' := w.heap.size) HBx.out.size
          exact bodyPost_ret (v := .tuple #[.agg #[.slice aR (2 * k) cR, .slice av (pLineI V k d).length cv], .slice af (lineI dx dy X).length cf]) (by simp [results, Tryz.results144, go_sem, d0, d1]) rfl ⟨_, _, _, rfl, hFz, by rw [HNX.out]; exact hNw, hBz⟩
end Go.Proofs.YtlfneeobnihocaaGreatDoor
