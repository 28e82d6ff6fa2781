/- The walk of a gkr table's fix: the first variable of four tables. The table of bits lies as its initialiser lays it. -/
import Derived.Test.YtlfneeobnihocaaGreatDoorGkrW1
import Derived.Test.YtlfneeobnihocaaGreatDoorProof
import Derived.Deep.RegionHeld3
namespace Go.Proofs.YtlfneeobnihocaaGreatDoor
set_option maxRecDepth 100000
set_option linter.unusedVariables false
open Go.RowKit Tally
def fixI (t : List Int) (u : Int) : List Int := (fixF (t.map phi) (phi u)).map psi
theorem fixI_phi (t : List Int) (u : Int) : (fixI t u).map phi = fixF (t.map phi) (phi u) := mapphi_psi _
theorem fixI_len {t : List Int} {N : Nat} (u : Int) (h : t.length = 2 * N) : (fixI t u).length = N := by
  unfold fixI; rw [List.length_map, fixF_length, List.length_map, h]; omega
def Ti.fix (T : Ti) (u : Int) : Ti := ⟨fixI T.a u, fixI T.m u, fixI T.x u, fixI T.y u⟩
theorem Ti.fix_toF (T : Ti) (u : Int) : (T.fix u).toF = T.toF.fix (phi u) := by
  show Tb.mk _ _ _ _ = Tb.mk _ _ _ _
  rw [show (T.fix u).a.map phi = _ from fixI_phi T.a u, show (T.fix u).m.map phi = _ from fixI_phi T.m u, show (T.fix u).x.map phi = _ from fixI_phi T.x u, show (T.fix u).y.map phi = _ from fixI_phi T.y u]
  rfl
theorem Ti.Len.fix {T : Ti} {N : Nat} (h : T.Len (2 * N)) (u : Int) : (T.fix u).Len N := ⟨fixI_len u h.a, fixI_len u h.m, fixI_len u h.x, fixI_len u h.y⟩
/-- the pointers to the tables' places -/
abbrev ptrsOf (tb ou : Nat) : Array Value := #[.pointer (some ⟨tb, 0, none⟩), .pointer (some ⟨ou, 0, none⟩), .pointer (some ⟨tb, 1, none⟩), .pointer (some ⟨ou, 1, none⟩), .pointer (some ⟨tb, 2, none⟩), .pointer (some ⟨ou, 2, none⟩), .pointer (some ⟨tb, 3, none⟩), .pointer (some ⟨ou, 3, none⟩)]
theorem fix_start (w : World) (va vm vx vy z : Value) (t1 t2 : Nat) : ∃ W tb rs ou li, (((w.alloc (.cells #[va, vm, vx, vy] t1)).alloc (.cells #[z, z, z, z] t1)).alloc (.cells #[z, z, z, z] t1)).alloc (.cells (ptrsOf w.heap.size (w.heap.size + 1 + 1)) t2) = W ∧
    tb = w.heap.size ∧ rs = w.heap.size + 1 ∧ ou = w.heap.size + 1 + 1 ∧ li = w.heap.size + 1 + 1 + 1 ∧ tb < rs ∧ rs < ou ∧ ou < li ∧ li < W.heap.size ∧
    W.heap[tb]? = some (.cells #[va, vm, vx, vy] t1 (0, 0)) ∧ W.heap[rs]? = some (.cells #[z, z, z, z] t1 (0, 0)) ∧ W.heap[ou]? = some (.cells #[z, z, z, z] t1 (0, 0)) ∧ W.heap[li]? = some (.cells (ptrsOf tb ou) t2 (0, 0)) ∧ Below tb w W := by
  refine ⟨_, w.heap.size, w.heap.size + 1, w.heap.size + 1 + 1, w.heap.size + 1 + 1 + 1, rfl, rfl, rfl, rfl, rfl, by omega, by omega, by omega, by simp, ?_, ?_, ?_, ?_, ?_⟩
  · show ((((w.heap.push _).push _).push _).push _)[w.heap.size]? = _
    rw [Array.getElem?_push, if_neg (by simp <;> omega), Array.getElem?_push, if_neg (by simp <;> omega), Array.getElem?_push, if_neg (by simp <;> omega), Array.getElem?_push, if_pos rfl]
  · show ((((w.heap.push _).push _).push _).push _)[w.heap.size + 1]? = _
    rw [Array.getElem?_push, if_neg (by simp <;> omega), Array.getElem?_push, if_neg (by simp <;> omega), Array.getElem?_push, if_pos (by simp)]
  · show ((((w.heap.push _).push _).push _).push _)[w.heap.size + 1 + 1]? = _
    rw [Array.getElem?_push, if_neg (by simp <;> omega), Array.getElem?_push, if_pos (by simp)]
  · show ((((w.heap.push _).push _).push _).push _)[w.heap.size + 1 + 1 + 1]? = _
    rw [Array.getElem?_push, if_pos (by simp)]
  · exact ((((Below.refl _ _).alloc (Nat.le_refl _) _).alloc (by simp <;> omega) _).alloc (by simp <;> omega) _).alloc (by simp <;> omega) _
theorem below_drw (w : World) : Below w.heap.size w w.drew := below_drewN (Below.refl _ _) 1
theorem NewU.go {B : Nat} {w w' : World} {v : Value} {l : List Int} (h : NewU B w v l) (hb : Below w.heap.size w w') : NewU B w' v l := h.below hb (Nat.le_refl _)
theorem NewU.low {B g : Nat} {w : World} {v : Value} {l : List Int} (h : NewU B w v l) (hg : g < B) (j : Nat) (u : Value) : NewU B (w.setCell ⟨g, j, none⟩ u) v l := h.grownOther (grownBy_setCell _ _ _ _) (fun g' hv e => by cases e; have := (h.lt hv).1; omega)
set_option maxRecDepth 100000 in
set_option maxHeartbeats 8000000 in
theorem gkr_fix (T : Ti) (n : Nat) (v : Value) (u : Int) (w : World) (hT : Tab w) (h : IsT w v T) (hL : T.Len (2 ^ (n + 1))) (hn : n + 1 ≤ 8) (hu : U64 u) :
    Calls Tryz.prog 162 #[v, .int .u64 u] w fun e w' => ∃ v', e = .returned v' ∧ NewT w.heap.size w' v' (T.fix u) ∧ Below w.heap.size w w' := by
  obtain ⟨va, vm, vx, vy, rfl, ha, hm, hx, hy⟩ := h
  have HT := Lib.hid hT
  have Ra := Lib.hid ha; have Rm := Lib.hid hm; have Rx := Lib.hid hx; have Ry := Lib.hid hy
  have HL := Lib.hid hL
  clear hT ha hm hx hy hL
  go_enter Tryz.func162, Tryz.ntmps162
  go_wp2_with (fail)
  obtain ⟨W, tb, rs, ou, li, hW, e1, e2, e3, e4, l1, l2, l3, l4, hb1, hb2, hb3, hb4, hbel⟩ := fix_start w va vm vx vy (.slice none 0 0) 198 209
  rw [hW, ← e4, ← e3, ← e2, ← e1]
  have HBl := Lib.hid (e1 ▸ hbel)
  have Hb1 := Lib.hid hb1; have Hb2 := Lib.hid hb2; have Hb4 := Lib.hid hb4
  have Hsz := Lib.hid e1
  have Hb3 := Lib.hid hb3
  have hwo : w.heap.size ≤ ou := by omega
  clear hW e1 e2 e3 e4 hb1 hb2 hb3 hb4 hbel
  go_loopw [22] (fun i wr => ∃ (k : Nat) (u0 u1 u2 u3 : Value), k ≤ 4 ∧ i = .int .i64 (k : Int) ∧ Hid (wr.heap[ou]? = some (.cells #[u0, u1, u2, u3] 198 (0, 0))) ∧ Hid (wr.heap[li]? = some (.cells (ptrsOf tb ou) 209 (0, 0))) ∧ Hid (li < wr.heap.size) ∧ Hid (Below ou W wr) ∧
    Hid (0 < k → NewU (ou + 1) wr u0 (fixI T.a u)) ∧ Hid (1 < k → NewU (ou + 1) wr u1 (fixI T.m u)) ∧ Hid (2 < k → NewU (ou + 1) wr u2 (fixI T.x u)) ∧ Hid (3 < k → NewU (ou + 1) wr u3 (fixI T.y u))) (fun i _ => 4 - (intOf i).toNat)
  case atStart => exact ⟨0, _, _, _, _, by omega, rfl, Hb3.out, Hb4.out, l4, Below.refl _ _, fun h => by omega, fun h => by omega, fun h => by omega, fun h => by omega⟩
  case round =>
    obtain ⟨k, u0, u1, u2, u3, hk, rfl, HO, HLi, Hls, HB, S0, S1, S2, S3⟩ := hrel
    have HT1 := Lib.hid (HB.out.block tb (by omega) |>.trans Hb1.out)
    have HR1 := Lib.hid (HB.out.block rs (by omega) |>.trans Hb2.out)
    have hlsz : li < wr.heap.size := Hls.out
    have HW := Lib.hid (HBl.out.trans (HB.out.mono hwo))
    have hk5 : k = 0 ∨ k = 1 ∨ k = 2 ∨ k = 3 ∨ k = 4 := by omega
    rcases hk5 with rfl | rfl | rfl | rfl | rfl
    · rw [show ((0 : Nat) : Int) = 0 from rfl]
      have c0 : wr.cell? ⟨li, 0, none⟩ = some (.pointer (some ⟨tb, 0, none⟩)) := cell_blk HLi.out 0
      have c1 : wr.cell? ⟨li, 1, none⟩ = some (.pointer (some ⟨ou, 0, none⟩)) := cell_blk HLi.out 1
      go_wp2_with (fail)
      obtain ⟨wv, rfl⟩ : ∃ x : World, x = wr := ⟨_, rfl⟩
      obtain ⟨X, hX, t0, t1, hXb, hXs⟩ := copied2' wv (.pointer (some ⟨tb, 0, none⟩)) (.pointer (some ⟨ou, 0, none⟩)) 209
      rw [hX]
      have HX := Lib.hid hXb
      have hnX : wv.heap.size < X.heap.size := by omega
      have htX : tb < X.heap.size := by omega
      have hoX : ou < X.heap.size := by omega
      have d1 : X.cell? ⟨tb, 0, none⟩ = some va := cell_blk ((hXb.block tb (by omega)).trans HT1.out) 0
      have HOX := Lib.hid ((hXb.block ou (by omega)).trans HO.out)
      have HBX := Lib.hid (HB.out.trans (hXb.mono (by omega)))
      have HLX := Lib.hid ((hXb.block li (by omega)).trans HLi.out)
      have HWX := Lib.hid (below_two HW.out hXb)
      have T0 := Lib.hid (fun h => (S0.out h).go hXb); have T1 := Lib.hid (fun h => (S1.out h).go hXb); have T2 := Lib.hid (fun h => (S2.out h).go hXb); have T3 := Lib.hid (fun h => (S3.out h).go hXb)
      have hlX : li < X.heap.size := by omega
      have ne1 : some wv.heap.size ≠ some ou := fun e => by cases e; omega
      have ne2 : some tb ≠ some ou := fun e => by cases e; omega
      clear hX hXs hXb c0 c1
      go_region_held3 (fun w' => X.grownBy w' (some ou) ∧ w'.cell? ⟨wv.heap.size, 1, none⟩ = some (.pointer (some ⟨ou, 0, none⟩)) ∧ w'.cell? ⟨wv.heap.size, 0, none⟩ = some (.pointer (some ⟨tb, 0, none⟩)) ∧ w'.cell? ⟨tb, 0, none⟩ = some va)
        (first
          | exact ⟨grownBy_drewN X 1 _, t1, t0, d1⟩
          | exact ⟨by assumption, by assumption, by assumption, by assumption⟩
          | exact ⟨below_toGrown hBF _, (hBF.cell (p := ⟨wv.heap.size, 1, none⟩) hnX).trans t1, (hBF.cell (p := ⟨wv.heap.size, 0, none⟩) hnX).trans t0, (hBF.cell (p := ⟨tb, 0, none⟩) htX).trans d1⟩
          | exact ⟨grownBy_chain (below_toGrown hBF _) (grownBy_setCell _ _ _ _), (World.grownBy.cell (grownBy_setCell _ _ _ _) ((hBF.cell (p := ⟨wv.heap.size, 1, none⟩) hnX).trans t1) ne1), (World.grownBy.cell (grownBy_setCell _ _ _ _) ((hBF.cell (p := ⟨wv.heap.size, 0, none⟩) hnX).trans t0) ne1), (World.grownBy.cell (grownBy_setCell _ _ _ _) ((hBF.cell (p := ⟨tb, 0, none⟩) htX).trans d1) ne2)⟩)
        (first
          | (go_at_call 170; (with_reducible refine (mle_Fix T.a n _ u _ (HT.out.below (below_two HWX.out (below_drw X))) (Ra.out.go (below_two HWX.out (below_drw X))) hu HL.out.a hn).mono ?_); rintro e wf ⟨vf, rfl, hnf, hbF⟩; have HN := Lib.hid (show NewU X.heap.size wf vf (fixI T.a u) from hnf); clear hnf; have hBF : Below X.heap.size X wf := below_two (below_drw X) hbF; have hOf := (hBF.block ou hoX).trans HOX.out; have gO : wf.cell? ⟨ou, 0, none⟩ = some u0 := cell_blk hOf 0; have fO := free_blk hOf 0; have HOf := Lib.hid hOf; clear hOf; obtain ⟨af, cf, rfl⟩ := HN.out.isSlice))

      go_wp2
      go_roundw
      case rel => exact ⟨1, _, u1, u2, u3, by omega, rfl, blk_setCell HOf.out 0 _, (Below.heap_setCell _ _ _ li (by show li ≠ ou; omega)).trans ((hBF.block li hlX).trans HLX.out), Nat.lt_of_lt_of_le hlX (Nat.le_trans hBF.size (grownBy_setCell _ _ _ _).size), (HBX.out.trans (hBF.mono (by omega))).setCell (p := ⟨ou, 0, none⟩) (Nat.le_refl ou) _, fun h => (HN.out.mono (B' := ou + 1) hoX).low (Nat.lt_succ_self ou) 0 _, fun h => by omega, fun h => by omega, fun h => by omega⟩
      case measure => simp [intOf]
    · rw [show ((1 : Nat) : Int) = 1 from rfl]
      have c0 : wr.cell? ⟨li, 2, none⟩ = some (.pointer (some ⟨tb, 1, none⟩)) := cell_blk HLi.out 2
      have c1 : wr.cell? ⟨li, 3, none⟩ = some (.pointer (some ⟨ou, 1, none⟩)) := cell_blk HLi.out 3
      go_wp2_with (fail)
      obtain ⟨wv, rfl⟩ : ∃ x : World, x = wr := ⟨_, rfl⟩
      obtain ⟨X, hX, t0, t1, hXb, hXs⟩ := copied2' wv (.pointer (some ⟨tb, 1, none⟩)) (.pointer (some ⟨ou, 1, none⟩)) 209
      rw [hX]
      have HX := Lib.hid hXb
      have hnX : wv.heap.size < X.heap.size := by omega
      have htX : tb < X.heap.size := by omega
      have hoX : ou < X.heap.size := by omega
      have d1 : X.cell? ⟨tb, 1, none⟩ = some vm := cell_blk ((hXb.block tb (by omega)).trans HT1.out) 1
      have HOX := Lib.hid ((hXb.block ou (by omega)).trans HO.out)
      have HBX := Lib.hid (HB.out.trans (hXb.mono (by omega)))
      have HLX := Lib.hid ((hXb.block li (by omega)).trans HLi.out)
      have HWX := Lib.hid (below_two HW.out hXb)
      have T0 := Lib.hid (fun h => (S0.out h).go hXb); have T1 := Lib.hid (fun h => (S1.out h).go hXb); have T2 := Lib.hid (fun h => (S2.out h).go hXb); have T3 := Lib.hid (fun h => (S3.out h).go hXb)
      have hlX : li < X.heap.size := by omega
      have ne1 : some wv.heap.size ≠ some ou := fun e => by cases e; omega
      have ne2 : some tb ≠ some ou := fun e => by cases e; omega
      clear hX hXs hXb c0 c1
      go_region_held3 (fun w' => X.grownBy w' (some ou) ∧ w'.cell? ⟨wv.heap.size, 1, none⟩ = some (.pointer (some ⟨ou, 1, none⟩)) ∧ w'.cell? ⟨wv.heap.size, 0, none⟩ = some (.pointer (some ⟨tb, 1, none⟩)) ∧ w'.cell? ⟨tb, 1, none⟩ = some vm)
        (first
          | exact ⟨grownBy_drewN X 1 _, t1, t0, d1⟩
          | exact ⟨by assumption, by assumption, by assumption, by assumption⟩
          | exact ⟨below_toGrown hBF _, (hBF.cell (p := ⟨wv.heap.size, 1, none⟩) hnX).trans t1, (hBF.cell (p := ⟨wv.heap.size, 0, none⟩) hnX).trans t0, (hBF.cell (p := ⟨tb, 1, none⟩) htX).trans d1⟩
          | exact ⟨grownBy_chain (below_toGrown hBF _) (grownBy_setCell _ _ _ _), (World.grownBy.cell (grownBy_setCell _ _ _ _) ((hBF.cell (p := ⟨wv.heap.size, 1, none⟩) hnX).trans t1) ne1), (World.grownBy.cell (grownBy_setCell _ _ _ _) ((hBF.cell (p := ⟨wv.heap.size, 0, none⟩) hnX).trans t0) ne1), (World.grownBy.cell (grownBy_setCell _ _ _ _) ((hBF.cell (p := ⟨tb, 1, none⟩) htX).trans d1) ne2)⟩)
        (first
          | (go_at_call 170; (with_reducible refine (mle_Fix T.m n _ u _ (HT.out.below (below_two HWX.out (below_drw X))) (Rm.out.go (below_two HWX.out (below_drw X))) hu HL.out.m hn).mono ?_); rintro e wf ⟨vf, rfl, hnf, hbF⟩; have HN := Lib.hid (show NewU X.heap.size wf vf (fixI T.m u) from hnf); clear hnf; have hBF : Below X.heap.size X wf := below_two (below_drw X) hbF; have hOf := (hBF.block ou hoX).trans HOX.out; have gO : wf.cell? ⟨ou, 1, none⟩ = some u1 := cell_blk hOf 1; have fO := free_blk hOf 1; have HOf := Lib.hid hOf; clear hOf; obtain ⟨af, cf, rfl⟩ := HN.out.isSlice))

      go_wp2
      go_roundw
      case rel => exact ⟨2, u0, _, u2, u3, by omega, rfl, blk_setCell HOf.out 1 _, (Below.heap_setCell _ _ _ li (by show li ≠ ou; omega)).trans ((hBF.block li hlX).trans HLX.out), Nat.lt_of_lt_of_le hlX (Nat.le_trans hBF.size (grownBy_setCell _ _ _ _).size), (HBX.out.trans (hBF.mono (by omega))).setCell (p := ⟨ou, 1, none⟩) (Nat.le_refl ou) _, fun h => ((T0.out (by omega)).go hBF).low (Nat.lt_succ_self ou) 1 _, fun h => (HN.out.mono (B' := ou + 1) hoX).low (Nat.lt_succ_self ou) 1 _, fun h => by omega, fun h => by omega⟩
      case measure => simp [intOf]
    · rw [show ((2 : Nat) : Int) = 2 from rfl]
      have c0 : wr.cell? ⟨li, 4, none⟩ = some (.pointer (some ⟨tb, 2, none⟩)) := cell_blk HLi.out 4
      have c1 : wr.cell? ⟨li, 5, none⟩ = some (.pointer (some ⟨ou, 2, none⟩)) := cell_blk HLi.out 5
      go_wp2_with (fail)
      obtain ⟨wv, rfl⟩ : ∃ x : World, x = wr := ⟨_, rfl⟩
      obtain ⟨X, hX, t0, t1, hXb, hXs⟩ := copied2' wv (.pointer (some ⟨tb, 2, none⟩)) (.pointer (some ⟨ou, 2, none⟩)) 209
      rw [hX]
      have HX := Lib.hid hXb
      have hnX : wv.heap.size < X.heap.size := by omega
      have htX : tb < X.heap.size := by omega
      have hoX : ou < X.heap.size := by omega
      have d1 : X.cell? ⟨tb, 2, none⟩ = some vx := cell_blk ((hXb.block tb (by omega)).trans HT1.out) 2
      have HOX := Lib.hid ((hXb.block ou (by omega)).trans HO.out)
      have HBX := Lib.hid (HB.out.trans (hXb.mono (by omega)))
      have HLX := Lib.hid ((hXb.block li (by omega)).trans HLi.out)
      have HWX := Lib.hid (below_two HW.out hXb)
      have T0 := Lib.hid (fun h => (S0.out h).go hXb); have T1 := Lib.hid (fun h => (S1.out h).go hXb); have T2 := Lib.hid (fun h => (S2.out h).go hXb); have T3 := Lib.hid (fun h => (S3.out h).go hXb)
      have hlX : li < X.heap.size := by omega
      have ne1 : some wv.heap.size ≠ some ou := fun e => by cases e; omega
      have ne2 : some tb ≠ some ou := fun e => by cases e; omega
      clear hX hXs hXb c0 c1
      go_region_held3 (fun w' => X.grownBy w' (some ou) ∧ w'.cell? ⟨wv.heap.size, 1, none⟩ = some (.pointer (some ⟨ou, 2, none⟩)) ∧ w'.cell? ⟨wv.heap.size, 0, none⟩ = some (.pointer (some ⟨tb, 2, none⟩)) ∧ w'.cell? ⟨tb, 2, none⟩ = some vx)
        (first
          | exact ⟨grownBy_drewN X 1 _, t1, t0, d1⟩
          | exact ⟨by assumption, by assumption, by assumption, by assumption⟩
          | exact ⟨below_toGrown hBF _, (hBF.cell (p := ⟨wv.heap.size, 1, none⟩) hnX).trans t1, (hBF.cell (p := ⟨wv.heap.size, 0, none⟩) hnX).trans t0, (hBF.cell (p := ⟨tb, 2, none⟩) htX).trans d1⟩
          | exact ⟨grownBy_chain (below_toGrown hBF _) (grownBy_setCell _ _ _ _), (World.grownBy.cell (grownBy_setCell _ _ _ _) ((hBF.cell (p := ⟨wv.heap.size, 1, none⟩) hnX).trans t1) ne1), (World.grownBy.cell (grownBy_setCell _ _ _ _) ((hBF.cell (p := ⟨wv.heap.size, 0, none⟩) hnX).trans t0) ne1), (World.grownBy.cell (grownBy_setCell _ _ _ _) ((hBF.cell (p := ⟨tb, 2, none⟩) htX).trans d1) ne2)⟩)
        (first
          | (go_at_call 170; (with_reducible refine (mle_Fix T.x n _ u _ (HT.out.below (below_two HWX.out (below_drw X))) (Rx.out.go (below_two HWX.out (below_drw X))) hu HL.out.x hn).mono ?_); rintro e wf ⟨vf, rfl, hnf, hbF⟩; have HN := Lib.hid (show NewU X.heap.size wf vf (fixI T.x u) from hnf); clear hnf; have hBF : Below X.heap.size X wf := below_two (below_drw X) hbF; have hOf := (hBF.block ou hoX).trans HOX.out; have gO : wf.cell? ⟨ou, 2, none⟩ = some u2 := cell_blk hOf 2; have fO := free_blk hOf 2; have HOf := Lib.hid hOf; clear hOf; obtain ⟨af, cf, rfl⟩ := HN.out.isSlice))

      go_wp2
      go_roundw
      case rel => exact ⟨3, u0, u1, _, u3, by omega, rfl, blk_setCell HOf.out 2 _, (Below.heap_setCell _ _ _ li (by show li ≠ ou; omega)).trans ((hBF.block li hlX).trans HLX.out), Nat.lt_of_lt_of_le hlX (Nat.le_trans hBF.size (grownBy_setCell _ _ _ _).size), (HBX.out.trans (hBF.mono (by omega))).setCell (p := ⟨ou, 2, none⟩) (Nat.le_refl ou) _, fun h => ((T0.out (by omega)).go hBF).low (Nat.lt_succ_self ou) 2 _, fun h => ((T1.out (by omega)).go hBF).low (Nat.lt_succ_self ou) 2 _, fun h => (HN.out.mono (B' := ou + 1) hoX).low (Nat.lt_succ_self ou) 2 _, fun h => by omega⟩
      case measure => simp [intOf]
    · rw [show ((3 : Nat) : Int) = 3 from rfl]
      have c0 : wr.cell? ⟨li, 6, none⟩ = some (.pointer (some ⟨tb, 3, none⟩)) := cell_blk HLi.out 6
      have c1 : wr.cell? ⟨li, 7, none⟩ = some (.pointer (some ⟨ou, 3, none⟩)) := cell_blk HLi.out 7
      go_wp2_with (fail)
      obtain ⟨wv, rfl⟩ : ∃ x : World, x = wr := ⟨_, rfl⟩
      obtain ⟨X, hX, t0, t1, hXb, hXs⟩ := copied2' wv (.pointer (some ⟨tb, 3, none⟩)) (.pointer (some ⟨ou, 3, none⟩)) 209
      rw [hX]
      have HX := Lib.hid hXb
      have hnX : wv.heap.size < X.heap.size := by omega
      have htX : tb < X.heap.size := by omega
      have hoX : ou < X.heap.size := by omega
      have d1 : X.cell? ⟨tb, 3, none⟩ = some vy := cell_blk ((hXb.block tb (by omega)).trans HT1.out) 3
      have HOX := Lib.hid ((hXb.block ou (by omega)).trans HO.out)
      have HBX := Lib.hid (HB.out.trans (hXb.mono (by omega)))
      have HLX := Lib.hid ((hXb.block li (by omega)).trans HLi.out)
      have HWX := Lib.hid (below_two HW.out hXb)
      have T0 := Lib.hid (fun h => (S0.out h).go hXb); have T1 := Lib.hid (fun h => (S1.out h).go hXb); have T2 := Lib.hid (fun h => (S2.out h).go hXb); have T3 := Lib.hid (fun h => (S3.out h).go hXb)
      have hlX : li < X.heap.size := by omega
      have ne1 : some wv.heap.size ≠ some ou := fun e => by cases e; omega
      have ne2 : some tb ≠ some ou := fun e => by cases e; omega
      clear hX hXs hXb c0 c1
      go_region_held3 (fun w' => X.grownBy w' (some ou) ∧ w'.cell? ⟨wv.heap.size, 1, none⟩ = some (.pointer (some ⟨ou, 3, none⟩)) ∧ w'.cell? ⟨wv.heap.size, 0, none⟩ = some (.pointer (some ⟨tb, 3, none⟩)) ∧ w'.cell? ⟨tb, 3, none⟩ = some vy)
        (first
          | exact ⟨grownBy_drewN X 1 _, t1, t0, d1⟩
          | exact ⟨by assumption, by assumption, by assumption, by assumption⟩
          | exact ⟨below_toGrown hBF _, (hBF.cell (p := ⟨wv.heap.size, 1, none⟩) hnX).trans t1, (hBF.cell (p := ⟨wv.heap.size, 0, none⟩) hnX).trans t0, (hBF.cell (p := ⟨tb, 3, none⟩) htX).trans d1⟩
          | exact ⟨grownBy_chain (below_toGrown hBF _) (grownBy_setCell _ _ _ _), (World.grownBy.cell (grownBy_setCell _ _ _ _) ((hBF.cell (p := ⟨wv.heap.size, 1, none⟩) hnX).trans t1) ne1), (World.grownBy.cell (grownBy_setCell _ _ _ _) ((hBF.cell (p := ⟨wv.heap.size, 0, none⟩) hnX).trans t0) ne1), (World.grownBy.cell (grownBy_setCell _ _ _ _) ((hBF.cell (p := ⟨tb, 3, none⟩) htX).trans d1) ne2)⟩)
        (first
          | (go_at_call 170; (with_reducible refine (mle_Fix T.y n _ u _ (HT.out.below (below_two HWX.out (below_drw X))) (Ry.out.go (below_two HWX.out (below_drw X))) hu HL.out.y hn).mono ?_); rintro e wf ⟨vf, rfl, hnf, hbF⟩; have HN := Lib.hid (show NewU X.heap.size wf vf (fixI T.y u) from hnf); clear hnf; have hBF : Below X.heap.size X wf := below_two (below_drw X) hbF; have hOf := (hBF.block ou hoX).trans HOX.out; have gO : wf.cell? ⟨ou, 3, none⟩ = some u3 := cell_blk hOf 3; have fO := free_blk hOf 3; have HOf := Lib.hid hOf; clear hOf; obtain ⟨af, cf, rfl⟩ := HN.out.isSlice))

      go_wp2
      go_roundw
      case rel => exact ⟨4, u0, u1, u2, _, by omega, rfl, blk_setCell HOf.out 3 _, (Below.heap_setCell _ _ _ li (by show li ≠ ou; omega)).trans ((hBF.block li hlX).trans HLX.out), Nat.lt_of_lt_of_le hlX (Nat.le_trans hBF.size (grownBy_setCell _ _ _ _).size), (HBX.out.trans (hBF.mono (by omega))).setCell (p := ⟨ou, 3, none⟩) (Nat.le_refl ou) _, fun h => ((T0.out (by omega)).go hBF).low (Nat.lt_succ_self ou) 3 _, fun h => ((T1.out (by omega)).go hBF).low (Nat.lt_succ_self ou) 3 _, fun h => ((T2.out (by omega)).go hBF).low (Nat.lt_succ_self ou) 3 _, fun h => (HN.out.mono (B' := ou + 1) hoX).low (Nat.lt_succ_self ou) 3 _⟩
      case measure => simp [intOf]
    · have R0 := (S0.out (by omega)).isSlice; have R1 := (S1.out (by omega)).isSlice; have R2 := (S2.out (by omega)).isSlice; have R3 := (S3.out (by omega)).isSlice
      obtain ⟨a0, c0, rfl⟩ := R0
      obtain ⟨a1, c1, rfl⟩ := R1
      obtain ⟨a2, c2, rfl⟩ := R2
      obtain ⟨a3, c3, rfl⟩ := R3
      have d0 : wr.cell? ⟨ou, 0, none⟩ = some _ := cell_blk HO.out 0
      have d1 : wr.cell? ⟨ou, 1, none⟩ = some _ := cell_blk HO.out 1
      have d2 : wr.cell? ⟨ou, 2, none⟩ = some _ := cell_blk HO.out 2
      have d3 : wr.cell? ⟨ou, 3, none⟩ = some _ := cell_blk HO.out 3
      have g0 : wr.cell? ⟨rs, 0, none⟩ = some _ := cell_blk HR1.out 0
      have g1 : wr.cell? ⟨rs, 1, none⟩ = some _ := cell_blk HR1.out 1
      have g2 : wr.cell? ⟨rs, 2, none⟩ = some _ := cell_blk HR1.out 2
      have g3 : wr.cell? ⟨rs, 3, none⟩ = some _ := cell_blk HR1.out 3
      have f0 := free_blk HR1.out 0; have f1 := free_blk HR1.out 1; have f2 := free_blk HR1.out 2; have f3 := free_blk HR1.out 3
      rw [show ((4 : Nat) : Int) = 4 from rfl]
      go_wp2_with (fail)
      have hrs : rs < ou + 1 := by omega
      have low : ∀ {v : Value} {l : List Int} (x0 x1 x2 x3 : Value), NewU (ou + 1) wr v l → NewU (ou + 1) ((((wr.setCell ⟨rs, 0, none⟩ x0).setCell ⟨rs, 1, none⟩ x1).setCell ⟨rs, 2, none⟩ x2).setCell ⟨rs, 3, none⟩ x3) v l := fun x0 x1 x2 x3 h => (((h.low hrs 0 x0).low hrs 1 x1).low hrs 2 x2).low hrs 3 x3
      have hws : w.heap.size ≤ rs := by have := Hsz.out; omega
      have hB := fun x0 x1 x2 x3 => (((HW.out.setCell (p := ⟨rs, 0, none⟩) hws x0).setCell (p := ⟨rs, 1, none⟩) hws x1).setCell (p := ⟨rs, 2, none⟩) hws x2).setCell (p := ⟨rs, 3, none⟩) hws x3
      have HL0 := low (.slice a0 (fixI T.a u).length c0) (.slice a1 (fixI T.m u).length c1) (.slice a2 (fixI T.x u).length c2) (.slice a3 (fixI T.y u).length c3) (S0.out (by omega))
      have HL1 := low (.slice a0 (fixI T.a u).length c0) (.slice a1 (fixI T.m u).length c1) (.slice a2 (fixI T.x u).length c2) (.slice a3 (fixI T.y u).length c3) (S1.out (by omega))
      have HL2 := low (.slice a0 (fixI T.a u).length c0) (.slice a1 (fixI T.m u).length c1) (.slice a2 (fixI T.x u).length c2) (.slice a3 (fixI T.y u).length c3) (S2.out (by omega))
      have HL3 := low (.slice a0 (fixI T.a u).length c0) (.slice a1 (fixI T.m u).length c1) (.slice a2 (fixI T.x u).length c2) (.slice a3 (fixI T.y u).length c3) (S3.out (by omega))
      have hbw := hB (.slice a0 (fixI T.a u).length c0) (.slice a1 (fixI T.m u).length c1) (.slice a2 (fixI T.x u).length c2) (.slice a3 (fixI T.y u).length c3)
      have hblk := blk_setCell (blk_setCell (blk_setCell (blk_setCell HR1.out 0 (.slice a0 (fixI T.a u).length c0)) 1 (.slice a1 (fixI T.m u).length c1)) 2 (.slice a2 (fixI T.x u).length c2)) 3 (.slice a3 (fixI T.y u).length c3)
      clear low hB d0 d1 d2 d3 g0 g1 g2 g3 f0 f1 f2 f3
      generalize (((wr.setCell ⟨rs, 0, none⟩ (.slice a0 (fixI T.a u).length c0)).setCell ⟨rs, 1, none⟩ (.slice a1 (fixI T.m u).length c1)).setCell ⟨rs, 2, none⟩ (.slice a2 (fixI T.x u).length c2)).setCell ⟨rs, 3, none⟩ (.slice a3 (fixI T.y u).length c3) = wz at *
      have d0 : wz.cell? ⟨rs, 0, none⟩ = some (.slice a0 (fixI T.a u).length c0) := cell_blk hblk 0
      have d1 : wz.cell? ⟨rs, 1, none⟩ = some (.slice a1 (fixI T.m u).length c1) := cell_blk hblk 1
      have d2 : wz.cell? ⟨rs, 2, none⟩ = some (.slice a2 (fixI T.x u).length c2) := cell_blk hblk 2
      have d3 : wz.cell? ⟨rs, 3, none⟩ = some (.slice a3 (fixI T.y u).length c3) := cell_blk hblk 3
      exact bodyPost_ret (v := .agg #[.slice a0 (fixI T.a u).length c0, .slice a1 (fixI T.m u).length c1, .slice a2 (fixI T.x u).length c2, .slice a3 (fixI T.y u).length c3]) (by simp [results, Tryz.results162, go_sem, d0, d1, d2, d3]) rfl ⟨_, rfl, ⟨_, _, _, _, rfl, HL0.mono (by omega), HL1.mono (by omega), HL2.mono (by omega), HL3.mono (by omega)⟩, hbw⟩
end Go.Proofs.YtlfneeobnihocaaGreatDoor
