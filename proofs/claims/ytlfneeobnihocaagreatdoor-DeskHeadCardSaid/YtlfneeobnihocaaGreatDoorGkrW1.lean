/- The walks of package gkr: top, draws, Draws, along, sum. The circuit is a value that reads as data, the lists are slices of 64-bit numbers. -/
import Derived.Test.YtlfneeobnihocaaGreatDoorGkrV
import Derived.Test.YtlfneeobnihocaaGreatDoorWireS
import Derived.Test.YtlfneeobnihocaaGreatDoorRunW
import Derived.Test.YtlfneeobnihocaaGreatDoorMleW
namespace Go.Proofs.YtlfneeobnihocaaGreatDoor
set_option maxRecDepth 100000
set_option linter.unusedVariables false
open Go.RowKit Tally
set_option maxHeartbeats 1000000 in
theorem gkr_top (v : Value) (c : Ci) (w : World) (h : IsC w v c) (hG : Good c) :
    Calls Tryz.prog 143 #[v] w fun e w' => e = .returned (.int .i64 (belowLog c c.layers.length)) ∧ Below w.heap.size w w' := by
  obtain ⟨hlog, u, rfl, hL⟩ := h
  obtain ⟨hls, hll, a, cap, rfl, hr⟩ := hL
  have hn1 := hG.n1
  have hn4 := hG.n4
  obtain ⟨m, hm⟩ : ∃ m, c.layers.length = m + 1 := ⟨c.layers.length - 1, by omega⟩
  have HR := Lib.hid (show belowLog c c.layers.length = (aty c.layers m).log by rw [hm, belowLog_succ])
  obtain ⟨b, off, rfl, hblt, hcell⟩ := hr (by omega)
  obtain ⟨c1, _⟩ := hcell m (by omega)
  have hs : (c.layers.length : Int) - 1 = (m : Int) := by omega
  have hml : (m : Int) < (c.layers.length : Int) := by omega
  have h1 : (1 : Int) ≤ (c.layers.length : Int) := by omega
  have h4 : (c.layers.length : Int) ≤ 4 := by omega
  clear hcell hr hls hll hm hn1 hn4 hG
  generalize c.layers.length = N at *
  go_enter Tryz.func143, Tryz.ntmps143
  go_wp2
  go_ret
  exact ⟨ret_i _ _ HR.out.symm, (Below.refl _ _).alloc (Nat.le_refl _) _⟩
/-- as many draws as a circuit wants -/
def drawsN (c : Ci) : Nat := (belowLog c c.layers.length).toNat + needFrom c c.layers.length
theorem need_le {c : Ci} (hG : Good c) : ∀ i, i ≤ c.layers.length → needFrom c i ≤ 9 * i
  | 0, _ => by simp [needFrom]
  | i + 1, hi => by
    have := need_le hG i (by omega)
    have := hG.below4 (k := i) (by omega)
    show 2 * (belowLog c i).toNat + 1 + needFrom c i ≤ _
    omega
theorem drawsN_le {c : Ci} (hG : Good c) : drawsN c ≤ 40 := by
  have := need_le hG c.layers.length (Nat.le_refl _)
  have := hG.n4
  have := hG.below4 (k := c.layers.length) (Nat.le_refl _)
  unfold drawsN; omega
set_option maxHeartbeats 1000000 in
theorem gkr_draws (v : Value) (c : Ci) (w : World) (h : IsC w v c) (hG : Good c) :
    Calls Tryz.prog 140 #[v] w fun e w' => e = .returned (.int .i64 (drawsN c)) ∧ Below w.heap.size w w' := by
  have HC0 := Lib.hid h
  have HG := Lib.hid hG
  obtain ⟨a, cap, rfl⟩ := h.shape
  have h4 := hG.n4
  clear h hG
  go_enter Tryz.func140, Tryz.ntmps140
  go_wp2_with (fail)
  obtain ⟨W1, hW, k0, k1, B1, s1⟩ := copied2' w (.int .i64 c.log) (.slice a c.layers.length cap) 62
  rw [hW]
  have L1 : w.heap.size < W1.heap.size := by omega
  have H1 := Lib.hid B1
  clear hW s1 B1
  refine (gkr_top _ c _ (HC0.out.go H1.out) HG.out).mono ?_
  rintro e w2 ⟨rfl, hb2⟩
  have H2 := Lib.hid (below_two H1.out hb2)
  have r0 := (hb2.cell (p := ⟨w.heap.size, 0, none⟩) L1).trans k0
  have r1 := (hb2.cell (p := ⟨w.heap.size, 1, none⟩) L1).trans k1
  have L2 : w.heap.size < w2.heap.size := by have := hb2.size; omega
  have t0 := HG.out.below0 (k := c.layers.length) (Nat.le_refl _)
  have t4 := HG.out.below4 (k := c.layers.length) (Nat.le_refl _)
  clear k0 k1 hb2 L1
  have HD := Lib.hid (show drawsN c = (belowLog c c.layers.length).toNat + needFrom c c.layers.length from rfl)
  generalize hTop : belowLog c c.layers.length = top at *
  clear hTop
  obtain ⟨T, rfl⟩ : ∃ T : Nat, top = (T : Int) := ⟨top.toNat, by omega⟩
  go_wp2_with (fail)
  go_loopw [3, 10] (fun n i wr => ∃ j s : Nat, j ≤ c.layers.length ∧ i = .int .i64 (j : Int) ∧ n = .int .i64 (s : Int) ∧ s ≤ 40 ∧ Hid (s = T + needFrom c j) ∧ Hid (Below w2.heap.size w2 wr)) (fun _ i _ => c.layers.length - (intOf i).toNat)
  case atStart => exact ⟨0, T, by omega, rfl, rfl, by omega, by simp [Hid, needFrom], Below.refl _ _⟩
  case round =>
    obtain ⟨j, s, hj, rfl, rfl, hs, Hs, HB⟩ := hrel
    have q0 := (HB.out.cell (p := ⟨w.heap.size, 0, none⟩) L2).trans r0
    have q1 := (HB.out.cell (p := ⟨w.heap.size, 1, none⟩) L2).trans r1
    by_cases hz : j < c.layers.length
    · have hb0 := HG.out.below0 (k := j) (by omega)
      have hb4 := HG.out.below4 (k := j) (by omega)
      have Hn := Lib.hid (show needFrom c (j + 1) = 2 * (belowLog c j).toNat + 1 + needFrom c j from rfl)
      have Hle := Lib.hid (need_le HG.out (j + 1) (by omega))
      clear r0 r1
      go_wp2_with (fail)
      refine (wiring_Below _ c j _ (HC0.out.go (H2.out.trans (HB.out.mono H2.out.size))) (by omega) h4).mono ?_
      rintro e w4 ⟨rfl, hb4'⟩
      have HB4 := Lib.hid (HB.out.trans (hb4'.mono HB.out.size))
      clear hb4' q0 q1
      generalize belowLog c j = bl at *
      obtain ⟨B, rfl⟩ : ∃ B : Nat, bl = (B : Int) := ⟨bl.toNat, by omega⟩
      go_wp2
      go_roundw
      case rel =>
        refine ⟨j + 1, s + (2 * B + 1), by omega, by go_num, ?_, ?_, ?_, HB4.out⟩
        · go_num
        · have := Hs.out; have h1 := Hn.out; have h2 := Hle.out; have : ((B : Int)).toNat = B := by omega
          rw [this] at h1; omega
        · have := Hs.out; have h1 := Hn.out; have : ((B : Int)).toNat = B := by omega
          rw [this] at h1
          show s + (2 * B + 1) = T + needFrom c (j + 1)
          omega
      case measure => simp [intOf]; omega
    · obtain rfl : j = c.layers.length := by omega
      have HF := Lib.hid (show (s : Int) = (drawsN c : Int) by
        have h1 := Hs.out; have h2 := HD.out
        rw [h1, h2]; simp)
      go_wp2
      go_ret
      exact ⟨ret_i _ _ HF.out, H2.out.trans (HB.out.mono H2.out.size)⟩
set_option maxHeartbeats 1000000 in
theorem gkr_Draws (v : Value) (c : Ci) (w : World) (h : IsC w v c) (hc : checkC c = 0) :
    Calls Tryz.prog 99 #[v] w fun e w' => e = .returned (.tuple #[.int .i64 (drawsN c), .int .i64 0]) ∧ Below w.heap.size w w' := by
  have HC0 := Lib.hid h
  have Hc := Lib.hid hc
  obtain ⟨a, cap, rfl⟩ := h.shape
  clear h hc
  go_enter Tryz.func99, Tryz.ntmps99
  go_wp2_with (fail)
  obtain ⟨W1, hW, k0, k1, B1, s1⟩ := copied2' w (.int .i64 c.log) (.slice a c.layers.length cap) 62
  rw [hW]
  have L1 : w.heap.size < W1.heap.size := by omega
  have H1 := Lib.hid B1
  clear hW s1 B1
  refine (c_Check _ c _ (HC0.out.go H1.out)).mono ?_
  rintro e w2 ⟨rfl, hb2⟩
  rw [Hc.out]
  have H2 := Lib.hid (below_two H1.out hb2)
  have r0 := (hb2.cell (p := ⟨w.heap.size, 0, none⟩) L1).trans k0
  have r1 := (hb2.cell (p := ⟨w.heap.size, 1, none⟩) L1).trans k1
  clear k0 k1 hb2 L1
  go_wp2_with (fail)
  refine (gkr_draws _ c _ (HC0.out.go H2.out) (good_of_check Hc.out)).mono ?_
  rintro e w3 ⟨rfl, hb3⟩
  have H3 := Lib.hid (below_two H2.out hb3)
  clear hb3
  go_wp2
  go_ret2
  exact ⟨rfl, H3.out⟩
set_option maxHeartbeats 1000000 in
theorem gkr_Draws_no (v : Value) (c : Ci) (w : World) (h : IsC w v c) (hc : (checkC c != 0) = true) :
    Calls Tryz.prog 99 #[v] w fun e w' => e = .returned (.tuple #[.int .i64 0, .int .i64 (checkC c)]) ∧ Below w.heap.size w w' := by
  have HC0 := Lib.hid h
  obtain ⟨a, cap, rfl⟩ := h.shape
  clear h
  go_enter Tryz.func99, Tryz.ntmps99
  go_wp2_with (fail)
  obtain ⟨W1, hW, k0, k1, B1, s1⟩ := copied2' w (.int .i64 c.log) (.slice a c.layers.length cap) 62
  rw [hW]
  have H1 := Lib.hid B1
  clear hW s1 B1
  refine (c_Check _ c _ (HC0.out.go H1.out)).mono ?_
  rintro e w2 ⟨rfl, hb2⟩
  have H2 := Lib.hid (below_two H1.out hb2)
  clear hb2
  go_wp2
  go_ret2
  exact ⟨rfl, H2.out⟩
/-- along a line from x to y, in numbers -/
def lineI (x y : List Int) (t : Int) : List Int := (lineF (x.map phi) (y.map phi) (phi t)).map psi
theorem lineI_length (x y : List Int) (t : Int) (h : y.length = x.length) : (lineI x y t).length = x.length := by
  unfold lineI; rw [List.length_map, lineF_length _ _ _ (by rw [List.length_map, List.length_map, h]), List.length_map]
theorem lineI_phi (x y : List Int) (t : Int) : (lineI x y t).map phi = lineF (x.map phi) (y.map phi) (phi t) := mapphi_psi _
theorem lineI_snoc (x y : List Int) (t : Int) (j : Nat) (hx : j < x.length) (hy : y.length = x.length) : (lineI x y t).take (j + 1) = (lineI x y t).take j ++ [psi (btw (phi (at0 x j)) (phi (at0 y j)) (phi t))] := by
  rw [take_snoc _ j 0 (by rw [lineI_length x y t hy]; exact hx)]
  congr 2
  have h1 : (lineF (x.map phi) (y.map phi) (phi t)).length = x.length := by rw [lineF_length _ _ _ (by rw [List.length_map, List.length_map, hy]), List.length_map]
  have h2 := lineF_at (x.map phi) (y.map phi) (phi t) j (by rw [List.length_map]; exact hx) (by rw [List.length_map, hy]; exact hx)
  rw [atF_map x j hx, atF_map y j (by omega)] at h2
  unfold lineI
  rw [← h2]
  simp [atF, h1, hx]
set_option maxHeartbeats 2000000 in
theorem gkr_along (x y : List Int) (vx vy : Value) (t : Int) (w : World) (hx : RowU w vx x) (hy : RowU w vy y) (hl : y.length = x.length) (h8 : x.length ≤ 1000) (ht : U64 t) :
    Calls Tryz.prog 164 #[vx, vy, .int .u64 t] w fun e w' => ∃ v', e = .returned v' ∧ NewU w.heap.size w' v' (lineI x y t) ∧ Below w.heap.size w w' := by
  obtain ⟨ux, _, ax, cx, rfl, sx⟩ := hx
  obtain ⟨uy, _, ay, cy, rfl, sy⟩ := hy
  have Hl := Lib.hid hl
  have Sx := Lib.hid sx; have Sy := Lib.hid sy; have Ux := Lib.hid ux; have Uy := Lib.hid uy
  have HLL := Lib.hid (lineI_length x y t hl)
  have HS := Lib.hid (fun j hj => lineI_snoc x y t j hj hl)
  clear sx sy ux uy hl
  go_enter Tryz.func164, Tryz.ntmps164
  go_wp2
  go_loopw [7, 11] (fun o i wr => ∃ k : Nat, k ≤ x.length ∧ i = .int .i64 (k : Int) ∧ Hid (NewU w.heap.size wr o ((lineI x y t).take k)) ∧ Below w.heap.size w wr) (fun _ i _ => x.length - (intOf i).toNat)
  case atStart => exact ⟨0, by omega, rfl, NewU.nil _ _, Below.refl _ _⟩
  case round =>
    obtain ⟨k, hk, rfl, HO, hb⟩ := hrel
    by_cases hz : k < x.length
    · have hzy : k < y.length := by rw [Hl.out]; exact hz
      obtain ⟨bx, ox, rfl, hxlt, hxc⟩ := Sx.out (by omega)
      obtain ⟨by', oy, rfl, hylt, hyc⟩ := Sy.out (by omega)
      have cX := (hb.cell (p := ⟨bx, ox + k, none⟩) hxlt).trans (hxc k hz)
      have cY := (hb.cell (p := ⟨by', oy + k, none⟩) hylt).trans (hyc k hzy)
      have uX := Ux.out _ (at0_mem hz)
      have uY := Uy.out _ (at0_mem hzy)
      have Hs := Lib.hid (HS.out k hz)
      have hk0 : (0 : Int) ≤ (k : Int) := by omega
      have hkx : (k : Int) < (x.length : Int) := by omega
      have hky : (k : Int) < (y.length : Int) := by omega
      have hcap : ((lineI x y t).take k).length + 1 ≤ 17592186043904 := by rw [List.length_take, HLL.out]; omega
      have hsz := hb.size
      obtain ⟨wv, rfl⟩ : ∃ x : World, x = wr := ⟨_, rfl⟩
      have hfx : ∀ g, u7.ownBlock = some g → bx ≠ g := fun g hg => by have := (HO.out.lt hg).1; omega
      have hfy : ∀ g, u7.ownBlock = some g → by' ≠ g := fun g hg => by have := (HO.out.lt hg).1; omega
      have hxv : bx < wv.heap.size := by omega
      have hyv : by' < wv.heap.size := by omega
      clear hxc hyc hky
      have hky : (k : Int) < (y.length : Int) := by omega
      generalize at0 x k = X at *
      generalize at0 y k = Y at *
      go_wp2_with (fail)
      go_region_held3 (fun w' => w'.cell? ⟨bx, ox + k, none⟩ = some (.int .u64 X) ∧ w'.cell? ⟨by', oy + k, none⟩ = some (.int .u64 Y))
        (first
          | go_keep
          | exact ⟨(hb3.cell (p := ⟨bx, ox + k, none⟩) hxv).trans cX, (hb3.cell (p := ⟨by', oy + k, none⟩) hyv).trans cY⟩
          | exact ⟨hk4 _ _ ((hb3.cell (p := ⟨bx, ox + k, none⟩) hxv).trans cX) hfx, hk4 _ _ ((hb3.cell (p := ⟨by', oy + k, none⟩) hyv).trans cY) hfy⟩)
        (first
          | (go_at_call 97; (with_reducible refine (mle_Between _ _ _ _ uX uY ht).mono ?_); rintro e w3 ⟨rfl, hw3⟩; have hb3 : Below wv.heap.size wv w3 := hw3 ▸ below_drewN (Below.refl wv.heap.size wv) 1; clear hw3; have HN3 := Lib.hid (HO.out.below hb3 (Nat.le_refl _)); have hsz3 : w.heap.size ≤ w3.heap.size := by have := hb3.size; omega)
          | (refine step_appUk rfl _ _ (by rfl) w.heap.size _ _ (by rfl) HN3.out _ (by rfl) (U64.psi _) hcap hsz3 ?_; intro v4 w4 hn4 hb4 hk4; have Hn4 := Lib.hid hn4; clear hn4; have hb5 : Below w.heap.size w w4 := (hb.trans (hb3.mono hsz)).trans hb4))
      clear cX cY
      go_wp2
      go_roundw
      case rel => exact ⟨k + 1, by omega, by go_num, by rw [Hs.out]; exact Hn4.out, hb5⟩
      case measure => simp [intOf]; omega
    · obtain rfl : k = x.length := by omega
      have HV := Lib.hid (show NewU w.heap.size wr u7 (lineI x y t) by
        have := HO.out; rw [List.take_of_length_le (by rw [HLL.out]; exact Nat.le_refl _)] at this; exact this)
      go_wp2
      go_ret
      exact ⟨_, rfl, HV.out, hb⟩
theorem copied4' (w : World) (x y z u : Value) (t : Nat) : ∃ W, w.alloc (.cells #[x, y, z, u] t) = W ∧ W.cell? ⟨w.heap.size, 0, none⟩ = some x ∧ W.cell? ⟨w.heap.size, 1, none⟩ = some y ∧ W.cell? ⟨w.heap.size, 2, none⟩ = some z ∧ W.cell? ⟨w.heap.size, 3, none⟩ = some u ∧ Below w.heap.size w W ∧ W.heap.size = w.heap.size + 1 := by
  refine ⟨_, rfl, ?_, ?_, ?_, ?_, (Below.refl _ _).alloc (Nat.le_refl _) _, by simp⟩
  · rw [World.cell?_alloc_at _ _ _ _ rfl]; rfl
  · rw [World.cell?_alloc_at _ _ _ _ rfl]; rfl
  · rw [World.cell?_alloc_at _ _ _ _ rfl]; rfl
  · rw [World.cell?_alloc_at _ _ _ _ rfl]; rfl
/-- four tables, in numbers -/
structure Ti where
  a : List Int
  m : List Int
  x : List Int
  y : List Int
def Ti.toF (T : Ti) : Tb := ⟨T.a.map phi, T.m.map phi, T.x.map phi, T.y.map phi⟩
structure Ti.Len (T : Ti) (N : Nat) : Prop where
  a : T.a.length = N
  m : T.m.length = N
  x : T.x.length = N
  y : T.y.length = N
/-- v is a table of four slices that reads as T -/
def IsT (w : World) (v : Value) (T : Ti) : Prop := ∃ va vm vx vy, v = .agg #[va, vm, vx, vy] ∧ RowU w va T.a ∧ RowU w vm T.m ∧ RowU w vx T.x ∧ RowU w vy T.y
theorem IsT.go {w w' : World} {v : Value} {T : Ti} (h : IsT w v T) (hb : Below w.heap.size w w') : IsT w' v T := by
  obtain ⟨va, vm, vx, vy, rfl, h1, h2, h3, h4⟩ := h
  exact ⟨va, vm, vx, vy, rfl, h1.go hb, h2.go hb, h3.go hb, h4.go hb⟩
/-- v is a table of four slices of one's own, from block B on, that reads as T -/
def NewT (B : Nat) (w : World) (v : Value) (T : Ti) : Prop := ∃ va vm vx vy, v = .agg #[va, vm, vx, vy] ∧ NewU B w va T.a ∧ NewU B w vm T.m ∧ NewU B w vx T.x ∧ NewU B w vy T.y
theorem NewT.isT {B : Nat} {w : World} {v : Value} {T : Ti} (h : NewT B w v T) : IsT w v T := by
  obtain ⟨va, vm, vx, vy, rfl, h1, h2, h3, h4⟩ := h
  exact ⟨va, vm, vx, vy, rfl, h1.row, h2.row, h3.row, h4.row⟩
theorem NewT.go {B : Nat} {w w' : World} {v : Value} {T : Ti} (h : NewT B w v T) (hb : Below w.heap.size w w') : NewT B w' v T := by
  obtain ⟨va, vm, vx, vy, rfl, h1, h2, h3, h4⟩ := h
  exact ⟨va, vm, vx, vy, rfl, h1.below hb (Nat.le_refl _), h2.below hb (Nat.le_refl _), h3.below hb (Nat.le_refl _), h4.below hb (Nat.le_refl _)⟩
theorem NewT.mono {B B' : Nat} {w : World} {v : Value} {T : Ti} (h : NewT B w v T) (hB : B' ≤ B) : NewT B' w v T := by
  obtain ⟨va, vm, vx, vy, rfl, h1, h2, h3, h4⟩ := h
  exact ⟨va, vm, vx, vy, rfl, h1.mono hB, h2.mono hB, h3.mono hB, h4.mono hB⟩
theorem NewT.grown {B : Nat} {w w' : World} {v : Value} {T : Ti} {r : Option Nat} (h : NewT B w v T) (hg : w.grownBy w' r) (hr : ∀ g, r = some g → g < B ∨ w.heap.size ≤ g) : NewT B w' v T := by
  have go : ∀ {v : Value} {l : List Int}, NewU B w v l → NewU B w' v l := fun h => h.grownOther hg fun g hv e => by
    have h1 := h.lt hv
    rcases hr g e with h2 | h2 <;> omega
  obtain ⟨va, vm, vx, vy, rfl, h1, h2, h3, h4⟩ := h
  exact ⟨va, vm, vx, vy, rfl, go h1, go h2, go h3, go h4⟩
theorem term_step (T : Ti) (N k : Nat) (hL : T.Len N) (hk : k < N) {s : Int} (h : s = psi (sumTo T.toF.term k)) :
    psi (phi (psi (phi s + phi (psi (phi (at0 T.a k) * phi (psi (phi (at0 T.x k) + phi (at0 T.y k))))))) + phi (psi (phi (at0 T.m k) * phi (psi (phi (at0 T.x k) * phi (at0 T.y k)))))) = psi (sumTo T.toF.term (k + 1)) := by
  rw [h]; simp only [phi_psi]
  show _ = psi (sumTo T.toF.term k + (atF (T.a.map phi) k * (atF (T.x.map phi) k + atF (T.y.map phi) k) + atF (T.m.map phi) k * (atF (T.x.map phi) k * atF (T.y.map phi) k)))
  rw [atF_map T.a k (by rw [hL.a]; exact hk), atF_map T.m k (by rw [hL.m]; exact hk), atF_map T.x k (by rw [hL.x]; exact hk), atF_map T.y k (by rw [hL.y]; exact hk)]
  congr 1; grind
set_option maxHeartbeats 2000000 in
theorem gkr_sum (T : Ti) (N : Nat) (v : Value) (w : World) (h : IsT w v T) (hL : T.Len N) (hN : N ≤ 65536) :
    Calls Tryz.prog 163 #[v] w fun e w' => e = .returned (.int .u64 (psi T.toF.sum)) ∧ Below w.heap.size w w' := by
  obtain ⟨va, vm, vx, vy, rfl, ha, hm, hx, hy⟩ := h
  obtain ⟨ua, _, aa, ca, rfl, sa⟩ := ha
  obtain ⟨um, _, am, cm, rfl, sm⟩ := hm
  obtain ⟨ux, _, ax, cx, rfl, sx⟩ := hx
  obtain ⟨uy, _, ay, cy, rfl, sy⟩ := hy
  rw [hL.a, hL.m, hL.x, hL.y]
  rw [hL.a] at sa; rw [hL.m] at sm; rw [hL.x] at sx; rw [hL.y] at sy
  have Sa := Lib.hid sa; have Sm := Lib.hid sm; have Sx := Lib.hid sx; have Sy := Lib.hid sy
  have Ua := Lib.hid ua; have Um := Lib.hid um; have Ux := Lib.hid ux; have Uy := Lib.hid uy
  have HL := Lib.hid hL
  have HE := Lib.hid (show T.toF.sum = sumTo T.toF.term N by unfold Tb.sum; rw [show T.toF.a.length = N by show (T.a.map phi).length = N; rw [List.length_map, hL.a]])
  clear sa sm sx sy ua um ux uy hL
  go_enter Tryz.func163, Tryz.ntmps163
  go_wp2_with (fail)
  obtain ⟨W1, hW, k0, k1, k2, k3, B1, s1⟩ := copied4' w (.slice aa N ca) (.slice am N cm) (.slice ax N cx) (.slice ay N cy) 198
  rw [hW]
  have L1 : w.heap.size < W1.heap.size := by omega
  have H1 := Lib.hid B1
  clear hW s1 B1
  go_loopw [3, 8] (fun o i wr => ∃ (k : Nat) (s : Int), k ≤ N ∧ i = .int .i64 (k : Int) ∧ o = .int .u64 s ∧ Hid (s = psi (sumTo T.toF.term k)) ∧ Hid (Below W1.heap.size W1 wr)) (fun _ i _ => N - (intOf i).toNat)
  case atStart => exact ⟨0, 0, by omega, rfl, rfl, psi_zero.symm, Below.refl _ _⟩
  case round =>
    obtain ⟨k, s, hk, rfl, rfl, Hs, HB⟩ := hrel
    have q0 := (HB.out.cell (p := ⟨w.heap.size, 0, none⟩) L1).trans k0
    have q1 := (HB.out.cell (p := ⟨w.heap.size, 1, none⟩) L1).trans k1
    have q2 := (HB.out.cell (p := ⟨w.heap.size, 2, none⟩) L1).trans k2
    have q3 := (HB.out.cell (p := ⟨w.heap.size, 3, none⟩) L1).trans k3
    by_cases hz : k < N
    · have hb := H1.out.trans (HB.out.mono H1.out.size)
      obtain ⟨ba, oa, rfl, la, fa⟩ := Sa.out (by omega)
      obtain ⟨bm, om, rfl, lm, fm⟩ := Sm.out (by omega)
      obtain ⟨bx, ox, rfl, lx, fx⟩ := Sx.out (by omega)
      obtain ⟨by', oy, rfl, ly, fy⟩ := Sy.out (by omega)
      have cA := (hb.cell (p := ⟨ba, oa + k, none⟩) la).trans (fa k hz)
      have cM := (hb.cell (p := ⟨bm, om + k, none⟩) lm).trans (fm k hz)
      have cX := (hb.cell (p := ⟨bx, ox + k, none⟩) lx).trans (fx k hz)
      have cY := (hb.cell (p := ⟨by', oy + k, none⟩) ly).trans (fy k hz)
      have vA := Ua.out _ (at0_mem (l := T.a) (j := k) (by rw [HL.out.a]; exact hz))
      have vM := Um.out _ (at0_mem (l := T.m) (j := k) (by rw [HL.out.m]; exact hz))
      have vX := Ux.out _ (at0_mem (l := T.x) (j := k) (by rw [HL.out.x]; exact hz))
      have vY := Uy.out _ (at0_mem (l := T.y) (j := k) (by rw [HL.out.y]; exact hz))
      have us := u64_of_psi Hs.out
      have Hst := Lib.hid (term_step T N k HL.out hz Hs.out)
      have hk0 : (0 : Int) ≤ (k : Int) := by omega
      have hkN : (k : Int) < (N : Int) := by omega
      clear fa fm fx fy k0 k1 k2 k3 hb
      generalize at0 T.a k = XA at *
      generalize at0 T.m k = XM at *
      generalize at0 T.x k = XX at *
      generalize at0 T.y k = XY at *
      go_wp2_with (fail)
      go_quiet (first | (go_at_call 112; exact flip (field_Mul _ _ _ (by first | assumption | exact U64.psi _ | exact U64.zero | exact U64.one | exact U64.mk (by decide) (by decide)) (by first | assumption | exact U64.psi _ | exact U64.zero | exact U64.one | exact U64.mk (by decide) (by decide)))) | (go_at_call 108; exact flip (field_Add _ _ _ (by first | assumption | exact U64.psi _ | exact U64.zero | exact U64.one | exact U64.mk (by decide) (by decide)) (by first | assumption | exact U64.psi _ | exact U64.zero | exact U64.one | exact U64.mk (by decide) (by decide)))))
      have HBq := Lib.hid (below_drewN HB.out nq)
      have q1' : (wr.drewN nq).cell? ⟨w.heap.size, 1, none⟩ = _ := q1
      have q2' : (wr.drewN nq).cell? ⟨w.heap.size, 2, none⟩ = _ := q2
      have q3' : (wr.drewN nq).cell? ⟨w.heap.size, 3, none⟩ = _ := q3
      have cM' : (wr.drewN nq).cell? ⟨bm, om + k, none⟩ = _ := cM
      have cX' : (wr.drewN nq).cell? ⟨bx, ox + k, none⟩ = _ := cX
      have cY' : (wr.drewN nq).cell? ⟨by', oy + k, none⟩ = _ := cY
      clear q0 q1 q2 q3 cA cM cX cY
      generalize wr.drewN nq = wq at *
      go_wp2_with (fail)
      go_quiet (first | (go_at_call 112; exact flip (field_Mul _ _ _ (by first | assumption | exact U64.psi _ | exact U64.zero | exact U64.one | exact U64.mk (by decide) (by decide)) (by first | assumption | exact U64.psi _ | exact U64.zero | exact U64.one | exact U64.mk (by decide) (by decide)))) | (go_at_call 108; exact flip (field_Add _ _ _ (by first | assumption | exact U64.psi _ | exact U64.zero | exact U64.one | exact U64.mk (by decide) (by decide)) (by first | assumption | exact U64.psi _ | exact U64.zero | exact U64.one | exact U64.mk (by decide) (by decide)))))
      go_wp2
      go_roundw
      case rel => exact ⟨k + 1, _, by omega, by go_num, rfl, Hst.out, below_drewN HBq.out _⟩
      case measure => simp [intOf]; omega
    · obtain rfl : k = N := by omega
      have HF := Lib.hid (show s = psi T.toF.sum by rw [HE.out]; exact Hs.out)
      go_wp2
      go_ret
      exact ⟨ret_u64 HF.out, H1.out.trans (HB.out.mono H1.out.size)⟩
end Go.Proofs.YtlfneeobnihocaaGreatDoor
