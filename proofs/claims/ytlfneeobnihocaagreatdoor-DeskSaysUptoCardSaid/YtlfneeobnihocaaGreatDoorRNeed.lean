/- Several texts in one: Small, RShaped, RNeed. What each says, and its conditions, stands at its head. -/
import Derived.Test.YtlfneeobnihocaaGreatDoorRunW
import Derived.Test.YtlfneeobnihocaaGreatDoorFar
import Derived.Test.YtlfneeobnihocaaGreatDoorWireS
import Derived.Test.YtlfneeobnihocaaGreatDoorGkrVerW
import Derived.Test.YtlfneeobnihocaaGreatDoorFiatW
/- The walks of the laws' small: is a circuit right, of layers of at most four gates? The circuit is a value that reads as data. -/
namespace Go.Proofs.YtlfneeobnihocaaGreatDoor
set_option maxRecDepth 100000
set_option linter.unusedVariables false
open Go.RowKit Tally
structure SmallC (c : Ci) : Prop where
 layers : ∀ j, j < c.layers.length → (aty c.layers j).log ≤ 2
 right : checkC c = 0
 log : c.log ≤ 2
noncomputable instance (c : Ci) : Decidable (SmallC c) := Classical.propDecidable _
theorem ret_b {a b : Bool} (h : a = b) : Ending.returned (.bool a) = .returned (.bool b) := by rw [h]
end Go.Proofs.YtlfneeobnihocaaGreatDoor
/- The walk of the reference's Shaped: is a proof as it must be? The circuit is right; the proof is a value that reads as data. -/
namespace Go.Proofs.YtlfneeobnihocaaGreatDoor
set_option maxRecDepth 100000
set_option linter.unusedVariables false
open Go.RowKit Tally
noncomputable instance (c : Ci) (ps : List Pi) : Decidable (ShapedI c ps) := Classical.propDecidable _
end Go.Proofs.YtlfneeobnihocaaGreatDoor
/- The walks of the reference's Need and line. The circuit is right, a value that reads as data; the lists are slices of 64-bit numbers. -/
namespace Go.Proofs.YtlfneeobnihocaaGreatDoor
set_option maxRecDepth 100000
set_option linter.unusedVariables false
open Go.RowKit Tally
open Go.Sort (grow)
theorem RowU.cut {w : World} {b o D cap : Nat} {d : List Int} (h : RowU w (.slice (some ⟨b, o, none⟩) D cap) d) (p n cap' : Nat) (hn : p + n ≤ D) : RowU w (.slice (some ⟨b, o + p, none⟩) n cap') ((d.drop p).take n) := by
 obtain ⟨hu, h2, a', cp, e, hr⟩ := h
 simp only [Value.slice.injEq] at e
 obtain ⟨rfl, rfl, rfl⟩ := e
 have hl : ((d.drop p).take n).length = n := by rw [List.length_take, List.length_drop]; omega
 refine ⟨fun x hx => hu x (List.mem_of_mem_drop (List.mem_of_mem_take hx)), by omega, _, _, by rw [hl], fun h0 => ?_⟩
 obtain ⟨b', off, eb, hlt, hc⟩ := hr (by omega)
 simp only [Option.some.injEq, Addr.mk.injEq] at eb
 obtain ⟨rfl, rfl, -⟩ := eb
 refine ⟨b, o + p, rfl, hlt, fun j hj => ?_⟩
 rw [hl] at hj
 rw [Nat.add_assoc, hc (p + j) (by omega)]
 have e : at0 ((d.drop p).take n) j = at0 d (p + j) := by simp [at0, hj, List.getElem?_drop]
 rw [e]
theorem RowU.front {w : World} {b o D cap T : Nat} {d : List Int} (h : RowU w (.slice (some ⟨b, o, none⟩) D cap) d) (hT : T ≤ D) : RowU w (.slice (some ⟨b, o, none⟩) T cap) (d.take T) := by
 obtain ⟨hu, h2, a', cap', e, hr⟩ := h
 simp only [Value.slice.injEq] at e
 obtain ⟨rfl, hD, rfl⟩ := e
 refine ⟨fun x hx => hu x (List.mem_of_mem_take hx), by rw [List.length_take]; omega, _, _, by rw [List.length_take, Nat.min_eq_left (by omega)], fun h0 => ?_⟩
 rw [List.length_take] at h0
 obtain ⟨b', off, eb, hlt, hc⟩ := hr (by omega)
 refine ⟨b', off, eb, hlt, fun j hj => ?_⟩
 rw [List.length_take] at hj
 rw [hc j (by omega)]
 have e : at0 (d.take T) j = at0 d j := by simp [at0, show j < T by omega]
 rw [e]
theorem RowP.partR {w : World} {v : Value} {l : List Pi} (h : RowP w v l) {j : Nat} (hj : j < l.length) {k : Nat} (hP : PiOk (atp l j) k) :
  ∃ b o cp aR cR bL oL cL, v = .slice (some ⟨b, o, none⟩) l.length cp ∧ b < w.heap.size ∧ w.cell? ⟨b, o + j * 2, none⟩ = some (.slice aR (2 * k) cR) ∧ w.cell? ⟨b, o + j * 2 + 1, none⟩ = some (.slice (some ⟨bL, oL, none⟩) (k + 1) cL) ∧
   RowUU w (.slice aR (2 * k) cR) (atp l j).rounds ∧ RowU w (.slice (some ⟨bL, oL, none⟩) (k + 1) cL) (atp l j).line := by
 obtain ⟨_, a, cap, rfl, hr⟩ := h
 obtain ⟨b, off, rfl, hlt, hc⟩ := hr (by omega)
 obtain ⟨u, u2, c1, c2, r1, r2⟩ := hc j hj
 have h1 := r1; have h2 := r2
 obtain ⟨_, aR, cR, rfl, -⟩ := r1
 obtain ⟨_, _, aL, cL, rfl, hL⟩ := r2
 obtain ⟨bL, oL, rfl, -⟩ := hL (by rw [hP.l]; omega)
 rw [hP.n] at c1 h1; rw [hP.l] at c2 h2
 exact ⟨b, off, cap, aR, cR, bL, oL, cL, rfl, hlt, c1, c2, h1, h2⟩
set_option maxHeartbeats 2000000 in
theorem ref_Need (v : Value) (c : Ci) (w : World) (h : IsC w v c) (hG : Good c) :
  Calls Tryz.prog 119 #[v] w fun e w' => e = .returned (.int .i64 (drawsN c)) ∧ Below w.heap.size w w' := by
 have HC := zH h; have HG := zH hG
 obtain ⟨ac, cc, rfl⟩ := h.shape
 have hn1 := hG.n1; have hn4 := hG.n4
 obtain ⟨hlog, uu, e, hL⟩ := h
 simp only [Value.agg.injEq, Array.mk.injEq, List.cons.injEq] at e
 obtain ⟨-, rfl, -⟩ := e
 obtain ⟨hls, hll, a', cap', e, hr⟩ := hL
 cases e
 obtain ⟨m, hm⟩ : ∃ m, c.layers.length = m + 1 := ⟨c.layers.length - 1, by omega⟩
 have hbl : belowLog c c.layers.length = (aty c.layers m).log := by rw [hm, belowLog_succ]
 obtain ⟨b, off, rfl, hblt, hcell⟩ := hr (by omega)
 obtain ⟨c1, _⟩ := hcell m (by omega)
 have t0 := hG.below0 (k := c.layers.length) (Nat.le_refl _)
 have t4 := hG.below4 (k := c.layers.length) (Nat.le_refl _)
 rw [← hbl] at c1
 have HD := zH (show drawsN c = (belowLog c c.layers.length).toNat + needFrom c c.layers.length from rfl)
 generalize belowLog c c.layers.length = top at *
 obtain ⟨T, rfl⟩ : ∃ T : Nat, top = (T : Int) := ⟨top.toNat, by omega⟩
 have hs1 : (c.layers.length : Int) - 1 = (m : Int) := by omega
 have hml : (m : Int) < (c.layers.length : Int) := by omega
 have hm0 : (1 : Int) ≤ (c.layers.length : Int) := by omega
 have hm4 : (c.layers.length : Int) ≤ 4 := by omega
 clear hcell hr hls hll hm hlog hbl hG
 go_enter Tryz.func119, Tryz.ntmps119
 go_wp2_with (fail)
 obtain ⟨W1, hW, k0, k1, B1, s1⟩ := copied2' w (.int .i64 c.log) (.slice (some ⟨b, off, none⟩) c.layers.length cc) 62
 rw [hW]
 obtain ⟨tb, htb⟩ : ∃ tb, tb = w.heap.size := ⟨_, rfl⟩
 rw [← htb] at k0 k1 s1 ⊢
 have HX1 := zH (show Boxed tb (.int .i64 c.log) (.slice (some ⟨b, off, none⟩) c.layers.length cc) W1 from ⟨k0, k1, by omega⟩)
 have H1 := zH B1
 clear hW s1 k0 k1 B1 htb c1 hs1 hml
 go_loopw [4, 3] (fun i n wr => ∃ j s : Nat, j ≤ c.layers.length ∧ i = .int .i64 (j : Int) ∧ n = .int .i64 (s : Int) ∧ s ≤ 40 ∧ Hid (s = T + needFrom c j) ∧ Hid (Below W1.heap.size W1 wr)) (fun i _ _ => c.layers.length - (intOf i).toNat)
 case atStart => exact ⟨0, T, by omega, rfl, rfl, by omega, by simp [Hid, needFrom], Below.refl _ _⟩
 case round =>
  obtain ⟨j, s, hj, rfl, rfl, hs, Hs, HB⟩ := hrel
  have HXr := zH (HX1.out.go HB.out)
  have Hbr := zH (below_two H1.out HB.out)
  have q0 := HXr.out.c0; have q1 := HXr.out.c1
  by_cases hz : j < c.layers.length
  ·have hb0 := HG.out.below0 (k := j) (by omega)
   have hb4 := HG.out.below4 (k := j) (by omega)
   have Hn := zH (show needFrom c (j + 1) = 2 * (belowLog c j).toNat + 1 + needFrom c j from rfl)
   have Hle := zH (need_le HG.out (j + 1) (by omega))
   have CB := zH (fun d' os => show Calls Tryz.prog 121 #[.agg #[.int .i64 c.log, .slice (some ⟨b, off, none⟩) c.layers.length cc], .int .i64 j] (grow (redrawn wr d') os) fun e w'' => e = .returned (.int .i64 (belowLog c j)) ∧ ∃ p : Regrown, w'' = grow (redrawn wr p.d) p.os from
    Calls.regrown_of (ref_Below _ c j _ (HC.out.go (below_two Hbr.out (below_regrown wr d' os))) (by omega) hn4))
   have g0 := cell_regrown q0; have g1 := cell_regrown q1
   generalize belowLog c j = bl at *
   obtain ⟨B, rfl⟩ : ∃ B : Nat, bl = (B : Int) := ⟨bl.toNat, by omega⟩
   have h1 : IntKind.i64.wrap ((B : Int) + (B : Int)) = (B : Int) + (B : Int) := IntWalk.i64_in _ (by omega)
   have h2 : IntKind.i64.wrap ((B : Int) + (B : Int) + 1) = (B : Int) + (B : Int) + 1 := IntWalk.i64_in _ (by omega)
   have h3 : IntKind.i64.wrap ((s : Int) + ((B : Int) + (B : Int) + 1)) = ((s + (2 * B + 1) : Nat) : Int) := by rw [show (s : Int) + ((B : Int) + (B : Int) + 1) = ((s + (2 * B + 1) : Nat) : Int) by omega]; exact IntWalk.i64_in _ (by omega)
   go_wp2_with (fail)
   clear q0 q1
   refine wp_region_quiet_below (by kernel_rfl) (by kernel_rfl) ?_
   repeat (any_goals (first | go_big_quiet_step (first | (go_at_call 121; with_reducible exact CB.out _ _)) | quiet_step (first | (go_at_call 121; with_reducible exact CB.out _ _))))
   refine wpQuiet_nil ?_; intro _ hw'; obtain ⟨⟨dq, osq⟩, hw''⟩ := hw'; subst hw''
   have HE := zH (HB.out.trans ((below_regrown wr dq osq).mono HB.out.size))
   clear h1 h2 h3 g0 g1
   go_wp2
   go_roundw
   case rel =>
    refine ⟨j + 1, s + (2 * B + 1), by omega, by go_num, rfl, ?_, ?_, HE.out⟩
    ·have := Hs.out; have h1 := Hn.out; have h2 := Hle.out; have : ((B : Int)).toNat = B := by omega
     rw [this] at h1; omega
    ·have := Hs.out; have h1 := Hn.out; have : ((B : Int)).toNat = B := by omega
     rw [this] at h1
     show s + (2 * B + 1) = T + needFrom c (j + 1)
     omega
   case measure => simp [intOf]; omega
  ·obtain rfl : j = c.layers.length := by omega
   have HF := zH (show (s : Int) = (drawsN c : Int) by
    have h1 := Hs.out; have h2 := HD.out
    rw [h1, h2]; simp)
   go_wp2
   go_ret
   exact ⟨ret_i _ _ HF.out, Hbr.out⟩
set_option maxHeartbeats 2000000 in
theorem ref_line (x y : List Int) (vx vy : Value) (t : Int) (w : World) (hx : RowU w vx x) (hy : RowU w vy y) (hl : y.length = x.length) (h8 : x.length ≤ 1000) (ht : U64 t) :
  Calls Tryz.prog 125 #[vx, vy, .int .u64 t] w fun e w' => ∃ v', e = .returned v' ∧ NewU w.heap.size w' v' (lineI x y t) ∧ Below w.heap.size w w' := by
 obtain ⟨ux, _, ax, cx, rfl, sx⟩ := hx
 obtain ⟨uy, _, ay, cy, rfl, sy⟩ := hy
 have Hl := zH hl
 have Sx := zH sx; have Sy := zH sy; have Ux := zH ux; have Uy := zH uy
 have HLL := zH (lineI_length x y t hl)
 have HS := zH (fun j hj => lineI_snoc x y t j hj hl)
 clear sx sy ux uy hl
 go_enter Tryz.func125, Tryz.ntmps125
 go_wp2
 go_loopw [8, 7] (fun i o wr => ∃ k : Nat, k ≤ x.length ∧ i = .int .i64 (k : Int) ∧ Hid (NewU w.heap.size wr o ((lineI x y t).take k)) ∧ Below w.heap.size w wr) (fun i _ _ => x.length - (intOf i).toNat)
 case atStart => exact ⟨0, by omega, rfl, NewU.nil _ _, Below.refl _ _⟩
 case round =>
  obtain ⟨k, hk, rfl, HO, hb⟩ := hrel
  by_cases hz : k < x.length
  ·have hzy : k < y.length := by rw [Hl.out]; exact hz
   obtain ⟨bx, ox, rfl, hxlt, hxc⟩ := Sx.out (by omega)
   obtain ⟨by', oy, rfl, hylt, hyc⟩ := Sy.out (by omega)
   have cX := (hb.cell (p := ⟨bx, ox + k, none⟩) hxlt).trans (hxc k hz)
   have cY := (hb.cell (p := ⟨by', oy + k, none⟩) hylt).trans (hyc k hzy)
   have uX := Ux.out _ (at0_mem hz)
   have uY := Uy.out _ (at0_mem hzy)
   have Hs := zH (show (lineI x y t).take (k + 1) = (lineI x y t).take k ++ [psi (phi (at0 x k) + phi (psi (phi t * phi (psi (phi (at0 y k) - phi (at0 x k))))))] by rw [HS.out k hz, phi_psi, phi_psi]; rfl)
   have hk0 : (0 : Int) ≤ (k : Int) := by omega
   have hkx : (k : Int) < (x.length : Int) := by omega
   have hky : (k : Int) < (y.length : Int) := by omega
   have hcap : ((lineI x y t).take k).length + 1 ≤ 17592186043904 := by rw [List.length_take, HLL.out]; omega
   have hsz := hb.size
   obtain ⟨wv, rfl⟩ : ∃ x : World, x = wr := ⟨_, rfl⟩
   have hfx : ∀ g, u7.ownBlock = some g → bx ≠ g := fun g hg => by have := (HO.out.lt hg).1; omega
   have hfy : ∀ g, u7.ownBlock = some g → by' ≠ g := fun g hg => by have := (HO.out.lt hg).1; omega
   have hxv : bx < wv.heap.size := by omega
   have hyv : by' < wv.heap.size := by omega
   have HN3 := zH (show NewU w.heap.size wv.drew u7 ((lineI x y t).take k) from HO.out.below (below_drw wv) (Nat.le_refl _))
   have hsz3 : w.heap.size ≤ wv.drew.heap.size := hsz
   clear hxc hyc hky
   have hky : (k : Int) < (y.length : Int) := by omega
   generalize at0 x k = X at *
   generalize at0 y k = Y at *
   go_wp2_with (fail)
   go_region_held3 (fun w' => w'.cell? ⟨bx, ox + k, none⟩ = some (.int .u64 X) ∧ w'.cell? ⟨by', oy + k, none⟩ = some (.int .u64 Y))
    (first
     | go_keep
     | exact ⟨cX, cY⟩
     | exact ⟨hk4 _ _ (show wv.drew.cell? _ = _ from cX) hfx, hk4 _ _ (show wv.drew.cell? _ = _ from cY) hfy⟩)
    (first
     | (go_at_call 44; (with_reducible refine (ref_Sub _ _ _ uY uX).mono ?_); rintro e w3 ⟨rfl, rfl⟩)
     | (go_at_call 45; (with_reducible refine (ref_Mul _ _ _ ht (U64.psi _)).mono ?_); rintro e w3 ⟨rfl, rfl⟩)
     | (go_at_call 43; (with_reducible refine (ref_Add _ _ _ uX (U64.psi _)).mono ?_); rintro e w3 ⟨rfl, rfl⟩)
     | (refine step_appUk rfl _ _ (by rfl) w.heap.size _ _ (by rfl) HN3.out _ (by rfl) (U64.psi _) hcap hsz3 ?_; intro v4 w4 hn4 hb4 hk4; have Hn4 := zH hn4; clear hn4; have hb5 : Below w.heap.size w w4 := (below_drewN hb 1).trans hb4))
   clear cX cY
   go_wp2
   go_roundw
   case rel => exact ⟨k + 1, by omega, by go_num, by rw [Hs.out]; exact Hn4.out, hb5⟩
   case measure => simp [intOf]; omega
  ·obtain rfl : k = x.length := by omega
   have HV := zH (show NewU w.heap.size wr u7 (lineI x y t) by
    have := HO.out; rw [List.take_of_length_le (by rw [HLL.out]; exact Nat.le_refl _)] at this; exact this)
   go_wp2
   go_ret
   exact ⟨_, rfl, HV.out, hb⟩
end Go.Proofs.YtlfneeobnihocaaGreatDoor
