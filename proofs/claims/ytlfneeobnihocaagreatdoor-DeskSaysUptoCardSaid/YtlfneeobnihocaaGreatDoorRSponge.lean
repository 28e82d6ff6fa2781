/- The walks of the reference's sponge: it is mixed as the program's is. -/
import Derived.Test.YtlfneeobnihocaaGreatDoorSponge
import Derived.StillTailTactics
namespace Go.Proofs.YtlfneeobnihocaaGreatDoor
set_option maxRecDepth 100000
set_option linter.unusedVariables false
open Go.RowKit Tally
def RSpAt (w : World) (b : Nat) (s : St) : Prop := w.heap[b]? = some (.cells #[.int .u64 (psi s.x), .int .u64 (psi s.y), .int .u64 (psi s.z)] 182 (0, 0))
theorem RSpAt.cells {w : World} {b : Nat} {s : St} (h : RSpAt w b s) : w.cell? ⟨b, 0, none⟩ = some (.int .u64 (psi s.x)) ∧ w.cell? ⟨b, 1, none⟩ = some (.int .u64 (psi s.y)) ∧ w.cell? ⟨b, 2, none⟩ = some (.int .u64 (psi s.z)) :=
 ⟨cell_blk h 0, cell_blk h 1, cell_blk h 2⟩
theorem RSpAt.free {w : World} {b : Nat} {s : St} (h : RSpAt w b s) (j : Nat) : w.frozen? ⟨b, j, none⟩ = false := free_blk h j
theorem RSpAt.lt {w : World} {b : Nat} {s : St} (h : RSpAt w b s) : b < w.heap.size := blk_lt h
theorem RSpAt.shift {w w' : World} {b : Nat} {s : St} (h : RSpAt w b s) (hb : Below w.heap.size w w') : RSpAt w' b s := (hb.block b h.lt).trans h
def Mid (w : World) (b : Nat) (L : List Int) : Prop := w.heap[b]? = some (.cells (L.map (Value.int .u64)).toArray 182 (0, 0))
theorem Mid.start {w : World} {b : Nat} {s : St} (h : RSpAt w b s) : Mid w b [psi s.x, psi s.y, psi s.z] := h
theorem Mid.cell {w : World} {b : Nat} {L : List Int} (h : Mid w b L) (j : Nat) (hj : j < L.length) : w.cell? ⟨b, j, none⟩ = some (.int .u64 (at0 L j)) := by
 rw [cell_blk h]; simp [at0, hj]
theorem Mid.free {w : World} {b : Nat} {L : List Int} (h : Mid w b L) (j : Nat) : w.frozen? ⟨b, j, none⟩ = false := free_blk h j
def TAt (w : World) (g : Nat) (t0 t1 t2 : Int) : Prop := w.heap[g]? = some (.cells #[.int .u64 t0, .int .u64 t1, .int .u64 t2] 180 (0, 0))
theorem TAt.cell {w : World} {g : Nat} {t0 t1 t2 : Int} (h : TAt w g t0 t1 t2) (j : Nat) (hj : j < 3) : w.cell? ⟨g, j, none⟩ = some (.int .u64 (at0 [t0, t1, t2] j)) := by
 rw [cell_blk h]
 have : j = 0 ∨ j = 1 ∨ j = 2 := by omega
 rcases this with rfl | rfl | rfl <;> rfl
theorem at3_U64 {t0 t1 t2 : Int} (h0 : U64 t0) (h1 : U64 t1) (h2 : U64 t2) (j : Nat) (hj : j < 3) : U64 (at0 [t0, t1, t2] j) := by
 have : j = 0 ∨ j = 1 ∨ j = 2 := by omega
 rcases this with rfl | rfl | rfl
 ·exact h0
 ·exact h1
 ·exact h2
def newv (t0 t1 t2 : Int) (q : Nat) : Int := psi (phi (psi (phi t0 + phi t1)) + phi (psi (phi t2 + phi (at0 [t0, t1, t2] q))))
theorem grownBy_setdrew (w : World) (b j : Nat) (u : Value) : w.grownBy ((w.setCell ⟨b, j, none⟩ u).drew) (some b) :=
 let h := grownBy_setCell w b j u
 ⟨h.os, h.tape, h.output, h.size, h.block⟩
theorem Mid.set {w : World} {b : Nat} {L : List Int} {j : Nat} {v : Int} (h : Mid w b L) : Mid ((w.setCell ⟨b, j, none⟩ (.int .u64 v)).drew) b (L.set j v) := by
 have := blk_setCell h j (.int .u64 v)
 unfold Mid
 show (w.setCell ⟨b, j, none⟩ (.int .u64 v)).heap[b]? = _
 rw [this]; congr 2; simp [List.map_set]
theorem TAt.set {w : World} {g b : Nat} {t0 t1 t2 : Int} {j : Nat} (h : TAt w g t0 t1 t2) (hne : g ≠ b) (u : Value) : TAt ((w.setCell ⟨b, j, none⟩ u).drew) g t0 t1 t2 := by
 unfold TAt
 show (w.setCell ⟨b, j, none⟩ u).heap[g]? = _
 rw [Below.heap_setCell _ _ _ _ hne]; exact h
theorem mid_step {L : List Int} {t0 t1 t2 : Int} (j : Int) (h0 : 0 ≤ j) (h3 : j < 3) (h : L.length = 3 ∧ ∀ q : Nat, q < j.toNat → at0 L q = newv t0 t1 t2 q) :
  (L.set j.toNat (newv t0 t1 t2 j.toNat)).length = 3 ∧ ∀ q : Nat, q < (j + 1).toNat → at0 (L.set j.toNat (newv t0 t1 t2 j.toNat)) q = newv t0 t1 t2 q := by
 refine ⟨by rw [List.length_set]; exact h.1, fun q hq => ?_⟩
 have hl := h.1
 by_cases e : q = j.toNat
 ·subst e; simp only [at0]; rw [List.getElem?_set_self (by omega)]; rfl
 ·simp only [at0]; rw [List.getElem?_set_ne (by omega)]; exact h.2 q (by omega)
def sqs : Nat → F → F
 | 0, x => x
 | j + 1, x => sqs j x * sqs j x
theorem sqs_step {c x : F} {j : Nat} (h : c = sqs j x) : phi (psi c) * phi (psi c) = sqs (j + 1) x := by rw [phi_psi, h]; rfl
theorem t17 {c : F} {x : F} {m : Int} (h : c = sqs 4 (phi (psi x) + phi m)) : psi (phi (psi c) * phi (psi (phi (psi x) + phi m))) = psi (p17 (x + phi m)) := by
 rw [phi_psi, phi_psi, h, phi_psi]
 congr 1
 generalize x + phi m = a
 show sqs 4 a * a = a ^ 17
 have e : a ^ 17 = a ^ 16 * a := pow_succ' a 16
 have e2 : a ^ 16 = a ^ 8 * a ^ 8 := pow_add' a 8 8
 have e3 : a ^ 8 = a ^ 4 * a ^ 4 := pow_add' a 4 4
 have e4 : a ^ 4 = a ^ 2 * a ^ 2 := pow_add' a 2 2
 have e5 : a ^ 2 = a ^ 1 * a ^ 1 := pow_add' a 1 1
 have e6 : a ^ 1 = a := by rw [pow_succ', pow_zero']; grind
 rw [e, e2, e3, e4, e5, e6]; rfl
theorem mid_end {w : World} {b : Nat} {L : List Int} {t0 t1 t2 : Int} {x y z : F} {k : Int} (hM : Mid w b L) (h : L.length = 3 ∧ ∀ q : Nat, q < (3 : Int).toNat → at0 L q = newv t0 t1 t2 q)
  (h0 : t0 = psi (p17 (x + phi (k + 1)))) (h1 : t1 = psi (p17 (y + phi ((k + 1) * 2)))) (h2 : t2 = psi (p17 (z + phi ((k + 1) * 3)))) : RSpAt w b (turn (k + 1) ⟨x, y, z⟩) := by
 obtain ⟨hl, hq⟩ := h
 have q0 := hq 0 (by decide)
 have q1 := hq 1 (by decide)
 have q2 := hq 2 (by decide)
 match L, hl with
 | [a, b', c], _ =>
  simp only [at0, List.getElem?_cons_zero, List.getElem?_cons_succ, Option.getD_some] at q0 q1 q2
  subst q0; subst q1; subst q2
  unfold RSpAt; rw [hM]
  simp only [newv, at0, List.map_cons, List.map_nil, List.getElem?_cons_zero, List.getElem?_cons_succ, Option.getD_some, h0, h1, h2, phi_psi, turn]
  have e2 : (k + 1) * 2 = 2 * (k + 1) := by omega
  have e3 : (k + 1) * 3 = 3 * (k + 1) := by omega
  rw [e2, e3]
  generalize p17 (x + phi (k + 1)) = A
  generalize p17 (y + phi (2 * (k + 1))) = B
  generalize p17 (z + phi (3 * (k + 1))) = C
  have f1 : A + B + (C + A) = A + (B + C) + A := by grind
  have f2 : A + B + (C + B) = A + (B + C) + B := by grind
  have f3 : A + B + (C + C) = A + (B + C) + C := by grind
  rw [f1, f2, f3]
theorem turns_step {k : Int} {s t : St} (hk : 0 ≤ k) (h : t = turns k.toNat s) : turn (k + 1) t = turns (k + 1).toNat s := by
 have e : (k + 1).toNat = k.toNat + 1 := by omega
 rw [e, h]
 show _ = turn ((k.toNat : Int) + 1) _
 rw [Int.toNat_of_nonneg hk]
set_option maxHeartbeats 1000000 in
theorem rsponge_mix (b : Nat) (s : St) (w : World) (h : RSpAt w b s) :
  Calls Tryz.prog 152 #[.pointer (some ⟨b, 0, none⟩)] w fun e w' => e = .returned (.tuple #[]) ∧ RSpAt w' b (mix s) ∧ w.grownBy w' (some b) := by
 go_enter Tryz.func152, Tryz.ntmps152
 go_wp2
 go_loopw [2] (fun i wr => ∃ (k : Int) (t : St), 0 ≤ k ∧ k ≤ 8 ∧ i = .int .i64 (k + 1) ∧ RSpAt wr b t ∧ Hid (t = turns k.toNat s) ∧ w.grownBy wr (some b)) (fun i _ => (9 - intOf i).toNat)
 case atStart => exact ⟨0, s, by omega, by omega, rfl, h, rfl, World.grownBy.refl _ _⟩
 case round =>
  obtain ⟨k, ⟨x, y, z⟩, hk0, hk9, rfl, hb, HT, hg⟩ := hrel
  by_cases hk : k < 8
  ·obtain ⟨hx, hy, hz⟩ := hb.cells
   have f0 := hb.free 0
   have f1 := hb.free 1
   have f2 := hb.free 2
   have hlt := hb.lt
   have u1 : U64 (k + 1) := ⟨by omega, by omega⟩
   have u2 : U64 ((k + 1) * 2) := ⟨by omega, by omega⟩
   have u3 : U64 ((k + 1) * 3) := ⟨by omega, by omega⟩
   have Hb := zH hb
   clear hb
   dsimp only at hx hy hz
   go_wp2
   refine wp_loop_rounds 4 ?_
   rw [rounds_succ]; go_wp2_with (first | (go_at_call 43; (with_reducible refine (ref_Add _ _ _ (by first | assumption | exact U64.psi _ | exact U64.zero | exact U64.one | exact U64.mk (by decide) (by decide)) (by first | assumption | exact U64.psi _ | exact U64.zero | exact U64.one | exact U64.mk (by decide) (by decide))).mono ?_); rintro e w' ⟨rfl, rfl⟩))
   go_loop [6, 7] (fun y' i => ∃ (j : Nat) (c : F), j ≤ 4 ∧ i = .int .i64 (j : Int) ∧ y' = .int .u64 (psi c) ∧ Hid (c = sqs j (phi (psi x) + phi (k + 1)))) (fun _ i => 4 - (intOf i).toNat)
   case atStart => exact ⟨0, _, by omega, rfl, rfl, rfl⟩
   case round =>
    obtain ⟨j0, c0, hj0, rfl, rfl, HC0⟩ := hrel
    by_cases hjj0 : j0 < 4
    ·go_wp2_with (first | (go_at_call 45; (with_reducible refine (ref_Mul _ _ _ (by first | assumption | exact U64.psi _ | exact U64.zero | exact U64.one | exact U64.mk (by decide) (by decide)) (by first | assumption | exact U64.psi _ | exact U64.zero | exact U64.one | exact U64.mk (by decide) (by decide))).mono ?_); rintro e w' ⟨rfl, rfl⟩))
     go_round
     case rel => exact ⟨j0 + 1, _, by omega, by go_num, rfl, sqs_step HC0.out⟩
     case measure => simp [intOf]; omega
    ·obtain rfl : j0 = 4 := by omega
     clear hjj0 hj0
     go_wp2_with (first | (go_at_call 45; (with_reducible refine (ref_Mul _ _ _ (by first | assumption | exact U64.psi _ | exact U64.zero | exact U64.one | exact U64.mk (by decide) (by decide)) (by first | assumption | exact U64.psi _ | exact U64.zero | exact U64.one | exact U64.mk (by decide) (by decide))).mono ?_); rintro e w' ⟨rfl, rfl⟩))
     rw [rounds_succ]; go_wp2_with (first | (go_at_call 43; (with_reducible refine (ref_Add _ _ _ (by first | assumption | exact U64.psi _ | exact U64.zero | exact U64.one | exact U64.mk (by decide) (by decide)) (by first | assumption | exact U64.psi _ | exact U64.zero | exact U64.one | exact U64.mk (by decide) (by decide))).mono ?_); rintro e w' ⟨rfl, rfl⟩))
     go_loop [6, 7] (fun y' i => ∃ (j : Nat) (c : F), j ≤ 4 ∧ i = .int .i64 (j : Int) ∧ y' = .int .u64 (psi c) ∧ Hid (c = sqs j (phi (psi y) + phi ((k + 1) * 2)))) (fun _ i => 4 - (intOf i).toNat)
     case atStart => exact ⟨0, _, by omega, rfl, rfl, rfl⟩
     case round =>
      obtain ⟨j1, c1, hj1, rfl, rfl, HC1⟩ := hrel
      by_cases hjj1 : j1 < 4
      ·go_wp2_with (first | (go_at_call 45; (with_reducible refine (ref_Mul _ _ _ (by first | assumption | exact U64.psi _ | exact U64.zero | exact U64.one | exact U64.mk (by decide) (by decide)) (by first | assumption | exact U64.psi _ | exact U64.zero | exact U64.one | exact U64.mk (by decide) (by decide))).mono ?_); rintro e w' ⟨rfl, rfl⟩))
       go_round
       case rel => exact ⟨j1 + 1, _, by omega, by go_num, rfl, sqs_step HC1.out⟩
       case measure => simp [intOf]; omega
      ·obtain rfl : j1 = 4 := by omega
       clear hjj1 hj1
       go_wp2_with (first | (go_at_call 45; (with_reducible refine (ref_Mul _ _ _ (by first | assumption | exact U64.psi _ | exact U64.zero | exact U64.one | exact U64.mk (by decide) (by decide)) (by first | assumption | exact U64.psi _ | exact U64.zero | exact U64.one | exact U64.mk (by decide) (by decide))).mono ?_); rintro e w' ⟨rfl, rfl⟩))
       rw [rounds_succ]; go_wp2_with (first | (go_at_call 43; (with_reducible refine (ref_Add _ _ _ (by first | assumption | exact U64.psi _ | exact U64.zero | exact U64.one | exact U64.mk (by decide) (by decide)) (by first | assumption | exact U64.psi _ | exact U64.zero | exact U64.one | exact U64.mk (by decide) (by decide))).mono ?_); rintro e w' ⟨rfl, rfl⟩))
       go_loop [6, 7] (fun y' i => ∃ (j : Nat) (c : F), j ≤ 4 ∧ i = .int .i64 (j : Int) ∧ y' = .int .u64 (psi c) ∧ Hid (c = sqs j (phi (psi z) + phi ((k + 1) * 3)))) (fun _ i => 4 - (intOf i).toNat)
       case atStart => exact ⟨0, _, by omega, rfl, rfl, rfl⟩
       case round =>
        obtain ⟨j2, c2, hj2, rfl, rfl, HC2⟩ := hrel
        by_cases hjj2 : j2 < 4
        ·go_wp2_with (first | (go_at_call 45; (with_reducible refine (ref_Mul _ _ _ (by first | assumption | exact U64.psi _ | exact U64.zero | exact U64.one | exact U64.mk (by decide) (by decide)) (by first | assumption | exact U64.psi _ | exact U64.zero | exact U64.one | exact U64.mk (by decide) (by decide))).mono ?_); rintro e w' ⟨rfl, rfl⟩))
         go_round
         case rel => exact ⟨j2 + 1, _, by omega, by go_num, rfl, sqs_step HC2.out⟩
         case measure => simp [intOf]; omega
        ·obtain rfl : j2 = 4 := by omega
         clear hjj2 hj2
         go_wp2_with (first | (go_at_call 45; (with_reducible refine (ref_Mul _ _ _ (by first | assumption | exact U64.psi _ | exact U64.zero | exact U64.one | exact U64.mk (by decide) (by decide)) (by first | assumption | exact U64.psi _ | exact U64.zero | exact U64.one | exact U64.mk (by decide) (by decide))).mono ?_); rintro e w' ⟨rfl, rfl⟩))
         rw [rounds_succ]; go_wp2
         have H0 := zH (t17 HC0.out)
         have H1 := zH (t17 HC1.out)
         have H2 := zH (t17 HC2.out)
         have ut0 : U64 (psi (phi (psi c0) * phi (psi (phi (psi x) + phi (k + 1))))) := U64.psi _
         have ut1 : U64 (psi (phi (psi c1) * phi (psi (phi (psi y) + phi ((k + 1) * 2))))) := U64.psi _
         have ut2 : U64 (psi (phi (psi c2) * phi (psi (phi (psi z) + phi ((k + 1) * 3))))) := U64.psi _
         clear HC0 HC1 HC2
         generalize psi (phi (psi c0) * phi (psi (phi (psi x) + phi (k + 1)))) = t0 at *
         generalize psi (phi (psi c1) * phi (psi (phi (psi y) + phi ((k + 1) * 2)))) = t1 at *
         generalize psi (phi (psi c2) * phi (psi (phi (psi z) + phi ((k + 1) * 3)))) = t2 at *
         have hB : RSpAt (wr.alloc (.cells #[.int .u64 t0, .int .u64 t1, .int .u64 t2] 180)) b ⟨x, y, z⟩ := Hb.out.shift (Below.alloc (Below.refl _ _) (Nat.le_refl _) _)
         have hgW : w.grownBy (wr.alloc (.cells #[.int .u64 t0, .int .u64 t1, .int .u64 t2] 180)) (some b) := grownBy_trans hg (World.grownBy_alloc _ _ _)
         have hTW : (wr.alloc (.cells #[.int .u64 t0, .int .u64 t1, .int .u64 t2] 180)).heap[wr.heap.size]? = some (.cells #[.int .u64 t0, .int .u64 t1, .int .u64 t2] 180 (0, 0)) := alloc_blk _ _
         have hne : wr.heap.size ≠ b := by omega
         generalize wr.alloc (.cells #[.int .u64 t0, .int .u64 t1, .int .u64 t2] 180) = W at *
         clear hx hy hz f0 f1 f2
         go_loopw [8] (fun i wv => ∃ (j : Int) (L : List Int), 0 ≤ j ∧ j ≤ 3 ∧ i = .int .i64 j ∧ Mid wv b L ∧ Hid (L.length = 3 ∧ ∀ q : Nat, q < j.toNat → at0 L q = newv t0 t1 t2 q) ∧ TAt wv wr.heap.size t0 t1 t2 ∧ W.grownBy wv (some b)) (fun i _ => 3 - (intOf i).toNat)
         case atStart => exact ⟨0, _, by omega, by omega, rfl, Mid.start hB, ⟨rfl, fun q hq => absurd hq (by simp)⟩, hTW, World.grownBy.refl _ _⟩
         case round =>
          obtain ⟨j, L, hj0, hj3, rfl, hM, HL, hT, hgv⟩ := hrel
          by_cases hjj : j < 3
          ·have hL3 : L.length = 3 := HL.out.1
           have hc0 := hT.cell 0 (by omega)
           have hc1 := hT.cell 1 (by omega)
           have hc2 := hT.cell 2 (by omega)
           have hcj := hT.cell j.toNat (by omega)
           have hutj : U64 (at0 [t0, t1, t2] j.toNat) := at3_U64 ut0 ut1 ut2 _ (by omega)
           have hbj := hM.cell j.toNat (by omega)
           have hfj := hM.free j.toNat
           have HM := zH hM
           have HT := zH hT
           clear hM hT
           go_wp2
           refine wp_region_still_tail 17 (by kernel_rfl) (by kernel_rfl) ?_
           simp only [List.take_succ_cons, List.take_zero, List.drop_succ_cons, List.drop_zero]
           repeat (first | still_step | still_call (still_of (ref_Add _ _ _ (by first | assumption | exact U64.psi _ | exact U64.zero | exact U64.one | exact U64.mk (by decide) (by decide)) (by first | assumption | exact U64.psi _ | exact U64.zero | exact U64.one | exact U64.mk (by decide) (by decide)))))
           try refine wpStill_nil ?_
           change wpList _ _ _ _ _ (World.drew _)
           go_wp2
           go_roundw
           case rel => exact ⟨j + 1, L.set j.toNat (newv t0 t1 t2 j.toNat), by omega, by omega, rfl, Mid.set HM.out, mid_step j hj0 hjj HL.out, TAt.set HT.out hne _, grownBy_trans hgv (grownBy_setdrew _ _ _ _)⟩
           case measure => simp [intOf]; omega
          ·obtain rfl : j = 3 := by omega
           go_wp2
           go_roundw
           case rel => exact ⟨k + 1, _, by omega, by omega, rfl, mid_end hM HL.out H0.out H1.out H2.out, turns_step hk0 HT.out, grownBy_trans hgW hgv⟩
           case measure => simp [intOf]; omega
  ·obtain rfl : k = 8 := by omega
   go_wp2
   go_end0
   exact ⟨rfl, by rw [show mix s = turns (8 : Int).toNat s from rfl, ← HT.out]; exact hb, hg⟩
theorem RSpAt.new (w : World) (z : F) : RSpAt (w.alloc (.cells #[.int .u64 0, .int .u64 1, .int .u64 (psi z)] 182)) w.heap.size ⟨0, 1, z⟩ := by
 unfold RSpAt; rw [alloc_blk, psi_zero, psi_one]
theorem RSpAt.set0 {w : World} {b : Nat} {s : St} (h : RSpAt w b s) (x : F) {X : Int} (hx : X = psi x) : RSpAt (w.setCell ⟨b, 0, none⟩ (.int .u64 X)) b ⟨x, s.y, s.z⟩ := by
 subst hx; exact blk_setCell h 0 _
theorem RSpAt.drew {w : World} {b : Nat} {s : St} (h : RSpAt w b s) : RSpAt w.drew b s := h
set_option maxHeartbeats 400000 in
theorem rsponge_Give (b : Nat) (s : St) (w : World) (h : RSpAt w b s) :
  Calls Tryz.prog 116 #[.pointer (some ⟨b, 0, none⟩)] w fun e w' => e = .returned (.int .u64 (psi s.y)) ∧ RSpAt w' b (mix s) ∧ w.grownBy w' (some b) := by
 obtain ⟨hx, hy, hz⟩ := h.cells
 have H := zH h
 clear h
 go_enter Tryz.func116, Tryz.ntmps116
 go_wp2_with (go_at_call 152; (with_reducible refine (rsponge_mix _ s _ H.out).mono ?_); rintro e w' ⟨rfl, h1, h2⟩)
 go_ret
 exact ⟨rfl, h1, h2⟩
set_option maxHeartbeats 400000 in
theorem rsponge_New (n : Int) (w : World) (hn : U64 n) :
  Calls Tryz.prog 114 #[.int .u64 n] w fun e w' => ∃ b, e = .returned (.pointer (some ⟨b, 0, none⟩)) ∧ w.heap.size ≤ b ∧ RSpAt w' b (newS n) ∧ Below w.heap.size w w' := by
 go_enter Tryz.func114, Tryz.ntmps114
 go_wp2_with (first | (go_at_call 47; (with_reducible refine (ref_Norm _ _ (by first | assumption | exact U64.psi _ | exact U64.zero | exact U64.one | exact U64.mk (by decide) (by decide))).mono ?_); rintro e w' ⟨rfl, rfl⟩) | (go_at_call 152; (with_reducible refine (rsponge_mix _ _ _ (RSpAt.new _ _)).mono ?_); rintro e w' ⟨rfl, h1, h2⟩))
 go_ret
 exact ⟨_, rfl, Nat.le_refl _, h1, ((Below.refl _ _).alloc (Nat.le_refl _) _).trans (below_of_grownBy h2 (Nat.le_refl _) (by simp))⟩
def taken (l : List Int) (s : St) : Nat → St
 | 0 => s
 | j + 1 => tookL (l.take j) (took l.length s)
theorem taken_step (l : List Int) (s : St) (j : Nat) (h0 : 0 < j) (hj : j ≤ l.length) {w : World} {b : Nat} (h : RSpAt w b (mix ⟨(taken l s j).x + phi (at0 l (j - 1)), (taken l s j).y, (taken l s j).z⟩)) : RSpAt w b (taken l s (j + 1)) := by
 obtain ⟨i, rfl⟩ : ∃ i, j = i + 1 := ⟨j - 1, by omega⟩
 show RSpAt w b (tookL (l.take (i + 1)) _)
 rw [tookL_snoc l i _ (by omega)]; exact h
theorem taken_all (l : List Int) (s : St) {w : World} {b : Nat} (h : RSpAt w b (taken l s (l.length + 1))) : RSpAt w b (takeL l s) := by
 have h' : RSpAt w b (tookL (l.take l.length) (took l.length s)) := h
 rwa [List.take_of_length_le (Nat.le_refl _)] at h'
set_option maxHeartbeats 400000 in
theorem rsponge_Take (b : Nat) (s : St) (v : Value) (l : List Int) (w : World) (h : RSpAt w b s) (hp : RowU w v l) (hs : Sep v b) (hl : l.length ≤ 1000) :
  Calls Tryz.prog 115 #[.pointer (some ⟨b, 0, none⟩), v] w fun e w' => e = .returned (.tuple #[]) ∧ RSpAt w' b (takeL l s) ∧ w.grownBy w' (some b) := by
 have hat := zH (fun j => @RowU.at _ _ _ hp j)
 obtain ⟨h1, h2, a, cap, rfl, hr⟩ := hp
 have Hr := zH hr
 have Hs := zH hs
 have H := zH h
 have ul : U64 (l.length : Int) := ⟨by omega, by omega⟩
 clear hr h1 hs h
 go_enter Tryz.func115, Tryz.ntmps115
 go_wp2
 go_loopw [4] (fun i wr => ∃ (j : Nat), j ≤ l.length + 1 ∧ i = .int .i64 ((j : Int) - 1) ∧ RSpAt wr b (taken l s j) ∧ w.grownBy wr (some b)) (fun i _ => l.length - (intOf i).toNat + (if intOf i = -1 then 1 else 0))
 case atStart => exact ⟨0, by omega, rfl, H.out, World.grownBy.refl _ _⟩
 case round =>
  obtain ⟨j, hj, rfl, hb, hg⟩ := hrel
  by_cases hj0 : j = 0
  ·subst hj0
   obtain ⟨hx, hy, hz⟩ := hb.cells
   have f0 := hb.free 0
   have Hb := zH hb
   clear hb
   go_wp2
   refine wp_region_still_tail 11 (by kernel_rfl) (by kernel_rfl) ?_
   simp only [List.take_succ_cons, List.take_zero, List.drop_succ_cons, List.drop_zero]
   repeat (first | still_step | still_call (still_of (ref_Add _ _ _ (by first | assumption | exact U64.psi _ | exact U64.zero | exact U64.one | exact U64.mk (by decide) (by decide)) (by first | assumption | exact U64.psi _ | exact U64.zero | exact U64.one | exact U64.mk (by decide) (by decide)))))
   try refine wpStill_nil ?_
   change wpList _ _ _ _ _ (World.drew _)
   go_wp2_with (go_at_call 152; (with_reducible refine (rsponge_mix _ _ _ (RSpAt.drew (Hb.out.set0 _ (by rw [phi_psi])))).mono ?_); rintro e w2 ⟨rfl, h2, hg2⟩)
   go_roundw
   case rel => exact ⟨1, by omega, rfl, h2, grownBy_trans hg (grownBy_trans (grownBy_setdrew _ _ _ _) hg2)⟩
   case measure => simp [intOf]
  ·by_cases hjl : j ≤ l.length
   ·have hi0 : ¬ ((j : Int) - 1 < 0) := by omega
    obtain ⟨bl, off, rfl, hblt, hcell⟩ := Hr.out (by omega)
    have hne : bl ≠ b := Hs.out _ _ _ rfl (by omega)
    have hcj : wr.cell? ⟨bl, off + (j - 1), none⟩ = some (.int .u64 (at0 l (j - 1))) := by
     rw [World.cell?_of_block (w := w) (hg.block bl hblt (fun e => hne (by cases e; rfl)))]
     exact hcell (j - 1) (by omega)
    have hu := hat.out (j - 1) (by omega)
    clear hcell
    obtain ⟨hx, hy, hz⟩ := hb.cells
    have f0 := hb.free 0
    have Hb := zH hb
    clear hb
    go_wp2
    refine wp_region_still_tail 11 (by kernel_rfl) (by kernel_rfl) ?_
    simp only [List.take_succ_cons, List.take_zero, List.drop_succ_cons, List.drop_zero]
    repeat (first | still_step | still_call (still_of (ref_Add _ _ _ (by first | assumption | exact U64.psi _ | exact U64.zero | exact U64.one | exact U64.mk (by decide) (by decide)) (by first | assumption | exact U64.psi _ | exact U64.zero | exact U64.one | exact U64.mk (by decide) (by decide)))))
    try refine wpStill_nil ?_
    change wpList _ _ _ _ _ (World.drew _)
    go_wp2_with (go_at_call 152; (with_reducible refine (rsponge_mix _ _ _ (RSpAt.drew (Hb.out.set0 _ (by rw [phi_psi])))).mono ?_); rintro e w2 ⟨rfl, h2, hg2⟩)
    go_roundw
    case rel => exact ⟨j + 1, by omega, by go_num, taken_step l s j (by omega) hjl h2, grownBy_trans hg (grownBy_trans (grownBy_setdrew _ _ _ _) hg2)⟩
    case measure => simp [intOf]; omega
   ·obtain rfl : j = l.length + 1 := by omega
    go_wp2
    go_end0
    exact ⟨rfl, taken_all l s hb, hg⟩
set_option maxHeartbeats 400000 in
theorem rsponge_Pair (a b : Int) (w : World) (ha : U64 a) (hb : U64 b) :
  Calls Tryz.prog 76 #[.int .u64 a, .int .u64 b] w fun e w' => e = .returned (.int .u64 (psi (pairF (phi a) (phi b)))) ∧ Below w.heap.size w w' := by
 go_enter Tryz.func76, Tryz.ntmps76
 go_wp2_with (go_at_call 114; (with_reducible refine (rsponge_New _ _ (by first | assumption | exact U64.psi _ | exact U64.zero | exact U64.one | exact U64.mk (by decide) (by decide))).mono ?_); rintro e w1 ⟨g, rfl, hg, hS, hb1⟩)
 have hlt := hS.lt
 have hS1 := hS.shift (Below.alloc (Below.refl _ w1) (Nat.le_refl _) (.cells #[.int .u64 a, .int .u64 b] 57))
 have hR := (NewU.lit2 w1 a b ha hb).row
 have hsep : Sep (.slice (some ⟨w1.heap.size, 0, none⟩) 2 2) g := fun x n c hv _ => by cases hv; show w1.heap.size ≠ g; omega
 have HR := zH hR
 have HS := zH hsep
 have H1 := zH hS1
 clear hR hsep hS1
 refine (rsponge_Take _ _ _ _ _ H1.out HR.out HS.out (by simp)).mono ?_
 rintro e w2 ⟨rfl, h2, hg2⟩
 go_wp2_with (go_at_call 116; (with_reducible refine (rsponge_Give _ _ _ h2).mono ?_); rintro e w3 ⟨rfl, h3, hg3⟩)
 go_ret
 refine ⟨ret_u64 (by rw [pairF_eq]), ?_⟩
 have b1 : Below w.heap.size w (w1.alloc (.cells #[.int .u64 a, .int .u64 b] 57)) := hb1.alloc hb1.size _
 exact (b1.trans (below_of_grownBy hg2 hg (b1.size))).trans (below_of_grownBy hg3 hg (Nat.le_trans b1.size hg2.size))
end Go.Proofs.YtlfneeobnihocaaGreatDoor
