/- Several texts in one: CircO, Proof, Coefs, Verify. What each says, and its conditions, stands at its head. -/
import Derived.Test.YtlfneeobnihocaaGreatDoorUni
import Derived.Lib.SmallJoins
import Derived.Deep.Slices
import Derived.Deep.Strs
import Derived.Test.YtlfneeobnihocaaGreatDoorFar
import Derived.StillTailTactics
/- How a circuit that can be read as data is opened. No condition. -/
namespace Go.Proofs.YtlfneeobnihocaaGreatDoor
set_option maxRecDepth 100000
set_option linter.unusedVariables false
open Go.ChangeShapes Go.WideShapes Go.ChangeAt Go.RowKit Go.Deep Go.Joins
instance : Inhabited Gt := ⟨gate0⟩
instance : Inhabited Ly := ⟨layer0⟩
end Go.Proofs.YtlfneeobnihocaaGreatDoor
/- Proofs in memory: what is meant by a proof that reads as data; how it is opened; how one is made, part by part. No condition. -/
namespace Go.Proofs.YtlfneeobnihocaaGreatDoor
set_option maxRecDepth 100000
set_option linter.unusedVariables false
open Go.ChangeShapes Go.WideShapes Go.ChangeAt Go.RowKit Go.Deep Go.Joins
structure Pi where
 rounds : List (List Int)
 line : List Int
instance : Inhabited Pi := ⟨⟨[], []⟩⟩
abbrev part0 : Pi := ⟨[], []⟩
abbrev atp (l : List Pi) (j : Nat) : Pi := l[j]?.getD part0
def RowP (w : World) (v : Value) (l : List Pi) : Prop :=
 l.length ≤ 9223372036854775807 ∧ ∃ a cap, v = .slice a l.length cap ∧
  (0 < l.length → ∃ b off, a = some ⟨b, off, none⟩ ∧ b < w.heap.size ∧ ∀ j, j < l.length →
   ∃ u u2, w.cell? ⟨b, off + j * 2, none⟩ = some u ∧ w.cell? ⟨b, off + j * 2 + 1, none⟩ = some u2 ∧ RowUU w u (atp l j).rounds ∧ RowU w u2 (atp l j).line)
def IsP (w : World) (v : Value) (l : List Pi) : Prop := ∃ u, v = .agg #[u] ∧ RowP w u l
theorem RowP.below {K : Nat} {w w' : World} {v : Value} {l : List Pi} (h : RowP w v l) (hb : Below K w w') (hK : w.heap.size ≤ K) : RowP w' v l := by
 obtain ⟨h2, a, cap, rfl, h3⟩ := h
 refine ⟨h2, a, cap, rfl, fun hl => ?_⟩
 obtain ⟨b, off, rfl, hlt, hc⟩ := h3 hl
 refine ⟨b, off, rfl, Nat.lt_of_lt_of_le hlt hb.size, fun j hj => ?_⟩
 obtain ⟨u, u2, c1, c2, r1, r2⟩ := hc j hj
 exact ⟨u, u2, by rw [hb.cell (by show b < K; omega)]; exact c1, by rw [hb.cell (by show b < K; omega)]; exact c2, r1.below hb hK, r2.below hb hK⟩
theorem IsP.below {K : Nat} {w w' : World} {v : Value} {l : List Pi} (h : IsP w v l) (hb : Below K w w') (hK : w.heap.size ≤ K) : IsP w' v l := by
 obtain ⟨u, rfl, h2⟩ := h
 exact ⟨u, rfl, h2.below hb hK⟩
theorem IsP.go {w w' : World} {v : Value} {l : List Pi} (h : IsP w v l) (hb : Below w.heap.size w w') : IsP w' v l := h.below hb (Nat.le_refl _)
theorem RowP.go {w w' : World} {v : Value} {l : List Pi} (h : RowP w v l) (hb : Below w.heap.size w w') : RowP w' v l := h.below hb (Nat.le_refl _)
theorem RowUU.go {w w' : World} {v : Value} {l : List (List Int)} (h : RowUU w v l) (hb : Below w.heap.size w w') : RowUU w' v l := h.below hb (Nat.le_refl _)
def Safe (w : World) (r : Option Nat) (Q : World → Prop) : Prop := ∀ w', w.grownBy w' r → Q w'
theorem grownBy_refl (w : World) (r : Option Nat) : w.grownBy w r := ⟨rfl, rfl, rfl, Nat.le_refl _, fun _ _ _ => rfl⟩
theorem Safe.now {w : World} {r : Option Nat} {Q : World → Prop} (h : Safe w r Q) : Q w := h w (grownBy_refl w r)
theorem grownBy_chain {a b c : World} {r : Option Nat} (h : a.grownBy b r) (k : b.grownBy c r) : a.grownBy c r :=
 ⟨k.os.trans h.os, k.tape.trans h.tape, k.output.trans h.output, Nat.le_trans h.size k.size, fun i hi hr => (k.block i (Nat.lt_of_lt_of_le hi h.size) hr).trans (h.block i hi hr)⟩
theorem grownBy_new {a b c : World} {r : Option Nat} {g : Nat} (h : a.grownBy b r) (k : b.grownBy c (some g)) (hg : a.heap.size ≤ g) : a.grownBy c r :=
 ⟨k.os.trans h.os, k.tape.trans h.tape, k.output.trans h.output, Nat.le_trans h.size k.size, fun i hi hr => (k.block i (Nat.lt_of_lt_of_le hi h.size) (fun e => by cases e; omega)).trans (h.block i hi hr)⟩
theorem grownBy_none {a b c : World} {r : Option Nat} (h : a.grownBy b r) (k : b.grownBy c none) : a.grownBy c r :=
 ⟨k.os.trans h.os, k.tape.trans h.tape, k.output.trans h.output, Nat.le_trans h.size k.size, fun i hi hr => (k.block i (Nat.lt_of_lt_of_le hi h.size) (fun e => by cases e)).trans (h.block i hi hr)⟩
theorem below_toGrown {w w' : World} (h : Below w.heap.size w w') (r : Option Nat) : w.grownBy w' r := ⟨h.os, h.tape, h.output, h.size, fun k hk _ => h.block k hk⟩
theorem Safe.grown {w w' : World} {r : Option Nat} {Q : World → Prop} (h : Safe w r Q) (hg : w.grownBy w' r) : Safe w' r Q := fun w'' k => h w'' (grownBy_chain hg k)
theorem Safe.go {w w' : World} {r : Option Nat} {Q : World → Prop} (h : Safe w r Q) (hb : Below w.heap.size w w') : Safe w' r Q := h.grown (below_toGrown hb r)
theorem Safe.fresh {w w' : World} {r r' : Option Nat} {Q : World → Prop} (h : Safe w r Q) (hg : w.grownBy w' r) (hr : ∀ g, r' = some g → w.heap.size ≤ g) : Safe w' r' Q := fun w'' k => by
 cases r' with
 | none => exact h w'' (grownBy_none hg k)
 | some g => exact h w'' (grownBy_new hg k (hr g rfl))
theorem Safe.both {w : World} {r : Option Nat} {Q Q' : World → Prop} (h : Safe w r Q) (k : Safe w r Q') : Safe w r (fun w => Q w ∧ Q' w) := fun w' hg => ⟨h w' hg, k w' hg⟩
theorem RowU.oneCell {w : World} {v : Value} {l : List Int} (h : RowU w v l) : v.oneCell' = true := by
 obtain ⟨_, _, a, cap, rfl, _⟩ := h; rfl
theorem RowUU.oneCell {w : World} {v : Value} {l : List (List Int)} (h : RowUU w v l) : v.oneCell' = true := by
 obtain ⟨_, a, cap, rfl, _⟩ := h; rfl
theorem Tryz.infoPart : (Tryz.prog.info? 143).map (fun i => (i.zero, i.size, i.bytes)) = some (some (.agg #[.slice none 0 0, .slice none 0 0]), 2, 48) := by kernel_rfl
def NewP (B : Nat) (w : World) (v : Value) (l : List Pi) : Prop :=
 l.length ≤ 1000 ∧ ∃ us : List Value, us.length = 2 * l.length ∧ w.ownsRow B 143 2 v l.length us ∧
  ∀ j, j < l.length → ∃ u u2, us[j * 2]? = some u ∧ us[j * 2 + 1]? = some u2 ∧ Far (fun b => b < B ∨ v.ownBlock = some b) (fun w => RowUU w u (atp l j).rounds ∧ RowU w u2 (atp l j).line) w
theorem NewP.nil (B : Nat) (w : World) : NewP B w (.slice none 0 0) [] := ⟨by simp, [], rfl, World.ownsRow_nil w B _ _, fun j hj => absurd hj (by simp)⟩
theorem NewP.go {B : Nat} {w w' : World} {v : Value} {l : List Pi} (h : NewP B w v l) (hb : Below w.heap.size w w') : NewP B w' v l := by
 obtain ⟨h1, us, h2, h3, h4⟩ := h
 refine ⟨h1, us, h2, ownsRow_below h3 hb (Nat.le_refl _), fun j hj => ?_⟩
 obtain ⟨u, u2, e, e2, hs⟩ := h4 j hj
 exact ⟨u, u2, e, e2, hs.go hb⟩
theorem NewP.lt {B : Nat} {w : World} {v : Value} {l : List Pi} (h : NewP B w v l) {g : Nat} (hg : v.ownBlock = some g) : B ≤ g ∧ g < w.heap.size := by
 obtain ⟨_, us, _, ho, _⟩ := h
 exact ho.lt g hg
theorem NewP.low {B g : Nat} {w : World} {v : Value} {l : List Pi} (h : NewP B w v l) (hg : g < B) (j : Nat) (u : Value) : NewP B (w.setCell ⟨g, j, none⟩ u) v l := by
 have hlt := fun b (e : v.ownBlock = some b) => h.lt e
 obtain ⟨h1, us, h2, h3, h4⟩ := h
 refine ⟨h1, us, h2, ownsRow_same h3 fun b e => Below.heap_setCell _ _ _ _ (by show b ≠ g; have := (hlt b e).1; omega), fun j' hj => ?_⟩
 obtain ⟨u1, u2, e1, e2, hs⟩ := h4 j' hj
 exact ⟨u1, u2, e1, e2, hs.set (.inl hg) j u⟩
theorem NewP.isSlice {B : Nat} {w : World} {v : Value} {l : List Pi} (h : NewP B w v l) : ∃ a c, v = .slice a l.length c := by
 obtain ⟨_, us, _, h3, _⟩ := h
 rcases h3.2 with ⟨rfl, h0⟩ | ⟨g, cap, cur, rfl, _⟩
 ·exact ⟨none, 0, by rw [h0]⟩
 ·exact ⟨_, _, rfl⟩
theorem NewP.row {B : Nat} {w : World} {v : Value} {l : List Pi} (h : NewP B w v l) : RowP w v l := by
 obtain ⟨h1, us, h2, h3, h4⟩ := h
 have h3' := h3
 refine ⟨by omega, ?_⟩
 rcases h3.2 with ⟨rfl, h0⟩ | ⟨g, cap, cur, rfl, hg, hh, hn, hcap, hs, ht⟩
 ·exact ⟨none, 0, by rw [h0], fun hl => by omega⟩
 ·refine ⟨_, cap, rfl, fun hl => ⟨g, 0, rfl, (h3'.lt g rfl).2, fun j hj => ?_⟩⟩
  obtain ⟨u, u2, e, e2, hs⟩ := h4 j hj
  refine ⟨u, u2, ?_, ?_, hs.now⟩
  ·have := h3'.cellAt (j * 2) (by omega)
   rw [Nat.zero_add, this]; exact e
  ·have := h3'.cellAt (j * 2 + 1) (by omega)
   rw [Nat.zero_add, this]; exact e2
theorem atp_append_left (ll : List Pi) (l : Pi) (j : Nat) (h : j < ll.length) : atp (ll ++ [l]) j = atp ll j := by
 simp [atp, List.getElem?_append_left h]
theorem atp_append_last (ll : List Pi) (l : Pi) : atp (ll ++ [l]) ll.length = l := by simp [atp]
theorem wpList_appP {ops : Array Oper} {rest : List Oper} {o : Oper} {a : Act} {Q : Exit → Act → World → Prop} {w0 : World} (hgd : o.guard = none) (s x : Operand)
  (ho : o.op = .call { callee := .builtin .append, args := #[s, x], argTypes := #[91, 91] })
  (B : Nat) (v : Value) (ll : List Pi) (hs : a.eval s = v) (hown : NewP B w0 v ll) (u u2 : Value) (l : Pi) (hu : Far (fun b => b < B ∨ v.ownBlock = some b) (fun w => RowUU w u l.rounds ∧ RowU w u2 l.line) w0)
  (hx : a.eval x = .slice (some ⟨w0.heap.size, 0, none⟩) 1 1) (hlen : ll.length + 1 ≤ 1000) (hB : B ≤ w0.heap.size)
  (h : ∀ v' w', NewP B w' v' (ll ++ [l]) → Below B w0 w' → w0.grownBy w' v.ownBlock → wpList Tryz.prog ops Q rest (a.put o.dst v') w') : wpList Tryz.prog ops Q (o :: rest) a (w0.alloc (.cells #[u, u2] 143)) := by
 obtain ⟨i0, hi1, hz0, hz1, hz2⟩ := info_parts Tryz.infoPart
 obtain ⟨h1, us, h2, h3, h4⟩ := hown
 have hlt := h3.lt
 have h1c := hu.now.1.oneCell
 have h2c := hu.now.2.oneCell
 refine wpList_append_own_at _ hgd s x _ ho B 143 i0 (.agg #[.slice none 0 0, .slice none 0 0]) 2 48 Tryz.underlying91 hi1 hz0 hz1 hz2 rfl (by decide) v ll.length us hs (h3.alloc _) ⟨w0.heap.size, 0, none⟩ 1 1 [u, u2] hx (by simp) ?_ (by simpa using ⟨h1c, h2c⟩) (by unfold maxLen; omega) (by omega) (by simp; omega) ?_
 ·exact World.news_of_block (cs := #[u, u2]) (t := 143) (fr := (0, 0)) (alloc_blk w0 _)
 ·intro v' w' h5 h6 _ h8
  have hal : Below w0.heap.size w0 (w0.alloc (.cells #[u, u2] 143)) := (Below.refl _ _).alloc (Nat.le_refl _) _
  have hsz : (w0.alloc (.cells #[u, u2] 143)).heap.size = w0.heap.size + 1 := by simp
  have hg0 : w0.grownBy w' v.ownBlock := grownBy_chain (below_toGrown hal _) h6
  have hbl : Below B w0 w' := ((Below.refl B w0).alloc hB _).grown h6 (by simp; omega) fun k hk => (hlt k hk).1
  have move : ∀ Q, Far (fun b => b < B ∨ v.ownBlock = some b) Q w0 → Far (fun b => b < B ∨ v'.ownBlock = some b) Q w' := by
   intro Q hQ
   rcases h8 with h8 | h8
   ·rw [h8]; exact hQ.grown hg0 fun g hg _ => .inr hg
   ·refine hQ.fresh hg0.size (fun b hlt hn => hg0.block b hlt fun e => hn (.inr e.symm)) fun b hlt e => ?_
    rcases e with e | e
    ·exact .inl e
    ·rw [h8, hsz] at e; cases e; omega
  refine h v' w' ⟨by simp; omega, us ++ [u, u2], by simp [h2]; omega, by simpa using h5, fun j hj => ?_⟩ hbl hg0
  by_cases hj2 : j < ll.length
  ·obtain ⟨y, y2, e, e2, hs⟩ := h4 j hj2
   refine ⟨y, y2, by rw [List.getElem?_append_left (by omega)]; exact e, by rw [List.getElem?_append_left (by omega)]; exact e2, ?_⟩
   rw [atp_append_left _ _ _ hj2]
   exact move _ hs
  ·obtain rfl : j = ll.length := by simp at hj; omega
   refine ⟨u, u2, ?_, ?_, ?_⟩
   ·rw [List.getElem?_append_right (by omega), show ll.length * 2 - us.length = 0 by omega]; rfl
   ·rw [List.getElem?_append_right (by omega), show ll.length * 2 + 1 - us.length = 1 by omega]; rfl
   ·rw [atp_append_last]; exact move _ hu
end Go.Proofs.YtlfneeobnihocaaGreatDoor
/- The walks of package uni: NEWTON's coefficients, and the value at a place. The list is a slice of 1 to 8 numbers. -/
namespace Go.Proofs.YtlfneeobnihocaaGreatDoor
set_option maxRecDepth 100000
set_option linter.unusedVariables false
open Go.RowKit Tally
set_option maxHeartbeats 400000 in
theorem uni_Check (a : List Int) (v : Value) (w : World) (hp : RowU w v a) (h1 : 1 ≤ a.length) (h8 : a.length ≤ 8) :
  Calls Tryz.prog 176 #[v] w fun e w' => e = .returned (.int .i64 0) ∧ w = w' := by
 obtain ⟨_, h2, ad, cap, rfl, hr⟩ := hp
 clear hr
 go_enter Tryz.func176, Tryz.ntmps176
 go_wp2
 go_ret
 exact ⟨rfl, rfl⟩
set_option maxHeartbeats 400000 in
theorem uni_Check_no (a : List Int) (v : Value) (w : World) (hp : RowU w v a) (h : a.length < 1 ∨ 8 < a.length) :
  Calls Tryz.prog 176 #[v] w fun e w' => e = .returned (.int .i64 4) ∧ w = w' := by
 obtain ⟨_, h2, ad, cap, rfl, hr⟩ := hp
 clear hr
 rcases h with h | h
 ·go_enter Tryz.func176, Tryz.ntmps176
  go_wp2
  go_ret
  exact ⟨rfl, rfl⟩
 ·go_enter Tryz.func176, Tryz.ntmps176
  go_wp2
  go_ret
  exact ⟨rfl, rfl⟩
def CInv (a : List Int) (i : Nat) (O B : List Int) : Prop :=
 (∀ y, horTo (fun k => phi (at0 B k)) (a.length + 1) y = prodTo i y) ∧ (∀ k, i < k → k ≤ a.length → phi (at0 B k) = 0) ∧ (∀ j : Nat, j < i → horTo (fun k => phi (at0 O k)) a.length (phi j) = phi (at0 a j)) ∧ O.length = a.length ∧ B.length = a.length + 1
theorem hor_fn (l : List Int) (x : F) : hor (l.map phi) x = horTo (fun k => phi (at0 l k)) l.length x := by
 rw [hor_horTo, List.length_map]
 exact horTo_congr _ _ _ _ fun k hk => atF_map l k hk
theorem cinv_start (a : List Int) : CInv a 0 (List.replicate a.length 0) ((List.replicate (a.length + 1) 0).set 0 1) := by
 refine ⟨fun y => ?_, fun k hk hk2 => ?_, fun j hj => by omega, by simp, by simp⟩
 ·rw [horTo_tail _ 1 _ _ (by omega)]
  ·simp only [horTo, prodTo, pow_zero', at0]; rw [List.getElem?_set_self (by simp)]; simp only [Option.getD_some, phi_one]; exact (by decide : (0 : F) + 1 * 1 = 1)
  ·intro k h1 h2
   simp only [at0]; rw [List.getElem?_set_ne (by omega), List.getElem?_replicate]
   split <;> simp [phi_zero]
 ·simp only [at0]; rw [List.getElem?_set_ne (by omega), List.getElem?_replicate]
  split <;> simp [phi_zero]
theorem cinv_ne (a : List Int) {k : Nat} {O B : List Int} (h : CInv a k O B) (hk : k < a.length) (h8 : a.length ≤ 8) : phi (psi (hor (B.map phi) (phi k))) ≠ 0 := by
 rw [phi_psi, hor_fn, h.2.2.2.2, h.1]
 exact prodTo_ne k k (Nat.le_refl _) (by omega)
theorem cinv_end (a : List Int) {O B : List Int} (hl : a.length = O.length) (h : CInv a a.length O B) : ∀ i : Nat, i < a.length → hor (O.map phi) (phi i) = phi (at0 a i) := by
 intro i hi
 rw [hor_fn, ← hl]; exact h.2.2.1 i hi
def OStep (O B : List Int) (c : Int) (j : Nat) (O1 : List Int) : Prop :=
 O1.length = O.length ∧ (∀ q, q < j → phi (at0 O1 q) = phi (at0 O q) + phi c * phi (at0 B q)) ∧ (∀ q, j ≤ q → at0 O1 q = at0 O q)
theorem ostep_start (O B : List Int) (c : Int) : OStep O B c 0 O := ⟨rfl, fun q hq => by omega, fun q _ => rfl⟩
theorem ostep_step (O B : List Int) (c : Int) (j : Nat) (O1 : List Int) (hj : j < O1.length) (h : OStep O B c j O1) : OStep O B c (j + 1) (O1.set j (psi (phi (at0 O1 j) + phi (psi (phi c * phi (at0 B j)))))) := by
 obtain ⟨h1, h2, h3⟩ := h
 refine ⟨by rw [List.length_set]; exact h1, fun q hq => ?_, fun q hq => ?_⟩
 ·by_cases e : q = j
  ·subst e
   rw [at0_set_self _ _ _ hj, phi_psi, phi_psi, h3 q (Nat.le_refl _)]
  ·rw [at0_set_ne _ _ _ _ (by omega)]; exact h2 q (by omega)
 ·rw [at0_set_ne _ _ _ _ (by omega)]; exact h3 q (by omega)
def BStep (B : List Int) (x : Int) (j : Nat) (B1 : List Int) : Prop :=
 B1.length = B.length ∧ (∀ q, j ≤ q → q < B.length → phi (at0 B1 q) = phi (at0 B q) * (0 - phi x) + (if q = 0 then 0 else phi (at0 B (q - 1)))) ∧ (∀ q, q < j → at0 B1 q = at0 B q)
theorem bstep_start (B : List Int) (x : Int) (j : Nat) (hj : B.length ≤ j) : BStep B x j B := ⟨rfl, fun q h1 h2 => by omega, fun q _ => rfl⟩
theorem bstep_step (B : List Int) (x : Int) (j : Nat) (B1 : List Int) (h0 : 0 < j) (hj : j - 1 < B1.length) (h : BStep B x j B1) {v : Int} (hv : phi v = phi (at0 B1 (j - 1)) * (0 - phi x) + (if j - 1 = 0 then 0 else phi (at0 B1 (j - 1 - 1)))) : BStep B x (j - 1) (B1.set (j - 1) v) := by
 obtain ⟨h1, h2, h3⟩ := h
 refine ⟨by rw [List.length_set]; exact h1, fun q hq hq2 => ?_, fun q hq => ?_⟩
 ·by_cases e : q = j - 1
  ·subst e
   rw [at0_set_self _ _ _ hj, hv, h3 (j - 1) (by omega)]
   by_cases e2 : j - 1 = 0
   ·rw [if_pos e2, if_pos e2]
   ·rw [if_neg e2, if_neg e2, h3 (j - 1 - 1) (by omega)]
  ·rw [at0_set_ne _ _ _ _ (by omega)]; exact h2 q (by omega) hq2
 ·rw [at0_set_ne _ _ _ _ (by omega)]; exact h3 q (by omega)
theorem bstep_step' (B : List Int) (x m : Int) (B1 : List Int) (h0 : 0 ≤ m) (hj : m.toNat < B1.length) (h : BStep B x (m + 1).toNat B1) {v : Int} (hv : phi v = phi (at0 B1 m.toNat) * (0 - phi x) + (if m = 0 then 0 else phi (at0 B1 (m - 1).toNat))) : BStep B x (m - 1 + 1).toNat (B1.set m.toNat v) := by
 have e1 : (m + 1).toNat - 1 = m.toNat := by omega
 have e2 : (m - 1 + 1).toNat = (m + 1).toNat - 1 := by omega
 have e3 : m.toNat - 1 = (m - 1).toNat := by omega
 have := bstep_step B x (m + 1).toNat B1 (by omega) (by omega) h (v := v) (by
  rw [e1, hv, e3]; congr 1
  by_cases hm : m = 0
  ·rw [if_pos hm, if_pos (by omega)]
  ·rw [if_neg hm, if_neg (by omega)])
 rw [e2]; rw [e1] at this ⊢; exact this
theorem bstep_pos (B : List Int) (x : Int) (j : Nat) (B1 : List Int) (hj : j + 1 < B1.length) (h : BStep B x ((j : Int) + 1 + 1).toNat B1) :
  BStep B x ((j : Int) + 1).toNat (B1.set (j + 1) (psi (phi (psi (phi (at0 B1 (j + 1)) * phi (psi (phi 0 - phi x)))) + phi (at0 B1 j)))) := by
 have e1 : ((j : Int) + 1 + 1).toNat = j + 2 := by omega
 have e2 : ((j : Int) + 1).toNat = j + 1 := by omega
 rw [e1] at h; rw [e2]
 refine bstep_step B x (j + 2) B1 (by omega) hj h ?_
 rw [phi_psi, phi_psi, phi_psi, phi_zero, if_neg (by omega)]; rfl
theorem cinv_step (a : List Int) {k : Nat} {O B O1 B1 : List Int} {c : Int} (hk : k < a.length) (h8 : a.length ≤ 8) (h : CInv a k O B)
  (hc : phi c = (phi (at0 a k) - hor (O.map phi) (phi k)) * inv (hor (B.map phi) (phi k))) (hS : OStep O B c a.length O1) (hT : BStep B (k : Int) 0 B1) : CInv a (k + 1) O1 B1 := by
 obtain ⟨i1, i2, i3, i4, i5⟩ := h
 obtain ⟨s1, s2, _⟩ := hS
 obtain ⟨t1, t2, _⟩ := hT
 have hBn : horTo (fun q => phi (at0 B q)) a.length = fun y => prodTo k y := by
  funext y
  rw [← i1 y, horTo_tail _ a.length (a.length + 1) y (by omega)]
  intro q h1 h2; exact i2 q (by omega) (by omega)
 refine ⟨fun y => ?_, fun q hq hq2 => ?_, fun j hj => ?_, by omega, by omega⟩
 ·rw [horTo_congr _ (fun q => phi (at0 B q) * (0 - phi k) + (if q = 0 then 0 else phi (at0 B (q - 1)))) _ _ (fun q hq => t2 q (by omega) (by omega))]
  rw [horTo_shift (fun q => phi (at0 B q)) (phi k) a.length y (i2 a.length (by omega) (by omega)), i1 y, prodTo]
  grind
 ·rw [t2 q (by omega) (by omega), if_neg (by omega), i2 q (by omega) (by omega), i2 (q - 1) (by omega) (by omega)]
  rw [zero_mul', add_zero']
 ·rw [horTo_congr _ (fun q => phi (at0 O q) + phi c * phi (at0 B q)) _ _ (fun q hq => s2 q hq)]
  rw [horTo_lin, hBn]
  by_cases e : j = k
  ·subst e
   rw [hc, hor_fn, hor_fn, i4, i5, i1]
   have := mul_inv _ (prodTo_ne j j (Nat.le_refl _) (by omega))
   have e3 : (fun y => prodTo j y) (phi j) = prodTo j (phi j) := rfl
   rw [e3]
   generalize prodTo j (phi j) = p at *; generalize inv p = q at *; generalize phi (at0 a j) = u
   generalize horTo (fun k => phi (at0 O k)) a.length (phi j) = t
   have e2 : (u - t) * q * p = (u - t) * (p * q) := by grind
   rw [e2, this]; grind
  ·show _ + phi c * prodTo k (phi j) = _
   rw [i3 j (by omega), prodTo_zero k j (by omega), mul_zero', add_zero']
set_option maxHeartbeats 1000000 in
theorem uni_Coefs (a : List Int) (v : Value) (w : World) (hp : RowU w v a) (h1 : 1 ≤ a.length) (h8 : a.length ≤ 8) :
  Calls Tryz.prog 172 #[v] w fun e w' => ∃ v' l, e = .returned (.tuple #[v', .int .i64 0]) ∧ NewU w.heap.size w' v' l ∧ l.length = a.length ∧ (∀ i : Nat, i < a.length → hor (l.map phi) (phi i) = phi (at0 a i)) ∧ Below w.heap.size w w' := by
 have Hp := zH hp
 have hat := zH (fun j => @RowU.at _ _ _ hp j)
 obtain ⟨_, h2, ad, cap, rfl, hr⟩ := hp
 have Hr := zH hr
 clear hr
 have tok1 : True := trivial
 have tok2 : True := trivial
 go_enter Tryz.func172, Tryz.ntmps172
 go_wp2_with (first
  | (go_at_call 176; (with_reducible refine (uni_Check _ _ _ Hp.out h1 h8).mono ?_); rintro e w' ⟨rfl, rfl⟩)
  | (at_make; have _t := tok1; refine wpList_makeU _ rfl _ _ rfl _ _ a.length rfl rfl rfl rfl (by omega) ?_; intro w1 hn1 hb1; clear tok1 _t)
  | (at_make; have _t := tok2; refine wpList_makeU _ rfl _ _ rfl _ _ (a.length + 1) rfl rfl (by omega) (by omega) (by omega) ?_; intro w2 hn2 hb2; have hc2 := hn2.cellAt 0 (by simp); have hf2 := hn2.freeAt 0; clear tok2 _t))
 have hB0 := hn2.set 0 1 U64.one
 have hO0 := (hn1.below hb2 (Nat.le_refl _)).other (g' := w1.heap.size) 0 (.int .u64 1) (by have := hn1.blk; omega)
 have hlt1 := hn1.blk.2
 have hbw : Below w.heap.size w (w2.setCell ⟨w1.heap.size, 0, none⟩ (.int .u64 1)) := (hb1.trans (hb2.mono hb1.size)).setCell (by exact hb1.size) _
 clear hc2 hf2
 go_loopw [31] (fun i wr => ∃ (k : Nat) (O Bs : List Int), k ≤ a.length ∧ i = .int .i64 (k : Int) ∧ NewU w.heap.size wr (.slice (some ⟨w.heap.size, 0, none⟩) a.length a.length) O ∧ NewU w1.heap.size wr (.slice (some ⟨w1.heap.size, 0, none⟩) (a.length + 1) (a.length + 1)) Bs ∧ Below w.heap.size w wr ∧ Hid (CInv a k O Bs)) (fun i _ => a.length - (intOf i).toNat)
 case atStart => exact ⟨0, _, _, by omega, rfl, hO0, hB0, hbw, cinv_start a⟩
 case round =>
  obtain ⟨k, O, Bs, hk, rfl, hO, hB, hbr, HI⟩ := hrel
  by_cases hz : k < a.length
  ·obtain ⟨b, off, rfl, hblt, hcell⟩ := Hr.out (by omega)
   have hcj := (hbr.cell (p := ⟨b, off + k, none⟩) hblt).trans (hcell k hz)
   have hu := hat.out k hz
   have uk : U64 (k : Int) := ⟨by omega, by omega⟩
   have HO := zH hO
   have HB := zH hB
   clear hcell hO hB
   go_wp2_with (fail)
   refine (uni_eval _ _ _ _ HB.out.row uk).mono ?_
   rintro e wa ⟨rfl, hda⟩
   have Hne := zH (cinv_ne a HI.out hz h8)
   have HOa := zH (HO.out.below hda.below (Nat.le_refl _))
   have hcj' := (hda.below.cell (p := ⟨b, off + k, none⟩) (by have := hbr.size; show b < _; omega)).trans hcj
   have hba := hbr.trans (hda.below.mono hbr.size)
   go_wp2_with (go_at_call 72; (with_reducible refine (field_Inv _ _ (U64.psi _) Hne.out).mono ?_); rintro e w' ⟨rfl, rfl⟩)
   go_quiet (first | (go_at_call 173; exact flipD (uni_eval _ _ _ _ (RowU.drewN HOa.out.row _) uk)) | (go_at_call 111; exact flip (field_Sub _ _ _ hu (U64.psi _))) | (go_at_call 112; exact flip (field_Mul _ _ _ (U64.psi _) (U64.psi _))))
   go_wp2
   have HOw := zH (HOa.out.below (below_drewN (Below.refl wa.heap.size wa) nq) (Nat.le_refl _))
   have HBw := zH ((HB.out.below hda.below (Nat.le_refl _)).below (below_drewN (Below.refl wa.heap.size wa) nq) (Nat.le_refl _))
   have hbw2 := below_drewN hba nq
   clear HOa HO HB hcj hcj' hda hba
   generalize wa.drewN nq = W at *
   have Hc : Hid (phi (psi (phi (psi (phi (at0 a k) - phi (psi (hor (O.map phi) (phi k))))) * phi (psi (inv (phi (psi (hor (Bs.map phi) (phi k)))))))) = (phi (at0 a k) - hor (O.map phi) (phi k)) * inv (hor (Bs.map phi) (phi k))) := by
    show _ = _
    rw [phi_psi, phi_psi, phi_psi, phi_psi, phi_psi]
   have uc : U64 (psi (phi (psi (phi (at0 a k) - phi (psi (hor (O.map phi) (phi k))))) * phi (psi (inv (phi (psi (hor (Bs.map phi) (phi k)))))))) := U64.psi _
   generalize psi (phi (psi (phi (at0 a k) - phi (psi (hor (O.map phi) (phi k))))) * phi (psi (inv (phi (psi (hor (Bs.map phi) (phi k))))))) = c at *
   go_wp2
   go_loopw [55] (fun i wr => ∃ (j : Nat) (O1 : List Int), j ≤ a.length ∧ i = .int .i64 (j : Int) ∧ NewU w.heap.size wr (.slice (some ⟨w.heap.size, 0, none⟩) a.length a.length) O1 ∧ NewU w1.heap.size wr (.slice (some ⟨w1.heap.size, 0, none⟩) (a.length + 1) (a.length + 1)) Bs ∧ Below w.heap.size w wr ∧ Hid (OStep O Bs c j O1)) (fun i _ => a.length - (intOf i).toNat)
   case atStart => exact ⟨0, O, by omega, rfl, HOw.out, HBw.out, hbw2, ostep_start O Bs c⟩
   case round =>
    obtain ⟨j, O1, hj, rfl, hO1, hB1, hbr1, HS⟩ := hrel
    by_cases hzj : j < a.length
    ·have ho := hO1.cellAt j (by have := hO1.lenEq; omega)
     have hf := hO1.freeAt j
     have hbj := hB1.cellAt j (by have := hB1.lenEq; omega)
     have huo : U64 (at0 O1 j) := hO1.1 _ (at0_mem (by have := hO1.lenEq; omega))
     have hub : U64 (at0 Bs j) := hB1.1 _ (at0_mem (by have := hB1.lenEq; omega))
     have hjb : (j : Int) < (a.length : Int) + 1 := by omega
     have hjb0 : (j : Int) < (a.length : Int) := by omega
     have HO1 := zH hO1
     have HB1 := zH hB1
     clear hO1 hB1
     go_wp2
     refine wp_region_still_tail 14 (by kernel_rfl) (by kernel_rfl) ?_
     simp only [List.take_succ_cons, List.take_zero, List.drop_succ_cons, List.drop_zero]
     repeat (first | still_step | still_call (still_of (field_Mul _ _ _ uc hub)) | still_call (still_of (field_Add _ _ _ huo (U64.psi _))))
     try refine wpStill_nil ?_
     change wpList _ _ _ _ _ (World.drew _)
     go_wp2
     go_roundw
     case rel => exact ⟨j + 1, _, by omega, by go_num, (HO1.out.set j _ (U64.psi _)).drewN 1, (HB1.out.other j _ (by omega)).drewN 1, below_drewN (hbr1.setCell (by exact Nat.le_refl _) _) 1, ostep_step O Bs c j O1 (by have := HO1.out.lenEq; omega) HS.out⟩
     case measure => simp [intOf]; omega
    ·obtain rfl : j = a.length := by omega
     go_wp2
     have Hlen1 : O1.length = a.length := by have := hO1.lenEq; omega
     have HlenB : Bs.length = a.length + 1 := by have := hB1.lenEq; omega
     have Hl := zH (And.intro Hlen1 HlenB)
     clear Hlen1 HlenB
     go_loopw [13] (fun i wr => ∃ (m : Int) (B2 : List Int), -1 ≤ m ∧ m ≤ (a.length : Int) ∧ i = .int .i64 m ∧ NewU w.heap.size wr (.slice (some ⟨w.heap.size, 0, none⟩) a.length a.length) O1 ∧ NewU w1.heap.size wr (.slice (some ⟨w1.heap.size, 0, none⟩) (a.length + 1) (a.length + 1)) B2 ∧ Below w.heap.size w wr ∧ Hid (BStep Bs (k : Int) (m + 1).toNat B2)) (fun i _ => (intOf i + 1).toNat)
     case atStart => exact ⟨a.length, Bs, by omega, by omega, rfl, hO1, hB1, hbr1, bstep_start Bs k _ (by have := Hl.out.2; omega)⟩
     case round =>
      obtain ⟨m, B2, hm0, hm1, rfl, hO2, hB2, hbr2, HT⟩ := hrel
      by_cases hmn : m < 0
      ·obtain rfl : m = -1 := by omega
       go_wp2
       go_roundw
       case rel => exact ⟨k + 1, O1, B2, by omega, by go_num, hO2, hB2, hbr2, cinv_step a hz h8 HI.out Hc.out HS.out HT.out⟩
       case measure => simp [intOf]; omega
      ·have hjl : m.toNat < B2.length := by have := hB2.lenEq; omega
       have hbj := hB2.cellAt m.toNat hjl
       have hf := hB2.freeAt m.toNat
       have hub : U64 (at0 B2 m.toNat) := hB2.1 _ (at0_mem hjl)
       have hmb : m < (a.length : Int) + 1 := by omega
       have hm2 : 0 ≤ m := by omega
       by_cases hm3 : 0 < m
       ·clear hbj hf hub
        obtain ⟨j', rfl⟩ : ∃ j' : Nat, m = (j' : Int) + 1 := ⟨m.toNat - 1, by omega⟩
        have hjl1 : j' + 1 < B2.length := by omega
        have hbj := hB2.cellAt (j' + 1) hjl1
        have hf := hB2.freeAt (j' + 1)
        have hub : U64 (at0 B2 (j' + 1)) := hB2.1 _ (at0_mem hjl1)
        have hbj2 := hB2.cellAt j' (by omega)
        have hub2 : U64 (at0 B2 j') := hB2.1 _ (at0_mem (by omega))
        have HO2 := zH hO2
        have HB2 := zH hB2
        clear hO2 hB2
        go_wp2
        go_quiet (first | (go_at_call 111; exact flip (field_Sub _ _ _ U64.zero uk)) | (go_at_call 112; exact flip (field_Mul _ _ _ hub (U64.psi _))))
        go_wp2_with (first | (go_at_call 108; (with_reducible refine (field_Add _ _ _ (U64.psi _) hub2).mono ?_); rintro e w' ⟨rfl, rfl⟩))
        go_roundw
        case rel => exact ⟨(j' : Int), _, by omega, by omega, by go_num, (HO2.out.drewN nq).other (j' + 1) _ (by omega), (HB2.out.drewN nq).set (j' + 1) _ (U64.psi _), (below_drewN hbr2 nq).setCell (by exact hb1.size) _, bstep_pos Bs k j' B2 hjl1 HT.out⟩
        case measure => simp [intOf]; omega
       ·obtain rfl : m = 0 := by omega
        clear hbj hf hub
        have hbj := hB2.cellAt 0 hjl
        have hf := hB2.freeAt 0
        have hub : U64 (at0 B2 0) := hB2.1 _ (at0_mem hjl)
        have HO2 := zH hO2
        have HB2 := zH hB2
        clear hO2 hB2
        go_wp2
        go_quiet (first | (go_at_call 111; exact flip (field_Sub _ _ _ U64.zero uk)) | (go_at_call 112; exact flip (field_Mul _ _ _ hub (U64.psi _))))
        go_wp2
        go_roundw
        case rel => exact ⟨-1, _, by omega, by omega, rfl, (HO2.out.drewN nq).other 0 _ (by omega), (HB2.out.drewN nq).set 0 _ (U64.psi _), (below_drewN hbr2 nq).setCell (by exact hb1.size) _, bstep_step' Bs k 0 B2 hm2 hjl HT.out (by rw [if_pos rfl, phi_psi, phi_psi, phi_zero, add_zero']; rfl)⟩
        case measure => simp [intOf]
  ·obtain rfl : k = a.length := by omega
   go_wp2
   go_ret2
   exact ⟨_, O, rfl, hO, hO.lenEq.symm, cinv_end a hO.lenEq HI.out, hbr⟩
theorem coefs_lag (a l : List Int) (h8 : a.length ≤ 8) (hl : l.length = a.length) (h : ∀ i : Nat, i < a.length → hor (l.map phi) (phi i) = phi (at0 a i)) (x : F) : hor (l.map phi) x = lag (a.map phi) x := by
 refine hor_lag (a.map phi) (l.map phi) (by simp; omega) (by simp; omega) (fun i hi => ?_) x
 rw [List.length_map] at hi
 rw [h i hi, atF_map a i hi]
set_option maxHeartbeats 400000 in
theorem uni_At (a : List Int) (v : Value) (x : Int) (w : World) (hp : RowU w v a) (h1 : 1 ≤ a.length) (h8 : a.length ≤ 8) (hx : U64 x) :
  Calls Tryz.prog 167 #[v, .int .u64 x] w fun e w' => e = .returned (.tuple #[.int .u64 (psi (lag (a.map phi) (phi x))), .int .i64 0]) ∧ Below w.heap.size w w' := by
 have Hp := zH hp
 clear hp
 go_enter Tryz.func167, Tryz.ntmps167
 go_wp2_with (fail)
 refine (uni_Coefs _ _ _ Hp.out h1 h8).mono ?_
 rintro e w1 ⟨v1, l, rfl, hn, hl, hv, hb⟩
 have Hl := zH (coefs_lag a l h8 hl hv (phi x))
 have HR := zH hn.row
 clear hn hv hl
 go_wp2_with (go_at_call 173; (with_reducible refine (uni_eval _ _ _ _ HR.out hx).mono ?_); rintro e w2 ⟨rfl, hd⟩)
 go_ret2
 exact ⟨by rw [← Hl.out]; rfl, hb.trans (hd.below.mono hb.size)⟩
end Go.Proofs.YtlfneeobnihocaaGreatDoor
/- The walks of sum.Verify and of the reference's Told: what is claimed at last. No condition but that the arguments read as lists. -/
namespace Go.Proofs.YtlfneeobnihocaaGreatDoor
set_option maxRecDepth 100000
set_option linter.unusedVariables false
open Go.RowKit Tally
def toldTo (c : F) (R : List (List F)) (D : List F) : Nat → Option F
 | 0 => some c
 | k + 1 => match toldTo c R D k with
  | some x => if atF (R[k]?.getD []) 0 + atF (R[k]?.getD []) 1 = x then some (lag (R[k]?.getD []) (atF D k)) else none
  | none => none
def told (c : F) (R : List (List F)) (D : List F) : Option F := toldTo c R D R.length
theorem toldTo_none {c : F} {R : List (List F)} {D : List F} {k n : Nat} (hk : k ≤ n) (h : toldTo c R D k = none) : toldTo c R D n = none := by
 induction n with
 | zero => obtain rfl : k = 0 := by omega
           exact h
 | succ n ih =>
  by_cases e : k = n + 1
  ·subst e; exact h
  ·simp only [toldTo]; rw [ih (by omega)]
def toldV (o : Option F) : Int := match o with | some x => psi x | none => 0
def toldB (o : Option F) : Bool := o.isSome
abbrev phis (ll : List (List Int)) : List (List F) := ll.map (·.map phi)
theorem phis_at (ll : List (List Int)) (k : Nat) (h : k < ll.length) : (phis ll)[k]?.getD [] = (atl ll k).map phi := by
 simp [atl, h]
theorem told_step {c x : F} {ll : List (List Int)} {ds : List Int} {k : Nat} (h : toldTo c (phis ll) (ds.map phi) k = some x) (hk : k < ll.length) (hd : k < ds.length) (h2 : 2 ≤ (atl ll k).length)
  (he : phi (at0 (atl ll k) 0) + phi (at0 (atl ll k) 1) = x) : toldTo c (phis ll) (ds.map phi) (k + 1) = some (lag ((atl ll k).map phi) (phi (at0 ds k))) := by
 simp only [toldTo]; rw [h]; simp only []
 rw [phis_at ll k hk, atF_map _ 0 (by omega), atF_map _ 1 (by omega), if_pos he, atF_map ds k hd]
theorem told_no {c x : F} {ll : List (List Int)} {ds : List Int} {k : Nat} (h : toldTo c (phis ll) (ds.map phi) k = some x) (hk : k < ll.length) (h2 : 2 ≤ (atl ll k).length)
  (he : ¬ phi (at0 (atl ll k) 0) + phi (at0 (atl ll k) 1) = x) : told c (phis ll) (ds.map phi) = none := by
 refine toldTo_none (k := k + 1) (by simp; omega) ?_
 simp only [toldTo]; rw [h]; simp only []
 rw [phis_at ll k hk, atF_map _ 0 (by omega), atF_map _ 1 (by omega), if_neg he]
theorem psi_ne {a b : F} (h : ¬ a = b) : (psi a != psi b) = true := by
 rw [bne_iff_ne]; exact fun e => h (psi_inj e)
def good (ll : List (List Int)) : Prop := ∀ j, j < ll.length → 2 ≤ (atl ll j).length ∧ (atl ll j).length ≤ 8 ∧ (atl ll j).length = (atl ll 0).length
open Classical in
noncomputable def formE (ll : List (List Int)) (ds : List Int) : Int := if ll.length = ds.length then (if good ll then 0 else 4) else 1
theorem formE_arg {ll : List (List Int)} {ds : List Int} (h : ¬ ll.length = ds.length) : formE ll ds = 1 := by unfold formE; rw [if_neg h]
theorem formE_bad {ll : List (List Int)} {ds : List Int} (h : ll.length = ds.length) (h2 : ¬ good ll) : formE ll ds = 4 := by unfold formE; rw [if_pos h, if_neg h2]
theorem formE_ok {ll : List (List Int)} {ds : List Int} (h : ll.length = ds.length) (h2 : good ll) : formE ll ds = 0 := by unfold formE; rw [if_pos h, if_pos h2]
theorem ret_i64 {a b : Int} (h : a = b) : Ending.returned (.int .i64 a) = .returned (.int .i64 b) := by rw [h]
set_option maxHeartbeats 1000000 in
theorem sum_form (v : Value) (ll : List (List Int)) (v2 : Value) (ds : List Int) (w : World) (hp : RowUU w v ll) (hp2 : RowU w v2 ds) :
  Calls Tryz.prog 171 #[v, v2] w fun e w' => e = .returned (.int .i64 (formE ll ds)) ∧ w = w' := by
 obtain ⟨h2, a, cap, rfl, hr⟩ := hp
 obtain ⟨_, h22, ad2, cap2, rfl, hr2⟩ := hp2
 have Hr := zH hr
 clear hr hr2
 by_cases hq : ll.length = ds.length
 ·have hqb : ((ll.length : Int) != (ds.length : Int)) = false := by simp [hq]
  have Hq := zH hq
  clear hq
  go_enter Tryz.func171, Tryz.ntmps171
  go_wp2
  go_loop [17] (fun i => ∃ k : Nat, k ≤ ll.length ∧ i = .int .i64 (k : Int) ∧ Hid (∀ j, j < k → 1 ≤ (atl ll j).length ∧ (atl ll j).length ≤ 8)) (fun i => ll.length - (intOf i).toNat)
  case atStart => exact ⟨0, by omega, rfl, fun j hj => absurd hj (by omega)⟩
  case round =>
   obtain ⟨k, hk, rfl, HK⟩ := hrel
   by_cases hz : k < ll.length
   ·obtain ⟨b, off, rfl, hblt, hcell⟩ := Hr.out (by omega)
    obtain ⟨u, hu, hrow⟩ := hcell k hz
    have Hrow := zH hrow
    obtain ⟨_, hul, au, cu, rfl, _⟩ := hrow
    by_cases h8 : 1 ≤ (atl ll k).length ∧ (atl ll k).length ≤ 8
    ·obtain ⟨h81, h88⟩ := h8
     clear hcell
     go_wp2_with (go_at_call 176; (with_reducible refine (uni_Check _ _ _ Hrow.out h81 h88).mono ?_); rintro e w' ⟨rfl, rfl⟩)
     go_round
     case rel => exact ⟨k + 1, by omega, by go_num, fun j hj => if e : j = k then by subst e; exact ⟨h81, h88⟩ else HK.out j (by omega)⟩
     case measure => simp [intOf]; omega
    ·have Hno := zH (show (atl ll k).length < 1 ∨ 8 < (atl ll k).length by omega)
     have Hbad := zH (formE_bad Hq.out (fun hg => h8 ⟨by have := (hg k hz).1; omega, (hg k hz).2.1⟩))
     clear h8 hcell
     go_wp2_with (go_at_call 176; (with_reducible refine (uni_Check_no _ _ _ Hrow.out Hno.out).mono ?_); rintro e w' ⟨rfl, rfl⟩)
     go_ret
     exact ⟨ret_i64 Hbad.out.symm, rfl⟩
   ·obtain rfl : k = ll.length := by omega
    go_wp2
    go_loop [29] (fun i => ∃ k : Nat, k ≤ ll.length ∧ i = .int .i64 (k : Int) ∧ Hid (∀ j, j < k → 2 ≤ (atl ll j).length ∧ (atl ll j).length = (atl ll 0).length)) (fun i => ll.length - (intOf i).toNat)
    case atStart => exact ⟨0, by omega, rfl, fun j hj => absurd hj (by omega)⟩
    case round =>
     obtain ⟨k, hk, rfl, HG⟩ := hrel
     by_cases hz : k < ll.length
     ·obtain ⟨b, off, rfl, hblt, hcell⟩ := Hr.out (by omega)
      obtain ⟨u, hu, hrow⟩ := hcell k hz
      obtain ⟨u0, hu0, hrow0⟩ := hcell 0 (by omega)
      obtain ⟨_, hul, au, cu, rfl, _⟩ := hrow
      obtain ⟨_, hul0, au0, cu0, rfl, _⟩ := hrow0
      rw [Nat.add_zero] at hu0
      have h0l : (0 : Int) < (ll.length : Int) := by omega
      clear hcell
      by_cases hg : 2 ≤ (atl ll k).length ∧ (atl ll k).length = (atl ll 0).length
      ·have hne : (((atl ll k).length : Int) != ((atl ll 0).length : Int)) = false := by simp [hg.2]
       have hl2 : ¬ ((atl ll k).length : Int) < 2 := by omega
       have HG2 := zH hg
       clear hg
       go_wp2
       go_round
       case rel => exact ⟨k + 1, by omega, by go_num, fun j hj => if e : j = k then by subst e; exact HG2.out else HG.out j (by omega)⟩
       case measure => simp [intOf]; omega
      ·have Hbad := zH (formE_bad Hq.out (fun hg' => hg ⟨(hg' k hz).1, (hg' k hz).2.2⟩))
       by_cases hne' : (atl ll k).length = (atl ll 0).length
       ·have hne : (((atl ll k).length : Int) != ((atl ll 0).length : Int)) = false := by simp [hne']
        have hl2 : ((atl ll k).length : Int) < 2 := by omega
        clear hg hne'
        go_wp2
        go_ret
        exact ⟨ret_i64 Hbad.out.symm, rfl⟩
       ·have hne : (((atl ll k).length : Int) != ((atl ll 0).length : Int)) = true := by simp; omega
        clear hg hne'
        go_wp2
        go_ret
        exact ⟨ret_i64 Hbad.out.symm, rfl⟩
     ·obtain rfl : k = ll.length := by omega
      have Hok := zH (formE_ok Hq.out (fun j hj => ⟨(HG.out j hj).1, (HK.out j hj).2, (HG.out j hj).2⟩))
      go_wp2
      go_ret
      exact ⟨ret_i64 Hok.out.symm, rfl⟩
 ·have hqb : ((ll.length : Int) != (ds.length : Int)) = true := by simp; omega
  have Hq := zH (formE_arg hq)
  clear hq
  go_enter Tryz.func171, Tryz.ntmps171
  go_wp2
  go_ret
  exact ⟨ret_i64 Hq.out.symm, rfl⟩
set_option maxHeartbeats 1000000 in
theorem ref_Told (c : Int) (hc : U64 c) (v : Value) (ll : List (List Int)) (v2 : Value) (ds : List Int) (w : World) (hp : RowUU w v ll) (hp2 : RowU w v2 ds) (hl : ll.length = ds.length) (hg : good ll) :
  Calls Tryz.prog 122 #[.int .u64 c, v, v2] w fun e w' => e = .returned (.tuple #[.int .u64 (toldV (told (phi c) (phis ll) (ds.map phi))), .bool (toldB (told (phi c) (phis ll) (ds.map phi)))]) ∧ Drawn w w' := by
 have hat2 := zH (fun j => @RowU.at _ _ _ hp2 j)
 obtain ⟨h2, a, cap, rfl, hr⟩ := hp
 obtain ⟨_, h22, ad2, cap2, rfl, hr2⟩ := hp2
 have Hr := zH hr
 have Hr2 := zH hr2
 have Hl := zH hl
 have Hg := zH hg
 clear hr hr2 hl hg
 go_enter Tryz.func122, Tryz.ntmps122
 go_wp2
 go_loopw [0, 8] (fun o i wr => ∃ (k : Nat) (x : Int), k ≤ ll.length ∧ U64 x ∧ i = .int .i64 (k : Int) ∧ o = .int .u64 x ∧ Hid (toldTo (phi c) (phis ll) (ds.map phi) k = some (phi x)) ∧ Drawn w wr) (fun _ i _ => ll.length - (intOf i).toNat)
 case atStart => exact ⟨0, c, by omega, hc, rfl, rfl, rfl, Drawn.refl _⟩
 case round =>
  obtain ⟨k, x, hk, hx, rfl, rfl, HT, hd⟩ := hrel
  by_cases hz : k < ll.length
  ·obtain ⟨b, off, rfl, hblt, hcell⟩ := Hr.out (by omega)
   obtain ⟨b2, off2, rfl, hblt2, hcell2⟩ := Hr2.out (by have := Hl.out; omega)
   obtain ⟨u, hu, hrow⟩ := hcell k hz
   have hkd : k < ds.length := by have := Hl.out; omega
   have hkd' : (k : Int) < (ds.length : Int) := by omega
   have hcj := (hd.below.cell (p := ⟨b, off + k, none⟩) hblt).trans hu
   have hcd := (hd.below.cell (p := ⟨b2, off2 + k, none⟩) hblt2).trans (hcell2 k hkd)
   have hud := hat2.out k hkd
   obtain ⟨g1, g2, -⟩ := Hg.out k hz
   have Hrow := zH (hrow.below hd.below (Nat.le_refl _))
   have hat := zH (fun j => @RowU.at _ _ _ hrow j)
   obtain ⟨_, hul, au, cu, rfl, hr3⟩ := hrow
   obtain ⟨b3, off3, rfl, hblt3, hcell3⟩ := hr3 (by omega)
   have hr0 := (hd.below.cell (p := ⟨b3, off3, none⟩) hblt3).trans (hcell3 0 (by omega))
   have hr1 := (hd.below.cell (p := ⟨b3, off3 + 1, none⟩) hblt3).trans (hcell3 1 (by omega))
   have hu0 := hat.out 0 (by omega)
   have hu1 := hat.out 1 (by omega)
   have hl0 : (0 : Int) < ((atl ll k).length : Int) := by omega
   have hl1 : (1 : Int) < ((atl ll k).length : Int) := by omega
   clear hcell hcell2 hcell3 hr3 hu
   by_cases he : phi (at0 (atl ll k) 0) + phi (at0 (atl ll k) 1) = phi x
   ·have Hs := zH (told_step HT.out hz hkd g1 he)
    have He := zH (show psi (phi (at0 (atl ll k) 0) + phi (at0 (atl ll k) 1)) = psi (phi x) by rw [he])
    clear he
    generalize atl ll k = L at *
    go_wp2
    go_quiet (first | (go_at_call 43; exact flip (ref_Add _ _ _ hu0 hu1)) | (go_at_call 47; exact flip (ref_Norm _ _ hx)))
    rw [He.out]
    go_wp2
    have HrowW := zH (Hrow.out.drewN nq)
    have hcjW : (wr.drewN nq).cell? ⟨b, off + k, none⟩ = some (.slice (some ⟨b3, off3, none⟩) L.length cu) := hcj
    have hcdW : (wr.drewN nq).cell? ⟨b2, off2 + k, none⟩ = some (.int .u64 (at0 ds k)) := hcd
    have hdW := hd.more nq
    clear hcj hcd Hrow hr0 hr1 hd
    generalize wr.drewN nq = W at *
    go_quiet ((go_at_call 124; exact flip (ref_At _ _ _ _ (RowU.drewN HrowW.out _) hud (Nat.le_trans g2 (by decide)))))
    go_wp2
    go_roundw
    case rel => exact ⟨k + 1, _, by omega, U64.psi _, by go_num, rfl, by rw [phi_psi]; exact Hs.out, hdW.more _⟩
    case measure => simp [intOf]; omega
   ·have Hn := zH (told_no HT.out hz g1 he)
    have He := psi_ne he
    clear he
    go_wp2
    go_quiet (first | (go_at_call 43; exact flip (ref_Add _ _ _ hu0 hu1)) | (go_at_call 47; exact flip (ref_Norm _ _ hx)))
    go_wp2
    go_ret2
    rw [Hn.out]
    exact ⟨rfl, hd.more _⟩
  ·obtain rfl : k = ll.length := by omega
   go_wp2_with (first | (go_at_call 47; (with_reducible refine (ref_Norm _ _ (by first | assumption | exact U64.psi _ | exact U64.zero | exact U64.one | exact U64.mk (by decide) (by decide))).mono ?_); rintro e w' ⟨rfl, rfl⟩))
   go_ret2
   have hT : told (phi c) (phis ll) (ds.map phi) = some (phi x) := by unfold told; rw [List.length_map]; exact HT.out
   rw [hT]
   exact ⟨rfl, hd⟩
set_option maxHeartbeats 1000000 in
theorem sum_Verify (c : Int) (hc : U64 c) (v : Value) (ll : List (List Int)) (v2 : Value) (ds : List Int) (w : World) (hp : RowUU w v ll) (hp2 : RowU w v2 ds) (hl : ll.length = ds.length) (hg : good ll) :
  Calls Tryz.prog 166 #[.int .u64 c, v, v2] w fun e w' => e = .returned (.tuple #[.int .u64 (toldV (told (phi c) (phis ll) (ds.map phi))), .bool (toldB (told (phi c) (phis ll) (ds.map phi))), .int .i64 0]) ∧ Below w.heap.size w w' := by
 have hat2 := zH (fun j => @RowU.at _ _ _ hp2 j)
 have Hf := zH (formE_ok hl hg)
 have Hp := zH hp
 have Hp2 := zH hp2
 obtain ⟨h2, a, cap, rfl, hr⟩ := hp
 obtain ⟨_, h22, ad2, cap2, rfl, hr2⟩ := hp2
 have Hr := zH hr
 have Hr2 := zH hr2
 have Hl := zH hl
 have Hg := zH hg
 clear hr hr2 hl hg
 go_enter Tryz.func166, Tryz.ntmps166
 go_wp2_with (fail)
 refine (sum_form _ _ _ _ _ Hp.out Hp2.out).mono ?_
 rintro e w' ⟨rfl, rfl⟩
 rw [Hf.out]
 go_wp2_with (first | (go_at_call 64; (with_reducible refine (field_Norm _ _ (by first | assumption | exact U64.psi _ | exact U64.zero | exact U64.one | exact U64.mk (by decide) (by decide))).mono ?_); rintro e w' ⟨rfl, rfl⟩))
 go_loopw [0, 22] (fun o i wr => ∃ (k : Nat) (x : F), k ≤ ll.length ∧ i = .int .i64 (k : Int) ∧ o = .int .u64 (psi x) ∧ Hid (toldTo (phi c) (phis ll) (ds.map phi) k = some x) ∧ Below w.heap.size w wr) (fun _ i _ => ll.length - (intOf i).toNat)
 case atStart => exact ⟨0, _, by omega, rfl, rfl, rfl, Below.refl _ _⟩
 case round =>
  obtain ⟨k, x, hk, rfl, rfl, HT, hd⟩ := hrel
  by_cases hz : k < ll.length
  ·obtain ⟨b, off, rfl, hblt, hcell⟩ := Hr.out (by omega)
   obtain ⟨b2, off2, rfl, hblt2, hcell2⟩ := Hr2.out (by have := Hl.out; omega)
   obtain ⟨u, hu, hrow⟩ := hcell k hz
   have hkd : k < ds.length := by have := Hl.out; omega
   have hkd' : (k : Int) < (ds.length : Int) := by omega
   have hcj := (hd.cell (p := ⟨b, off + k, none⟩) hblt).trans hu
   have hcd := (hd.cell (p := ⟨b2, off2 + k, none⟩) hblt2).trans (hcell2 k hkd)
   have hud := hat2.out k hkd
   obtain ⟨g1, g2, -⟩ := Hg.out k hz
   have Hrow := zH (hrow.below hd (Nat.le_refl _))
   have hat := zH (fun j => @RowU.at _ _ _ hrow j)
   obtain ⟨_, hul, au, cu, rfl, hr3⟩ := hrow
   obtain ⟨b3, off3, rfl, hblt3, hcell3⟩ := hr3 (by omega)
   have hr0 := (hd.cell (p := ⟨b3, off3, none⟩) hblt3).trans (hcell3 0 (by omega))
   have hr1 := (hd.cell (p := ⟨b3, off3 + 1, none⟩) hblt3).trans (hcell3 1 (by omega))
   have hu0 := hat.out 0 (by omega)
   have hu1 := hat.out 1 (by omega)
   have hl0 : (0 : Int) < ((atl ll k).length : Int) := by omega
   have hl1 : (1 : Int) < ((atl ll k).length : Int) := by omega
   clear hcell hcell2 hcell3 hr3 hu
   by_cases he : phi (at0 (atl ll k) 0) + phi (at0 (atl ll k) 1) = x
   ·have Hs := zH (told_step HT.out hz hkd g1 he)
    have He := zH (show psi (phi (at0 (atl ll k) 0) + phi (at0 (atl ll k) 1)) = psi x by rw [he])
    clear he
    generalize atl ll k = L at *
    go_wp2
    go_quiet ((go_at_call 108; exact flip (field_Add _ _ _ hu0 hu1)))
    rw [He.out]
    have HrowW := zH (Hrow.out.drewN nq)
    have hcdW : (wr.drewN nq).cell? ⟨b2, off2 + k, none⟩ = some (.int .u64 (at0 ds k)) := hcd
    have hdW := below_drewN hd nq
    clear hcj hcd Hrow hr0 hr1 hd
    generalize wr.drewN nq = W at *
    go_wp2_with (fail)
    refine (uni_At _ _ _ _ HrowW.out (by omega) g2 hud).mono ?_
    rintro e w2 ⟨rfl, hb2⟩
    go_wp2
    go_roundw
    case rel => exact ⟨k + 1, _, by omega, by go_num, rfl, Hs.out, hdW.trans (hb2.mono hdW.size)⟩
    case measure => simp [intOf]; omega
   ·have Hn := zH (told_no HT.out hz g1 he)
    have He := psi_ne he
    clear he
    go_wp2
    go_quiet ((go_at_call 108; exact flip (field_Add _ _ _ hu0 hu1)))
    go_wp2
    go_ret3
    rw [Hn.out]
    exact ⟨rfl, below_drewN hd _⟩
  ·obtain rfl : k = ll.length := by omega
   go_wp2
   go_ret3
   have hT : told (phi c) (phis ll) (ds.map phi) = some x := by unfold told; rw [List.length_map]; exact HT.out
   rw [hT]
   exact ⟨rfl, hd⟩
end Go.Proofs.YtlfneeobnihocaaGreatDoor
