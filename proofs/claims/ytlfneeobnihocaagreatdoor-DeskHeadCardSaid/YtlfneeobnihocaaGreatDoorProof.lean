/- Proofs in memory: what is meant by a proof that reads as data; how it is opened; how one is made, part by part. No condition. -/
import Derived.Test.YtlfneeobnihocaaGreatDoorCircO
import Derived.Test.YtlfneeobnihocaaGreatDoorFar
namespace Go.Proofs.YtlfneeobnihocaaGreatDoor
set_option maxRecDepth 100000
set_option linter.unusedVariables false
open Go.ChangeShapes Go.WideShapes Go.ChangeAt Go.RowKit Go.Deep Go.Joins
/-- a part of a proof, in numbers -/
structure Pi where
  rounds : List (List Int)
  line : List Int
instance : Inhabited Pi := ⟨⟨[], []⟩⟩
abbrev part0 : Pi := ⟨[], []⟩
abbrev atp (l : List Pi) (j : Nat) : Pi := l[j]?.getD part0
/-- v is a slice of parts that reads as l -/
def RowP (w : World) (v : Value) (l : List Pi) : Prop :=
  l.length ≤ 9223372036854775807 ∧ ∃ a cap, v = .slice a l.length cap ∧
    (0 < l.length → ∃ b off, a = some ⟨b, off, none⟩ ∧ b < w.heap.size ∧ ∀ j, j < l.length →
      ∃ u u2, w.cell? ⟨b, off + j * 2, none⟩ = some u ∧ w.cell? ⟨b, off + j * 2 + 1, none⟩ = some u2 ∧ RowUU w u (atp l j).rounds ∧ RowU w u2 (atp l j).line)
/-- v is a proof that reads as l -/
def IsP (w : World) (v : Value) (l : List Pi) : Prop := ∃ u, v = .agg #[u] ∧ RowP w u l
theorem RowP.below {K : Nat} {w w' : World} {v : Value} {l : List Pi} (h : RowP w v l) (hb : Below K w w') (hK : w.heap.size ≤ K) : RowP w' v l := by
  obtain ⟨h2, a, cap, rfl, h3⟩ := h
  refine ⟨h2, a, cap, rfl, fun hl => ?_⟩
  obtain ⟨b, off, rfl, hlt, hc⟩ := h3 hl
  refine ⟨b, off, rfl, Nat.lt_of_lt_of_le hlt hb.size, fun j hj => ?_⟩
  obtain ⟨u, u2, c1, c2, r1, r2⟩ := hc j hj
  exact ⟨u, u2, by rw [hb.cell (by show b < K; omega)]; exact c1, by rw [hb.cell (by show b < K; omega)]; exact c2, r1.below hb hK, r2.below hb hK⟩
theorem IsP.below {K : Nat} {w w' : World} {v : Value} {l : List Pi} (h : IsP w v l) (hb : Below K w w') (hK : w.heap.size ≤ K) : IsP w' v l := by
  obtain ⟨u, rfl, h2⟩ := h
  exact ⟨u, rfl, h2.below hb hK⟩
theorem IsP.go {w w' : World} {v : Value} {l : List Pi} (h : IsP w v l) (hb : Below w.heap.size w w') : IsP w' v l := h.below hb (Nat.le_refl _)
theorem RowP.go {w w' : World} {v : Value} {l : List Pi} (h : RowP w v l) (hb : Below w.heap.size w w') : RowP w' v l := h.below hb (Nat.le_refl _)
theorem RowUU.go {w w' : World} {v : Value} {l : List (List Int)} (h : RowUU w v l) (hb : Below w.heap.size w w') : RowUU w' v l := h.below hb (Nat.le_refl _)

theorem cellsU64s : Tryz.prog.cellsOf 53 = 1 := by kernel_rfl
theorem cellsU64ss : Tryz.prog.cellsOf 76 = 1 := by kernel_rfl
theorem cellsPart : Tryz.prog.cellsOf 143 = 2 := by kernel_rfl
theorem cellsParts : Tryz.prog.cellsOf 91 = 1 := by kernel_rfl
theorem cellsProof : Tryz.prog.cellsOf 93 = 1 := by kernel_rfl
theorem trod_u64s' {H : Type} {enc : TypeId × Value → H} {W : World} {fuel : Nat} {v : Value} {x : DataW H × List MemPlace} {held : Bool}
    (h : DataW.trod enc Tryz.prog W 0 (fun _ => true) held fuel 53 [v] = some x) : ∃ l, RowU W v l := by
  rcases open_ints Tryz.underlying53 Tryz.underlying57 (by kernel_rfl) h with ⟨hcs, _⟩ | ⟨y, len', cap', zs, hcs, _⟩
  · obtain rfl : v = .slice none 0 0 := by simpa using hcs
    exact trod_u64s h
  · obtain rfl : v = .slice (some y) len' cap' := by simpa using hcs
    exact trod_u64s h
theorem trod_u64ss' {H : Type} {enc : TypeId × Value → H} {W : World} {fuel : Nat} {v : Value} {x : DataW H × List MemPlace} {held : Bool}
    (h : DataW.trod enc Tryz.prog W 0 (fun _ => true) held fuel 76 [v] = some x) : ∃ l, RowUU W v l := by
  rcases Go.Deep.open_int_rows Tryz.underlying76 Tryz.underlying53 Tryz.underlying57 (by kernel_rfl) (by kernel_rfl) h with ⟨hcs, _⟩ | ⟨y, len', cap', A, L, C, Z, hcs, _⟩
  · obtain rfl : v = .slice none 0 0 := by simpa using hcs
    exact trod_u64ss h
  · obtain rfl : v = .slice (some y) len' cap' := by simpa using hcs
    exact trod_u64ss h
theorem trod_parts {H : Type} {enc : TypeId × Value → H} {W : World} {fuel : Nat} {v : Value} {x : DataW H × List MemPlace} {held : Bool}
    (h : DataW.trod enc Tryz.prog W 0 (fun _ => true) held fuel 91 [v] = some x) : ∃ l, RowP W v l := by
  rcases open_slice Tryz.underlying91 h with ⟨hcs, _⟩ | ⟨a, len, cap, m, n, D, Pl, hcs, _, hl, hm, hmm, _, hx⟩
  · obtain rfl : v = .slice none 0 0 := by simpa using hcs
    exact ⟨[], by simp, none, 0, rfl, fun h => by simp at h⟩
  · obtain rfl : v = .slice (some a) len cap := by simpa using hcs
    simp only [if_true] at hmm
    subst hmm
    rw [cellsPart] at hx
    obtain ⟨b, off, spot⟩ := a
    have each : ∀ i, i < len → ∃ y : Pi, ∃ u u2, W.cell? ((⟨b, off, spot⟩ : Addr).add (i * 2)) = some u ∧ W.cell? ((⟨b, off, spot⟩ : Addr).add (i * 2 + 1)) = some u2 ∧ RowUU W u y.rounds ∧ RowU W u2 y.line := by
      intro i hi
      obtain ⟨cs', h1, h2⟩ := hx i (by omega)
      obtain ⟨_, hlen, hat⟩ := World.cells?_some h1
      obtain ⟨y0, y1, n', _, _, t0, t1⟩ := trod_struct2 Tryz.underlying143 h2
      match cs', hlen with
      | [c0, c1], _ =>
        simp only [cellsU64s, cellsU64ss] at t0 t1
        obtain ⟨ll, hll⟩ := trod_u64ss' (v := c0) (by simpa using t0)
        obtain ⟨l, hl'⟩ := trod_u64s' (v := c1) (by simpa using t1)
        have a0 := hat 0 (by omega)
        have a1 := hat 1 (by omega)
        rw [Go.Deep.add_add] at a0 a1
        exact ⟨⟨ll, l⟩, c0, c1, by simpa using a0, by simpa using a1, hll, hl'⟩
    obtain ⟨G, hG⟩ := choose_lt each
    have hlen : ((List.range len).map G).length = len := by simp
    have hat : ∀ j, j < len → atp ((List.range len).map G) j = G j := fun j hj => by simp [atp, hj]
    refine ⟨(List.range len).map G, by rw [hlen]; unfold maxLen at hm; omega, _, _, by rw [hlen], fun h0 => ?_⟩
    rw [hlen] at h0
    obtain ⟨_, _, hc, _⟩ := hG 0 h0
    have hspot : spot = none := by simpa [Addr.add] using World.cell?_spot hc
    subst hspot
    refine ⟨b, off, rfl, by simpa [Addr.add] using lt_of_cell hc, fun j hj => ?_⟩
    rw [hlen] at hj
    rw [hat j hj]
    obtain ⟨u, u2, c0, c1, r1, r2⟩ := hG j hj
    rw [Addr.add_lit] at c0 c1
    exact ⟨u, u2, c0, c1, r1, r2⟩
theorem open_proof {H : Type} {enc : TypeId × Value → H} {W : World} {base : Nat} {v : Value} {x : DataW H} {p : List MemPlace} {held : Bool}
    (hv : Value.okWide Tryz.prog W .any base 93 v) (h : DataW.Trod enc Tryz.prog W 0 (fun _ => true) held 93 v x p) : ∃ l, IsP W v l := by
  obtain ⟨cs, rfl, hsz⟩ := okWide_struct Tryz.underlying93 hv
  obtain ⟨fuel, hf⟩ := h
  obtain ⟨y0, n, _, _, t0⟩ := trod_struct1 Tryz.underlying93 hf
  have hs1 : cs.size = 1 := hsz.trans cellsProof
  match cs, hs1 with
  | ⟨[c0]⟩, _ =>
    obtain ⟨l, hl⟩ := trod_parts (v := c0) (by simpa [Value.cells, cellsParts] using t0)
    exact ⟨l, _, rfl, hl⟩

/-- whatever is written to row r alone, or made anew, leaves it -/
def Safe (w : World) (r : Option Nat) (Q : World → Prop) : Prop := ∀ w', w.grownBy w' r → Q w'
theorem grownBy_refl (w : World) (r : Option Nat) : w.grownBy w r := ⟨rfl, rfl, rfl, Nat.le_refl _, fun _ _ _ => rfl⟩
theorem Safe.now {w : World} {r : Option Nat} {Q : World → Prop} (h : Safe w r Q) : Q w := h w (grownBy_refl w r)
theorem grownBy_chain {a b c : World} {r : Option Nat} (h : a.grownBy b r) (k : b.grownBy c r) : a.grownBy c r :=
  ⟨k.os.trans h.os, k.tape.trans h.tape, k.output.trans h.output, Nat.le_trans h.size k.size, fun i hi hr => (k.block i (Nat.lt_of_lt_of_le hi h.size) hr).trans (h.block i hi hr)⟩
theorem grownBy_new {a b c : World} {r : Option Nat} {g : Nat} (h : a.grownBy b r) (k : b.grownBy c (some g)) (hg : a.heap.size ≤ g) : a.grownBy c r :=
  ⟨k.os.trans h.os, k.tape.trans h.tape, k.output.trans h.output, Nat.le_trans h.size k.size, fun i hi hr => (k.block i (Nat.lt_of_lt_of_le hi h.size) (fun e => by cases e; omega)).trans (h.block i hi hr)⟩
theorem grownBy_none {a b c : World} {r : Option Nat} (h : a.grownBy b r) (k : b.grownBy c none) : a.grownBy c r :=
  ⟨k.os.trans h.os, k.tape.trans h.tape, k.output.trans h.output, Nat.le_trans h.size k.size, fun i hi hr => (k.block i (Nat.lt_of_lt_of_le hi h.size) (fun e => by cases e)).trans (h.block i hi hr)⟩
theorem below_toGrown {w w' : World} (h : Below w.heap.size w w') (r : Option Nat) : w.grownBy w' r := ⟨h.os, h.tape, h.output, h.size, fun k hk _ => h.block k hk⟩
theorem Safe.grown {w w' : World} {r : Option Nat} {Q : World → Prop} (h : Safe w r Q) (hg : w.grownBy w' r) : Safe w' r Q := fun w'' k => h w'' (grownBy_chain hg k)
theorem Safe.go {w w' : World} {r : Option Nat} {Q : World → Prop} (h : Safe w r Q) (hb : Below w.heap.size w w') : Safe w' r Q := h.grown (below_toGrown hb r)
theorem Safe.fresh {w w' : World} {r r' : Option Nat} {Q : World → Prop} (h : Safe w r Q) (hg : w.grownBy w' r) (hr : ∀ g, r' = some g → w.heap.size ≤ g) : Safe w' r' Q := fun w'' k => by
  cases r' with
  | none => exact h w'' (grownBy_none hg k)
  | some g => exact h w'' (grownBy_new hg k (hr g rfl))
theorem Safe.both {w : World} {r : Option Nat} {Q Q' : World → Prop} (h : Safe w r Q) (k : Safe w r Q') : Safe w r (fun w => Q w ∧ Q' w) := fun w' hg => ⟨h w' hg, k w' hg⟩
theorem NewU.safe {B : Nat} {w : World} {v : Value} {l : List Int} (h : NewU B w v l) {r : Option Nat} (hr : ∀ g, r = some g → g < B) : Safe w r (fun w => RowU w v l) := fun w' hg =>
  (h.grownOther hg (fun g hv e => by have := hr g e; have := (h.lt hv).1; omega)).row
theorem NewUU.grownOther2 {B : Nat} {w w' : World} {v : Value} {ll : List (List Int)} {r : Option Nat} (h : NewUU B w v ll) (hg : w.grownBy w' r) (hr : ∀ g, r = some g → g < B) : NewUU B w' v ll := by
  obtain ⟨h1, us, h2, h3, h4⟩ := h
  refine ⟨h1, us, h2, ownsRow_grown h3 hg (fun g hv e => by have := hr g e; have := (h3.lt g hv).1; omega), fun j hj => ?_⟩
  obtain ⟨u, e, hu, hn⟩ := h4 j hj
  exact ⟨u, e, hu.grownOther hg (fun g hv e => by have := hr g e; have := (hu.lt hv).1; omega), hn⟩
theorem NewUU.safe {B : Nat} {w : World} {v : Value} {ll : List (List Int)} (h : NewUU B w v ll) {r : Option Nat} (hr : ∀ g, r = some g → g < B) : Safe w r (fun w => RowUU w v ll) := fun w' hg =>
  (h.grownOther2 hg hr).rows
theorem RowU.oneCell {w : World} {v : Value} {l : List Int} (h : RowU w v l) : v.oneCell' = true := by
  obtain ⟨_, _, a, cap, rfl, _⟩ := h; rfl
theorem RowUU.oneCell {w : World} {v : Value} {l : List (List Int)} (h : RowUU w v l) : v.oneCell' = true := by
  obtain ⟨_, a, cap, rfl, _⟩ := h; rfl
theorem Tryz.infoPart : (Tryz.prog.info? 143).map (fun i => (i.zero, i.size, i.bytes)) = some (some (.agg #[.slice none 0 0, .slice none 0 0]), 2, 48) := by kernel_rfl
/-- v is a slice of parts in memory from block B on, that its holder may append to; it reads as l -/
def NewP (B : Nat) (w : World) (v : Value) (l : List Pi) : Prop :=
  l.length ≤ 1000 ∧ ∃ us : List Value, us.length = 2 * l.length ∧ w.ownsRow B 143 2 v l.length us ∧
    ∀ j, j < l.length → ∃ u u2, us[j * 2]? = some u ∧ us[j * 2 + 1]? = some u2 ∧ Far (fun b => b < B ∨ v.ownBlock = some b) (fun w => RowUU w u (atp l j).rounds ∧ RowU w u2 (atp l j).line) w
theorem NewP.nil (B : Nat) (w : World) : NewP B w (.slice none 0 0) [] := ⟨by simp, [], rfl, World.ownsRow_nil w B _ _, fun j hj => absurd hj (by simp)⟩
theorem NewP.go {B : Nat} {w w' : World} {v : Value} {l : List Pi} (h : NewP B w v l) (hb : Below w.heap.size w w') : NewP B w' v l := by
  obtain ⟨h1, us, h2, h3, h4⟩ := h
  refine ⟨h1, us, h2, ownsRow_below h3 hb (Nat.le_refl _), fun j hj => ?_⟩
  obtain ⟨u, u2, e, e2, hs⟩ := h4 j hj
  exact ⟨u, u2, e, e2, hs.go hb⟩
theorem NewP.lt {B : Nat} {w : World} {v : Value} {l : List Pi} (h : NewP B w v l) {g : Nat} (hg : v.ownBlock = some g) : B ≤ g ∧ g < w.heap.size := by
  obtain ⟨_, us, _, ho, _⟩ := h
  exact ho.lt g hg
theorem NewP.low {B g : Nat} {w : World} {v : Value} {l : List Pi} (h : NewP B w v l) (hg : g < B) (j : Nat) (u : Value) : NewP B (w.setCell ⟨g, j, none⟩ u) v l := by
  have hlt := fun b (e : v.ownBlock = some b) => h.lt e
  obtain ⟨h1, us, h2, h3, h4⟩ := h
  refine ⟨h1, us, h2, ownsRow_same h3 fun b e => Below.heap_setCell _ _ _ _ (by show b ≠ g; have := (hlt b e).1; omega), fun j' hj => ?_⟩
  obtain ⟨u1, u2, e1, e2, hs⟩ := h4 j' hj
  exact ⟨u1, u2, e1, e2, hs.set (.inl hg) j u⟩
theorem NewP.isSlice {B : Nat} {w : World} {v : Value} {l : List Pi} (h : NewP B w v l) : ∃ a c, v = .slice a l.length c := by
  obtain ⟨_, us, _, h3, _⟩ := h
  rcases h3.2 with ⟨rfl, h0⟩ | ⟨g, cap, cur, rfl, _⟩
  · exact ⟨none, 0, by rw [h0]⟩
  · exact ⟨_, _, rfl⟩
theorem NewP.row {B : Nat} {w : World} {v : Value} {l : List Pi} (h : NewP B w v l) : RowP w v l := by
  obtain ⟨h1, us, h2, h3, h4⟩ := h
  have h3' := h3
  refine ⟨by omega, ?_⟩
  rcases h3.2 with ⟨rfl, h0⟩ | ⟨g, cap, cur, rfl, hg, hh, hn, hcap, hs, ht⟩
  · exact ⟨none, 0, by rw [h0], fun hl => by omega⟩
  · refine ⟨_, cap, rfl, fun hl => ⟨g, 0, rfl, (h3'.lt g rfl).2, fun j hj => ?_⟩⟩
    obtain ⟨u, u2, e, e2, hs⟩ := h4 j hj
    refine ⟨u, u2, ?_, ?_, hs.now⟩
    · have := h3'.cellAt (j * 2) (by omega)
      rw [Nat.zero_add, this]; exact e
    · have := h3'.cellAt (j * 2 + 1) (by omega)
      rw [Nat.zero_add, this]; exact e2
theorem atp_append_left (ll : List Pi) (l : Pi) (j : Nat) (h : j < ll.length) : atp (ll ++ [l]) j = atp ll j := by
  simp [atp, List.getElem?_append_left h]
theorem atp_append_last (ll : List Pi) (l : Pi) : atp (ll ++ [l]) ll.length = l := by simp [atp]
/-- append of one part -/
theorem wpList_appP {ops : Array Oper} {rest : List Oper} {o : Oper} {a : Act} {Q : Exit → Act → World → Prop} {w0 : World} (hgd : o.guard = none) (s x : Operand)
    (ho : o.op = .call { callee := .builtin .append, args := #[s, x], argTypes := #[91, 91] })
    (B : Nat) (v : Value) (ll : List Pi) (hs : a.eval s = v) (hown : NewP B w0 v ll) (u u2 : Value) (l : Pi) (hu : Far (fun b => b < B ∨ v.ownBlock = some b) (fun w => RowUU w u l.rounds ∧ RowU w u2 l.line) w0)
    (hx : a.eval x = .slice (some ⟨w0.heap.size, 0, none⟩) 1 1) (hlen : ll.length + 1 ≤ 1000) (hB : B ≤ w0.heap.size)
    (h : ∀ v' w', NewP B w' v' (ll ++ [l]) → Below B w0 w' → w0.grownBy w' v.ownBlock → wpList Tryz.prog ops Q rest (a.put o.dst v') w') : wpList Tryz.prog ops Q (o :: rest) a (w0.alloc (.cells #[u, u2] 143)) := by
  obtain ⟨i0, hi1, hz0, hz1, hz2⟩ := info_parts Tryz.infoPart
  obtain ⟨h1, us, h2, h3, h4⟩ := hown
  have hlt := h3.lt
  have h1c := hu.now.1.oneCell
  have h2c := hu.now.2.oneCell
  refine wpList_append_own_at _ hgd s x _ ho B 143 i0 (.agg #[.slice none 0 0, .slice none 0 0]) 2 48 Tryz.underlying91 hi1 hz0 hz1 hz2 rfl (by decide) v ll.length us hs (h3.alloc _) ⟨w0.heap.size, 0, none⟩ 1 1 [u, u2] hx (by simp) ?_ (by simpa using ⟨h1c, h2c⟩) (by unfold maxLen; omega) (by omega) (by simp; omega) ?_
  · exact World.news_of_block (cs := #[u, u2]) (t := 143) (fr := (0, 0)) (alloc_blk w0 _)
  · intro v' w' h5 h6 _ h8
    have hal : Below w0.heap.size w0 (w0.alloc (.cells #[u, u2] 143)) := (Below.refl _ _).alloc (Nat.le_refl _) _
    have hsz : (w0.alloc (.cells #[u, u2] 143)).heap.size = w0.heap.size + 1 := by simp
    have hg0 : w0.grownBy w' v.ownBlock := grownBy_chain (below_toGrown hal _) h6
    have hbl : Below B w0 w' := ((Below.refl B w0).alloc hB _).grown h6 (by simp; omega) fun k hk => (hlt k hk).1
    have move : ∀ Q, Far (fun b => b < B ∨ v.ownBlock = some b) Q w0 → Far (fun b => b < B ∨ v'.ownBlock = some b) Q w' := by
      intro Q hQ
      rcases h8 with h8 | h8
      · rw [h8]; exact hQ.grown hg0 fun g hg _ => .inr hg
      · refine hQ.fresh hg0.size (fun b hlt hn => hg0.block b hlt fun e => hn (.inr e.symm)) fun b hlt e => ?_
        rcases e with e | e
        · exact .inl e
        · rw [h8, hsz] at e; cases e; omega
    refine h v' w' ⟨by simp; omega, us ++ [u, u2], by simp [h2]; omega, by simpa using h5, fun j hj => ?_⟩ hbl hg0
    by_cases hj2 : j < ll.length
    · obtain ⟨y, y2, e, e2, hs⟩ := h4 j hj2
      refine ⟨y, y2, by rw [List.getElem?_append_left (by omega)]; exact e, by rw [List.getElem?_append_left (by omega)]; exact e2, ?_⟩
      rw [atp_append_left _ _ _ hj2]
      exact move _ hs
    · obtain rfl : j = ll.length := by simp at hj; omega
      refine ⟨u, u2, ?_, ?_, ?_⟩
      · rw [List.getElem?_append_right (by omega), show ll.length * 2 - us.length = 0 by omega]; rfl
      · rw [List.getElem?_append_right (by omega), show ll.length * 2 + 1 - us.length = 1 by omega]; rfl
      · rw [atp_append_last]; exact move _ hu
end Go.Proofs.YtlfneeobnihocaaGreatDoor
