/- Rows of pairs, of paths, of looks that a call makes, and appends to. No condition. -/
import Derived.Test.YtokggifjcbkmnaaDoorOpening
import Derived.Test.YtokggifjcbkmnaaDoorFar
namespace Go.Proofs.YtokggifjcbkmnaaDoor
set_option maxRecDepth 100000
set_option linter.unusedVariables false
open Go.ChangeShapes Go.WideShapes Go.ChangeAt Go.RowKit Go.Deep Go.Joins
theorem gB_refl (w : World) (r : Option Nat) : w.grownBy w r := ⟨rfl, rfl, rfl, Nat.le_refl _, fun _ _ _ => rfl⟩
theorem grownBy_chain {a b c : World} {r : Option Nat} (h : a.grownBy b r) (k : b.grownBy c r) : a.grownBy c r :=
  ⟨k.os.trans h.os, k.tape.trans h.tape, k.output.trans h.output, Nat.le_trans h.size k.size, fun i hi hr => (k.block i (Nat.lt_of_lt_of_le hi h.size) hr).trans (h.block i hi hr)⟩
theorem below_toGrown {w w' : World} (h : Below w.heap.size w w') (r : Option Nat) : w.grownBy w' r := ⟨h.os, h.tape, h.output, h.size, fun k hk _ => h.block k hk⟩
theorem RowU.oneCell {w : World} {v : Value} {l : List Int} (h : RowU w v l) : v.oneCell' = true := by
  obtain ⟨_, _, a, cap, rfl, _⟩ := h; rfl
theorem RowA.oneCell {w : World} {v : Value} {l : List (Int × Int)} (h : RowA w v l) : v.oneCell' = true := by
  obtain ⟨_, a, cap, rfl, _⟩ := h; rfl
theorem RowB.oneCell {w : World} {v : Value} {l : List (List Int × List Int)} (h : RowB w v l) : v.oneCell' = true := by
  obtain ⟨_, a, cap, rfl, _⟩ := h; rfl
theorem Tryd.infoA : (Tryd.prog.info? 67).map (fun i => (i.zero, i.size, i.bytes)) = some (some (.agg #[.int .u64 0, .int .u64 0]), 2, 16) := by kernel_rfl
/-- the cells of pairs -/
def flatA : List (Int × Int) → List Value
  | [] => []
  | p :: l => .int .u64 p.1 :: .int .u64 p.2 :: flatA l
theorem flatA_length (l : List (Int × Int)) : (flatA l).length = 2 * l.length := by
  induction l with
  | nil => rfl
  | cons p l ih => simp [flatA, ih]; omega
theorem flatA_append (l m : List (Int × Int)) : flatA (l ++ m) = flatA l ++ flatA m := by
  induction l with
  | nil => rfl
  | cons p l ih => simp [flatA, ih]
theorem flatA_at (l : List (Int × Int)) : ∀ j, j < l.length → (flatA l)[j * 2]? = some (.int .u64 (ata l j).1) ∧ (flatA l)[j * 2 + 1]? = some (.int .u64 (ata l j).2) := by
  induction l with
  | nil => intro j hj; simp at hj
  | cons p l ih =>
    intro j hj
    match j, hj with
    | 0, _ => simp [flatA, ata]
    | j + 1, hj =>
      have := ih j (by simpa using hj)
      rw [show (j + 1) * 2 = j * 2 + 1 + 1 by omega]
      simpa [flatA, ata] using this
/-- v is a slice of pairs in memory from block B on, that its holder may append to; it reads as l -/
def NewA (B : Nat) (w : World) (v : Value) (l : List (Int × Int)) : Prop :=
  (∀ p ∈ l, U64 p.1 ∧ U64 p.2) ∧ l.length ≤ 1000 ∧ w.ownsRow B 67 2 v l.length (flatA l)
theorem NewA.nil (B : Nat) (w : World) : NewA B w (.slice none 0 0) [] := ⟨by simp, by simp, World.ownsRow_nil w B _ _⟩
theorem NewA.go {B : Nat} {w w' : World} {v : Value} {l : List (Int × Int)} (h : NewA B w v l) (hb : Below w.heap.size w w') : NewA B w' v l :=
  ⟨h.1, h.2.1, ownsRow_below h.2.2 hb (Nat.le_refl _)⟩
theorem NewA.lt {B : Nat} {w : World} {v : Value} {l : List (Int × Int)} (h : NewA B w v l) {g : Nat} (hg : v.ownBlock = some g) : B ≤ g ∧ g < w.heap.size := h.2.2.lt g hg
theorem NewA.grownOther {B : Nat} {w w' : World} {v : Value} {l : List (Int × Int)} {r : Option Nat} (h : NewA B w v l) (hg : w.grownBy w' r) (hr : ∀ g, v.ownBlock = some g → r ≠ some g) : NewA B w' v l :=
  ⟨h.1, h.2.1, ownsRow_grown h.2.2 hg hr⟩
theorem NewA.isSlice {B : Nat} {w : World} {v : Value} {l : List (Int × Int)} (h : NewA B w v l) : ∃ a c, v = .slice a l.length c := by
  obtain ⟨_, _, h3⟩ := h
  rcases h3.2 with ⟨rfl, h0⟩ | ⟨g, cap, cur, rfl, _⟩
  · exact ⟨none, 0, by rw [h0]⟩
  · exact ⟨_, _, rfl⟩
theorem NewA.row {B : Nat} {w : World} {v : Value} {l : List (Int × Int)} (h : NewA B w v l) : RowA w v l := by
  obtain ⟨h0, h1, h3⟩ := h
  have h3' := h3
  refine ⟨by omega, ?_⟩
  have hlen := flatA_length l
  rcases h3.2 with ⟨rfl, h0⟩ | ⟨g, cap, cur, rfl, hg, hh, hn, hcap, hs, ht⟩
  · exact ⟨none, 0, by rw [h0], fun hl => by omega⟩
  · refine ⟨_, cap, rfl, fun hl => ⟨g, 0, rfl, (h3'.lt g rfl).2, fun j hj => ⟨h0 _ ?_, ?_, ?_⟩⟩⟩
    · simp [ata, hj]
    · have := h3'.cellAt (j * 2) (by omega)
      rw [Nat.zero_add, this]; exact (flatA_at l j hj).1
    · have := h3'.cellAt (j * 2 + 1) (by omega)
      rw [Nat.zero_add, this]; exact (flatA_at l j hj).2

theorem Tryd.infoB : (Tryd.prog.info? 66).map (fun i => (i.zero, i.size, i.bytes)) = some (some (.agg #[.slice none 0 0, .slice none 0 0]), 2, 48) := by kernel_rfl
/-- v is a slice in memory from block B on, that its holder may append to; it reads as l -/
def NewB (X : Option Nat) (B : Nat) (w : World) (v : Value) (l : List (List Int × List Int)) : Prop :=
  l.length ≤ 1000 ∧ ∃ us : List Value, us.length = 2 * l.length ∧ w.ownsRow B 66 2 v l.length us ∧
    ∀ j, j < l.length → ∃ u u2, us[j * 2]? = some u ∧ us[j * 2 + 1]? = some u2 ∧ Far (fun b => b < B ∨ v.ownBlock = some b ∨ X = some b) (fun w => (RowU w u (atb l j).1 ∧ CapOk u) ∧ RowU w u2 (atb l j).2 ∧ CapOk u2) w
theorem NewB.nil (X : Option Nat) (B : Nat) (w : World) : NewB X B w (.slice none 0 0) [] := ⟨by simp, [], rfl, World.ownsRow_nil w B _ _, fun j hj => absurd hj (by simp)⟩
theorem NewB.go {X : Option Nat} {B : Nat} {w w' : World} {v : Value} {l : List (List Int × List Int)} (h : NewB X B w v l) (hb : Below w.heap.size w w') : NewB X B w' v l := by
  obtain ⟨h1, us, h2, h3, h4⟩ := h
  refine ⟨h1, us, h2, ownsRow_below h3 hb (Nat.le_refl _), fun j hj => ?_⟩
  obtain ⟨u, u2, e, e2, hs⟩ := h4 j hj
  exact ⟨u, u2, e, e2, hs.go hb⟩
theorem NewB.lt {X : Option Nat} {B : Nat} {w : World} {v : Value} {l : List (List Int × List Int)} (h : NewB X B w v l) {g : Nat} (hg : v.ownBlock = some g) : B ≤ g ∧ g < w.heap.size := by
  obtain ⟨_, us, _, ho, _⟩ := h
  exact ho.lt g hg
theorem NewB.low {X : Option Nat} {B g : Nat} {w : World} {v : Value} {l : List (List Int × List Int)} (h : NewB X B w v l) (hg : g < B) (j : Nat) (u : Value) : NewB X B (w.setCell ⟨g, j, none⟩ u) v l := by
  have hlt := fun b (e : v.ownBlock = some b) => h.lt e
  obtain ⟨h1, us, h2, h3, h4⟩ := h
  refine ⟨h1, us, h2, ownsRow_same h3 fun b e => Below.heap_setCell _ _ _ _ (by show b ≠ g; have := (hlt b e).1; omega), fun j' hj => ?_⟩
  obtain ⟨u1, u2, e1, e2, hs⟩ := h4 j' hj
  exact ⟨u1, u2, e1, e2, hs.set (.inl hg) j u⟩
theorem NewB.isSlice {X : Option Nat} {B : Nat} {w : World} {v : Value} {l : List (List Int × List Int)} (h : NewB X B w v l) : ∃ a c, v = .slice a l.length c := by
  obtain ⟨_, us, _, h3, _⟩ := h
  rcases h3.2 with ⟨rfl, h0⟩ | ⟨g, cap, cur, rfl, _⟩
  · exact ⟨none, 0, by rw [h0]⟩
  · exact ⟨_, _, rfl⟩
theorem NewB.row {X : Option Nat} {B : Nat} {w : World} {v : Value} {l : List (List Int × List Int)} (h : NewB X B w v l) : RowB w v l := by
  obtain ⟨h1, us, h2, h3, h4⟩ := h
  have h3' := h3
  refine ⟨by omega, ?_⟩
  rcases h3.2 with ⟨rfl, h0⟩ | ⟨g, cap, cur, rfl, hg, hh, hn, hcap, hs, ht⟩
  · exact ⟨none, 0, by rw [h0], fun hl => by omega⟩
  · refine ⟨_, cap, rfl, fun hl => ⟨g, 0, rfl, (h3'.lt g rfl).2, fun j hj => ?_⟩⟩
    obtain ⟨u, u2, e, e2, hs⟩ := h4 j hj
    refine ⟨u, u2, ?_, ?_, hs.now⟩
    · have := h3'.cellAt (j * 2) (by omega)
      rw [Nat.zero_add, this]; exact e
    · have := h3'.cellAt (j * 2 + 1) (by omega)
      rw [Nat.zero_add, this]; exact e2
theorem atb_append_left (ll : List (List Int × List Int)) (l : (List Int × List Int)) (j : Nat) (h : j < ll.length) : atb (ll ++ [l]) j = atb ll j := by
  simp [atb, List.getElem?_append_left h]
theorem atb_append_last (ll : List (List Int × List Int)) (l : (List Int × List Int)) : atb (ll ++ [l]) ll.length = l := by simp [atb]
/-- append of one part -/
theorem wpList_appB {ops : Array Oper} {rest : List Oper} {o : Oper} {a : Act} {Q : Exit → Act → World → Prop} {w0 : World} (hgd : o.guard = none) (s x : Operand)
    (ho : o.op = .call { callee := .builtin .append, args := #[s, x], argTypes := #[62, 62] })
    (X : Option Nat) (B : Nat) (v : Value) (ll : List (List Int × List Int)) (hs : a.eval s = v) (hown : NewB X B w0 v ll) (u u2 : Value) (l : (List Int × List Int)) (hu : Far (fun b => b < B ∨ v.ownBlock = some b ∨ X = some b) (fun w => (RowU w u l.1 ∧ CapOk u) ∧ RowU w u2 l.2 ∧ CapOk u2) w0)
    (hx : a.eval x = .slice (some ⟨w0.heap.size, 0, none⟩) 1 1) (hlen : ll.length + 1 ≤ 1000) (hB : B ≤ w0.heap.size)
    (h : ∀ v' w', NewB X B w' v' (ll ++ [l]) → Below B w0 w' → w0.grownBy w' v.ownBlock → (v'.ownBlock = v.ownBlock ∨ ∃ b, v'.ownBlock = some b ∧ w0.heap.size ≤ b) → wpList Tryd.prog ops Q rest (a.put o.dst v') w') : wpList Tryd.prog ops Q (o :: rest) a (w0.alloc (.cells #[u, u2] 66)) := by
  obtain ⟨i0, hi1, hz0, hz1, hz2⟩ := info_parts Tryd.infoB
  obtain ⟨h1, us, h2, h3, h4⟩ := hown
  have hlt := h3.lt
  have h1c := hu.now.1.1.oneCell
  have h2c := hu.now.2.1.oneCell
  refine wpList_append_own_at _ hgd s x _ ho B 66 i0 (.agg #[.slice none 0 0, .slice none 0 0]) 2 48 Tryd.underlying62 hi1 hz0 hz1 hz2 rfl (by decide) v ll.length us hs (h3.alloc _) ⟨w0.heap.size, 0, none⟩ 1 1 [u, u2] hx (by simp) ?_ (by simpa using ⟨h1c, h2c⟩) (by unfold maxLen; omega) (by omega) (by simp; omega) ?_
  · exact World.news_of_block (cs := #[u, u2]) (t := 66) (fr := (0, 0)) (alloc_blk w0 _)
  · intro v' w' h5 h6 _ h8
    have hal : Below w0.heap.size w0 (w0.alloc (.cells #[u, u2] 66)) := (Below.refl _ _).alloc (Nat.le_refl _) _
    have hsz : (w0.alloc (.cells #[u, u2] 66)).heap.size = w0.heap.size + 1 := by simp
    have hg0 : w0.grownBy w' v.ownBlock := grownBy_chain (below_toGrown hal _) h6
    have hbl : Below B w0 w' := ((Below.refl B w0).alloc hB _).grown h6 (by simp; omega) fun k hk => (hlt k hk).1
    have move : ∀ Q, Far (fun b => b < B ∨ v.ownBlock = some b ∨ X = some b) Q w0 → Far (fun b => b < B ∨ v'.ownBlock = some b ∨ X = some b) Q w' := by
      intro Q hQ
      rcases h8 with h8 | h8
      · rw [h8]; exact hQ.grown hg0 fun g hg _ => .inr (.inl hg)
      · refine hQ.fresh hg0.size (fun b hlt hn => hg0.block b hlt fun e => hn (.inr (.inl e.symm))) fun b hlt e => ?_
        rcases e with e | e | e
        · exact .inl e
        · rw [h8, hsz] at e; cases e; omega
        · exact .inr (.inr e)
    refine h v' w' ⟨by simp; omega, us ++ [u, u2], by simp [h2]; omega, by simpa using h5, fun j hj => ?_⟩ hbl hg0 (h8.imp id fun e => ⟨_, e, by rw [hsz]; omega⟩)
    by_cases hj2 : j < ll.length
    · obtain ⟨y, y2, e, e2, hs⟩ := h4 j hj2
      refine ⟨y, y2, by rw [List.getElem?_append_left (by omega)]; exact e, by rw [List.getElem?_append_left (by omega)]; exact e2, ?_⟩
      rw [atb_append_left _ _ _ hj2]
      exact move _ hs
    · obtain rfl : j = ll.length := by simp at hj; omega
      refine ⟨u, u2, ?_, ?_, ?_⟩
      · rw [List.getElem?_append_right (by omega), show ll.length * 2 - us.length = 0 by omega]; rfl
      · rw [List.getElem?_append_right (by omega), show ll.length * 2 + 1 - us.length = 1 by omega]; rfl
      · rw [atb_append_last]; exact move _ hu
/-- the other row X grows, or moves to a block of its own: the paths stay -/
theorem NewB.grownX {X X' : Option Nat} {B : Nat} {w w' : World} {v : Value} {l : List (List Int × List Int)} (h : NewB X B w v l) (hg : w.grownBy w' X) (hne : ∀ g, v.ownBlock = some g → X ≠ some g) (hX : X' = X ∨ ∃ b, X' = some b ∧ w.heap.size ≤ b) : NewB X' B w' v l := by
  obtain ⟨h1, us, h2, h3, h4⟩ := h
  refine ⟨h1, us, h2, ownsRow_grown h3 hg hne, fun j hj => ?_⟩
  obtain ⟨u, u2, e, e2, hs⟩ := h4 j hj
  refine ⟨u, u2, e, e2, hs.fresh hg.size (fun b hlt hn => hg.block b hlt fun e => hn (.inr (.inr e.symm))) fun b hlt e => ?_⟩
  rcases e with e | e | e
  · exact .inl e
  · exact .inr (.inl e)
  · rcases hX with rfl | ⟨b', rfl, hb⟩
    · exact .inr (.inr e)
    · cases e; omega

theorem Tryd.infoK : (Tryd.prog.info? 64).map (fun i => (i.zero, i.size, i.bytes)) = some (some (.agg #[.slice none 0 0, .slice none 0 0]), 2, 48) := by kernel_rfl
/-- v is a slice in memory from block B on, that its holder may append to; it reads as l -/
def NewK (B : Nat) (w : World) (v : Value) (l : List Lk) : Prop :=
  l.length ≤ 1000 ∧ ∃ us : List Value, us.length = 2 * l.length ∧ w.ownsRow B 64 2 v l.length us ∧
    ∀ j, j < l.length → ∃ u u2, us[j * 2]? = some u ∧ us[j * 2 + 1]? = some u2 ∧ Far (fun b => b < B ∨ v.ownBlock = some b) (fun w => RowA w u (atk l j).pairs ∧ RowB w u2 (atk l j).paths) w
theorem NewK.nil (B : Nat) (w : World) : NewK B w (.slice none 0 0) [] := ⟨by simp, [], rfl, World.ownsRow_nil w B _ _, fun j hj => absurd hj (by simp)⟩
theorem NewK.go {B : Nat} {w w' : World} {v : Value} {l : List Lk} (h : NewK B w v l) (hb : Below w.heap.size w w') : NewK B w' v l := by
  obtain ⟨h1, us, h2, h3, h4⟩ := h
  refine ⟨h1, us, h2, ownsRow_below h3 hb (Nat.le_refl _), fun j hj => ?_⟩
  obtain ⟨u, u2, e, e2, hs⟩ := h4 j hj
  exact ⟨u, u2, e, e2, hs.go hb⟩
theorem NewK.lt {B : Nat} {w : World} {v : Value} {l : List Lk} (h : NewK B w v l) {g : Nat} (hg : v.ownBlock = some g) : B ≤ g ∧ g < w.heap.size := by
  obtain ⟨_, us, _, ho, _⟩ := h
  exact ho.lt g hg
theorem NewK.low {B g : Nat} {w : World} {v : Value} {l : List Lk} (h : NewK B w v l) (hg : g < B) (j : Nat) (u : Value) : NewK B (w.setCell ⟨g, j, none⟩ u) v l := by
  have hlt := fun b (e : v.ownBlock = some b) => h.lt e
  obtain ⟨h1, us, h2, h3, h4⟩ := h
  refine ⟨h1, us, h2, ownsRow_same h3 fun b e => Below.heap_setCell _ _ _ _ (by show b ≠ g; have := (hlt b e).1; omega), fun j' hj => ?_⟩
  obtain ⟨u1, u2, e1, e2, hs⟩ := h4 j' hj
  exact ⟨u1, u2, e1, e2, hs.set (.inl hg) j u⟩
theorem NewK.isSlice {B : Nat} {w : World} {v : Value} {l : List Lk} (h : NewK B w v l) : ∃ a c, v = .slice a l.length c := by
  obtain ⟨_, us, _, h3, _⟩ := h
  rcases h3.2 with ⟨rfl, h0⟩ | ⟨g, cap, cur, rfl, _⟩
  · exact ⟨none, 0, by rw [h0]⟩
  · exact ⟨_, _, rfl⟩
theorem NewK.row {B : Nat} {w : World} {v : Value} {l : List Lk} (h : NewK B w v l) : RowK w v l := by
  obtain ⟨h1, us, h2, h3, h4⟩ := h
  have h3' := h3
  refine ⟨by omega, ?_⟩
  rcases h3.2 with ⟨rfl, h0⟩ | ⟨g, cap, cur, rfl, hg, hh, hn, hcap, hs, ht⟩
  · exact ⟨none, 0, by rw [h0], fun hl => by omega⟩
  · refine ⟨_, cap, rfl, fun hl => ⟨g, 0, rfl, (h3'.lt g rfl).2, fun j hj => ?_⟩⟩
    obtain ⟨u, u2, e, e2, hs⟩ := h4 j hj
    refine ⟨u, u2, ?_, ?_, hs.now⟩
    · have := h3'.cellAt (j * 2) (by omega)
      rw [Nat.zero_add, this]; exact e
    · have := h3'.cellAt (j * 2 + 1) (by omega)
      rw [Nat.zero_add, this]; exact e2
theorem atk_append_left (ll : List Lk) (l : Lk) (j : Nat) (h : j < ll.length) : atk (ll ++ [l]) j = atk ll j := by
  simp [atk, List.getElem?_append_left h]
theorem atk_append_last (ll : List Lk) (l : Lk) : atk (ll ++ [l]) ll.length = l := by simp [atk]
/-- append of one part -/
theorem wpList_appK {ops : Array Oper} {rest : List Oper} {o : Oper} {a : Act} {Q : Exit → Act → World → Prop} {w0 : World} (hgd : o.guard = none) (s x : Operand)
    (ho : o.op = .call { callee := .builtin .append, args := #[s, x], argTypes := #[38, 38] })
    (B : Nat) (v : Value) (ll : List Lk) (hs : a.eval s = v) (hown : NewK B w0 v ll) (u u2 : Value) (l : Lk) (hu : Far (fun b => b < B ∨ v.ownBlock = some b) (fun w => RowA w u l.pairs ∧ RowB w u2 l.paths) w0)
    (hx : a.eval x = .slice (some ⟨w0.heap.size, 0, none⟩) 1 1) (hlen : ll.length + 1 ≤ 1000) (hB : B ≤ w0.heap.size)
    (h : ∀ v' w', NewK B w' v' (ll ++ [l]) → Below B w0 w' → w0.grownBy w' v.ownBlock → wpList Tryd.prog ops Q rest (a.put o.dst v') w') : wpList Tryd.prog ops Q (o :: rest) a (w0.alloc (.cells #[u, u2] 64)) := by
  obtain ⟨i0, hi1, hz0, hz1, hz2⟩ := info_parts Tryd.infoK
  obtain ⟨h1, us, h2, h3, h4⟩ := hown
  have hlt := h3.lt
  have h1c := hu.now.1.oneCell
  have h2c := hu.now.2.oneCell
  refine wpList_append_own_at _ hgd s x _ ho B 64 i0 (.agg #[.slice none 0 0, .slice none 0 0]) 2 48 Tryd.underlying38 hi1 hz0 hz1 hz2 rfl (by decide) v ll.length us hs (h3.alloc _) ⟨w0.heap.size, 0, none⟩ 1 1 [u, u2] hx (by simp) ?_ (by simpa using ⟨h1c, h2c⟩) (by unfold maxLen; omega) (by omega) (by simp; omega) ?_
  · exact World.news_of_block (cs := #[u, u2]) (t := 64) (fr := (0, 0)) (alloc_blk w0 _)
  · intro v' w' h5 h6 _ h8
    have hal : Below w0.heap.size w0 (w0.alloc (.cells #[u, u2] 64)) := (Below.refl _ _).alloc (Nat.le_refl _) _
    have hsz : (w0.alloc (.cells #[u, u2] 64)).heap.size = w0.heap.size + 1 := by simp
    have hg0 : w0.grownBy w' v.ownBlock := grownBy_chain (below_toGrown hal _) h6
    have hbl : Below B w0 w' := ((Below.refl B w0).alloc hB _).grown h6 (by simp; omega) fun k hk => (hlt k hk).1
    have move : ∀ Q, Far (fun b => b < B ∨ v.ownBlock = some b) Q w0 → Far (fun b => b < B ∨ v'.ownBlock = some b) Q w' := by
      intro Q hQ
      rcases h8 with h8 | h8
      · rw [h8]; exact hQ.grown hg0 fun g hg _ => .inr hg
      · refine hQ.fresh hg0.size (fun b hlt hn => hg0.block b hlt fun e => hn (.inr e.symm)) fun b hlt e => ?_
        rcases e with e | e
        · exact .inl e
        · rw [h8, hsz] at e; cases e; omega
    refine h v' w' ⟨by simp; omega, us ++ [u, u2], by simp [h2]; omega, by simpa using h5, fun j hj => ?_⟩ hbl hg0
    by_cases hj2 : j < ll.length
    · obtain ⟨y, y2, e, e2, hs⟩ := h4 j hj2
      refine ⟨y, y2, by rw [List.getElem?_append_left (by omega)]; exact e, by rw [List.getElem?_append_left (by omega)]; exact e2, ?_⟩
      rw [atk_append_left _ _ _ hj2]
      exact move _ hs
    · obtain rfl : j = ll.length := by simp at hj; omega
      refine ⟨u, u2, ?_, ?_, ?_⟩
      · rw [List.getElem?_append_right (by omega), show ll.length * 2 - us.length = 0 by omega]; rfl
      · rw [List.getElem?_append_right (by omega), show ll.length * 2 + 1 - us.length = 1 by omega]; rfl
      · rw [atk_append_last]; exact move _ hu

end Go.Proofs.YtokggifjcbkmnaaDoor
