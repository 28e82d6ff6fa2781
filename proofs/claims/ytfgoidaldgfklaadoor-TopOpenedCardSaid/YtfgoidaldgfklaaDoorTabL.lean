/- A row of tables that a call makes and appends to, of which some lie elsewhere; append of a look, at a step of a region that draws its order. No condition. -/
import Derived.Test.YtfgoidaldgfklaaDoorLooks
import Derived.Test.YtfgoidaldgfklaaDoorLookM
namespace Go.Proofs.YtfgoidaldgfklaaDoor
set_option maxRecDepth 100000
set_option linter.unusedVariables false
open Go.ChangeShapes Go.WideShapes Go.ChangeAt Go.RowKit Go.Deep Go.Joins
/-- v is a slice of slices in memory from block B on, that its holder may append to; it reads as ll; what its rows are stays whatever is written to it, to the blocks L to B, and to the block X -/
def NewTb (L : Nat) (X : Option Nat) (B : Nat) (w : World) (v : Value) (ll : List (List Int)) : Prop :=
  ll.length ≤ 1000 ∧ ∃ us : List Value, us.length = ll.length ∧ w.ownsRow B 22 1 v ll.length us ∧
    ∀ j, j < ll.length → ∃ u, us[j]? = some u ∧ Far (fun b => (L ≤ b ∧ b < B) ∨ v.ownBlock = some b ∨ X = some b) (fun w => RowU w u (atl ll j)) w
theorem NewTb.nil (L : Nat) (X : Option Nat) (B : Nat) (w : World) : NewTb L X B w (.slice none 0 0) [] := ⟨by simp, [], rfl, World.ownsRow_nil w B _ _, fun j hj => absurd hj (by simp)⟩
theorem NewTb.go {L : Nat} {X : Option Nat} {B : Nat} {w w' : World} {v : Value} {ll : List (List Int)} (h : NewTb L X B w v ll) (hb : Below w.heap.size w w') : NewTb L X B w' v ll := by
  obtain ⟨h1, us, h2, h3, h4⟩ := h
  refine ⟨h1, us, h2, ownsRow_below h3 hb (Nat.le_refl _), fun j hj => ?_⟩
  obtain ⟨u, e, hs⟩ := h4 j hj
  exact ⟨u, e, hs.go hb⟩
theorem NewTb.lt {L : Nat} {X : Option Nat} {B : Nat} {w : World} {v : Value} {ll : List (List Int)} (h : NewTb L X B w v ll) {g : Nat} (hg : v.ownBlock = some g) : B ≤ g ∧ g < w.heap.size := by
  obtain ⟨_, us, _, ho, _⟩ := h
  exact ho.lt g hg
theorem NewTb.low {L : Nat} {X : Option Nat} {B g : Nat} {w : World} {v : Value} {ll : List (List Int)} (h : NewTb L X B w v ll) (hL : L ≤ g) (hg : g < B) (j : Nat) (u : Value) : NewTb L X B (w.setCell ⟨g, j, none⟩ u) v ll := by
  have hlt := fun b (e : v.ownBlock = some b) => h.lt e
  obtain ⟨h1, us, h2, h3, h4⟩ := h
  refine ⟨h1, us, h2, ownsRow_same h3 fun b e => Below.heap_setCell _ _ _ _ (by show b ≠ g; have := (hlt b e).1; omega), fun j' hj => ?_⟩
  obtain ⟨u1, e1, hs⟩ := h4 j' hj
  exact ⟨u1, e1, hs.set (.inl ⟨hL, hg⟩) j u⟩
theorem NewTb.isSlice {L : Nat} {X : Option Nat} {B : Nat} {w : World} {v : Value} {ll : List (List Int)} (h : NewTb L X B w v ll) : ∃ a c, v = .slice a ll.length c := by
  obtain ⟨_, us, _, h3, _⟩ := h
  rcases h3.2 with ⟨rfl, h0⟩ | ⟨g, cap, cur, rfl, _⟩
  · exact ⟨none, 0, by rw [h0]⟩
  · exact ⟨_, _, rfl⟩
theorem NewTb.rows {L : Nat} {X : Option Nat} {B : Nat} {w : World} {v : Value} {ll : List (List Int)} (h : NewTb L X B w v ll) : RowUU w v ll := by
  obtain ⟨h1, us, h2, h3, h4⟩ := h
  have h3' := h3
  refine ⟨by omega, ?_⟩
  rcases h3.2 with ⟨rfl, h0⟩ | ⟨g, cap, cur, rfl, hg, hh, hn, hcap, hs, ht⟩
  · exact ⟨none, 0, by rw [h0], fun hl => by omega⟩
  · refine ⟨_, cap, rfl, fun hl => ⟨g, 0, rfl, (h3'.lt g rfl).2, fun j hj => ?_⟩⟩
    obtain ⟨u, e, hs⟩ := h4 j hj
    refine ⟨u, ?_, hs.now⟩
    have := h3'.cellAt j (by omega)
    rw [Nat.zero_add, this]; exact e
theorem NewTb.far {L : Nat} {X : Option Nat} {B : Nat} {w : World} {v : Value} {ll : List (List Int)} (h : NewTb L X B w v ll) : Far (fun b => L ≤ b ∧ b < B) (fun w => RowUU w v ll) w := by
  have hlt := fun b (e : v.ownBlock = some b) => h.lt e
  obtain ⟨h1, us, h2, h3, h4⟩ := h
  intro w' hs hk
  refine NewTb.rows (L := L) (X := X) (B := B) ⟨h1, us, h2, ownsRow_same h3 fun g hg => hk g (hlt g hg).2 (by have := (hlt g hg).1; show ¬ (L ≤ g ∧ g < B); omega), fun j hj => ?_⟩
  obtain ⟨u, e, hF⟩ := h4 j hj
  exact ⟨u, e, hF.step hs fun b hlt hn => hk b hlt fun e => hn (.inl e)⟩
/-- the other row X grows, or moves to a block of its own: the tables stay -/
theorem NewTb.grownX {L : Nat} {X X' : Option Nat} {B : Nat} {w w' : World} {v : Value} {ll : List (List Int)} (h : NewTb L X B w v ll) (hg : w.grownBy w' X) (hne : ∀ g, v.ownBlock = some g → X ≠ some g) (hX : X' = X ∨ ∃ b, X' = some b ∧ w.heap.size ≤ b) : NewTb L X' B w' v ll := by
  obtain ⟨h1, us, h2, h3, h4⟩ := h
  refine ⟨h1, us, h2, ownsRow_grown h3 hg hne, fun j hj => ?_⟩
  obtain ⟨u, e, hs⟩ := h4 j hj
  refine ⟨u, e, hs.fresh hg.size (fun b hlt hn => hg.block b hlt fun e => hn (.inr (.inr e.symm))) fun b hlt e => ?_⟩
  rcases e with e | e | e
  · exact .inl e
  · exact .inr (.inl e)
  · rcases hX with rfl | ⟨b', rfl, hb⟩
    · exact .inr (.inr e)
    · cases e; omega
/-- what is far from three rows stays so where one of them grows, or moves -/
theorem far_grownX {S : Nat → Prop} {X X' : Option Nat} {Q : World → Prop} {w w' : World} (h : Far (fun b => S b ∨ X = some b) Q w) (hg : w.grownBy w' X) (hX : X' = X ∨ ∃ b, X' = some b ∧ w.heap.size ≤ b) : Far (fun b => S b ∨ X' = some b) Q w' := by
  refine h.fresh hg.size (fun b hlt hn => hg.block b hlt fun e => hn (.inr e.symm)) fun b hlt e => ?_
  rcases e with e | e
  · exact .inl e
  · rcases hX with rfl | ⟨b', rfl, hb⟩
    · exact .inr e
    · cases e; omega
/-- append of a table -/
theorem wpList_appTb {ops : Array Oper} {rest : List Oper} {o : Oper} {a : Act} {Q : Exit → Act → World → Prop} {w0 : World} (hgd : o.guard = none) (s x : Operand)
    (ho : o.op = .call { callee := .builtin .append, args := #[s, x], argTypes := #[67, 67] })
    (L : Nat) (X : Option Nat) (B : Nat) (v : Value) (ll : List (List Int)) (hs : a.eval s = v) (hown : NewTb L X B w0 v ll) (u : Value) (l : List Int) (hu : Far (fun b => (L ≤ b ∧ b < B) ∨ v.ownBlock = some b ∨ X = some b) (fun w => RowU w u l) w0)
    (hx : a.eval x = .slice (some ⟨w0.heap.size, 0, none⟩) 1 1) (hlen : ll.length + 1 ≤ 1000) (hB : B ≤ w0.heap.size)
    (h : ∀ v' w', NewTb L X B w' v' (ll ++ [l]) → Far (fun b => (L ≤ b ∧ b < B) ∨ v'.ownBlock = some b ∨ X = some b) (fun w => RowU w u l) w' → Below B w0 w' → w0.grownBy w' v.ownBlock → (v'.ownBlock = v.ownBlock ∨ ∃ b, v'.ownBlock = some b ∧ w0.heap.size ≤ b) → wpList Tryd.prog ops Q rest (a.put o.dst v') w') : wpList Tryd.prog ops Q (o :: rest) a (w0.alloc (.cells #[u] 22)) := by
  obtain ⟨i0, hi1, hz0, hz1, hz2⟩ := info_parts Tryd.infoUU
  obtain ⟨h1, us, h2, h3, h4⟩ := hown
  have hlt := h3.lt
  have h1c := hu.now.oneCellL
  refine wpList_append_own_at _ hgd s x _ ho B 22 i0 (.slice none 0 0) 1 24 Tryd.underlying67 hi1 hz0 hz1 hz2 rfl (by decide) v ll.length us hs (h3.alloc _) ⟨w0.heap.size, 0, none⟩ 1 1 [u] hx (by simp) ?_ (by simpa using h1c) (by unfold maxLen; omega) (by omega) (by simp; omega) ?_
  · exact World.news_of_block (cs := #[u]) (t := 22) (fr := (0, 0)) (alloc_blk w0 _)
  · intro v' w' h5 h6 _ h8
    have hal : Below w0.heap.size w0 (w0.alloc (.cells #[u] 22)) := (Below.refl _ _).alloc (Nat.le_refl _) _
    have hsz : (w0.alloc (.cells #[u] 22)).heap.size = w0.heap.size + 1 := by simp
    have hg0 : w0.grownBy w' v.ownBlock := grownBy_chainL (below_toGrownL hal _) h6
    have hbl : Below B w0 w' := ((Below.refl B w0).alloc hB _).grown h6 (by simp; omega) fun k hk => (hlt k hk).1
    have move : ∀ Q, Far (fun b => (L ≤ b ∧ b < B) ∨ v.ownBlock = some b ∨ X = some b) Q w0 → Far (fun b => (L ≤ b ∧ b < B) ∨ v'.ownBlock = some b ∨ X = some b) Q w' := by
      intro Q hQ
      rcases h8 with h8 | h8
      · rw [h8]; exact hQ.grown hg0 fun g hg _ => .inr (.inl hg)
      · refine hQ.fresh hg0.size (fun b hlt hn => hg0.block b hlt fun e => hn (.inr (.inl e.symm))) fun b hlt e => ?_
        rcases e with e | e | e
        · exact .inl e
        · rw [h8, hsz] at e; cases e; omega
        · exact .inr (.inr e)
    refine h v' w' ⟨by simp; omega, us ++ [u], by simp [h2], by simpa using h5, fun j hj => ?_⟩ (move _ hu) hbl hg0 (h8.imp id fun e => ⟨_, e, by rw [hsz]; omega⟩)
    by_cases hj2 : j < ll.length
    · obtain ⟨y, e, hs⟩ := h4 j hj2
      refine ⟨y, by rw [List.getElem?_append_left (by omega)]; exact e, ?_⟩
      rw [atl_append_left _ _ _ hj2]
      exact move _ hs
    · obtain rfl : j = ll.length := by simp at hj; omega
      refine ⟨u, by rw [← h2]; simp, ?_⟩
      rw [atl_append_last]; exact move _ hu
/-- append of one number; whether the row moved -/
theorem wpList_appUx {ops : Array Oper} {rest : List Oper} {o : Oper} {a : Act} {Q : Exit → Act → World → Prop} {w0 : World} (hgd : o.guard = none) (s x : Operand)
    (ho : o.op = .call { callee := .builtin .append, args := #[s, x], argTypes := #[22, 22] })
    (B : Nat) (v : Value) (l : List Int) (hs : a.eval s = v) (hown : NewU B w0 v l) (y : Int) (hx : a.eval x = .slice (some ⟨w0.heap.size, 0, none⟩) 1 1) (hy : U64 y)
    (hlen : l.length + 1 ≤ 17592186043904) (hB : B ≤ w0.heap.size)
    (h : ∀ v' w', NewU B w' v' (l ++ [y]) → Below B w0 w' → w0.grownBy w' v.ownBlock → (v'.ownBlock = v.ownBlock ∨ ∃ b, v'.ownBlock = some b ∧ w0.heap.size ≤ b) → wpList Tryd.prog ops Q rest (a.put o.dst v') w') : wpList Tryd.prog ops Q (o :: rest) a (w0.alloc (.cells #[.int .u64 y] 23)) := by
  obtain ⟨i0, hi1, hz0, hz1, hz2⟩ := info_parts Tryd.infoU
  have hlt := hown.2.2.lt
  refine wpList_append_own_at _ hgd s x _ ho B 23 i0 (.int .u64 0) 1 8 Tryd.underlying22 hi1 hz0 hz1 hz2 rfl (by decide) v l.length _ hs (hown.2.2.alloc _) ⟨w0.heap.size, 0, none⟩ 1 1 [.int .u64 y] hx rfl ?_ (by simp [Value.oneCell']) (by unfold maxLen; omega) (by omega) (by simp; omega) ?_
  · exact World.news_of_block (cs := #[.int .u64 y]) (t := 23) (fr := (0, 0)) (alloc_blk w0 _)
  · intro v' w' h5 h6 _ h8
    have hal : Below w0.heap.size w0 (w0.alloc (.cells #[.int .u64 y] 23)) := (Below.refl _ _).alloc (Nat.le_refl _) _
    have hsz : (w0.alloc (.cells #[.int .u64 y] 23)).heap.size = w0.heap.size + 1 := by simp
    have hg0 : w0.grownBy w' v.ownBlock := grownBy_chainL (below_toGrownL hal _) h6
    have hbl : Below B w0 w' := ((Below.refl B w0).alloc hB _).grown h6 (by simp; omega) fun k hk => (hlt k hk).1
    refine h v' w' ⟨?_, by simp; omega, by simpa using h5⟩ hbl hg0 (h8.imp id fun e => ⟨_, e, by rw [hsz]; omega⟩)
    intro z hz
    rcases List.mem_append.mp hz with hz | hz
    · exact hown.1 z hz
    · rw [List.mem_singleton.mp hz]; exact hy
/-- append of a look, at a step of a region that draws its order -/
theorem step_appK {ops : Array Oper} {o : Oper} {a : Act} {K : Act → World → Prop} {Q : Exit → Act → World → Prop} {E : Prop} {w0 : World} (hgd : o.guard = none) (s x : Operand)
    (ho : o.op = .call { callee := .builtin .append, args := #[s, x], argTypes := #[24, 24] })
    (B : Nat) (v : Value) (ll : List Lk) (hs : a.eval s = v) (hown : NewK B w0 v ll) (u u2 : Value) (l : Lk) (hu : Far (fun b => b < B ∨ v.ownBlock = some b) (fun w => RowA w u l.pairs ∧ RowB w u2 l.paths) w0)
    (hx : a.eval x = .slice (some ⟨w0.heap.size, 0, none⟩) 1 1) (hlen : ll.length + 1 ≤ 1000) (hB : B ≤ w0.heap.size)
    (h : ∀ v' w', NewK B w' v' (ll ++ [l]) → w0.grownBy w' v.ownBlock → K (a.put o.dst v') w') :
    if Region.wanted o (yielded ops a.tmps) = true then Oper.wp Tryd.prog o a (w0.alloc (.cells #[u, u2] 43)) K Q else E := by
  obtain ⟨i0, hi1, hz0, hz1, hz2⟩ := info_parts Tryd.infoK
  obtain ⟨h1, us, h2, h3, h4⟩ := hown
  have hlt := h3.lt
  have h1c := hu.now.1.oneCell
  have h2c := hu.now.2.oneCell
  refine step_append_lies _ hgd s x _ ho B 43 i0 (.agg #[.slice none 0 0, .slice none 0 0]) 2 48 Tryd.underlying24 hi1 hz0 hz1 hz2 rfl (by decide) v ll.length us hs (h3.alloc _) ⟨w0.heap.size, 0, none⟩ 1 1 [u, u2] hx rfl
    (World.news_of_block (cs := #[u, u2]) (t := 43) (fr := (0, 0)) (alloc_blk w0 _)) (by simpa using ⟨h1c, h2c⟩) (by decide) (by unfold maxLen; omega) (by omega) (by simp; omega) (w0.heap.size + 1) (by simp) ?_
  intro g cap w' h5 h6 h8 _
  have hal : Below w0.heap.size w0 (w0.alloc (.cells #[u, u2] 43)) := (Below.refl _ _).alloc (Nat.le_refl _) _
  have hg0 : w0.grownBy w' v.ownBlock := grownBy_chainL (below_toGrownL hal _) h6
  have move : ∀ Q, Far (fun b => b < B ∨ v.ownBlock = some b) Q w0 → Far (fun b => b < B ∨ some g = some b) Q w' := by
    intro Q hQ
    rcases h8 with h8 | h8
    · rw [← h8]; exact hQ.grown hg0 fun g hg _ => .inr hg
    · refine hQ.fresh hg0.size (fun b hlt hn => hg0.block b hlt fun e => hn (.inr e.symm)) fun b hlt e => ?_
      rcases e with e | e
      · exact .inl e
      · cases e; omega
  refine h _ w' ⟨by simp; omega, us ++ [u, u2], by simp [h2]; omega, by simpa using h5, fun j hj => ?_⟩ hg0
  by_cases hj2 : j < ll.length
  · obtain ⟨y, y2, e, e2, hs⟩ := h4 j hj2
    refine ⟨y, y2, by rw [List.getElem?_append_left (by omega)]; exact e, by rw [List.getElem?_append_left (by omega)]; exact e2, ?_⟩
    rw [atk_append_left _ _ _ hj2]
    exact move _ hs
  · obtain rfl : j = ll.length := by simp at hj; omega
    refine ⟨u, u2, ?_, ?_, ?_⟩
    · rw [List.getElem?_append_right (by omega), show ll.length * 2 - us.length = 0 by omega]; rfl
    · rw [List.getElem?_append_right (by omega), show ll.length * 2 + 1 - us.length = 1 by omega]; rfl
    · rw [atk_append_last]; exact move _ hu
theorem NewK.farRow {B : Nat} {w : World} {v : Value} {l : List Lk} (h : NewK B w v l) : Far (fun b => b < B) (fun W => RowK W v l) w := by
  have hlt := fun b (e : v.ownBlock = some b) => h.lt e
  obtain ⟨h1, us, h2, h3, h4⟩ := h
  intro w' hs hk
  refine NewK.row (B := B) ⟨h1, us, h2, ownsRow_same h3 fun g hg => hk g (hlt g hg).2 (by have := (hlt g hg).1; show ¬ g < B; omega), fun j hj => ?_⟩
  obtain ⟨u, u2, e, e2, hF⟩ := h4 j hj
  exact ⟨u, u2, e, e2, hF.step hs fun b hlt hn => hk b hlt fun e => hn (.inl e)⟩
theorem NewK.grownOther {B : Nat} {w w' : World} {v : Value} {l : List Lk} {r : Option Nat} (h : NewK B w v l) (hg : w.grownBy w' r) (hr : ∀ g, r = some g → g < B) : NewK B w' v l := by
  have hlt := fun b (e : v.ownBlock = some b) => h.lt e
  obtain ⟨h1, us, h2, h3, h4⟩ := h
  refine ⟨h1, us, h2, ownsRow_grown h3 hg (fun g hv e => by have := hr g e; have := (hlt g hv).1; omega), fun j hj => ?_⟩
  obtain ⟨u, u2, e, e2, hs⟩ := h4 j hj
  exact ⟨u, u2, e, e2, hs.grown hg fun g e _ => .inl (hr g e)⟩
end Go.Proofs.YtfgoidaldgfklaaDoor
