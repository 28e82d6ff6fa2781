/- Memory: what is meant by a slice of 64-bit numbers that reads as a list; how such facts are kept. No condition. -/
import Derived.Test.YtlfneeobnihocaaGreatDoorField
import Derived.Handy
import Derived.Lib.Hide
import Derived.WalkSmall
import Derived.OneCell
import Derived.Deep.QuietTactic
import Derived.BigQuiet
namespace Go.Proofs.YtlfneeobnihocaaGreatDoor
set_option maxRecDepth 100000
set_option linter.unusedVariables false
open Go.RowKit Tally

theorem Tryz.infoU : (Tryz.prog.info? 57).map (fun i => (i.zero, i.size, i.bytes)) = some (some (.int .u64 0), 1, 8) := by kernel_rfl

/-- number j of a list -/
abbrev at0 (l : List Int) (j : Nat) : Int := l[j]?.getD 0

/-- v is a slice that reads as l -/
def RowU (w : World) (v : Value) (l : List Int) : Prop :=
  (∀ x ∈ l, U64 x) ∧ l.length ≤ 9223372036854775807 ∧ ∃ a cap, v = .slice a l.length cap ∧
    (0 < l.length → ∃ b off, a = some ⟨b, off, none⟩ ∧ b < w.heap.size ∧ ∀ j, j < l.length → w.cell? ⟨b, off + j, none⟩ = some (.int .u64 (at0 l j)))

/-- v is a slice in memory from block B on, at its block's head, that its holder may append to; it reads as l -/
def NewU (B : Nat) (w : World) (v : Value) (l : List Int) : Prop :=
  (∀ x ∈ l, U64 x) ∧ l.length * 8 ≤ 140737488351232 ∧ w.ownsRow B 57 1 v l.length (l.map (Value.int .u64))

theorem at0_mem {l : List Int} {j : Nat} (h : j < l.length) : at0 l j ∈ l := by
  simp [at0, List.getElem?_eq_getElem h]
theorem RowU.at {w : World} {v : Value} {l : List Int} (h : RowU w v l) {j : Nat} (hj : j < l.length) : U64 (at0 l j) := h.1 _ (at0_mem hj)
theorem RowU.len {w : World} {v : Value} {l : List Int} (h : RowU w v l) : l.length ≤ 9223372036854775807 := h.2.1
theorem NewU.len {B : Nat} {w : World} {v : Value} {l : List Int} (h : NewU B w v l) : l.length ≤ 17592186043904 := by have := h.2.1; omega

theorem RowU.below {K : Nat} {w w' : World} {v : Value} {l : List Int} (h : RowU w v l) (hb : Below K w w') (hK : w.heap.size ≤ K) : RowU w' v l := by
  obtain ⟨h1, h2, a, cap, rfl, h3⟩ := h
  refine ⟨h1, h2, a, cap, rfl, fun hl => ?_⟩
  obtain ⟨b, off, rfl, hlt, hc⟩ := h3 hl
  exact ⟨b, off, rfl, Nat.lt_of_lt_of_le hlt hb.size, fun j hj => by rw [hb.cell (by show b < K; omega)]; exact hc j hj⟩

theorem ownsRow_mono {w : World} {B B' : Nat} {e : TypeId} {s : Nat} {v : Value} {n : Nat} {xs : List Value} (h : w.ownsRow B e s v n xs) (hB : B' ≤ B) : w.ownsRow B' e s v n xs := by
  obtain ⟨h1, h2⟩ := h
  refine ⟨h1, ?_⟩
  rcases h2 with h2 | ⟨g, cap, cur, hv, hg, r⟩
  · exact .inl h2
  · exact .inr ⟨g, cap, cur, hv, by omega, r⟩
theorem ownsRow_below {w w' : World} {B K : Nat} {e : TypeId} {s : Nat} {v : Value} {n : Nat} {xs : List Value} (h : w.ownsRow B e s v n xs) (hb : Below K w w') (hK : w.heap.size ≤ K) : w'.ownsRow B e s v n xs := by
  obtain ⟨h1, h2⟩ := h
  refine ⟨h1, ?_⟩
  rcases h2 with h2 | ⟨g, cap, cur, hv, hg, hh, r⟩
  · exact .inl h2
  · have hlt : g < w.heap.size := by
      rcases Nat.lt_or_ge g w.heap.size with hh' | hh'
      · exact hh'
      · rw [Array.getElem?_eq_none hh'] at hh; cases hh
    exact .inr ⟨g, cap, cur, hv, hg, by rw [hb.block g (by omega)]; exact hh, r⟩
theorem NewU.below {B K : Nat} {w w' : World} {v : Value} {l : List Int} (h : NewU B w v l) (hb : Below K w w') (hK : w.heap.size ≤ K) : NewU B w' v l :=
  ⟨h.1, h.2.1, ownsRow_below h.2.2 hb hK⟩
theorem NewU.mono {B B' : Nat} {w : World} {v : Value} {l : List Int} (h : NewU B w v l) (hB : B' ≤ B) : NewU B' w v l :=
  ⟨h.1, h.2.1, ownsRow_mono h.2.2 hB⟩

theorem take_snoc' (l : List Int) (k : Nat) (h : k < l.length) : l.take (k + 1) = l.take k ++ [at0 l k] := by
  rw [List.take_succ_eq_append_getElem h, at0, List.getElem?_eq_getElem h]; rfl
/-- what one owns reads as a list -/
theorem NewU.row {B : Nat} {w : World} {v : Value} {l : List Int} (h : NewU B w v l) : RowU w v l := by
  obtain ⟨h1, h2, h3⟩ := h
  refine ⟨h1, by omega, ?_⟩
  rcases h3.2 with ⟨rfl, h0⟩ | ⟨g, cap, cur, rfl, hg, hh, hn, hcap, hs, ht⟩
  · exact ⟨none, 0, by rw [h0], fun hl => by omega⟩
  · refine ⟨_, cap, rfl, fun hl => ⟨g, 0, rfl, ?_, fun j hj => ?_⟩⟩
    · rcases Nat.lt_or_ge g w.heap.size with hh' | hh'
      · exact hh'
      · rw [Array.getElem?_eq_none hh'] at hh; cases hh
    · have := h3.cellAt j (by omega)
      rw [show (0 + j) = j from Nat.zero_add j, this]
      simp [at0, List.getElem?_eq_getElem hj]
/-- the block of an owned slice -/
theorem NewU.shape {B : Nat} {w : World} {v : Value} {l : List Int} (h : NewU B w v l) (hl : 0 < l.length) :
    ∃ g cap, v = .slice (some ⟨g, 0, none⟩) l.length cap ∧ B ≤ g ∧ g < w.heap.size ∧ (∀ j, j < l.length → w.cell? ⟨g, j, none⟩ = some (.int .u64 (at0 l j))) ∧ (∀ j, w.frozen? ⟨g, j, none⟩ = false) := by
  obtain ⟨h1, h2, h3⟩ := h
  rcases h3.2 with ⟨rfl, h0⟩ | ⟨g, cap, cur, rfl, hg, hh, hn, hcap, hs, ht⟩
  · omega
  · refine ⟨g, cap, rfl, hg, ?_, fun j hj => ?_, fun j => h3.frozenAt j⟩
    · rcases Nat.lt_or_ge g w.heap.size with hh' | hh'
      · exact hh'
      · rw [Array.getElem?_eq_none hh'] at hh; cases hh
    · rw [h3.cellAt j (by omega)]
      simp [at0, List.getElem?_eq_getElem hj]
theorem NewU.lenEq {B g n c : Nat} {w : World} {l : List Int} (h : NewU B w (.slice (some ⟨g, 0, none⟩) n c) l) : n = l.length := by
  rcases h.2.2.2 with ⟨h0, _⟩ | ⟨g', cap, cur, hv, _⟩
  · cases h0
  · cases hv; rfl
theorem NewU.cellAt {B g n c : Nat} {w : World} {l : List Int} (h : NewU B w (.slice (some ⟨g, 0, none⟩) n c) l) (j : Nat) (hj : j < l.length) : w.cell? ⟨g, j, none⟩ = some (.int .u64 (at0 l j)) := by
  obtain rfl := h.lenEq
  rw [h.2.2.cellAt j (by omega)]; simp [at0, List.getElem?_eq_getElem hj]
theorem NewU.freeAt {B g n c : Nat} {w : World} {l : List Int} (h : NewU B w (.slice (some ⟨g, 0, none⟩) n c) l) (j : Nat) : w.frozen? ⟨g, j, none⟩ = false := by
  obtain rfl := h.lenEq
  exact h.2.2.frozenAt j
theorem NewU.blk {B g n c : Nat} {w : World} {l : List Int} (h : NewU B w (.slice (some ⟨g, 0, none⟩) n c) l) : B ≤ g ∧ g < w.heap.size := h.2.2.lt g rfl
theorem NewU.set {B g n c : Nat} {w : World} {l : List Int} (h : NewU B w (.slice (some ⟨g, 0, none⟩) n c) l) (j : Nat) (y : Int) (hy : U64 y) : NewU B (w.setCell ⟨g, j, none⟩ (.int .u64 y)) (.slice (some ⟨g, 0, none⟩) n c) (l.set j y) := by
  obtain rfl := h.lenEq
  refine ⟨fun x hx => ?_, by rw [List.length_set]; exact h.2.1, ?_⟩
  · rcases List.mem_or_eq_of_mem_set hx with hx | rfl
    · exact h.1 x hx
    · exact hy
  · have := h.2.2.stored j (.int .u64 y)
    rw [List.length_set, List.map_set]; exact this.1
theorem NewU.other {B g n c g' : Nat} {w : World} {l : List Int} (h : NewU B w (.slice (some ⟨g, 0, none⟩) n c) l) (j : Nat) (u : Value) (hne : g ≠ g') : NewU B (w.setCell ⟨g', j, none⟩ u) (.slice (some ⟨g, 0, none⟩) n c) l :=
  ⟨h.1, h.2.1, ownsRow_setCell_other h.2.2 (by simp only [Value.ownBlock, ne_eq, Option.some.injEq]; exact hne) u⟩
theorem NewU.nil (B : Nat) (w : World) : NewU B w (.slice none 0 0) [] := ⟨by simp, by simp, World.ownsRow_nil w B _ _⟩

/-- all numbers of a list of the field's fit -/
theorem psis (l : List F) : ∀ x ∈ l.map psi, U64 x := by
  intro x hx
  obtain ⟨y, _, rfl⟩ := List.mem_map.mp hx
  exact U64.psi y

/-- an append of some elements, written out, onto a row of one's own: it may grow; below B nothing turns -/
theorem wpList_app {Pr : Program} {ops : Array Oper} {rest : List Oper} {o : Oper} {a : Act} {Q : Exit → Act → World → Prop} {w0 : World} (hgd : o.guard = none) (s x : Operand) (t : TypeId)
    (ho : o.op = .call { callee := .builtin .append, args := #[s, x], argTypes := #[t, t] })
    (B : Nat) (e e' : TypeId) (z : Value) (size bytes : Nat) (ht : Pr.underlying t = some (.slice e)) (hi : (Pr.info? e).map (fun i => (i.zero, i.size, i.bytes)) = some (some z, size, bytes)) (hzs : z.cells.size = size) (hsz : 0 < size)
    (v : Value) (n : Nat) (xs : List Value) (hs : a.eval s = v) (hown : w0.ownsRow B e size v n xs)
    (m : Nat) (news : Array Value) (hx : a.eval x = .slice (some ⟨w0.heap.size, 0, none⟩) m m) (hl : news.size = m * size) (h1 : ∀ u ∈ news.toList, u.oneCell' = true)
    (h63 : n + m ≤ maxLen) (hbytes : (n + m) * bytes ≤ 140737488355328) (hB : B ≤ w0.heap.size)
    (h : ∀ v' w', w'.ownsRow B e size v' (n + m) (xs ++ news.toList) → Below B w0 w' → wpList Pr ops Q rest (a.put o.dst v') w') : wpList Pr ops Q (o :: rest) a (w0.alloc (.cells news e')) := by
  obtain ⟨i0, hi1, hz0, hz1, hz2⟩ := info_parts hi
  refine wpList_append_own _ hgd s x t ho B e i0 z size bytes ht hi1 hz0 hz1 hz2 hzs hsz v n xs hs (hown.alloc _) ⟨w0.heap.size, 0, none⟩ m m news.toList hx (by simpa using hl) ?_ h1 h63 hbytes (by simp; omega) ?_
  · intro j u hj
    have e1 : ((⟨w0.heap.size, 0, none⟩ : Addr).add j) = ⟨w0.heap.size, j, none⟩ := by rw [Addr.add_lit, Nat.zero_add]
    rw [e1, World.cell?_alloc_at _ _ _ _ rfl]
    simpa using hj
  · intro v' w' h2 h3 _
    refine h v' w' h2 (((Below.refl B w0).alloc hB _).grown h3 (by simp; omega) fun k hk => ?_)
    exact (hown.lt k hk).1

/-- append of one number -/
theorem wpList_appU {ops : Array Oper} {rest : List Oper} {o : Oper} {a : Act} {Q : Exit → Act → World → Prop} {w0 : World} (hgd : o.guard = none) (s x : Operand)
    (ho : o.op = .call { callee := .builtin .append, args := #[s, x], argTypes := #[53, 53] })
    (B : Nat) (v : Value) (l : List Int) (hs : a.eval s = v) (hown : NewU B w0 v l) (y : Int) (hx : a.eval x = .slice (some ⟨w0.heap.size, 0, none⟩) 1 1) (hy : U64 y)
    (hlen : l.length + 1 ≤ 17592186043904) (hB : B ≤ w0.heap.size)
    (h : ∀ v' w', NewU B w' v' (l ++ [y]) → Below B w0 w' → wpList Tryz.prog ops Q rest (a.put o.dst v') w') : wpList Tryz.prog ops Q (o :: rest) a (w0.alloc (.cells #[.int .u64 y] 57)) := by
  refine wpList_app hgd s x _ ho B 57 _ (.int .u64 0) 1 8 Tryz.underlying53 Tryz.infoU rfl (by decide) v l.length _ hs hown.2.2 1 _ hx rfl (by simp [Value.oneCell']) (by unfold maxLen; omega) (by omega) hB fun v' w' h1 h2 => h v' w' ⟨?_, ?_, ?_⟩ h2
  · intro z hz
    rcases List.mem_append.mp hz with hz | hz
    · exact hown.1 z hz
    · rw [List.mem_singleton.mp hz]; exact hy
  · simp; omega
  · simpa using h1
/-- append of two numbers -/
theorem wpList_appU2 {ops : Array Oper} {rest : List Oper} {o : Oper} {a : Act} {Q : Exit → Act → World → Prop} {w0 : World} (hgd : o.guard = none) (s x : Operand)
    (ho : o.op = .call { callee := .builtin .append, args := #[s, x], argTypes := #[53, 53] })
    (B : Nat) (v : Value) (l : List Int) (hs : a.eval s = v) (hown : NewU B w0 v l) (y z : Int) (hx : a.eval x = .slice (some ⟨w0.heap.size, 0, none⟩) 2 2) (hy : U64 y) (hz : U64 z)
    (hlen : l.length + 2 ≤ 17592186043904) (hB : B ≤ w0.heap.size)
    (h : ∀ v' w', NewU B w' v' (l ++ [y, z]) → Below B w0 w' → wpList Tryz.prog ops Q rest (a.put o.dst v') w') : wpList Tryz.prog ops Q (o :: rest) a (w0.alloc (.cells #[.int .u64 y, .int .u64 z] 57)) := by
  refine wpList_app hgd s x _ ho B 57 _ (.int .u64 0) 1 8 Tryz.underlying53 Tryz.infoU rfl (by decide) v l.length _ hs hown.2.2 2 _ hx rfl (by simp [Value.oneCell']) (by unfold maxLen; omega) (by omega) hB fun v' w' h1 h2 => h v' w' ⟨?_, ?_, ?_⟩ h2
  · intro u hu
    rcases List.mem_append.mp hu with hu | hu
    · exact hown.1 u hu
    · simp at hu; rcases hu with rfl | rfl
      · exact hy
      · exact hz
  · simp; omega
  · simpa using h1
/-- make([]uint64, 0, c) -/
theorem wpList_makeU0 {ops : Array Oper} {rest : List Oper} {o : Oper} {a : Act} {Q : Exit → Act → World → Prop} (w : World) (hg : o.guard = none) (lo co : Operand) (hop : o.op = Op.makeSlice 53 lo co)
    (C : Int) (n : Nat) (hl : a.eval lo = .int .i64 0) (hc : a.eval co = .int .i64 C) (hC : C = (n : Int)) (hn : n ≤ 17592186043904)
    (h : ∀ v w', NewU w.heap.size w' v [] → Below w.heap.size w w' → wpList Tryz.prog ops Q rest (a.put o.dst v) w') : wpList Tryz.prog ops Q (o :: rest) a w := by
  obtain ⟨i0, hi1, hz0, hz1, hz2⟩ := info_parts Tryz.infoU
  refine wpList_make_own w hg lo co _ hop w.heap.size 57 i0 (.int .u64 0) 1 Tryz.underlying53 hi1 hz0 hz1 .i64 .i64 C n hl hc hC (by rw [hz2]; omega) (by unfold maxLen; omega) (Nat.le_refl _) fun w' h1 h2 => ?_
  refine h _ w' ⟨by simp, by simp, ?_⟩ ((Below.refl _ w).grown h2 (Nat.le_refl _) (by simp))
  obtain ⟨_, r⟩ := h1
  rcases r with ⟨r, _⟩ | ⟨g, cap, cur, rv, r2, r3, r4, r5, r6, r7⟩
  · cases r
  · cases rv
    exact ⟨by simp, .inr ⟨_, _, cur, rfl, r2, r3, r4, r5, r6, r7⟩⟩
/-- make([]uint64, n) -/
theorem wpList_makeU {ops : Array Oper} {rest : List Oper} {o : Oper} {a : Act} {Q : Exit → Act → World → Prop} (w : World) (hg : o.guard = none) (lo co : Operand) (hop : o.op = Op.makeSlice 53 lo co)
    (L C : Int) (n : Nat) (hl : a.eval lo = .int .i64 L) (hc : a.eval co = .int .i64 C) (hL : L = (n : Int)) (hC : C = (n : Int)) (hn : n ≤ 17592186043904)
    (h : ∀ w', NewU w.heap.size w' (.slice (some ⟨w.heap.size, 0, none⟩) n n) (List.replicate n 0) → Below w.heap.size w w' → wpList Tryz.prog ops Q rest (a.put o.dst (.slice (some ⟨w.heap.size, 0, none⟩) n n)) w') : wpList Tryz.prog ops Q (o :: rest) a w := by
  obtain ⟨i0, hi1, hz0, hz1, hz2⟩ := info_parts Tryz.infoU
  refine wpList_make_full w hg lo co _ hop w.heap.size 57 i0 (.int .u64 0) 1 Tryz.underlying53 hi1 hz0 hz1 .i64 .i64 L C n hl hc hL hC (by rw [hz2]; omega) (by unfold maxLen; omega) (Nat.le_refl _) fun w' h1 h2 => ?_
  refine h w' ⟨?_, by simp; omega, ?_⟩ ((Below.refl _ w).grown h2 (Nat.le_refl _) (by simp))
  · intro x hx; rw [List.eq_of_mem_replicate hx]; exact U64.zero
  · have e1 : (madeCells (Value.int .u64 0).cells (n * 1)).toList = (List.replicate n (0 : Int)).map (Value.int .u64) := by
      rw [Nat.mul_one]; show (madeCells #[Value.int .u64 0] n).toList = _
      rw [toList_madeCells_one, List.map_replicate]
    rw [e1] at h1
    simpa using h1
theorem NewU.lit1 (w : World) (y : Int) (hy : U64 y) : NewU w.heap.size (w.alloc (.cells #[.int .u64 y] 57)) (.slice (some ⟨w.heap.size, 0, none⟩) 1 1) [y] :=
  ⟨by simpa using hy, by simp, World.ownsRow_lit w #[.int .u64 y] 1 (Nat.le_refl _) (by unfold maxLen; omega) rfl⟩
theorem NewU.lit2 (w : World) (y z : Int) (hy : U64 y) (hz : U64 z) : NewU w.heap.size (w.alloc (.cells #[.int .u64 y, .int .u64 z] 57)) (.slice (some ⟨w.heap.size, 0, none⟩) 2 2) [y, z] :=
  ⟨by simpa using ⟨hy, hz⟩, by simp, World.ownsRow_lit w #[.int .u64 y, .int .u64 z] 2 (Nat.le_refl _) (by unfold maxLen; omega) rfl⟩
/-- list number j of a list of lists -/
abbrev atl (ll : List (List Int)) (j : Nat) : List Int := ll[j]?.getD []
/-- v is a slice of slices that reads as ll -/
def RowUU (w : World) (v : Value) (ll : List (List Int)) : Prop :=
  ll.length ≤ 9223372036854775807 ∧ ∃ a cap, v = .slice a ll.length cap ∧
    (0 < ll.length → ∃ b off, a = some ⟨b, off, none⟩ ∧ b < w.heap.size ∧ ∀ j, j < ll.length → ∃ u, w.cell? ⟨b, off + j, none⟩ = some u ∧ RowU w u (atl ll j))
theorem RowUU.below {K : Nat} {w w' : World} {v : Value} {l : List (List Int)} (h : RowUU w v l) (hb : Below K w w') (hK : w.heap.size ≤ K) : RowUU w' v l := by
  obtain ⟨h2, a, cap, rfl, h3⟩ := h
  refine ⟨h2, a, cap, rfl, fun hl => ?_⟩
  obtain ⟨b, off, rfl, hlt, hc⟩ := h3 hl
  refine ⟨b, off, rfl, Nat.lt_of_lt_of_le hlt hb.size, fun j hj => ?_⟩
  obtain ⟨u, hu, hr⟩ := hc j hj
  exact ⟨u, by rw [hb.cell (by show b < K; omega)]; exact hu, hr.below hb hK⟩
/-! a block that is known whole -/
theorem blk_lt {w : World} {b : Nat} {o : Obj} (h : w.heap[b]? = some o) : b < w.heap.size := by
  rcases Nat.lt_or_ge b w.heap.size with h' | h'
  · exact h'
  · simp [Array.getElem?_eq_none h'] at h
theorem cell_blk {w : World} {b : Nat} {cs : Array Value} {t : TypeId} (h : w.heap[b]? = some (.cells cs t (0, 0))) (j : Nat) : w.cell? ⟨b, j, none⟩ = cs[j]? := by simp [World.cell?, h]
theorem free_blk {w : World} {b : Nat} {cs : Array Value} {t : TypeId} (h : w.heap[b]? = some (.cells cs t (0, 0))) (j : Nat) : w.frozen? ⟨b, j, none⟩ = false := by simp [World.frozen?, h]
theorem blk_setCell {w : World} {b : Nat} {cs : Array Value} {t : TypeId} (h : w.heap[b]? = some (.cells cs t (0, 0))) (j : Nat) (u : Value) :
    (w.setCell ⟨b, j, none⟩ u).heap[b]? = some (.cells (cs.setIfInBounds j u) t (0, 0)) := by
  have hlt := blk_lt h
  have h' : w.heap[b] = .cells cs t (0, 0) := by simpa [Array.getElem?_eq_getElem hlt] using h
  show (w.heap.modify b _)[b]? = _
  rw [Array.getElem?_eq_getElem (by simpa using hlt), Array.getElem_modify_self, h']
  rfl
theorem grownBy_trans {a b c : World} {r : Option Nat} (h : a.grownBy b r) (k : b.grownBy c r) : a.grownBy c r :=
  ⟨k.os.trans h.os, k.tape.trans h.tape, k.output.trans h.output, Nat.le_trans h.size k.size, fun i hi hne => (k.block i (Nat.lt_of_lt_of_le hi h.size) hne).trans (h.block i hi hne)⟩
theorem grownBy_setCell (w : World) (b j : Nat) (u : Value) : w.grownBy (w.setCell ⟨b, j, none⟩ u) (some b) :=
  ⟨rfl, rfl, rfl, by simp [World.setCell], fun k _ hne => Below.heap_setCell _ _ _ _ (fun e => hne (by rw [e]))⟩
theorem grownBy_drewN (w : World) (n : Nat) (r : Option Nat) : w.grownBy (w.drewN n) r := ⟨rfl, rfl, rfl, Nat.le_refl _, fun _ _ _ => rfl⟩
theorem grownBy_of_below {w w' : World} {r : Option Nat} (h : Below w.heap.size w w') : w.grownBy w' r := ⟨h.os, h.tape, h.output, h.size, fun k hk _ => h.block k hk⟩
/-- what was written is one's own: below B nothing has turned -/
theorem below_of_grownBy {w w' : World} {b B : Nat} (h : w.grownBy w' (some b)) (hB : B ≤ b) (hB2 : B ≤ w.heap.size) : Below B w w' :=
  ⟨h.os, h.tape, h.output, h.size, fun k hk => h.block k (by omega) (fun e => by cases e; omega)⟩
theorem RowU.grown {w w' : World} {v : Value} {l : List Int} {b : Nat} (h : RowU w v l) (hg : w.grownBy w' (some b)) (hty : ∀ a n c, v = .slice (some a) n c → 0 < n → a.block ≠ b) : RowU w' v l := by
  obtain ⟨h1, h2, a, cap, rfl, h3⟩ := h
  refine ⟨h1, h2, a, cap, rfl, fun hl => ?_⟩
  obtain ⟨k, off, rfl, hlt, hc⟩ := h3 hl
  have hk : k ≠ b := hty _ _ _ rfl hl
  refine ⟨k, off, rfl, Nat.lt_of_lt_of_le hlt hg.size, fun j hj => ?_⟩
  rw [World.cell?_of_block (w := w) (hg.block k hlt (fun e => hk (by cases e; rfl)))]
  exact hc j hj

/-- a contract that leaves the world alone, as a region that draws its order wants it -/
theorem flip {Pr : Program} {f : FuncId} {args : Array Value} {w : World} {n : Nat} {v : Value} (h : Calls Pr f args (w.drewN n) fun e w' => e = .returned v ∧ w.drewN n = w') :
    Calls Pr f args (w.drewN n) fun e w'' => e = .returned v ∧ ∃ m, w'' = w.drewN m := Calls.quiet_of_same (h.mono fun _ _ h => ⟨h.1, h.2.symm⟩)
theorem still_of {Pr : Program} {f : FuncId} {args : Array Value} {w : World} {v : Value} (h : Calls Pr f args w fun e w' => e = .returned v ∧ w = w') :
    Calls Pr f args w fun e w'' => e = .returned v ∧ w'' = w := h.mono fun _ _ h => ⟨h.1, h.2.symm⟩
theorem RowU.drewN {w : World} {v : Value} {l : List Int} (h : RowU w v l) (n : Nat) : RowU (w.drewN n) v l :=
  h.below (below_drewN (Below.refl w.heap.size w) n) (Nat.le_refl _)
theorem alloc_blk (w : World) (o : Obj) : (w.alloc o).heap[w.heap.size]? = some o := by
  show (w.heap.push o)[w.heap.size]? = _
  rw [Array.getElem?_push, if_pos rfl]
theorem NewU.drewN {B : Nat} {w : World} {v : Value} {l : List Int} (h : NewU B w v l) (n : Nat) : NewU B (w.drewN n) v l :=
  h.below (below_drewN (Below.refl w.heap.size w) n) (Nat.le_refl _)
theorem at0_set_self (l : List Int) (j : Nat) (v : Int) (h : j < l.length) : at0 (l.set j v) j = v := by
  simp only [at0]; rw [List.getElem?_set_self h]; rfl
theorem at0_set_ne (l : List Int) (j q : Nat) (v : Int) (h : j ≠ q) : at0 (l.set j v) q = at0 l q := by
  simp only [at0]; rw [List.getElem?_set_ne h]
end Go.Proofs.YtlfneeobnihocaaGreatDoor
