/- Rows of int and of strings that a call makes and appends to. No condition. -/
import Derived.Test.YtopmlieadcpdmaaDoorNumbW
import Derived.Laws.OwnMore
namespace Go.Proofs.YtopmlieadcpdmaaDoor
set_option maxRecDepth 100000
set_option linter.unusedVariables false
open Go.ChangeShapes Go.WideShapes Go.ChangeAt Go.RowKit Tally
/-- v reads as the ints l -/
def RowI (w : World) (v : Value) (l : List Int) : Prop :=
  (∀ x ∈ l, I64 x) ∧ l.length ≤ 9223372036854775807 ∧ ∃ a cap, v = .slice a l.length cap ∧
    (0 < l.length → ∃ b off, a = some ⟨b, off, none⟩ ∧ b < w.heap.size ∧ ∀ j, j < l.length → w.cell? ⟨b, off + j, none⟩ = some (.int .i64 (at0 l j)))
theorem RowI.go {w w' : World} {v : Value} {l : List Int} (h : RowI w v l) (hb : Below w.heap.size w w') : RowI w' v l := by
  obtain ⟨h1, h2, a, cap, rfl, h3⟩ := h
  refine ⟨h1, h2, a, cap, rfl, fun hl => ?_⟩
  obtain ⟨b, off, rfl, hlt, hc⟩ := h3 hl
  exact ⟨b, off, rfl, Nat.lt_of_lt_of_le hlt hb.size, fun j hj => by rw [hb.cell (by exact hlt)]; exact hc j hj⟩
theorem Tryd.infoI : (Tryd.prog.info? 3).map (fun i => (i.zero, i.size, i.bytes)) = some (some (.int .i64 0), 1, 8) := by kernel_rfl
/-- v is a slice of int in memory from block B on, at its block's head, that its holder may append to; it reads as l -/
def NewI (B : Nat) (w : World) (v : Value) (l : List Int) : Prop :=
  (∀ x ∈ l, I64 x) ∧ l.length ≤ 1000000 ∧ w.ownsRow B 3 1 v l.length (l.map (Value.int .i64))
theorem NewI.nil (B : Nat) (w : World) : NewI B w (.slice none 0 0) [] := ⟨by simp, by simp, World.ownsRow_nil w B _ _⟩
theorem NewI.below {B K : Nat} {w w' : World} {v : Value} {l : List Int} (h : NewI B w v l) (hb : Below K w w') (hK : w.heap.size ≤ K) : NewI B w' v l :=
  ⟨h.1, h.2.1, ownsRow_below h.2.2 hb hK⟩
theorem NewI.isSlice {B : Nat} {w : World} {v : Value} {l : List Int} (h : NewI B w v l) : ∃ a c, v = .slice a l.length c := by
  rcases h.2.2.2 with ⟨rfl, h0⟩ | ⟨g, cap, cur, rfl, _⟩
  · exact ⟨none, 0, by rw [h0]⟩
  · exact ⟨_, _, rfl⟩
theorem NewI.row {B : Nat} {w : World} {v : Value} {l : List Int} (h : NewI B w v l) : RowI w v l := by
  obtain ⟨h1, h2, h3⟩ := h
  refine ⟨h1, by omega, ?_⟩
  rcases h3.2 with ⟨rfl, h0⟩ | ⟨g, cap, cur, rfl, hg, hh, hn, hcap, hs, ht⟩
  · exact ⟨none, 0, by rw [h0], fun hl => by omega⟩
  · refine ⟨_, cap, rfl, fun hl => ⟨g, 0, rfl, (h3.lt g rfl).2, fun j hj => ?_⟩⟩
    have := h3.cellAt j (by omega)
    rw [show (0 + j) = j from Nat.zero_add j, this]
    simp [at0, List.getElem?_eq_getElem hj]
/-- append of one int -/
theorem wpList_appI {ops : Array Oper} {rest : List Oper} {o : Oper} {a : Act} {Q : Exit → Act → World → Prop} {w0 : World} (hgd : o.guard = none) (s x : Operand)
    (ho : o.op = .call { callee := .builtin .append, args := #[s, x], argTypes := #[73, 73] })
    (B : Nat) (v : Value) (l : List Int) (hs : a.eval s = v) (hown : NewI B w0 v l) (y : Int) (hx : a.eval x = .slice (some ⟨w0.heap.size, 0, none⟩) 1 1) (hy : I64 y)
    (hlen : l.length + 1 ≤ 1000000) (hB : B ≤ w0.heap.size)
    (h : ∀ v' w', NewI B w' v' (l ++ [y]) → Below B w0 w' → wpList Tryd.prog ops Q rest (a.put o.dst v') w') : wpList Tryd.prog ops Q (o :: rest) a (w0.alloc (.cells #[.int .i64 y] 3)) := by
  refine wpList_app hgd s x _ ho B 3 _ (.int .i64 0) 1 8 Tryd.underlying73 Tryd.infoI rfl (by decide) v l.length _ hs hown.2.2 1 _ hx rfl (by simp [Value.oneCell']) (by unfold maxLen; omega) (by omega) hB fun v' w' h1 h2 => h v' w' ⟨?_, ?_, ?_⟩ h2
  · intro z hz
    rcases List.mem_append.mp hz with hz | hz
    · exact hown.1 z hz
    · rw [List.mem_singleton.mp hz]; exact hy
  · simp; omega
  · simpa using h1
theorem Tryd.infoS : (Tryd.prog.info? 9).map (fun i => (i.zero, i.size, i.bytes)) = some (some (.string ByteArray.empty), 1, 16) := by kernel_rfl
abbrev ats (l : List (List UInt8)) (j : Nat) : List UInt8 := l[j]?.getD []
/-- v reads as the strings l -/
def RowS (w : World) (v : Value) (l : List (List UInt8)) : Prop :=
  l.length ≤ 1000000 ∧ ∃ a cap, v = .slice a l.length cap ∧ l.length ≤ cap ∧ cap ≤ 9223372036854775807 ∧
    (0 < l.length → ∃ b off, a = some ⟨b, off, none⟩ ∧ b < w.heap.size ∧ (∃ cs, w.heap[b]? = some (Obj.cells cs 9 (0, 0))) ∧ ∀ j, j < l.length → w.cell? ⟨b, off + j, none⟩ = some (.string (mkB (ats l j))))
theorem RowS.go {w w' : World} {v : Value} {l : List (List UInt8)} (h : RowS w v l) (hb : Below w.heap.size w w') : RowS w' v l := by
  obtain ⟨h2, a, cap, rfl, hc1, hc2, h3⟩ := h
  refine ⟨h2, a, cap, rfl, hc1, hc2, fun hl => ?_⟩
  obtain ⟨b, off, rfl, hlt, ⟨cs, hcs⟩, hc⟩ := h3 hl
  exact ⟨b, off, rfl, Nat.lt_of_lt_of_le hlt hb.size, ⟨cs, (hb.block b hlt).trans hcs⟩, fun j hj => by rw [hb.cell (by exact hlt)]; exact hc j hj⟩
theorem NewI.kind {B : Nat} {w : World} {v : Value} {l : List Int} (h : NewI B w v l) {g : Nat} (hg : v.ownBlock = some g) : ∃ cs, w.heap[g]? = some (Obj.cells cs 3 (0, 0)) := by
  rcases h.2.2.2 with ⟨rfl, _⟩ | ⟨g', cap, cur, rfl, hB, hg', rest⟩
  · simp [Value.ownBlock] at hg
  · obtain rfl : g' = g := by simpa [Value.ownBlock] using hg
    exact ⟨cur, hg'⟩
def strV (x : List UInt8) : Value := .string (mkB x)
/-- v is a slice of strings in memory from block B on, at its block's head, that its holder may append to; it reads as l -/
def NewS (B : Nat) (w : World) (v : Value) (l : List (List UInt8)) : Prop :=
  l.length ≤ 1000000 ∧ w.ownsRow B 9 1 v l.length (l.map strV)
theorem NewS.below {B K : Nat} {w w' : World} {v : Value} {l : List (List UInt8)} (h : NewS B w v l) (hb : Below K w w') (hK : w.heap.size ≤ K) : NewS B w' v l :=
  ⟨h.1, ownsRow_below h.2 hb hK⟩
theorem NewS.mono {B B' : Nat} {w : World} {v : Value} {l : List (List UInt8)} (h : NewS B w v l) (hB : B' ≤ B) : NewS B' w v l := ⟨h.1, ownsRow_mono h.2 hB⟩
theorem NewS.isSlice {B : Nat} {w : World} {v : Value} {l : List (List UInt8)} (h : NewS B w v l) : ∃ a c, v = .slice a l.length c := by
  rcases h.2.2 with ⟨rfl, h0⟩ | ⟨g, cap, cur, rfl, _⟩
  · exact ⟨none, 0, by rw [h0]⟩
  · exact ⟨_, _, rfl⟩
theorem NewS.at_head {B : Nat} {w : World} {v : Value} {l : List (List UInt8)} (h : NewS B w v l) (h0 : l ≠ []) : ∃ g c, v = .slice (some ⟨g, 0, none⟩) l.length c ∧ B ≤ g ∧ g < w.heap.size := by
  rcases h.2.2 with ⟨rfl, h1⟩ | ⟨g, cap, cur, rfl, hB, hg, _⟩
  · exact absurd (List.length_eq_zero_iff.mp h1) h0
  · exact ⟨g, cap, rfl, hB, (h.2.lt g rfl).2⟩
theorem NewS.row {B : Nat} {w : World} {v : Value} {l : List (List UInt8)} (h : NewS B w v l) : RowS w v l := by
  obtain ⟨h2, h3⟩ := h
  refine ⟨h2, ?_⟩
  rcases h3.2 with ⟨rfl, h0⟩ | ⟨g, cap, cur, rfl, hg, hh, hn, hcap, hs, ht⟩
  · exact ⟨none, 0, by rw [h0], by omega, by omega, fun hl => by omega⟩
  · refine ⟨_, cap, rfl, hn, by unfold maxLen at hcap; omega, fun hl => ⟨g, 0, rfl, (h3.lt g rfl).2, ⟨cur, hh⟩, fun j hj => ?_⟩⟩
    have := h3.cellAt j (by omega)
    rw [show (0 + j) = j from Nat.zero_add j, this]
    simp [ats, strV, List.getElem?_eq_getElem hj]
theorem NewS.cellAt {B g n c : Nat} {w : World} {l : List (List UInt8)} (h : NewS B w (.slice (some ⟨g, 0, none⟩) n c) l) (hn : n = l.length) (j : Nat) (hj : j < l.length) : w.cell? ⟨g, j, none⟩ = some (.string (mkB (ats l j))) := by
  subst hn
  rw [h.2.cellAt j (by omega)]; simp [ats, strV, List.getElem?_eq_getElem hj]
theorem NewS.freeAt {B g n c : Nat} {w : World} {l : List (List UInt8)} (h : NewS B w (.slice (some ⟨g, 0, none⟩) n c) l) (hn : n = l.length) (j : Nat) : w.frozen? ⟨g, j, none⟩ = false := by
  subst hn
  exact h.2.frozenAt j
theorem NewS.set {B g n c : Nat} {w : World} {l : List (List UInt8)} (h : NewS B w (.slice (some ⟨g, 0, none⟩) n c) l) (hn : n = l.length) (j : Nat) (y : List UInt8) : NewS B (w.setCell ⟨g, j, none⟩ (.string (mkB y))) (.slice (some ⟨g, 0, none⟩) n c) (l.set j y) := by
  subst hn
  refine ⟨by rw [List.length_set]; exact h.1, ?_⟩
  have := h.2.stored j (.string (mkB y))
  rw [List.length_set, List.map_set]; exact this.1
theorem NewS.lit1 (w : World) (x : List UInt8) : NewS w.heap.size (w.alloc (.cells #[.string (mkB x)] 9)) (.slice (some ⟨w.heap.size, 0, none⟩) 1 1) [x] :=
  ⟨by simp, ⟨by simp, Or.inr ⟨w.heap.size, 1, #[.string (mkB x)], rfl, Nat.le_refl _, alloc_blk w _, by simp, by unfold maxLen; omega, rfl, rfl⟩⟩⟩
/-- append of one string -/
theorem wpList_appS {ops : Array Oper} {rest : List Oper} {o : Oper} {a : Act} {Q : Exit → Act → World → Prop} {w0 : World} (hgd : o.guard = none) (s x : Operand)
    (ho : o.op = .call { callee := .builtin .append, args := #[s, x], argTypes := #[70, 70] })
    (B : Nat) (v : Value) (l : List (List UInt8)) (hs : a.eval s = v) (hown : NewS B w0 v l) (y : List UInt8) (hx : a.eval x = .slice (some ⟨w0.heap.size, 0, none⟩) 1 1)
    (hlen : l.length + 1 ≤ 1000000) (hB : B ≤ w0.heap.size)
    (h : ∀ v' w', NewS B w' v' (l ++ [y]) → Below B w0 w' → wpList Tryd.prog ops Q rest (a.put o.dst v') w') : wpList Tryd.prog ops Q (o :: rest) a (w0.alloc (.cells #[.string (mkB y)] 9)) := by
  refine wpList_app hgd s x _ ho B 9 _ (.string ByteArray.empty) 1 16 Tryd.underlying70 Tryd.infoS rfl (by decide) v l.length _ hs hown.2 1 _ hx rfl (by simp [Value.oneCell']) (by unfold maxLen; omega) (by omega) hB fun v' w' h1 h2 => h v' w' ⟨?_, ?_⟩ h2
  · simp; omega
  · simpa [strV] using h1
end Go.Proofs.YtopmlieadcpdmaaDoor
