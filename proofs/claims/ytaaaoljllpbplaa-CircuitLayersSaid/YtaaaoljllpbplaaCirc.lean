/- Circuits in memory: what is meant by a circuit that reads as data; how such facts are kept. No condition. -/
import Derived.Test.YtaaaoljllpbplaaOpen
namespace Go.Proofs.Ytaaaoljllpbplaa
set_option maxRecDepth 100000
set_option linter.unusedVariables false
open Go.RowKit Tally

structure Gt where
  mul : Bool
  a : Int
  b : Int
structure Ly where
  log : Int
  gates : List Gt
structure Ci where
  log : Int
  layers : List Ly
abbrev gate0 : Gt := ⟨false, 0, 0⟩
abbrev layer0 : Ly := ⟨0, []⟩
abbrev atg (l : List Gt) (j : Nat) : Gt := l[j]?.getD gate0
abbrev aty (l : List Ly) (j : Nat) : Ly := l[j]?.getD layer0

/-- v is a slice of gates that reads as l -/
def RowG (w : World) (v : Value) (l : List Gt) : Prop :=
  (∀ g ∈ l, I64 g.a ∧ I64 g.b) ∧ l.length ≤ 9223372036854775807 ∧ ∃ a cap, v = .slice a l.length cap ∧
    (0 < l.length → ∃ b off, a = some ⟨b, off, none⟩ ∧ b < w.heap.size ∧ ∀ j, j < l.length →
      w.cell? ⟨b, off + j * 3, none⟩ = some (.bool (atg l j).mul) ∧ w.cell? ⟨b, off + j * 3 + 1, none⟩ = some (.int .i64 (atg l j).a) ∧ w.cell? ⟨b, off + j * 3 + 2, none⟩ = some (.int .i64 (atg l j).b))
/-- v is a slice of layers that reads as l -/
def RowL (w : World) (v : Value) (l : List Ly) : Prop :=
  (∀ y ∈ l, I64 y.log) ∧ l.length ≤ 9223372036854775807 ∧ ∃ a cap, v = .slice a l.length cap ∧
    (0 < l.length → ∃ b off, a = some ⟨b, off, none⟩ ∧ b < w.heap.size ∧ ∀ j, j < l.length →
      w.cell? ⟨b, off + j * 2, none⟩ = some (.int .i64 (aty l j).log) ∧ ∃ u, w.cell? ⟨b, off + j * 2 + 1, none⟩ = some u ∧ RowG w u (aty l j).gates)
/-- v is a circuit that reads as c -/
def IsC (w : World) (v : Value) (c : Ci) : Prop := I64 c.log ∧ ∃ u, v = .agg #[.int .i64 c.log, u] ∧ RowL w u c.layers

theorem RowG.below {K : Nat} {w w' : World} {v : Value} {l : List Gt} (h : RowG w v l) (hb : Below K w w') (hK : w.heap.size ≤ K) : RowG w' v l := by
  obtain ⟨h1, h2, a, cap, rfl, h3⟩ := h
  refine ⟨h1, h2, a, cap, rfl, fun hl => ?_⟩
  obtain ⟨b, off, rfl, hlt, hc⟩ := h3 hl
  refine ⟨b, off, rfl, Nat.lt_of_lt_of_le hlt hb.size, fun j hj => ?_⟩
  obtain ⟨c1, c2, c3⟩ := hc j hj
  exact ⟨by rw [hb.cell (by show b < K; omega)]; exact c1, by rw [hb.cell (by show b < K; omega)]; exact c2, by rw [hb.cell (by show b < K; omega)]; exact c3⟩
theorem RowL.below {K : Nat} {w w' : World} {v : Value} {l : List Ly} (h : RowL w v l) (hb : Below K w w') (hK : w.heap.size ≤ K) : RowL w' v l := by
  obtain ⟨h1, h2, a, cap, rfl, h3⟩ := h
  refine ⟨h1, h2, a, cap, rfl, fun hl => ?_⟩
  obtain ⟨b, off, rfl, hlt, hc⟩ := h3 hl
  refine ⟨b, off, rfl, Nat.lt_of_lt_of_le hlt hb.size, fun j hj => ?_⟩
  obtain ⟨c1, u, c2, c3⟩ := hc j hj
  exact ⟨by rw [hb.cell (by show b < K; omega)]; exact c1, u, by rw [hb.cell (by show b < K; omega)]; exact c2, c3.below hb hK⟩
theorem IsC.below {K : Nat} {w w' : World} {v : Value} {c : Ci} (h : IsC w v c) (hb : Below K w w') (hK : w.heap.size ≤ K) : IsC w' v c := by
  obtain ⟨h1, u, rfl, h2⟩ := h
  exact ⟨h1, u, rfl, h2.below hb hK⟩
theorem atg_mem {l : List Gt} {j : Nat} (h : j < l.length) : atg l j ∈ l := by simp [atg, List.getElem?_eq_getElem h]
theorem aty_mem {l : List Ly} {j : Nat} (h : j < l.length) : aty l j ∈ l := by simp [aty, List.getElem?_eq_getElem h]
end Go.Proofs.Ytaaaoljllpbplaa
