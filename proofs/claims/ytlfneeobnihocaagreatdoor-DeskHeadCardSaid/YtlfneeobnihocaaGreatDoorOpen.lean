/- Several texts in one: Open, Cap, Circ. What each says, and its conditions, stands at its head. -/
import Derived.Test.YtlfneeobnihocaaGreatDoorMem
import Derived.ProofKit
import Derived.OpenShut
import Derived.Deep.Matrix
/- How an argument that can be read as data is opened: slices of 64-bit numbers. No condition. -/
namespace Go.Proofs.YtlfneeobnihocaaGreatDoor
set_option maxRecDepth 100000
set_option linter.unusedVariables false
open Go.ChangeShapes Go.WideShapes Go.ChangeAt Go.RowKit

theorem U64.of_wf {a : Int} (h : (Lit.int .u64 a).wf = true) : U64 a := by
  have := bounds_u64 h
  exact ⟨by omega, by omega⟩
/-- a number of an int's kind -/
def I64 (a : Int) : Prop := -9223372036854775808 ≤ a ∧ a ≤ 9223372036854775807
theorem I64.of_wf {a : Int} (h : (Lit.int .i64 a).wf = true) : I64 a := by
  have := bounds_i64 h
  exact ⟨by omega, by omega⟩

theorem trod_u64s {H : Type} {enc : TypeId × Value → H} {W : World} {fuel : Nat} {a : Option Addr} {len cap : Nat} {x : DataW H × List MemPlace} {held : Bool}
    (h : DataW.trod enc Tryz.prog W 0 (fun _ => true) held fuel 53 [.slice a len cap] = some x) :
    ∃ l, RowU W (.slice a len cap) l := by
  rcases open_ints Tryz.underlying53 Tryz.underlying57 (by kernel_rfl) h with ⟨hcs, _⟩ | ⟨y, len', cap', zs, hcs, _, hl, hm, hz, _, hcell, hwz⟩
  · simp only [List.cons.injEq, Value.slice.injEq, and_true] at hcs
    obtain ⟨rfl, rfl, rfl⟩ := hcs
    exact ⟨[], by simp, by simp, none, 0, rfl, fun h => by simp at h⟩
  · simp only [List.cons.injEq, Value.slice.injEq, and_true] at hcs
    obtain ⟨rfl, rfl, rfl⟩ := hcs
    simp only [if_true] at hz
    have hlen : (zs.take len).length = len := by rw [List.length_take]; omega
    refine ⟨zs.take len, fun x hx => U64.of_wf (hwz x (List.mem_of_mem_take hx)), by rw [hlen]; unfold maxLen at hm; omega, some y, cap, by rw [hlen], fun h0 => ?_⟩
    rw [hlen] at h0
    obtain ⟨b, off, spot⟩ := y
    have hc := hcell 0 (by omega)
    have hspot : spot = none := by simpa [Addr.add] using World.cell?_spot hc
    subst hspot
    refine ⟨b, off, rfl, ?_, fun j hj => ?_⟩
    · rcases Nat.lt_or_ge b W.heap.size with h | h
      · exact h
      · simp [World.cell?, Array.getElem?_eq_none h, Addr.add] at hc
    · rw [hlen] at hj
      have := hcell j (by omega)
      rw [Addr.add_lit] at this
      rw [this]
      simp [at0, hj]
theorem open_u64s {H : Type} {enc : TypeId × Value → H} {W : World} {base : Nat} {v : Value} {x : DataW H} {p : List MemPlace} {held : Bool}
    (hv : Value.okWide Tryz.prog W .any base 53 v) (h : DataW.Trod enc Tryz.prog W 0 (fun _ => true) held 53 v x p) :
    ∃ l, RowU W v l := by
  obtain ⟨a, len, cap, rfl⟩ := okWide_slice Tryz.underlying53 hv
  obtain ⟨fuel, hf⟩ := h
  exact trod_u64s (by simpa [Value.cells] using hf)
theorem rowU_of {W : World} {a : Option Addr} {len cap : Nat} {Z : List Int} (hl : len ≤ cap) (hm : cap ≤ maxLen) (hz : Z.length = cap) (hwz : ∀ n ∈ Z, (Lit.int .u64 n).wf = true) (hn : a = none → cap = 0)
    (hcell : ∀ a', a = some a' → ∀ c, c < cap → W.cell? (a'.add c) = some (.int .u64 (Z.getD c 0))) : RowU W (.slice a len cap) (Z.take len) := by
  have hlen : (Z.take len).length = len := by rw [List.length_take]; omega
  refine ⟨fun x hx => U64.of_wf (hwz x (List.mem_of_mem_take hx)), by rw [hlen]; unfold maxLen at hm; omega, a, cap, by rw [hlen], fun h0 => ?_⟩
  rw [hlen] at h0
  match a, hn, hcell with
  | none, hn, _ => have := hn rfl; omega
  | some y, _, hcell =>
    obtain ⟨b, off, spot⟩ := y
    have hc := hcell _ rfl 0 (by omega)
    have hspot : spot = none := by simpa [Addr.add] using World.cell?_spot hc
    subst hspot
    refine ⟨b, off, rfl, ?_, fun j hj => ?_⟩
    · rcases Nat.lt_or_ge b W.heap.size with h | h
      · exact h
      · simp [World.cell?, Array.getElem?_eq_none h, Addr.add] at hc
    · rw [hlen] at hj
      have := hcell _ rfl j (by omega)
      rw [Addr.add_lit] at this
      rw [this]
      simp [at0, hj]
theorem trod_u64ss {H : Type} {enc : TypeId × Value → H} {W : World} {fuel : Nat} {a : Option Addr} {len cap : Nat} {x : DataW H × List MemPlace} {held : Bool}
    (h : DataW.trod enc Tryz.prog W 0 (fun _ => true) held fuel 76 [.slice a len cap] = some x) :
    ∃ l, RowUU W (.slice a len cap) l := by
  rcases Go.Deep.open_int_rows Tryz.underlying76 Tryz.underlying53 Tryz.underlying57 (by kernel_rfl) (by kernel_rfl) h with ⟨hcs, _⟩ | ⟨y, len', cap', A, L, C, Z, hcs, _, hl, hm, _, hall⟩
  · simp only [List.cons.injEq, Value.slice.injEq, and_true] at hcs
    obtain ⟨rfl, rfl, rfl⟩ := hcs
    exact ⟨[], by simp, none, 0, rfl, fun h => by simp at h⟩
  · simp only [List.cons.injEq, Value.slice.injEq, and_true] at hcs
    obtain ⟨rfl, rfl, rfl⟩ := hcs
    have hlen : ((List.range len).map fun r => (Z r).take (L r)).length = len := by simp
    refine ⟨(List.range len).map fun r => (Z r).take (L r), by rw [hlen]; unfold maxLen at hm; omega, some y, cap, by rw [hlen], fun h0 => ?_⟩
    rw [hlen] at h0
    obtain ⟨b, off, spot⟩ := y
    have hc := (hall 0 (by omega)).1
    have hspot : spot = none := by simpa [Addr.add] using World.cell?_spot hc
    subst hspot
    refine ⟨b, off, rfl, ?_, fun j hj => ?_⟩
    · rcases Nat.lt_or_ge b W.heap.size with h | h
      · exact h
      · simp [World.cell?, Array.getElem?_eq_none h, Addr.add] at hc
    · rw [hlen] at hj
      obtain ⟨c1, c2, c3, c4, c5, c6, c7⟩ := hall j (by omega)
      rw [Addr.add_lit] at c1
      refine ⟨_, c1, ?_⟩
      have e : atl ((List.range len).map fun r => (Z r).take (L r)) j = (Z j).take (L j) := by simp [atl, hj]
      rw [e]
      exact rowU_of c2 c3 c4 c5 c6 (fun a' ha' c hc => (c7 a' ha').2 c hc)
theorem open_u64ss {H : Type} {enc : TypeId × Value → H} {W : World} {base : Nat} {v : Value} {x : DataW H} {p : List MemPlace} {held : Bool}
    (hv : Value.okWide Tryz.prog W .any base 76 v) (h : DataW.Trod enc Tryz.prog W 0 (fun _ => true) held 76 v x p) :
    ∃ l, RowUU W v l := by
  obtain ⟨a, len, cap, rfl⟩ := okWide_slice Tryz.underlying76 hv
  obtain ⟨fuel, hf⟩ := h
  exact trod_u64ss (by simpa [Value.cells] using hf)
theorem Tryz.own : ownKnob Tryz.prog.godebug = none := by kernel_rfl
theorem Tryz.laidOut : laidOutB Tryz.prog = true := by kernel_rfl
end Go.Proofs.YtlfneeobnihocaaGreatDoor
/- A slice's length is at most its room: what an argument that can be read as data gives besides. No condition. -/
namespace Go.Proofs.YtlfneeobnihocaaGreatDoor
set_option maxRecDepth 100000
set_option linter.unusedVariables false
open Go.ChangeShapes Go.WideShapes Go.ChangeAt Go.RowKit
/-- a slice's length is at most its room -/
def CapOk (v : Value) : Prop := ∀ a n c, v = .slice a n c → n ≤ c ∧ c ≤ 9223372036854775807
theorem CapOk.mk {a : Option Addr} {n c : Nat} (h : n ≤ c) (h2 : c ≤ 9223372036854775807) : CapOk (.slice a n c) := fun _ _ _ e => by cases e; exact ⟨h, h2⟩
theorem cap_u64s {H : Type} {enc : TypeId × Value → H} {W : World} {base : Nat} {v : Value} {x : DataW H} {p : List MemPlace} {held : Bool}
    (hv : Value.okWide Tryz.prog W .any base 53 v) (h : DataW.Trod enc Tryz.prog W 0 (fun _ => true) held 53 v x p) : CapOk v := by
  obtain ⟨a, len, cap, rfl⟩ := okWide_slice Tryz.underlying53 hv
  obtain ⟨fuel, hf⟩ := h
  rcases open_ints Tryz.underlying53 Tryz.underlying57 (by kernel_rfl) (by simpa [Value.cells] using hf) with ⟨hcs, _⟩ | ⟨y, len', cap', zs, hcs, _, hl, hm, hz, _, hcell, hwz⟩
  · simp only [List.cons.injEq, Value.slice.injEq, and_true] at hcs
    obtain ⟨rfl, rfl, rfl⟩ := hcs
    exact CapOk.mk (by omega) (by omega)
  · simp only [List.cons.injEq, Value.slice.injEq, and_true] at hcs
    obtain ⟨rfl, rfl, rfl⟩ := hcs
    unfold maxLen at hm
    exact CapOk.mk hl hm
theorem NewU.cap {B : Nat} {w : World} {v : Value} {l : List Int} (h : NewU B w v l) : CapOk v := by
  obtain ⟨_, _, ho⟩ := h
  rcases ho.2 with ⟨rfl, _⟩ | ⟨g, cap, cur, rfl, hg, hh, hn, hcap, _⟩
  · exact CapOk.mk (by omega) (by omega)
  · unfold maxLen at hcap; exact CapOk.mk hn hcap
/-- a slice of no memory has no room -/
def NilOk (v : Value) : Prop := ∀ n c, v = .slice none n c → c = 0
theorem NilOk.some (a : Addr) (n c : Nat) : NilOk (.slice (some a) n c) := fun _ _ e => by cases e
theorem NilOk.none : NilOk (.slice none 0 0) := fun _ _ e => by cases e; rfl
theorem nil_u64s {H : Type} {enc : TypeId × Value → H} {W : World} {base : Nat} {v : Value} {x : DataW H} {p : List MemPlace} {held : Bool}
    (hv : Value.okWide Tryz.prog W .any base 53 v) (h : DataW.Trod enc Tryz.prog W 0 (fun _ => true) held 53 v x p) : NilOk v := by
  obtain ⟨a, len, cap, rfl⟩ := okWide_slice Tryz.underlying53 hv
  obtain ⟨fuel, hf⟩ := h
  rcases open_ints Tryz.underlying53 Tryz.underlying57 (by kernel_rfl) (by simpa [Value.cells] using hf) with ⟨hcs, _⟩ | ⟨y, len', cap', zs, hcs, _, hl, hm, hz, _, hcell, hwz⟩
  · simp only [List.cons.injEq, Value.slice.injEq, and_true] at hcs
    obtain ⟨rfl, rfl, rfl⟩ := hcs
    exact NilOk.none
  · simp only [List.cons.injEq, Value.slice.injEq, and_true] at hcs
    obtain ⟨rfl, rfl, rfl⟩ := hcs
    exact NilOk.some _ _ _
theorem NewU.nilOk {B : Nat} {w : World} {v : Value} {l : List Int} (h : NewU B w v l) : NilOk v := by
  obtain ⟨_, _, ho⟩ := h
  rcases ho.2 with ⟨rfl, _⟩ | ⟨g, cap, cur, rfl, _⟩
  · exact NilOk.none
  · exact NilOk.some _ _ _
end Go.Proofs.YtlfneeobnihocaaGreatDoor
/- Circuits in memory: what is meant by a circuit that reads as data; how such facts are kept. No condition. -/
namespace Go.Proofs.YtlfneeobnihocaaGreatDoor
set_option maxRecDepth 100000
set_option linter.unusedVariables false
open Go.RowKit Tally

structure Gt where
  mul : Bool
  a : Int
  b : Int
structure Ly where
  log : Int
  gates : List Gt
structure Ci where
  log : Int
  layers : List Ly
abbrev gate0 : Gt := ⟨false, 0, 0⟩
abbrev layer0 : Ly := ⟨0, []⟩
abbrev atg (l : List Gt) (j : Nat) : Gt := l[j]?.getD gate0
abbrev aty (l : List Ly) (j : Nat) : Ly := l[j]?.getD layer0

/-- v is a slice of gates that reads as l -/
def RowG (w : World) (v : Value) (l : List Gt) : Prop :=
  (∀ g ∈ l, I64 g.a ∧ I64 g.b) ∧ l.length ≤ 9223372036854775807 ∧ ∃ a cap, v = .slice a l.length cap ∧
    (0 < l.length → ∃ b off, a = some ⟨b, off, none⟩ ∧ b < w.heap.size ∧ ∀ j, j < l.length →
      w.cell? ⟨b, off + j * 3, none⟩ = some (.bool (atg l j).mul) ∧ w.cell? ⟨b, off + j * 3 + 1, none⟩ = some (.int .i64 (atg l j).a) ∧ w.cell? ⟨b, off + j * 3 + 2, none⟩ = some (.int .i64 (atg l j).b))
/-- v is a slice of layers that reads as l -/
def RowL (w : World) (v : Value) (l : List Ly) : Prop :=
  (∀ y ∈ l, I64 y.log) ∧ l.length ≤ 9223372036854775807 ∧ ∃ a cap, v = .slice a l.length cap ∧
    (0 < l.length → ∃ b off, a = some ⟨b, off, none⟩ ∧ b < w.heap.size ∧ ∀ j, j < l.length →
      w.cell? ⟨b, off + j * 2, none⟩ = some (.int .i64 (aty l j).log) ∧ ∃ u, w.cell? ⟨b, off + j * 2 + 1, none⟩ = some u ∧ RowG w u (aty l j).gates)
/-- v is a circuit that reads as c -/
def IsC (w : World) (v : Value) (c : Ci) : Prop := I64 c.log ∧ ∃ u, v = .agg #[.int .i64 c.log, u] ∧ RowL w u c.layers

theorem RowG.below {K : Nat} {w w' : World} {v : Value} {l : List Gt} (h : RowG w v l) (hb : Below K w w') (hK : w.heap.size ≤ K) : RowG w' v l := by
  obtain ⟨h1, h2, a, cap, rfl, h3⟩ := h
  refine ⟨h1, h2, a, cap, rfl, fun hl => ?_⟩
  obtain ⟨b, off, rfl, hlt, hc⟩ := h3 hl
  refine ⟨b, off, rfl, Nat.lt_of_lt_of_le hlt hb.size, fun j hj => ?_⟩
  obtain ⟨c1, c2, c3⟩ := hc j hj
  exact ⟨by rw [hb.cell (by show b < K; omega)]; exact c1, by rw [hb.cell (by show b < K; omega)]; exact c2, by rw [hb.cell (by show b < K; omega)]; exact c3⟩
theorem RowL.below {K : Nat} {w w' : World} {v : Value} {l : List Ly} (h : RowL w v l) (hb : Below K w w') (hK : w.heap.size ≤ K) : RowL w' v l := by
  obtain ⟨h1, h2, a, cap, rfl, h3⟩ := h
  refine ⟨h1, h2, a, cap, rfl, fun hl => ?_⟩
  obtain ⟨b, off, rfl, hlt, hc⟩ := h3 hl
  refine ⟨b, off, rfl, Nat.lt_of_lt_of_le hlt hb.size, fun j hj => ?_⟩
  obtain ⟨c1, u, c2, c3⟩ := hc j hj
  exact ⟨by rw [hb.cell (by show b < K; omega)]; exact c1, u, by rw [hb.cell (by show b < K; omega)]; exact c2, c3.below hb hK⟩
theorem IsC.below {K : Nat} {w w' : World} {v : Value} {c : Ci} (h : IsC w v c) (hb : Below K w w') (hK : w.heap.size ≤ K) : IsC w' v c := by
  obtain ⟨h1, u, rfl, h2⟩ := h
  exact ⟨h1, u, rfl, h2.below hb hK⟩
theorem atg_mem {l : List Gt} {j : Nat} (h : j < l.length) : atg l j ∈ l := by simp [atg, List.getElem?_eq_getElem h]
theorem aty_mem {l : List Ly} {j : Nat} (h : j < l.length) : aty l j ∈ l := by simp [aty, List.getElem?_eq_getElem h]
end Go.Proofs.YtlfneeobnihocaaGreatDoor
