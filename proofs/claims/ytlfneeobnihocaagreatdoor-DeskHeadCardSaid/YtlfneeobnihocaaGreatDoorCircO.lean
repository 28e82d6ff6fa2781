/- How a circuit that can be read as data is opened. No condition. -/
import Derived.Test.YtlfneeobnihocaaGreatDoorOpen
import Derived.Lib.SmallJoins
import Derived.Deep.Slices
import Derived.Deep.Strs
namespace Go.Proofs.YtlfneeobnihocaaGreatDoor
set_option maxRecDepth 100000
set_option linter.unusedVariables false
open Go.ChangeShapes Go.WideShapes Go.ChangeAt Go.RowKit Go.Deep Go.Joins
instance : Inhabited Gt := ⟨gate0⟩
instance : Inhabited Ly := ⟨layer0⟩
theorem cellsBool : Tryz.prog.cellsOf 4 = 1 := by kernel_rfl
theorem cellsInt : Tryz.prog.cellsOf 3 = 1 := by kernel_rfl
theorem cellsGate : Tryz.prog.cellsOf 126 = 3 := by kernel_rfl
theorem cellsGates : Tryz.prog.cellsOf 122 = 1 := by kernel_rfl
theorem cellsLayer : Tryz.prog.cellsOf 124 = 2 := by kernel_rfl
theorem cellsCirc : Tryz.prog.cellsOf 62 = 2 := by kernel_rfl
theorem lt_of_cell {W : World} {a : Addr} {v : Value} (h : W.cell? a = some v) : a.block < W.heap.size := by
  rcases Nat.lt_or_ge a.block W.heap.size with h' | h'
  · exact h'
  · simp [World.cell?, Array.getElem?_eq_none h'] at h
theorem trod_gates {H : Type} {enc : TypeId × Value → H} {W : World} {fuel : Nat} {v : Value} {x : DataW H × List MemPlace} {held : Bool}
    (h : DataW.trod enc Tryz.prog W 0 (fun _ => true) held fuel 122 [v] = some x) : ∃ l, RowG W v l := by
  rcases open_slice Tryz.underlying122 h with ⟨hcs, _⟩ | ⟨a, len, cap, m, n, D, Pl, hcs, _, hl, hm, hmm, _, hx⟩
  · obtain rfl : v = .slice none 0 0 := by simpa using hcs
    exact ⟨[], by simp, by simp, none, 0, rfl, fun h => by simp at h⟩
  · obtain rfl : v = .slice (some a) len cap := by simpa using hcs
    simp only [if_true] at hmm
    subst hmm
    rw [cellsGate] at hx
    obtain ⟨b, off, spot⟩ := a
    have each : ∀ i, i < len → ∃ g : Gt, (I64 g.a ∧ I64 g.b) ∧ W.cell? ((⟨b, off, spot⟩ : Addr).add (i * 3)) = some (.bool g.mul) ∧ W.cell? ((⟨b, off, spot⟩ : Addr).add (i * 3 + 1)) = some (.int .i64 g.a) ∧ W.cell? ((⟨b, off, spot⟩ : Addr).add (i * 3 + 2)) = some (.int .i64 g.b) := by
      intro i hi
      obtain ⟨cs', h1, h2⟩ := hx i (by omega)
      obtain ⟨_, hlen, hat⟩ := World.cells?_some h1
      obtain ⟨y0, y1, y2, n', _, _, t0, t1, t2⟩ := trod_struct3 Tryz.underlying126 h2
      obtain ⟨m0, e0, _⟩ := DataW.trod_bool Tryz.underlying4 t0
      obtain ⟨m1, e1, _, w1⟩ := DataW.trod_int Tryz.underlying3 t1
      obtain ⟨m2, e2, _, w2⟩ := DataW.trod_int Tryz.underlying3 t2
      match cs', hlen with
      | [c0, c1, c2], _ =>
        simp only [cellsBool, cellsInt] at e0 e1 e2
        have a0 := hat 0 (by omega)
        have a1 := hat 1 (by omega)
        have a2 := hat 2 (by omega)
        rw [Go.Deep.add_add] at a0 a1 a2
        obtain rfl : c0 = .bool m0 := by simpa using e0
        obtain rfl : c1 = .int .i64 m1 := by simpa using e1
        obtain rfl : c2 = .int .i64 m2 := by simpa using e2
        exact ⟨⟨m0, m1, m2⟩, ⟨I64.of_wf w1, I64.of_wf w2⟩, by simpa using a0, by simpa using a1, by simpa using a2⟩
    obtain ⟨G, hG⟩ := choose_lt each
    have hlen : ((List.range len).map G).length = len := by simp
    have hat : ∀ j, j < len → atg ((List.range len).map G) j = G j := fun j hj => by simp [atg, hj]
    refine ⟨(List.range len).map G, ?_, by rw [hlen]; unfold maxLen at hm; omega, _, _, by rw [hlen], fun h0 => ?_⟩
    · intro g hg
      obtain ⟨i, hi, rfl⟩ := List.mem_map.mp hg
      exact (hG i (List.mem_range.1 hi)).1
    · rw [hlen] at h0
      have hc := (hG 0 h0).2.1
      have hspot : spot = none := by simpa [Addr.add] using World.cell?_spot hc
      subst hspot
      refine ⟨b, off, rfl, by simpa [Addr.add] using lt_of_cell hc, fun j hj => ?_⟩
      rw [hlen] at hj
      rw [hat j hj]
      obtain ⟨_, c0, c1, c2⟩ := hG j hj
      rw [Addr.add_lit] at c0 c1 c2
      exact ⟨c0, c1, c2⟩
theorem trod_layers {H : Type} {enc : TypeId × Value → H} {W : World} {fuel : Nat} {v : Value} {x : DataW H × List MemPlace} {held : Bool}
    (h : DataW.trod enc Tryz.prog W 0 (fun _ => true) held fuel 60 [v] = some x) : (∃ l, RowL W v l) ∧ ∃ a n c, v = .slice a n c ∧ n ≤ c ∧ c ≤ 9223372036854775807 := by
  rcases open_slice Tryz.underlying60 h with ⟨hcs, _⟩ | ⟨a, len, cap, m, n, D, Pl, hcs, _, hl, hm, hmm, _, hx⟩
  · obtain rfl : v = .slice none 0 0 := by simpa using hcs
    exact ⟨⟨[], by simp, by simp, none, 0, rfl, fun h => by simp at h⟩, none, 0, 0, rfl, Nat.le_refl _, by omega⟩
  · obtain rfl : v = .slice (some a) len cap := by simpa using hcs
    refine ⟨?_, some a, len, cap, rfl, hl, by unfold maxLen at hm; omega⟩
    simp only [if_true] at hmm
    subst hmm
    rw [cellsLayer] at hx
    obtain ⟨b, off, spot⟩ := a
    have each : ∀ i, i < len → ∃ y : Ly, I64 y.log ∧ W.cell? ((⟨b, off, spot⟩ : Addr).add (i * 2)) = some (.int .i64 y.log) ∧ ∃ u, W.cell? ((⟨b, off, spot⟩ : Addr).add (i * 2 + 1)) = some u ∧ RowG W u y.gates := by
      intro i hi
      obtain ⟨cs', h1, h2⟩ := hx i (by omega)
      obtain ⟨_, hlen, hat⟩ := World.cells?_some h1
      obtain ⟨y0, y1, n', _, _, t0, t1⟩ := trod_struct2 Tryz.underlying124 h2
      obtain ⟨m0, e0, _, w0⟩ := DataW.trod_int Tryz.underlying3 t0
      match cs', hlen with
      | [c0, c1], _ =>
        simp only [cellsGates, cellsInt] at e0 t1
        obtain ⟨l, hl'⟩ := trod_gates (v := c1) (by simpa using t1)
        have a0 := hat 0 (by omega)
        have a1 := hat 1 (by omega)
        rw [Go.Deep.add_add] at a0 a1
        obtain rfl : c0 = .int .i64 m0 := by simpa using e0
        exact ⟨⟨m0, l⟩, I64.of_wf w0, by simpa using a0, c1, by simpa using a1, hl'⟩
    obtain ⟨G, hG⟩ := choose_lt each
    have hlen : ((List.range len).map G).length = len := by simp
    have hat : ∀ j, j < len → aty ((List.range len).map G) j = G j := fun j hj => by simp [aty, hj]
    refine ⟨(List.range len).map G, ?_, by rw [hlen]; unfold maxLen at hm; omega, _, _, by rw [hlen], fun h0 => ?_⟩
    · intro g hg
      obtain ⟨i, hi, rfl⟩ := List.mem_map.mp hg
      exact (hG i (List.mem_range.1 hi)).1
    · rw [hlen] at h0
      have hc := (hG 0 h0).2.1
      have hspot : spot = none := by simpa [Addr.add] using World.cell?_spot hc
      subst hspot
      refine ⟨b, off, rfl, by simpa [Addr.add] using lt_of_cell hc, fun j hj => ?_⟩
      rw [hlen] at hj
      rw [hat j hj]
      obtain ⟨_, c0, u, c1, c2⟩ := hG j hj
      rw [Addr.add_lit] at c0 c1
      exact ⟨c0, u, c1, c2⟩
/-- the room behind a circuit's layers -/
def CapC (v : Value) : Prop := ∃ x a n c, v = .agg #[x, .slice a n c] ∧ n ≤ c ∧ c ≤ 9223372036854775807
theorem open_circuit' {H : Type} {enc : TypeId × Value → H} {W : World} {base : Nat} {v : Value} {x : DataW H} {p : List MemPlace} {held : Bool}
    (hv : Value.okWide Tryz.prog W .any base 62 v) (h : DataW.Trod enc Tryz.prog W 0 (fun _ => true) held 62 v x p) : ∃ c, IsC W v c ∧ CapC v := by
  obtain ⟨v0, v1, y0, y1, n, rfl, _, _, t0, t1⟩ := open_agg2 Tryz.underlying62 (by kernel_rfl) cellsCirc hv h
  obtain ⟨m0, e0, _, w0⟩ := DataW.trod_int Tryz.underlying3 t0
  obtain rfl : v0 = .int .i64 m0 := by simpa using e0
  obtain ⟨⟨l, hl⟩, a, k, c, rfl, h1, h2⟩ := trod_layers t1
  exact ⟨⟨m0, l⟩, ⟨I64.of_wf w0, _, rfl, hl⟩, _, a, k, c, rfl, h1, h2⟩
theorem open_circuit {H : Type} {enc : TypeId × Value → H} {W : World} {base : Nat} {v : Value} {x : DataW H} {p : List MemPlace} {held : Bool}
    (hv : Value.okWide Tryz.prog W .any base 62 v) (h : DataW.Trod enc Tryz.prog W 0 (fun _ => true) held 62 v x p) : ∃ c, IsC W v c :=
  let ⟨c, h1, _⟩ := open_circuit' hv h
  ⟨c, h1⟩
theorem cap_circuit {H : Type} {enc : TypeId × Value → H} {W : World} {base : Nat} {v : Value} {x : DataW H} {p : List MemPlace} {held : Bool}
    (hv : Value.okWide Tryz.prog W .any base 62 v) (h : DataW.Trod enc Tryz.prog W 0 (fun _ => true) held 62 v x p) : CapC v :=
  let ⟨_, _, h2⟩ := open_circuit' hv h
  h2
end Go.Proofs.YtlfneeobnihocaaGreatDoor
