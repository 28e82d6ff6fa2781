/- How an argument that can be read as data is opened: slices of 64-bit numbers. No condition. -/
import Derived.Test.YtaaaoljllpbplaaDoorMem
import Derived.ProofKit
import Derived.OpenShut
import Derived.Deep.Matrix
namespace Go.Proofs.YtaaaoljllpbplaaDoor
set_option maxRecDepth 100000
set_option linter.unusedVariables false
open Go.ChangeShapes Go.WideShapes Go.ChangeAt Go.RowKit

theorem U64.of_wf {a : Int} (h : (Lit.int .u64 a).wf = true) : U64 a := by
  have := bounds_u64 h
  exact ⟨by omega, by omega⟩
/-- a number of an int's kind -/
def I64 (a : Int) : Prop := -9223372036854775808 ≤ a ∧ a ≤ 9223372036854775807
theorem I64.of_wf {a : Int} (h : (Lit.int .i64 a).wf = true) : I64 a := by
  have := bounds_i64 h
  exact ⟨by omega, by omega⟩

theorem trod_u64s {H : Type} {enc : TypeId × Value → H} {W : World} {fuel : Nat} {a : Option Addr} {len cap : Nat} {x : DataW H × List MemPlace} {held : Bool}
    (h : DataW.trod enc Tryd.prog W 0 (fun _ => true) held fuel 22 [.slice a len cap] = some x) :
    ∃ l, RowU W (.slice a len cap) l := by
  rcases open_ints Tryd.underlying22 Tryd.underlying23 (by kernel_rfl) h with ⟨hcs, _⟩ | ⟨y, len', cap', zs, hcs, _, hl, hm, hz, _, hcell, hwz⟩
  · simp only [List.cons.injEq, Value.slice.injEq, and_true] at hcs
    obtain ⟨rfl, rfl, rfl⟩ := hcs
    exact ⟨[], by simp, by simp, none, 0, rfl, fun h => by simp at h⟩
  · simp only [List.cons.injEq, Value.slice.injEq, and_true] at hcs
    obtain ⟨rfl, rfl, rfl⟩ := hcs
    simp only [if_true] at hz
    have hlen : (zs.take len).length = len := by rw [List.length_take]; omega
    refine ⟨zs.take len, fun x hx => U64.of_wf (hwz x (List.mem_of_mem_take hx)), by rw [hlen]; unfold maxLen at hm; omega, some y, cap, by rw [hlen], fun h0 => ?_⟩
    rw [hlen] at h0
    obtain ⟨b, off, spot⟩ := y
    have hc := hcell 0 (by omega)
    have hspot : spot = none := by simpa [Addr.add] using World.cell?_spot hc
    subst hspot
    refine ⟨b, off, rfl, ?_, fun j hj => ?_⟩
    · rcases Nat.lt_or_ge b W.heap.size with h | h
      · exact h
      · simp [World.cell?, Array.getElem?_eq_none h, Addr.add] at hc
    · rw [hlen] at hj
      have := hcell j (by omega)
      rw [Addr.add_lit] at this
      rw [this]
      simp [at0, hj]
theorem open_u64s {H : Type} {enc : TypeId × Value → H} {W : World} {base : Nat} {v : Value} {x : DataW H} {p : List MemPlace} {held : Bool}
    (hv : Value.okWide Tryd.prog W .any base 22 v) (h : DataW.Trod enc Tryd.prog W 0 (fun _ => true) held 22 v x p) :
    ∃ l, RowU W v l := by
  obtain ⟨a, len, cap, rfl⟩ := okWide_slice Tryd.underlying22 hv
  obtain ⟨fuel, hf⟩ := h
  exact trod_u64s (by simpa [Value.cells] using hf)
theorem rowU_of {W : World} {a : Option Addr} {len cap : Nat} {Z : List Int} (hl : len ≤ cap) (hm : cap ≤ maxLen) (hz : Z.length = cap) (hwz : ∀ n ∈ Z, (Lit.int .u64 n).wf = true) (hn : a = none → cap = 0)
    (hcell : ∀ a', a = some a' → ∀ c, c < cap → W.cell? (a'.add c) = some (.int .u64 (Z.getD c 0))) : RowU W (.slice a len cap) (Z.take len) := by
  have hlen : (Z.take len).length = len := by rw [List.length_take]; omega
  refine ⟨fun x hx => U64.of_wf (hwz x (List.mem_of_mem_take hx)), by rw [hlen]; unfold maxLen at hm; omega, a, cap, by rw [hlen], fun h0 => ?_⟩
  rw [hlen] at h0
  match a, hn, hcell with
  | none, hn, _ => have := hn rfl; omega
  | some y, _, hcell =>
    obtain ⟨b, off, spot⟩ := y
    have hc := hcell _ rfl 0 (by omega)
    have hspot : spot = none := by simpa [Addr.add] using World.cell?_spot hc
    subst hspot
    refine ⟨b, off, rfl, ?_, fun j hj => ?_⟩
    · rcases Nat.lt_or_ge b W.heap.size with h | h
      · exact h
      · simp [World.cell?, Array.getElem?_eq_none h, Addr.add] at hc
    · rw [hlen] at hj
      have := hcell _ rfl j (by omega)
      rw [Addr.add_lit] at this
      rw [this]
      simp [at0, hj]
theorem trod_u64ss {H : Type} {enc : TypeId × Value → H} {W : World} {fuel : Nat} {a : Option Addr} {len cap : Nat} {x : DataW H × List MemPlace} {held : Bool}
    (h : DataW.trod enc Tryd.prog W 0 (fun _ => true) held fuel 41 [.slice a len cap] = some x) :
    ∃ l, RowUU W (.slice a len cap) l := by
  rcases Go.Deep.open_int_rows Tryd.underlying41 Tryd.underlying22 Tryd.underlying23 (by kernel_rfl) (by kernel_rfl) h with ⟨hcs, _⟩ | ⟨y, len', cap', A, L, C, Z, hcs, _, hl, hm, _, hall⟩
  · simp only [List.cons.injEq, Value.slice.injEq, and_true] at hcs
    obtain ⟨rfl, rfl, rfl⟩ := hcs
    exact ⟨[], by simp, none, 0, rfl, fun h => by simp at h⟩
  · simp only [List.cons.injEq, Value.slice.injEq, and_true] at hcs
    obtain ⟨rfl, rfl, rfl⟩ := hcs
    have hlen : ((List.range len).map fun r => (Z r).take (L r)).length = len := by simp
    refine ⟨(List.range len).map fun r => (Z r).take (L r), by rw [hlen]; unfold maxLen at hm; omega, some y, cap, by rw [hlen], fun h0 => ?_⟩
    rw [hlen] at h0
    obtain ⟨b, off, spot⟩ := y
    have hc := (hall 0 (by omega)).1
    have hspot : spot = none := by simpa [Addr.add] using World.cell?_spot hc
    subst hspot
    refine ⟨b, off, rfl, ?_, fun j hj => ?_⟩
    · rcases Nat.lt_or_ge b W.heap.size with h | h
      · exact h
      · simp [World.cell?, Array.getElem?_eq_none h, Addr.add] at hc
    · rw [hlen] at hj
      obtain ⟨c1, c2, c3, c4, c5, c6, c7⟩ := hall j (by omega)
      rw [Addr.add_lit] at c1
      refine ⟨_, c1, ?_⟩
      have e : atl ((List.range len).map fun r => (Z r).take (L r)) j = (Z j).take (L j) := by simp [atl, hj]
      rw [e]
      exact rowU_of c2 c3 c4 c5 c6 (fun a' ha' c hc => (c7 a' ha').2 c hc)
theorem open_u64ss {H : Type} {enc : TypeId × Value → H} {W : World} {base : Nat} {v : Value} {x : DataW H} {p : List MemPlace} {held : Bool}
    (hv : Value.okWide Tryd.prog W .any base 41 v) (h : DataW.Trod enc Tryd.prog W 0 (fun _ => true) held 41 v x p) :
    ∃ l, RowUU W v l := by
  obtain ⟨a, len, cap, rfl⟩ := okWide_slice Tryd.underlying41 hv
  obtain ⟨fuel, hf⟩ := h
  exact trod_u64ss (by simpa [Value.cells] using hf)
theorem Tryd.own : ownKnob Tryd.prog.godebug = none := by kernel_rfl
theorem Tryd.laidOut : laidOutB Tryd.prog = true := by kernel_rfl
end Go.Proofs.YtaaaoljllpbplaaDoor
