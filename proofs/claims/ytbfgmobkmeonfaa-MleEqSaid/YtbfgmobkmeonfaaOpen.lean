/- How an argument that can be read as data is opened: slices of 64-bit numbers. No condition. -/
import Derived.Test.YtbfgmobkmeonfaaMem
import Derived.ProofKit
import Derived.OpenShut
namespace Go.Proofs.Ytbfgmobkmeonfaa
open Go.ChangeShapes Go.WideShapes Go.ChangeAt Go.RowKit

theorem U64.of_wf {a : Int} (h : (Lit.int .u64 a).wf = true) : U64 a := by
  have := bounds_u64 h
  exact ⟨by omega, by omega⟩
/-- a number of an int's kind -/
def I64 (a : Int) : Prop := -9223372036854775808 ≤ a ∧ a ≤ 9223372036854775807
theorem I64.of_wf {a : Int} (h : (Lit.int .i64 a).wf = true) : I64 a := by
  have := bounds_i64 h
  exact ⟨by omega, by omega⟩

theorem trod_u64s {H : Type} {enc : TypeId × Value → H} {W : World} {fuel : Nat} {a : Option Addr} {len cap : Nat} {x : DataW H × List MemPlace} {held : Bool}
    (h : DataW.trod enc Try.prog W 0 (fun _ => true) held fuel 25 [.slice a len cap] = some x) :
    ∃ l, RowU W (.slice a len cap) l := by
  rcases open_ints Try.underlying25 Try.underlying28 (by kernel_rfl) h with ⟨hcs, _⟩ | ⟨y, len', cap', zs, hcs, _, hl, hm, hz, _, hcell, hwz⟩
  · simp only [List.cons.injEq, Value.slice.injEq, and_true] at hcs
    obtain ⟨rfl, rfl, rfl⟩ := hcs
    exact ⟨[], by simp, by simp, none, 0, rfl, fun h => by simp at h⟩
  · simp only [List.cons.injEq, Value.slice.injEq, and_true] at hcs
    obtain ⟨rfl, rfl, rfl⟩ := hcs
    simp only [if_true] at hz
    have hlen : (zs.take len).length = len := by rw [List.length_take]; omega
    refine ⟨zs.take len, fun x hx => U64.of_wf (hwz x (List.mem_of_mem_take hx)), by rw [hlen]; unfold maxLen at hm; omega, some y, cap, by rw [hlen], fun h0 => ?_⟩
    rw [hlen] at h0
    obtain ⟨b, off, spot⟩ := y
    have hc := hcell 0 (by omega)
    have hspot : spot = none := by simpa [Addr.add] using World.cell?_spot hc
    subst hspot
    refine ⟨b, off, rfl, ?_, fun j hj => ?_⟩
    · rcases Nat.lt_or_ge b W.heap.size with h | h
      · exact h
      · simp [World.cell?, Array.getElem?_eq_none h, Addr.add] at hc
    · rw [hlen] at hj
      have := hcell j (by omega)
      rw [Addr.add_lit] at this
      rw [this]
      simp [at0, hj]
theorem open_u64s {H : Type} {enc : TypeId × Value → H} {W : World} {base : Nat} {v : Value} {x : DataW H} {p : List MemPlace} {held : Bool}
    (hv : Value.okWide Try.prog W .any base 25 v) (h : DataW.Trod enc Try.prog W 0 (fun _ => true) held 25 v x p) :
    ∃ l, RowU W v l := by
  obtain ⟨a, len, cap, rfl⟩ := okWide_slice Try.underlying25 hv
  obtain ⟨fuel, hf⟩ := h
  exact trod_u64s (by simpa [Value.cells] using hf)
theorem Try.own : ownKnob Try.prog.godebug = none := by kernel_rfl
theorem Try.laidOut : laidOutB Try.prog = true := by kernel_rfl
end Go.Proofs.Ytbfgmobkmeonfaa
