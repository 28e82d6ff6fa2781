/- A slice's length is at most its room: what an argument that can be read as data gives besides. No condition. -/
import Derived.Test.YtaaaoljllpbplaaDoorOpen
namespace Go.Proofs.YtaaaoljllpbplaaDoor
set_option maxRecDepth 100000
set_option linter.unusedVariables false
open Go.ChangeShapes Go.WideShapes Go.ChangeAt Go.RowKit
/-- a slice's length is at most its room -/
def CapOk (v : Value) : Prop := ∀ a n c, v = .slice a n c → n ≤ c ∧ c ≤ 9223372036854775807
theorem CapOk.mk {a : Option Addr} {n c : Nat} (h : n ≤ c) (h2 : c ≤ 9223372036854775807) : CapOk (.slice a n c) := fun _ _ _ e => by cases e; exact ⟨h, h2⟩
theorem cap_u64s {H : Type} {enc : TypeId × Value → H} {W : World} {base : Nat} {v : Value} {x : DataW H} {p : List MemPlace} {held : Bool}
    (hv : Value.okWide Tryd.prog W .any base 22 v) (h : DataW.Trod enc Tryd.prog W 0 (fun _ => true) held 22 v x p) : CapOk v := by
  obtain ⟨a, len, cap, rfl⟩ := okWide_slice Tryd.underlying22 hv
  obtain ⟨fuel, hf⟩ := h
  rcases open_ints Tryd.underlying22 Tryd.underlying23 (by kernel_rfl) (by simpa [Value.cells] using hf) with ⟨hcs, _⟩ | ⟨y, len', cap', zs, hcs, _, hl, hm, hz, _, hcell, hwz⟩
  · simp only [List.cons.injEq, Value.slice.injEq, and_true] at hcs
    obtain ⟨rfl, rfl, rfl⟩ := hcs
    exact CapOk.mk (by omega) (by omega)
  · simp only [List.cons.injEq, Value.slice.injEq, and_true] at hcs
    obtain ⟨rfl, rfl, rfl⟩ := hcs
    unfold maxLen at hm
    exact CapOk.mk hl hm
theorem NewU.cap {B : Nat} {w : World} {v : Value} {l : List Int} (h : NewU B w v l) : CapOk v := by
  obtain ⟨_, _, ho⟩ := h
  rcases ho.2 with ⟨rfl, _⟩ | ⟨g, cap, cur, rfl, hg, hh, hn, hcap, _⟩
  · exact CapOk.mk (by omega) (by omega)
  · unfold maxLen at hcap; exact CapOk.mk hn hcap
/-- a slice of no memory has no room -/
def NilOk (v : Value) : Prop := ∀ n c, v = .slice none n c → c = 0
theorem NilOk.some (a : Addr) (n c : Nat) : NilOk (.slice (some a) n c) := fun _ _ e => by cases e
theorem NilOk.none : NilOk (.slice none 0 0) := fun _ _ e => by cases e; rfl
theorem nil_u64s {H : Type} {enc : TypeId × Value → H} {W : World} {base : Nat} {v : Value} {x : DataW H} {p : List MemPlace} {held : Bool}
    (hv : Value.okWide Tryd.prog W .any base 22 v) (h : DataW.Trod enc Tryd.prog W 0 (fun _ => true) held 22 v x p) : NilOk v := by
  obtain ⟨a, len, cap, rfl⟩ := okWide_slice Tryd.underlying22 hv
  obtain ⟨fuel, hf⟩ := h
  rcases open_ints Tryd.underlying22 Tryd.underlying23 (by kernel_rfl) (by simpa [Value.cells] using hf) with ⟨hcs, _⟩ | ⟨y, len', cap', zs, hcs, _, hl, hm, hz, _, hcell, hwz⟩
  · simp only [List.cons.injEq, Value.slice.injEq, and_true] at hcs
    obtain ⟨rfl, rfl, rfl⟩ := hcs
    exact NilOk.none
  · simp only [List.cons.injEq, Value.slice.injEq, and_true] at hcs
    obtain ⟨rfl, rfl, rfl⟩ := hcs
    exact NilOk.some _ _ _
theorem NewU.nilOk {B : Nat} {w : World} {v : Value} {l : List Int} (h : NewU B w v l) : NilOk v := by
  obtain ⟨_, _, ho⟩ := h
  rcases ho.2 with ⟨rfl, _⟩ | ⟨g, cap, cur, rfl, _⟩
  · exact NilOk.none
  · exact NilOk.some _ _ _
end Go.Proofs.YtaaaoljllpbplaaDoor
