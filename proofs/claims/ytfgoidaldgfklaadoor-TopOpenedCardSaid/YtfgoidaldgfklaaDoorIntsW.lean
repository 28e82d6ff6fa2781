/- Rows of int that a call makes and appends to. No condition. -/
import Derived.Test.YtfgoidaldgfklaaDoorOpenKeep
namespace Go.Proofs.YtfgoidaldgfklaaDoor
set_option maxRecDepth 100000
set_option linter.unusedVariables false
open Go.ChangeShapes Go.WideShapes Go.ChangeAt Go.RowKit Go.Deep Go.Joins
theorem Tryd.infoI : (Tryd.prog.info? 3).map (fun i => (i.zero, i.size, i.bytes)) = some (some (.int .i64 0), 1, 8) := by kernel_rfl
theorem cap_ints {H : Type} {enc : TypeId × Value → H} {W : World} {base : Nat} {v : Value} {x : DataW H} {p : List MemPlace} {held : Bool}
    (hv : Value.okWide Tryd.prog W .any base 31 v) (h : DataW.Trod enc Tryd.prog W 0 (fun _ => true) held 31 v x p) : CapOk v := by
  obtain ⟨a, len, cap, rfl⟩ := okWide_slice Tryd.underlying31 hv
  obtain ⟨fuel, hf⟩ := h
  rcases open_ints Tryd.underlying31 Tryd.underlying3 (by kernel_rfl) (by simpa [Value.cells] using hf) with ⟨hcs, _⟩ | ⟨y, len', cap', zs, hcs, _, hl, hm, hz, _, hcell, hwz⟩
  · simp only [List.cons.injEq, Value.slice.injEq, and_true] at hcs
    obtain ⟨rfl, rfl, rfl⟩ := hcs
    exact CapOk.mk (by omega) (by omega)
  · simp only [List.cons.injEq, Value.slice.injEq, and_true] at hcs
    obtain ⟨rfl, rfl, rfl⟩ := hcs
    unfold maxLen at hm
    exact CapOk.mk hl hm
/-- v is a slice of int in memory from block B on, at its block's head, that its holder may append to; it reads as l -/
def NewI (B : Nat) (w : World) (v : Value) (l : List Int) : Prop :=
  (∀ x ∈ l, I64 x) ∧ l.length ≤ 1000000 ∧ w.ownsRow B 3 1 v l.length (l.map (Value.int .i64))
theorem NewI.nil (B : Nat) (w : World) : NewI B w (.slice none 0 0) [] := ⟨by simp, by simp, World.ownsRow_nil w B _ _⟩
theorem NewI.below {B K : Nat} {w w' : World} {v : Value} {l : List Int} (h : NewI B w v l) (hb : Below K w w') (hK : w.heap.size ≤ K) : NewI B w' v l :=
  ⟨h.1, h.2.1, ownsRow_below h.2.2 hb hK⟩
theorem NewI.isSlice {B : Nat} {w : World} {v : Value} {l : List Int} (h : NewI B w v l) : ∃ a c, v = .slice a l.length c := by
  rcases h.2.2.2 with ⟨rfl, h0⟩ | ⟨g, cap, cur, rfl, _⟩
  · exact ⟨none, 0, by rw [h0]⟩
  · exact ⟨_, _, rfl⟩
theorem NewI.row {B : Nat} {w : World} {v : Value} {l : List Int} (h : NewI B w v l) : RowI w v l := by
  obtain ⟨h1, h2, h3⟩ := h
  refine ⟨h1, by omega, ?_⟩
  rcases h3.2 with ⟨rfl, h0⟩ | ⟨g, cap, cur, rfl, hg, hh, hn, hcap, hs, ht⟩
  · exact ⟨none, 0, by rw [h0], fun hl => by omega⟩
  · refine ⟨_, cap, rfl, fun hl => ⟨g, 0, rfl, (h3.lt g rfl).2, fun j hj => ?_⟩⟩
    have := h3.cellAt j (by omega)
    rw [show (0 + j) = j from Nat.zero_add j, this]
    simp [at0, List.getElem?_eq_getElem hj]
/-- append of one int -/
theorem wpList_appI {ops : Array Oper} {rest : List Oper} {o : Oper} {a : Act} {Q : Exit → Act → World → Prop} {w0 : World} (hgd : o.guard = none) (s x : Operand)
    (ho : o.op = .call { callee := .builtin .append, args := #[s, x], argTypes := #[31, 31] })
    (B : Nat) (v : Value) (l : List Int) (hs : a.eval s = v) (hown : NewI B w0 v l) (y : Int) (hx : a.eval x = .slice (some ⟨w0.heap.size, 0, none⟩) 1 1) (hy : I64 y)
    (hlen : l.length + 1 ≤ 1000000) (hB : B ≤ w0.heap.size)
    (h : ∀ v' w', NewI B w' v' (l ++ [y]) → Below B w0 w' → wpList Tryd.prog ops Q rest (a.put o.dst v') w') : wpList Tryd.prog ops Q (o :: rest) a (w0.alloc (.cells #[.int .i64 y] 3)) := by
  refine wpList_app hgd s x _ ho B 3 _ (.int .i64 0) 1 8 Tryd.underlying31 Tryd.infoI rfl (by decide) v l.length _ hs hown.2.2 1 _ hx rfl (by simp [Value.oneCell']) (by unfold maxLen; omega) (by omega) hB fun v' w' h1 h2 => h v' w' ⟨?_, ?_, ?_⟩ h2
  · intro z hz
    rcases List.mem_append.mp hz with hz | hz
    · exact hown.1 z hz
    · rw [List.mem_singleton.mp hz]; exact hy
  · simp; omega
  · simpa using h1
theorem wrongB_of {places : List Int} {half : Int} (h : places.length ≤ 32) (hp : ∀ i, i < places.length → 0 ≤ at0 places i ∧ at0 places i < half) : wrongB places half = false := by
  unfold wrongB
  rw [Bool.or_eq_false_iff]
  refine ⟨decide_eq_false (by omega), ?_⟩
  rw [Bool.not_eq_false', placesB, List.all_eq_true]
  intro i hi
  exact decide_eq_true (hp i (List.mem_range.1 hi))
end Go.Proofs.YtfgoidaldgfklaaDoor
