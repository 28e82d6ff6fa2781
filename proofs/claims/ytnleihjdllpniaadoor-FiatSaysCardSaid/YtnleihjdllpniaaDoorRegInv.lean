/- Regions that draw their order, by an invariant of what has come up; append and make at steps of such regions. No condition. -/
import Derived.Test.YtnleihjdllpniaaDoorMem
import Derived.RegionTactic
namespace Go.Proofs.YtnleihjdllpniaaDoor
set_option maxRecDepth 100000
set_option linter.unusedVariables false
open Go.RowKit Tally
/-- what has not come up -/
def undone (l : Array Bool) : List Nat := (List.range l.size).filter fun i => !l.getD i true
theorem undone_set {l : Array Bool} {i : Nat} (hi : i < l.size) (h : l.getD i true = false) : (undone (l.setIfInBounds i true)).length < (undone l).length := by
  have e : undone (l.setIfInBounds i true) = (undone l).filter fun j => !(l.setIfInBounds i true).getD j true := by
    unfold undone
    rw [List.filter_filter, Array.size_setIfInBounds]
    congr 1
    funext j
    by_cases hj : i = j
    · subst hj; rw [h]; simp [hi]
    · simp [Array.getElem?_setIfInBounds_ne hj]
  rw [e]
  refine List.length_filter_lt_length_iff_exists.2 ⟨i, ?_, ?_⟩
  · exact List.mem_filter.2 ⟨List.mem_range.2 hi, by simp [h]⟩
  · simp [hi]
theorem wpAny_inv {P : Program} {ops : Array Oper} {Q : Exit → Act → World → Prop} {md : Region.Mode} (Inv : Array Bool → Act → World → Prop)
    (hstep : ∀ l a w, Inv l a w → ∀ i, i ∈ Region.ready md ops l → wpOp P ops Q i (fun a' w' => Inv (l.setIfInBounds i true) a' w') a w)
    (hend : ∀ l a w, Inv l a w → Region.ready md ops l = [] → Q .normal a w) :
    ∀ (fuel : Nat) (l : Array Bool) (a : Act) (w : World), Inv l a w → l.size = ops.size → (undone l).length ≤ fuel → wpAny P md ops Q fuel l a w := by
  intro fuel
  induction fuel with
  | zero =>
    intro l a w hI hs hf
    have h0 : Region.ready md ops l = [] := by
      apply List.eq_nil_iff_forall_not_mem.2
      intro j hj
      obtain ⟨h1, o, ho, _⟩ := mem_ready.1 hj
      have hlt : j < ops.size := (Array.getElem?_eq_some_iff.1 ho).1
      have : j ∈ undone l := List.mem_filter.2 ⟨List.mem_range.2 (by omega), by rw [h1]; rfl⟩
      have := List.length_pos_of_mem this
      omega
    exact ⟨h0, hend l a w hI h0⟩
  | succ fuel ih =>
    intro l a w hI hs hf
    refine ⟨fun h0 => hend l a w hI h0, fun i hi => wpOp_mono (fun a' w' h => ?_) (hstep l a w hI i hi)⟩
    obtain ⟨h1, o, ho, _⟩ := mem_ready.1 hi
    have hlt : i < ops.size := (Array.getElem?_eq_some_iff.1 ho).1
    have := undone_set (l := l) (i := i) (by omega) h1
    exact ih _ _ _ h (by rw [Array.size_setIfInBounds]; exact hs) (by omega)
/-- make([]uint64, n), at a step of a region that draws its order -/
theorem step_makeU {ops : Array Oper} {o : Oper} {a : Act} {K : Act → World → Prop} {Q : Exit → Act → World → Prop} {E : Prop} (w : World) (hg : o.guard = none) (lo co : Operand) (hop : o.op = Op.makeSlice 25 lo co)
    (L C : Int) (n : Nat) (hl : a.eval lo = .int .i64 L) (hc : a.eval co = .int .i64 C) (hL : L = (n : Int)) (hC : C = (n : Int)) (hn : n ≤ 17592186043904)
    (h : ∀ w', NewU w.heap.size w' (.slice (some ⟨w.heap.size, 0, none⟩) n n) (List.replicate n 0) → Below w.heap.size w w' → K (a.put o.dst (.slice (some ⟨w.heap.size, 0, none⟩) n n)) w') :
    if Region.wanted o (yielded ops a.tmps) = true then Oper.wp Tryd.prog o a w K Q else E := by
  have hw : Region.wanted o (yielded ops a.tmps) = true := by simp [Region.wanted, hg]
  rw [if_pos hw]
  subst hL; subst hC
  obtain ⟨i0, hi1, hz0, hz1, hz2⟩ := info_parts Tryd.infoU
  obtain ⟨w', hr, ho, hg⟩ := run_make_full (P := Tryd.prog) (w := w) w.heap.size 25 46 i0 (.int .u64 0) 1 Tryd.underlying25 hi1 hz0 hz1 .i64 .i64 n (by rw [hz2]; omega) (by unfold maxLen; omega) (Nat.le_refl _)
  have hN : NewU w.heap.size w' (.slice (some ⟨w.heap.size, 0, none⟩) n n) (List.replicate n 0) := by
    refine ⟨?_, by simp; omega, ?_⟩
    · intro x hx; rw [List.eq_of_mem_replicate hx]; exact U64.zero
    · have e1 : (madeCells (Value.int .u64 0).cells (n * 1)).toList = (List.replicate n (0 : Int)).map (Value.int .u64) := by
        rw [Nat.mul_one]; show (madeCells #[Value.int .u64 0] n).toList = _
        rw [toList_madeCells_one, List.map_replicate]
      rw [e1] at ho
      simpa using ho
  have hB : Below w.heap.size w w' := (Below.refl _ w).grown hg (Nat.le_refl _) (by simp)
  unfold Oper.wp execOp
  simp only [hop, Sem.run_bind, Sem.run_pure, Result.andThen_ok, hl, hc, hr]
  exact h w' hN hB
end Go.Proofs.YtnleihjdllpniaaDoor
