/- Several texts in one: RegInv, Made4. What each says, and its conditions, stands at its head. -/
import Derived.Test.YtfgoidaldgfklaaDoorMem
import Derived.RegionTactic
import Derived.Test.YtfgoidaldgfklaaDoorProof
import Derived.IntWalk
/- Regions that draw their order, by an invariant of what has come up; append and make at steps of such regions. No condition. -/
namespace Go.Proofs.YtfgoidaldgfklaaDoor
set_option maxRecDepth 100000
set_option linter.unusedVariables false
open Go.RowKit Tally
/-- what has not come up -/
def undone (l : Array Bool) : List Nat := (List.range l.size).filter fun i => !l.getD i true
theorem undone_set {l : Array Bool} {i : Nat} (hi : i < l.size) (h : l.getD i true = false) : (undone (l.setIfInBounds i true)).length < (undone l).length := by
  have e : undone (l.setIfInBounds i true) = (undone l).filter fun j => !(l.setIfInBounds i true).getD j true := by
    unfold undone
    rw [List.filter_filter, Array.size_setIfInBounds]
    congr 1
    funext j
    by_cases hj : i = j
    · subst hj; rw [h]; simp [hi]
    · simp [Array.getElem?_setIfInBounds_ne hj]
  rw [e]
  refine List.length_filter_lt_length_iff_exists.2 ⟨i, ?_, ?_⟩
  · exact List.mem_filter.2 ⟨List.mem_range.2 hi, by simp [h]⟩
  · simp [hi]
theorem wpAny_inv {P : Program} {ops : Array Oper} {Q : Exit → Act → World → Prop} {md : Region.Mode} (Inv : Array Bool → Act → World → Prop)
    (hstep : ∀ l a w, Inv l a w → ∀ i, i ∈ Region.ready md ops l → wpOp P ops Q i (fun a' w' => Inv (l.setIfInBounds i true) a' w') a w)
    (hend : ∀ l a w, Inv l a w → Region.ready md ops l = [] → Q .normal a w) :
    ∀ (fuel : Nat) (l : Array Bool) (a : Act) (w : World), Inv l a w → l.size = ops.size → (undone l).length ≤ fuel → wpAny P md ops Q fuel l a w := by
  intro fuel
  induction fuel with
  | zero =>
    intro l a w hI hs hf
    have h0 : Region.ready md ops l = [] := by
      apply List.eq_nil_iff_forall_not_mem.2
      intro j hj
      obtain ⟨h1, o, ho, _⟩ := mem_ready.1 hj
      have hlt : j < ops.size := (Array.getElem?_eq_some_iff.1 ho).1
      have : j ∈ undone l := List.mem_filter.2 ⟨List.mem_range.2 (by omega), by rw [h1]; rfl⟩
      have := List.length_pos_of_mem this
      omega
    exact ⟨h0, hend l a w hI h0⟩
  | succ fuel ih =>
    intro l a w hI hs hf
    refine ⟨fun h0 => hend l a w hI h0, fun i hi => wpOp_mono (fun a' w' h => ?_) (hstep l a w hI i hi)⟩
    obtain ⟨h1, o, ho, _⟩ := mem_ready.1 hi
    have hlt : i < ops.size := (Array.getElem?_eq_some_iff.1 ho).1
    have := undone_set (l := l) (i := i) (by omega) h1
    exact ih _ _ _ h (by rw [Array.size_setIfInBounds]; exact hs) (by omega)
/-- make([]uint64, n), at a step of a region that draws its order -/
theorem step_makeU {ops : Array Oper} {o : Oper} {a : Act} {K : Act → World → Prop} {Q : Exit → Act → World → Prop} {E : Prop} (w : World) (hg : o.guard = none) (lo co : Operand) (hop : o.op = Op.makeSlice 22 lo co)
    (L C : Int) (n : Nat) (hl : a.eval lo = .int .i64 L) (hc : a.eval co = .int .i64 C) (hL : L = (n : Int)) (hC : C = (n : Int)) (hn : n ≤ 17592186043904)
    (h : ∀ w', NewU w.heap.size w' (.slice (some ⟨w.heap.size, 0, none⟩) n n) (List.replicate n 0) → Below w.heap.size w w' → K (a.put o.dst (.slice (some ⟨w.heap.size, 0, none⟩) n n)) w') :
    if Region.wanted o (yielded ops a.tmps) = true then Oper.wp Tryd.prog o a w K Q else E := by
  have hw : Region.wanted o (yielded ops a.tmps) = true := by simp [Region.wanted, hg]
  rw [if_pos hw]
  subst hL; subst hC
  obtain ⟨i0, hi1, hz0, hz1, hz2⟩ := info_parts Tryd.infoU
  obtain ⟨w', hr, ho, hg⟩ := run_make_full (P := Tryd.prog) (w := w) w.heap.size 22 23 i0 (.int .u64 0) 1 Tryd.underlying22 hi1 hz0 hz1 .i64 .i64 n (by rw [hz2]; omega) (by unfold maxLen; omega) (Nat.le_refl _)
  have hN : NewU w.heap.size w' (.slice (some ⟨w.heap.size, 0, none⟩) n n) (List.replicate n 0) := by
    refine ⟨?_, by simp; omega, ?_⟩
    · intro x hx; rw [List.eq_of_mem_replicate hx]; exact U64.zero
    · have e1 : (madeCells (Value.int .u64 0).cells (n * 1)).toList = (List.replicate n (0 : Int)).map (Value.int .u64) := by
        rw [Nat.mul_one]; show (madeCells #[Value.int .u64 0] n).toList = _
        rw [toList_madeCells_one, List.map_replicate]
      rw [e1] at ho
      simpa using ho
  have hB : Below w.heap.size w w' := (Below.refl _ w).grown hg (Nat.le_refl _) (by simp)
  unfold Oper.wp execOp
  simp only [hop, Sem.run_bind, Sem.run_pure, Result.andThen_ok, hl, hc, hr]
  exact h w' hN hB
end Go.Proofs.YtfgoidaldgfklaaDoor

/- Four tables that are made in one statement whose order is open: whatever order is drawn. No condition. -/
namespace Go.Proofs.YtfgoidaldgfklaaDoor
set_option maxRecDepth 100000
set_option linter.unusedVariables false
open Go.RowKit Tally
theorem below_two4 {a b c : World} (h : Below a.heap.size a b) (k : Below b.heap.size b c) : Below a.heap.size a c := h.trans (k.mono h.size)
/-- what is made so far: the rows, the place of the table, its cells -/
structure MadeI (n2 : Nat) (w w' : World) (L : List (Option Value)) (p : Option Nat) (cs : Array Value) : Prop where
  below : Below w.heap.size w w'
  row : ∀ (k : Nat) (v : Value), L[k]? = some (some v) → (∃ g, v = .slice (some ⟨g, 0, none⟩) n2 n2) ∧ NewU w.heap.size w' v (List.replicate n2 0)
  apart : ∀ (j k : Nat) (u v : Value), j ≠ k → L[j]? = some (some u) → L[k]? = some (some v) → ∀ g, u.ownBlock = some g → v.ownBlock ≠ some g
  ptr : ∀ g, p = some g → w.heap.size ≤ g ∧ g < w'.heap.size ∧ (∀ (k : Nat) (v : Value), L[k]? = some (some v) → v.ownBlock ≠ some g) ∧ w'.heap[g]? = some (.cells cs 127 (0, 0))
theorem MadeI.make {n2 : Nat} {w w' w2 : World} {L : List (Option Value)} {p : Option Nat} {cs : Array Value} (h : MadeI n2 w w' L p cs) (k : Nat) (hk : k < L.length)
    (hn : NewU w'.heap.size w2 (.slice (some ⟨w'.heap.size, 0, none⟩) n2 n2) (List.replicate n2 0)) (hb : Below w'.heap.size w' w2) : MadeI n2 w w2 (L.set k (some (.slice (some ⟨w'.heap.size, 0, none⟩) n2 n2))) p cs := by
  have get : ∀ (j : Nat) (v : Value), (L.set k (some (Value.slice (some ⟨w'.heap.size, 0, none⟩) n2 n2)))[j]? = some (some v) → (j = k ∧ v = .slice (some ⟨w'.heap.size, 0, none⟩) n2 n2) ∨ (j ≠ k ∧ L[j]? = some (some v)) := by
    intro j v hj
    by_cases e : j = k
    · subst e; rw [List.getElem?_set_self hk] at hj; simp only [Option.some.injEq] at hj; exact .inl ⟨rfl, hj.symm⟩
    · rw [List.getElem?_set_ne (fun e' => e e'.symm)] at hj; exact .inr ⟨e, hj⟩
  refine ⟨below_two4 h.below hb, fun j v hj => ?_, fun i j u v hij hi hj g hu hv => ?_, fun g hg => ?_⟩
  · rcases get j v hj with ⟨_, rfl⟩ | ⟨_, hj⟩
    · exact ⟨⟨_, rfl⟩, hn.mono h.below.size⟩
    · obtain ⟨h1, h2⟩ := h.row j v hj
      exact ⟨h1, h2.below hb (Nat.le_refl _)⟩
  · rcases get i u hi with ⟨ei, eu⟩ | ⟨_, hi'⟩
    · rcases get j v hj with ⟨ej, ev⟩ | ⟨_, hj'⟩
      · exact hij (ei.trans ej.symm)
      · have q1 := ((h.row j v hj').2.lt hv).2
        have : w'.heap.size = g := by rw [eu] at hu; simpa [Value.ownBlock] using hu
        omega
    · rcases get j v hj with ⟨ej, ev⟩ | ⟨_, hj'⟩
      · have q1 := ((h.row i u hi').2.lt hu).2
        have : w'.heap.size = g := by rw [ev] at hv; simpa [Value.ownBlock] using hv
        omega
      · exact h.apart i j u v hij hi' hj' g hu hv
  · obtain ⟨h1, h2, h3, h4⟩ := h.ptr g hg
    refine ⟨h1, Nat.lt_of_lt_of_le h2 hb.size, fun j v hj hv => ?_, (hb.block g h2).trans h4⟩
    rcases get j v hj with ⟨_, rfl⟩ | ⟨_, hj⟩
    · have : w'.heap.size = g := by simpa [Value.ownBlock] using hv
      omega
    · exact h3 j v hj hv
theorem MadeI.alloc {n2 : Nat} {w w' : World} {L : List (Option Value)} {cs : Array Value} (h : MadeI n2 w w' L none cs) (cs' : Array Value) : MadeI n2 w (w'.alloc (.cells cs' 127)) L (some w'.heap.size) cs' := by
  have hb : Below w'.heap.size w' (w'.alloc (.cells cs' 127)) := (Below.refl _ _).alloc (Nat.le_refl _) _
  refine ⟨below_two4 h.below hb, fun j v hj => ?_, h.apart, fun g hg => ?_⟩
  · obtain ⟨h1, h2⟩ := h.row j v hj
    exact ⟨h1, h2.below hb (Nat.le_refl _)⟩
  · cases hg
    refine ⟨h.below.size, by simp, fun j v hj hv => ?_, alloc_blk _ _⟩
    have := ((h.row j v hj).2.lt hv).2
    omega
theorem MadeI.store {n2 g : Nat} {w w' : World} {L : List (Option Value)} {z0 z1 z2 z3 : Value} (h : MadeI n2 w w' L (some g) #[z0, z1, z2, z3]) (x0 x1 x2 x3 : Value) :
    MadeI n2 w ((((w'.setCell ⟨g, 0, none⟩ x0).setCell ⟨g, 1, none⟩ x1).setCell ⟨g, 2, none⟩ x2).setCell ⟨g, 3, none⟩ x3) L (some g) #[x0, x1, x2, x3] := by
  obtain ⟨h1, h2, h3, h4⟩ := h.ptr g rfl
  have hs : ∀ (w : World) (j : Nat) (x : Value), (w.setCell ⟨g, j, none⟩ x).heap.size = w.heap.size := fun w j x => by simp [World.setCell]
  refine ⟨(((h.below.setCell (p := ⟨g, 0, none⟩) h1 _).setCell (p := ⟨g, 1, none⟩) h1 _).setCell (p := ⟨g, 2, none⟩) h1 _).setCell (p := ⟨g, 3, none⟩) h1 _, fun j v hj => ?_, h.apart, fun g' hg => ?_⟩
  · obtain ⟨r1, r2⟩ := h.row j v hj
    have r3 := h3 j v hj
    have go : ∀ {w : World} (q : Nat) (x : Value), NewU w.heap.size w v (List.replicate n2 0) → True := fun _ _ _ => trivial
    have go2 : ∀ {B : Nat} {w : World} (q : Nat) (x : Value), NewU B w v (List.replicate n2 0) → NewU B (w.setCell ⟨g, q, none⟩ x) v (List.replicate n2 0) := fun q x hh =>
      hh.grownOther (grownBy_setCell _ _ _ _) (fun g' hv e => by cases e; exact r3 hv)
    exact ⟨r1, go2 3 x3 (go2 2 x2 (go2 1 x1 (go2 0 x0 r2)))⟩
  · cases hg
    refine ⟨h1, by rw [hs, hs, hs, hs]; exact h2, h3, blk_setCell (blk_setCell (blk_setCell (blk_setCell h4 0 x0) 1 x1) 2 x2) 3 x3⟩
/-- the frame, with what is made -/
def F6 (A0 : Act) (s0 s1 s2 s3 s36 s10 : Value) : Act := ⟨(((((A0.tmps.setIfInBounds 23 s0).setIfInBounds 27 s1).setIfInBounds 31 s2).setIfInBounds 35 s3).setIfInBounds 36 s36).setIfInBounds 10 s10, A0.defers⟩
def ptrV (p : Option Nat) : Value := match p with | none => undef | some g => .pointer (some ⟨g, 0, none⟩)
theorem put_mk (t : Array Value) (d : List Deferred) (s : Nat) (v : Value) : (⟨t, d⟩ : Act).put (some s) v = ⟨t.setIfInBounds s v, d⟩ := rfl
theorem eval_mk (t : Array Value) (d : List Deferred) (s : Nat) : (⟨t, d⟩ : Act).eval (.tmp s) = t.getD s undef := rfl
theorem eval_get (a : Act) (k : Nat) : a.eval (.tmp k) = a.tmps[k]?.getD undef := by show a.tmps.getD k undef = _; simp
theorem getD_same (xs : Array Value) (i : Nat) (h : i < xs.size) (v d : Value) : (xs.setIfInBounds i v).getD i d = v := by simp [h]
theorem getD_other (xs : Array Value) (i j : Nat) (hij : i ≠ j) (v d : Value) : (xs.setIfInBounds i v).getD j d = xs.getD j d := by simp [Array.getElem?_setIfInBounds_ne hij]
theorem F6_put23 (A0 : Act) (s0 s1 s2 s3 s36 s10 v : Value) : (F6 A0 s0 s1 s2 s3 s36 s10).put (some 23) v = F6 A0 v s1 s2 s3 s36 s10 := by
  unfold F6
  rw [put_mk, Array.setIfInBounds_comm (i := 10) (j := 23) _ _ (by decide), Array.setIfInBounds_comm (i := 36) (j := 23) _ _ (by decide), Array.setIfInBounds_comm (i := 35) (j := 23) _ _ (by decide), Array.setIfInBounds_comm (i := 31) (j := 23) _ _ (by decide), Array.setIfInBounds_comm (i := 27) (j := 23) _ _ (by decide), Array.setIfInBounds_setIfInBounds]
theorem F6_put27 (A0 : Act) (s0 s1 s2 s3 s36 s10 v : Value) : (F6 A0 s0 s1 s2 s3 s36 s10).put (some 27) v = F6 A0 s0 v s2 s3 s36 s10 := by
  unfold F6
  rw [put_mk, Array.setIfInBounds_comm (i := 10) (j := 27) _ _ (by decide), Array.setIfInBounds_comm (i := 36) (j := 27) _ _ (by decide), Array.setIfInBounds_comm (i := 35) (j := 27) _ _ (by decide), Array.setIfInBounds_comm (i := 31) (j := 27) _ _ (by decide), Array.setIfInBounds_setIfInBounds]
theorem F6_put31 (A0 : Act) (s0 s1 s2 s3 s36 s10 v : Value) : (F6 A0 s0 s1 s2 s3 s36 s10).put (some 31) v = F6 A0 s0 s1 v s3 s36 s10 := by
  unfold F6
  rw [put_mk, Array.setIfInBounds_comm (i := 10) (j := 31) _ _ (by decide), Array.setIfInBounds_comm (i := 36) (j := 31) _ _ (by decide), Array.setIfInBounds_comm (i := 35) (j := 31) _ _ (by decide), Array.setIfInBounds_setIfInBounds]
theorem F6_put35 (A0 : Act) (s0 s1 s2 s3 s36 s10 v : Value) : (F6 A0 s0 s1 s2 s3 s36 s10).put (some 35) v = F6 A0 s0 s1 s2 v s36 s10 := by
  unfold F6
  rw [put_mk, Array.setIfInBounds_comm (i := 10) (j := 35) _ _ (by decide), Array.setIfInBounds_comm (i := 36) (j := 35) _ _ (by decide), Array.setIfInBounds_setIfInBounds]
theorem F6_put36 (A0 : Act) (s0 s1 s2 s3 s36 s10 v : Value) : (F6 A0 s0 s1 s2 s3 s36 s10).put (some 36) v = F6 A0 s0 s1 s2 s3 v s10 := by
  unfold F6
  rw [put_mk, Array.setIfInBounds_comm (i := 10) (j := 36) _ _ (by decide), Array.setIfInBounds_setIfInBounds]
theorem F6_put10 (A0 : Act) (s0 s1 s2 s3 s36 s10 v : Value) : (F6 A0 s0 s1 s2 s3 s36 s10).put (some 10) v = F6 A0 s0 s1 s2 s3 s36 v := by
  unfold F6
  rw [put_mk, Array.setIfInBounds_setIfInBounds]
theorem F6_get23 (A0 : Act) (hA : A0.tmps.size = 127) (s0 s1 s2 s3 s36 s10 : Value) : (F6 A0 s0 s1 s2 s3 s36 s10).eval (.tmp 23) = s0 := by
  unfold F6
  rw [eval_mk, getD_other _ 10 23 (by decide), getD_other _ 36 23 (by decide), getD_other _ 35 23 (by decide), getD_other _ 31 23 (by decide), getD_other _ 27 23 (by decide), getD_same _ _ (by (repeat rw [Array.size_setIfInBounds]); rw [hA]; decide)]
theorem F6_get27 (A0 : Act) (hA : A0.tmps.size = 127) (s0 s1 s2 s3 s36 s10 : Value) : (F6 A0 s0 s1 s2 s3 s36 s10).eval (.tmp 27) = s1 := by
  unfold F6
  rw [eval_mk, getD_other _ 10 27 (by decide), getD_other _ 36 27 (by decide), getD_other _ 35 27 (by decide), getD_other _ 31 27 (by decide), getD_same _ _ (by (repeat rw [Array.size_setIfInBounds]); rw [hA]; decide)]
theorem F6_get31 (A0 : Act) (hA : A0.tmps.size = 127) (s0 s1 s2 s3 s36 s10 : Value) : (F6 A0 s0 s1 s2 s3 s36 s10).eval (.tmp 31) = s2 := by
  unfold F6
  rw [eval_mk, getD_other _ 10 31 (by decide), getD_other _ 36 31 (by decide), getD_other _ 35 31 (by decide), getD_same _ _ (by (repeat rw [Array.size_setIfInBounds]); rw [hA]; decide)]
theorem F6_get35 (A0 : Act) (hA : A0.tmps.size = 127) (s0 s1 s2 s3 s36 s10 : Value) : (F6 A0 s0 s1 s2 s3 s36 s10).eval (.tmp 35) = s3 := by
  unfold F6
  rw [eval_mk, getD_other _ 10 35 (by decide), getD_other _ 36 35 (by decide), getD_same _ _ (by (repeat rw [Array.size_setIfInBounds]); rw [hA]; decide)]
theorem F6_get36 (A0 : Act) (hA : A0.tmps.size = 127) (s0 s1 s2 s3 s36 s10 : Value) : (F6 A0 s0 s1 s2 s3 s36 s10).eval (.tmp 36) = s36 := by
  unfold F6
  rw [eval_mk, getD_other _ 10 36 (by decide), getD_same _ _ (by (repeat rw [Array.size_setIfInBounds]); rw [hA]; decide)]
theorem F6_get10 (A0 : Act) (hA : A0.tmps.size = 127) (s0 s1 s2 s3 s36 s10 : Value) : (F6 A0 s0 s1 s2 s3 s36 s10).eval (.tmp 10) = s10 := by
  unfold F6
  rw [eval_mk, getD_same _ _ (by (repeat rw [Array.size_setIfInBounds]); rw [hA]; decide)]
theorem F6_old22 (A0 : Act) (s0 s1 s2 s3 s36 s10 : Value) : (F6 A0 s0 s1 s2 s3 s36 s10).eval (.tmp 22) = A0.eval (.tmp 22) := by
  unfold F6
  rw [eval_mk, getD_other _ 10 22 (by decide), getD_other _ 36 22 (by decide), getD_other _ 35 22 (by decide), getD_other _ 31 22 (by decide), getD_other _ 27 22 (by decide), getD_other _ 23 22 (by decide)]
  rfl
theorem F6_old26 (A0 : Act) (s0 s1 s2 s3 s36 s10 : Value) : (F6 A0 s0 s1 s2 s3 s36 s10).eval (.tmp 26) = A0.eval (.tmp 26) := by
  unfold F6
  rw [eval_mk, getD_other _ 10 26 (by decide), getD_other _ 36 26 (by decide), getD_other _ 35 26 (by decide), getD_other _ 31 26 (by decide), getD_other _ 27 26 (by decide), getD_other _ 23 26 (by decide)]
  rfl
theorem F6_old30 (A0 : Act) (s0 s1 s2 s3 s36 s10 : Value) : (F6 A0 s0 s1 s2 s3 s36 s10).eval (.tmp 30) = A0.eval (.tmp 30) := by
  unfold F6
  rw [eval_mk, getD_other _ 10 30 (by decide), getD_other _ 36 30 (by decide), getD_other _ 35 30 (by decide), getD_other _ 31 30 (by decide), getD_other _ 27 30 (by decide), getD_other _ 23 30 (by decide)]
  rfl
theorem F6_old34 (A0 : Act) (s0 s1 s2 s3 s36 s10 : Value) : (F6 A0 s0 s1 s2 s3 s36 s10).eval (.tmp 34) = A0.eval (.tmp 34) := by
  unfold F6
  rw [eval_mk, getD_other _ 10 34 (by decide), getD_other _ 36 34 (by decide), getD_other _ 35 34 (by decide), getD_other _ 31 34 (by decide), getD_other _ 27 34 (by decide), getD_other _ 23 34 (by decide)]
  rfl
theorem noSome (k : Nat) (v : Value) (h : ([none, none, none, none] : List (Option Value))[k]? = some (some v)) : False := by
  match k, h with
  | 0, h | 1, h | 2, h | 3, h => cases h
  | n + 4, h => simp at h
set_option maxRecDepth 100000 in
set_option maxHeartbeats 400000 in
theorem made_four {ops : Array Oper} {Q : Exit → Act → World → Prop} (A0 : Act) (hA : A0.tmps.size = 127) (hS : A0 = F6 A0 undef undef undef undef undef undef) (W1 : World) (n2 : Nat) (h2 : n2 ≤ 256)
    (h22 : A0.eval (.tmp 22) = .int .i64 (n2 : Int))
    (h26 : A0.eval (.tmp 26) = .int .i64 (n2 : Int))
    (h30 : A0.eval (.tmp 30) = .int .i64 (n2 : Int))
    (h34 : A0.eval (.tmp 34) = .int .i64 (n2 : Int))
    {y3 y7 y11 y15 y16 y17 y18 : TypeId} {s3 s7 s11 s15 s16 s17 s18 : String} {a3 a7 a11 a15 a16 a17 a18 : Array Edge} (hops : ops.size = 19)
    (e3 : ops[3]? = some ⟨some 23, .makeSlice 22 (.tmp 22) (.tmp 22), y3, s3, a3, none⟩) (e7 : ops[7]? = some ⟨some 27, .makeSlice 22 (.tmp 26) (.tmp 26), y7, s7, a7, none⟩)
    (e11 : ops[11]? = some ⟨some 31, .makeSlice 22 (.tmp 30) (.tmp 30), y11, s11, a11, none⟩) (e15 : ops[15]? = some ⟨some 35, .makeSlice 22 (.tmp 34) (.tmp 34), y15, s15, a15, none⟩)
    (e16 : ops[16]? = some ⟨some 36, .build 127 #[(0, .tmp 23), (1, .tmp 27), (2, .tmp 31), (3, .tmp 35)], y16, s16, a16, none⟩) (e17 : ops[17]? = some ⟨some 10, .alloc 127, y17, s17, a17, none⟩)
    (e18 : ops[18]? = some ⟨none, .store 127 (.tmp 10) (.tmp 36), y18, s18, a18, none⟩)
    (k3 : ∀ e ∈ a3, e.on = 2) (k7 : ∀ e ∈ a7, e.on = 6) (k11 : ∀ e ∈ a11, e.on = 10) (k15 : ∀ e ∈ a15, e.on = 14) (k16 : ∀ e ∈ a16, e.on = 3 ∨ e.on = 7 ∨ e.on = 11 ∨ e.on = 15) (k17 : ∀ e ∈ a17, False) (k18 : ∀ e ∈ a18, e.on ≤ 17)
    (j16 : ∀ k, k = 3 ∨ k = 7 ∨ k = 11 ∨ k = 15 → ∃ e ∈ a16, e.on = k ∧ Region.binds .any e = true) (j18 : ∀ k, k = 16 ∨ k = 17 → ∃ e ∈ a18, e.on = k ∧ Region.binds .any e = true)
    (hQ : ∀ v0 v1 v2 v3 g w', MadeI n2 W1 w' [some v0, some v1, some v2, some v3] (some g) #[v0, v1, v2, v3] → Q .normal (F6 A0 v0 v1 v2 v3 (.agg #[v0, v1, v2, v3]) (.pointer (some ⟨g, 0, none⟩))) w') :
    wpAny Tryd.prog .any ops Q 7 #[true, true, true, false, true, true, true, false, true, true, true, false, true, true, true, false, false, false, false] A0 W1 := by
  refine wpAny_inv (Inv := fun l a w' => ∃ (f0 f1 f2 f3 : Option Value) (b16 : Bool) (p : Option Nat) (b18 : Bool) (s36 : Value) (cs : Array Value), l = #[true, true, true, f0.isSome, true, true, true, f1.isSome, true, true, true, f2.isSome, true, true, true, f3.isSome, b16, p.isSome, b18] ∧
    a = F6 A0 (f0.getD undef) (f1.getD undef) (f2.getD undef) (f3.getD undef) s36 (ptrV p) ∧ MadeI n2 W1 w' [f0, f1, f2, f3] p cs ∧
    (b16 = true → f0.isSome = true ∧ f1.isSome = true ∧ f2.isSome = true ∧ f3.isSome = true ∧ s36 = .agg #[f0.getD undef, f1.getD undef, f2.getD undef, f3.getD undef]) ∧ (b16 = false → s36 = undef) ∧
    (b18 = true → b16 = true ∧ p.isSome = true ∧ cs = #[f0.getD undef, f1.getD undef, f2.getD undef, f3.getD undef]) ∧ (b18 = false → cs = #[.slice none 0 0, .slice none 0 0, .slice none 0 0, .slice none 0 0])) ?_ ?_ 7 _ A0 W1 ?_ (by rw [hops]; rfl) (by decide)
  · clear hS
    rintro l a w' ⟨f0, f1, f2, f3, b16, p, b18, s36, cs, rfl, ha, hI, h16, h16n, h18, h18n⟩ i hi
    obtain ⟨g1, o, ho, hall⟩ := mem_ready.1 hi
    have hi7 : i = 3 ∨ i = 7 ∨ i = 11 ∨ i = 15 ∨ i = 16 ∨ i = 17 ∨ i = 18 := by
      match i, g1 with
      | 0, g1 | 1, g1 | 2, g1 | 4, g1 | 5, g1 | 6, g1 | 8, g1 | 9, g1 | 10, g1 | 12, g1 | 13, g1 | 14, g1 => cases g1
      | 3, _ | 7, _ | 11, _ | 15, _ | 16, _ | 17, _ | 18, _ => omega
      | n + 19, g1 => cases g1
    rcases hi7 with rfl | rfl | rfl | rfl | rfl | rfl | rfl
    · have hn : f0 = none := by
        cases f0 with
        | none => rfl
        | some x => cases g1
      subst hn
      refine wpOp_step e3 fun K hK => ?_
      refine step_makeU w' rfl (.tmp 22) (.tmp 22) rfl (n2 : Int) (n2 : Int) n2 (by rw [ha, F6_old22, h22]) (by rw [ha, F6_old22, h22]) rfl rfl (by omega) ?_
      intro w2 hn2 hb2
      refine hK _ _ ?_
      show ∃ _, _
      rw [ha, F6_put23]
      have hb16 : b16 = false := by
        cases b16
        · rfl
        · have := h16 rfl; simp at this
      subst hb16
      have hb18 : b18 = false := by
        cases b18
        · rfl
        · have := (h18 rfl).1; cases this
      subst hb18
      exact ⟨some (.slice (some ⟨w'.heap.size, 0, none⟩) n2 n2), f1, f2, f3, false, p, false, s36, cs, rfl, rfl, hI.make 0 (by simp) hn2 hb2, (fun h => by cases h), h16n, (fun h => by cases h), h18n⟩
    · have hn : f1 = none := by
        cases f1 with
        | none => rfl
        | some x => cases g1
      subst hn
      refine wpOp_step e7 fun K hK => ?_
      refine step_makeU w' rfl (.tmp 26) (.tmp 26) rfl (n2 : Int) (n2 : Int) n2 (by rw [ha, F6_old26, h26]) (by rw [ha, F6_old26, h26]) rfl rfl (by omega) ?_
      intro w2 hn2 hb2
      refine hK _ _ ?_
      show ∃ _, _
      rw [ha, F6_put27]
      have hb16 : b16 = false := by
        cases b16
        · rfl
        · have := h16 rfl; simp at this
      subst hb16
      have hb18 : b18 = false := by
        cases b18
        · rfl
        · have := (h18 rfl).1; cases this
      subst hb18
      exact ⟨f0, some (.slice (some ⟨w'.heap.size, 0, none⟩) n2 n2), f2, f3, false, p, false, s36, cs, rfl, rfl, hI.make 1 (by simp) hn2 hb2, (fun h => by cases h), h16n, (fun h => by cases h), h18n⟩
    · have hn : f2 = none := by
        cases f2 with
        | none => rfl
        | some x => cases g1
      subst hn
      refine wpOp_step e11 fun K hK => ?_
      refine step_makeU w' rfl (.tmp 30) (.tmp 30) rfl (n2 : Int) (n2 : Int) n2 (by rw [ha, F6_old30, h30]) (by rw [ha, F6_old30, h30]) rfl rfl (by omega) ?_
      intro w2 hn2 hb2
      refine hK _ _ ?_
      show ∃ _, _
      rw [ha, F6_put31]
      have hb16 : b16 = false := by
        cases b16
        · rfl
        · have := h16 rfl; simp at this
      subst hb16
      have hb18 : b18 = false := by
        cases b18
        · rfl
        · have := (h18 rfl).1; cases this
      subst hb18
      exact ⟨f0, f1, some (.slice (some ⟨w'.heap.size, 0, none⟩) n2 n2), f3, false, p, false, s36, cs, rfl, rfl, hI.make 2 (by simp) hn2 hb2, (fun h => by cases h), h16n, (fun h => by cases h), h18n⟩
    · have hn : f3 = none := by
        cases f3 with
        | none => rfl
        | some x => cases g1
      subst hn
      refine wpOp_step e15 fun K hK => ?_
      refine step_makeU w' rfl (.tmp 34) (.tmp 34) rfl (n2 : Int) (n2 : Int) n2 (by rw [ha, F6_old34, h34]) (by rw [ha, F6_old34, h34]) rfl rfl (by omega) ?_
      intro w2 hn2 hb2
      refine hK _ _ ?_
      show ∃ _, _
      rw [ha, F6_put35]
      have hb16 : b16 = false := by
        cases b16
        · rfl
        · have := h16 rfl; simp at this
      subst hb16
      have hb18 : b18 = false := by
        cases b18
        · rfl
        · have := (h18 rfl).1; cases this
      subst hb18
      exact ⟨f0, f1, f2, some (.slice (some ⟨w'.heap.size, 0, none⟩) n2 n2), false, p, false, s36, cs, rfl, rfl, hI.make 3 (by simp) hn2 hb2, (fun h => by cases h), h16n, (fun h => by cases h), h18n⟩
    · have hb : b16 = false := by
        cases b16 with
        | false => rfl
        | true => cases g1
      subst hb
      have hb18 : b18 = false := by
        cases b18
        · rfl
        · have := (h18 rfl).1; cases this
      subst hb18
      have hs : ∀ k, k = 3 ∨ k = 7 ∨ k = 11 ∨ k = 15 → Array.getD #[true, true, true, f0.isSome, true, true, true, f1.isSome, true, true, true, f2.isSome, true, true, true, f3.isSome, false, p.isSome, false] k false = true := fun k hk => by
        obtain ⟨e, he, hek, hb⟩ := j16 k hk
        rw [e16] at ho
        cases ho
        have := hall e he hb
        rw [hek] at this; exact this
      have i0 := hs 3 (by simp); have i1 := hs 7 (by simp); have i2 := hs 11 (by simp); have i3 := hs 15 (by simp)
      obtain ⟨v0, rfl⟩ := Option.isSome_iff_exists.1 i0
      obtain ⟨v1, rfl⟩ := Option.isSome_iff_exists.1 i1
      obtain ⟨v2, rfl⟩ := Option.isSome_iff_exists.1 i2
      obtain ⟨v3, rfl⟩ := Option.isSome_iff_exists.1 i3
      obtain ⟨⟨q0, rfl⟩, _⟩ := hI.row 0 v0 rfl
      obtain ⟨⟨q1, rfl⟩, _⟩ := hI.row 1 v1 rfl
      obtain ⟨⟨q2, rfl⟩, _⟩ := hI.row 2 v2 rfl
      obtain ⟨⟨q3, rfl⟩, _⟩ := hI.row 3 v3 rfl
      refine wpOp_step e16 fun K hK => ?_
      have ev0 : a.tmps[23]?.getD undef = .slice (some ⟨q0, 0, none⟩) n2 n2 := by rw [← eval_get, ha, F6_get23 A0 hA]; rfl
      have ev1 : a.tmps[27]?.getD undef = .slice (some ⟨q1, 0, none⟩) n2 n2 := by rw [← eval_get, ha, F6_get27 A0 hA]; rfl
      have ev2 : a.tmps[31]?.getD undef = .slice (some ⟨q2, 0, none⟩) n2 n2 := by rw [← eval_get, ha, F6_get31 A0 hA]; rfl
      have ev3 : a.tmps[35]?.getD undef = .slice (some ⟨q3, 0, none⟩) n2 n2 := by rw [← eval_get, ha, F6_get35 A0 hA]; rfl
      have Ha := Lib.hid ha; have HI := Lib.hid hI; have HK := Lib.hid hK; have H18 := Lib.hid h18n
      clear ha hI hK h16 h16n h18 h18n hall j16 j18 k3 k7 k11 k15 k16 k17 k18 e3 e7 e11 e15 e16 e17 e18 ho hs g1 hi h22 h26 h30 h34 hA hops hQ i0 i1 i2 i3
      go_simp
      refine HK.out _ _ ?_
      have pt := F6_put36 A0 (Value.slice (some ⟨q0, 0, none⟩) n2 n2) (Value.slice (some ⟨q1, 0, none⟩) n2 n2) (Value.slice (some ⟨q2, 0, none⟩) n2 n2) (Value.slice (some ⟨q3, 0, none⟩) n2 n2) s36 (ptrV p) (.agg #[Value.slice (some ⟨q0, 0, none⟩) n2 n2, Value.slice (some ⟨q1, 0, none⟩) n2 n2, Value.slice (some ⟨q2, 0, none⟩) n2 n2, Value.slice (some ⟨q3, 0, none⟩) n2 n2])
      have ha := Ha.out
      simp only [Option.getD_some] at ha
      rw [← ha] at pt
      exact ⟨some _, some _, some _, some _, true, p, false, _, cs, rfl, pt, HI.out, fun _ => ⟨rfl, rfl, rfl, rfl, rfl⟩, (fun h => by cases h), (fun h => by cases h), H18.out⟩
    · have hn : p = none := by
        cases p with
        | none => rfl
        | some x => cases g1
      subst hn
      have hb18 : b18 = false := by
        cases b18
        · rfl
        · have := (h18 rfl).2.1; cases this
      subst hb18
      refine wpOp_step e17 fun K hK => ?_
      have Ha := Lib.hid ha; have HI := Lib.hid hI; have HK := Lib.hid hK; have H16 := Lib.hid h16; have H16n := Lib.hid h16n
      clear ha hI hK h16 h16n h18 h18n hall j16 j18 k3 k7 k11 k15 k16 k17 k18 e3 e7 e11 e15 e16 e17 e18 ho g1 hi h22 h26 h30 h34 hA hops hQ
      go_simp
      refine HK.out _ _ ?_
      have pt := F6_put10 A0 (f0.getD undef) (f1.getD undef) (f2.getD undef) (f3.getD undef) s36 (ptrV none) (.pointer (some ⟨w'.heap.size, 0, none⟩))
      rw [← Ha.out] at pt
      exact ⟨f0, f1, f2, f3, b16, some w'.heap.size, false, s36, _, rfl, pt, HI.out.alloc _, H16.out, H16n.out, (fun h => by cases h), fun _ => rfl⟩
    · have hb : b18 = false := by
        cases b18 with
        | false => rfl
        | true => cases g1
      subst hb
      have hs : ∀ k, k = 16 ∨ k = 17 → Array.getD #[true, true, true, f0.isSome, true, true, true, f1.isSome, true, true, true, f2.isSome, true, true, true, f3.isSome, b16, p.isSome, false] k false = true := fun k hk => by
        obtain ⟨e, he, hek, hb⟩ := j18 k hk
        rw [e18] at ho
        cases ho
        have := hall e he hb
        rw [hek] at this; exact this
      have i0 : b16 = true := hs 16 (by simp)
      have i1 : p.isSome = true := hs 17 (by simp)
      subst i0
      obtain ⟨g, rfl⟩ := Option.isSome_iff_exists.1 i1
      obtain ⟨m0, m1, m2, m3, hs36⟩ := h16 rfl
      obtain ⟨v0, rfl⟩ := Option.isSome_iff_exists.1 m0
      obtain ⟨v1, rfl⟩ := Option.isSome_iff_exists.1 m1
      obtain ⟨v2, rfl⟩ := Option.isSome_iff_exists.1 m2
      obtain ⟨v3, rfl⟩ := Option.isSome_iff_exists.1 m3
      obtain ⟨⟨q0, rfl⟩, _⟩ := hI.row 0 v0 rfl
      obtain ⟨⟨q1, rfl⟩, _⟩ := hI.row 1 v1 rfl
      obtain ⟨⟨q2, rfl⟩, _⟩ := hI.row 2 v2 rfl
      obtain ⟨⟨q3, rfl⟩, _⟩ := hI.row 3 v3 rfl
      simp only [Option.getD_some] at ha hs36
      subst hs36
      have hcs := h18n rfl
      subst hcs
      refine wpOp_step e18 fun K hK => ?_
      have ev0 : a.tmps[36]?.getD undef = .agg #[.slice (some ⟨q0, 0, none⟩) n2 n2, .slice (some ⟨q1, 0, none⟩) n2 n2, .slice (some ⟨q2, 0, none⟩) n2 n2, .slice (some ⟨q3, 0, none⟩) n2 n2] := by rw [← eval_get, ha, F6_get36 A0 hA]
      have ev1 : a.tmps[10]?.getD undef = .pointer (some ⟨g, 0, none⟩) := by rw [← eval_get, ha, F6_get10 A0 hA]; rfl
      have hblk := (hI.ptr g rfl).2.2.2
      have c0 : w'.cell? ⟨g, 0, none⟩ = some (.slice none 0 0) := cell_blk hblk 0
      have c1 : w'.cell? ⟨g, 1, none⟩ = some (.slice none 0 0) := cell_blk hblk 1
      have c2 : w'.cell? ⟨g, 2, none⟩ = some (.slice none 0 0) := cell_blk hblk 2
      have c3 : w'.cell? ⟨g, 3, none⟩ = some (.slice none 0 0) := cell_blk hblk 3
      have d0 := free_blk hblk 0; have d1 := free_blk hblk 1; have d2 := free_blk hblk 2; have d3 := free_blk hblk 3
      have Ha := Lib.hid ha; have HI := Lib.hid hI; have HK := Lib.hid hK
      clear ha hI hK h16 h16n h18 h18n hall j16 j18 k3 k7 k11 k15 k16 k17 k18 e3 e7 e11 e15 e16 e17 e18 ho hs g1 hi h22 h26 h30 h34 hA hops hQ i1 hblk m0 m1 m2 m3
      go_simp
      refine HK.out _ _ ?_
      exact ⟨some _, some _, some _, some _, true, some g, true, _, _, rfl, Ha.out, HI.out.store _ _ _ _, fun _ => ⟨rfl, rfl, rfl, rfl, rfl⟩, (fun h => by cases h), fun _ => ⟨rfl, rfl, rfl⟩, (fun h => by cases h)⟩
  · rintro l a w' ⟨f0, f1, f2, f3, b16, p, b18, s36, cs, rfl, ha, hI, h16, h16n, h18, h18n⟩ hr
    have no : ∀ i, i ∉ Region.ready Region.Mode.any ops #[true, true, true, f0.isSome, true, true, true, f1.isSome, true, true, true, f2.isSome, true, true, true, f3.isSome, b16, p.isSome, b18] := fun i hi => by rw [hr] at hi; cases hi
    cases f0 with
    | none => exact (no 3 (mem_ready.2 ⟨rfl, _, e3, fun e he _ => by rw [k3 e he]; rfl⟩)).elim
    | some v0 =>
    cases f1 with
    | none => exact (no 7 (mem_ready.2 ⟨rfl, _, e7, fun e he _ => by rw [k7 e he]; rfl⟩)).elim
    | some v1 =>
    cases f2 with
    | none => exact (no 11 (mem_ready.2 ⟨rfl, _, e11, fun e he _ => by rw [k11 e he]; rfl⟩)).elim
    | some v2 =>
    cases f3 with
    | none => exact (no 15 (mem_ready.2 ⟨rfl, _, e15, fun e he _ => by rw [k15 e he]; rfl⟩)).elim
    | some v3 =>
    cases p with
    | none => exact (no 17 (mem_ready.2 ⟨rfl, _, e17, fun e he _ => (k17 e he).elim⟩)).elim
    | some g =>
    cases b16 with
    | false => exact (no 16 (mem_ready.2 ⟨rfl, _, e16, fun e he _ => by rcases k16 e he with h | h | h | h <;> rw [h] <;> rfl⟩)).elim
    | true =>
    cases b18 with
    | false =>
      refine (no 18 (mem_ready.2 ⟨rfl, _, e18, fun e he _ => ?_⟩)).elim
      have hq := k18 e he
      generalize e.on = q at hq ⊢
      match q, hq with
      | 0, _ | 1, _ | 2, _ | 3, _ | 4, _ | 5, _ | 6, _ | 7, _ | 8, _ | 9, _ | 10, _ | 11, _ | 12, _ | 13, _ | 14, _ | 15, _ | 16, _ | 17, _ => rfl
      | n + 18, hq => omega
    | true =>
    have h1 := (h16 rfl).2.2.2.2
    have h2 := (h18 rfl).2.2
    rw [ha, h1]
    rw [h2] at hI
    exact hQ v0 v1 v2 v3 g w' hI
  · exact ⟨none, none, none, none, false, none, false, undef, _, rfl, hS, ⟨Below.refl _ _, fun k v hk => (noSome k v hk).elim, fun j k u v _ hj _ => (noSome j u hj).elim, fun g hg => by cases hg⟩, (fun h => by cases h), fun _ => rfl, (fun h => by cases h), fun _ => rfl⟩
end Go.Proofs.YtfgoidaldgfklaaDoor
