/- Several texts in one: Made4, GkrMade. What each says, and its conditions, stands at its head. -/
import Derived.Test.YtlfneeobnihocaaGreatDoorMem
import Derived.RegionTactic
import Derived.Test.YtlfneeobnihocaaGreatDoorProof
import Derived.IntWalk
import Derived.Test.YtlfneeobnihocaaGreatDoorGkrFix
import Derived.StillTailTactics
/- Several texts in one: RegInv, Made4. What each says, and its conditions, stands at its head. -/
/- Regions that draw their order, by an invariant of what has come up; append and make at steps of such regions. No condition. -/
namespace Go.Proofs.YtlfneeobnihocaaGreatDoor
set_option maxRecDepth 100000
set_option linter.unusedVariables false
open Go.RowKit Tally
/-- what has not come up -/
def undone (l : Array Bool) : List Nat := (List.range l.size).filter fun i => !l.getD i true
theorem undone_set {l : Array Bool} {i : Nat} (hi : i < l.size) (h : l.getD i true = false) : (undone (l.setIfInBounds i true)).length < (undone l).length := by
  have e : undone (l.setIfInBounds i true) = (undone l).filter fun j => !(l.setIfInBounds i true).getD j true := by
    unfold undone
    rw [List.filter_filter, Array.size_setIfInBounds]
    congr 1
    funext j
    by_cases hj : i = j
    · subst hj; rw [h]; simp [hi]
    · simp [Array.getElem?_setIfInBounds_ne hj]
  rw [e]
  refine List.length_filter_lt_length_iff_exists.2 ⟨i, ?_, ?_⟩
  · exact List.mem_filter.2 ⟨List.mem_range.2 hi, by simp [h]⟩
  · simp [hi]
theorem wpAny_inv {P : Program} {ops : Array Oper} {Q : Exit → Act → World → Prop} {md : Region.Mode} (Inv : Array Bool → Act → World → Prop)
    (hstep : ∀ l a w, Inv l a w → ∀ i, i ∈ Region.ready md ops l → wpOp P ops Q i (fun a' w' => Inv (l.setIfInBounds i true) a' w') a w)
    (hend : ∀ l a w, Inv l a w → Region.ready md ops l = [] → Q .normal a w) :
    ∀ (fuel : Nat) (l : Array Bool) (a : Act) (w : World), Inv l a w → l.size = ops.size → (undone l).length ≤ fuel → wpAny P md ops Q fuel l a w := by
  intro fuel
  induction fuel with
  | zero =>
    intro l a w hI hs hf
    have h0 : Region.ready md ops l = [] := by
      apply List.eq_nil_iff_forall_not_mem.2
      intro j hj
      obtain ⟨h1, o, ho, _⟩ := mem_ready.1 hj
      have hlt : j < ops.size := (Array.getElem?_eq_some_iff.1 ho).1
      have : j ∈ undone l := List.mem_filter.2 ⟨List.mem_range.2 (by omega), by rw [h1]; rfl⟩
      have := List.length_pos_of_mem this
      omega
    exact ⟨h0, hend l a w hI h0⟩
  | succ fuel ih =>
    intro l a w hI hs hf
    refine ⟨fun h0 => hend l a w hI h0, fun i hi => wpOp_mono (fun a' w' h => ?_) (hstep l a w hI i hi)⟩
    obtain ⟨h1, o, ho, _⟩ := mem_ready.1 hi
    have hlt : i < ops.size := (Array.getElem?_eq_some_iff.1 ho).1
    have := undone_set (l := l) (i := i) (by omega) h1
    exact ih _ _ _ h (by rw [Array.size_setIfInBounds]; exact hs) (by omega)
/-- make([]uint64, n), at a step of a region that draws its order -/
theorem step_makeU {ops : Array Oper} {o : Oper} {a : Act} {K : Act → World → Prop} {Q : Exit → Act → World → Prop} {E : Prop} (w : World) (hg : o.guard = none) (lo co : Operand) (hop : o.op = Op.makeSlice 53 lo co)
    (L C : Int) (n : Nat) (hl : a.eval lo = .int .i64 L) (hc : a.eval co = .int .i64 C) (hL : L = (n : Int)) (hC : C = (n : Int)) (hn : n ≤ 17592186043904)
    (h : ∀ w', NewU w.heap.size w' (.slice (some ⟨w.heap.size, 0, none⟩) n n) (List.replicate n 0) → Below w.heap.size w w' → K (a.put o.dst (.slice (some ⟨w.heap.size, 0, none⟩) n n)) w') :
    if Region.wanted o (yielded ops a.tmps) = true then Oper.wp Tryz.prog o a w K Q else E := by
  have hw : Region.wanted o (yielded ops a.tmps) = true := by simp [Region.wanted, hg]
  rw [if_pos hw]
  subst hL; subst hC
  obtain ⟨i0, hi1, hz0, hz1, hz2⟩ := info_parts Tryz.infoU
  obtain ⟨w', hr, ho, hg⟩ := run_make_full (P := Tryz.prog) (w := w) w.heap.size 53 57 i0 (.int .u64 0) 1 Tryz.underlying53 hi1 hz0 hz1 .i64 .i64 n (by rw [hz2]; omega) (by unfold maxLen; omega) (Nat.le_refl _)
  have hN : NewU w.heap.size w' (.slice (some ⟨w.heap.size, 0, none⟩) n n) (List.replicate n 0) := by
    refine ⟨?_, by simp; omega, ?_⟩
    · intro x hx; rw [List.eq_of_mem_replicate hx]; exact U64.zero
    · have e1 : (madeCells (Value.int .u64 0).cells (n * 1)).toList = (List.replicate n (0 : Int)).map (Value.int .u64) := by
        rw [Nat.mul_one]; show (madeCells #[Value.int .u64 0] n).toList = _
        rw [toList_madeCells_one, List.map_replicate]
      rw [e1] at ho
      simpa using ho
  have hB : Below w.heap.size w w' := (Below.refl _ w).grown hg (Nat.le_refl _) (by simp)
  unfold Oper.wp execOp
  simp only [hop, Sem.run_bind, Sem.run_pure, Result.andThen_ok, hl, hc, hr]
  exact h w' hN hB
end Go.Proofs.YtlfneeobnihocaaGreatDoor

/- Four tables that are made in one statement whose order is open: whatever order is drawn. No condition. -/
namespace Go.Proofs.YtlfneeobnihocaaGreatDoor
set_option maxRecDepth 100000
set_option linter.unusedVariables false
open Go.RowKit Tally
theorem below_two4 {a b c : World} (h : Below a.heap.size a b) (k : Below b.heap.size b c) : Below a.heap.size a c := h.trans (k.mono h.size)
/-- what is made so far: the rows, the place of the table, its cells -/
structure MadeI (n2 : Nat) (w w' : World) (L : List (Option Value)) (p : Option Nat) (cs : Array Value) : Prop where
  below : Below w.heap.size w w'
  row : ∀ (k : Nat) (v : Value), L[k]? = some (some v) → (∃ g, v = .slice (some ⟨g, 0, none⟩) n2 n2) ∧ NewU w.heap.size w' v (List.replicate n2 0)
  apart : ∀ (j k : Nat) (u v : Value), j ≠ k → L[j]? = some (some u) → L[k]? = some (some v) → ∀ g, u.ownBlock = some g → v.ownBlock ≠ some g
  ptr : ∀ g, p = some g → w.heap.size ≤ g ∧ g < w'.heap.size ∧ (∀ (k : Nat) (v : Value), L[k]? = some (some v) → v.ownBlock ≠ some g) ∧ w'.heap[g]? = some (.cells cs 198 (0, 0))
theorem MadeI.make {n2 : Nat} {w w' w2 : World} {L : List (Option Value)} {p : Option Nat} {cs : Array Value} (h : MadeI n2 w w' L p cs) (k : Nat) (hk : k < L.length)
    (hn : NewU w'.heap.size w2 (.slice (some ⟨w'.heap.size, 0, none⟩) n2 n2) (List.replicate n2 0)) (hb : Below w'.heap.size w' w2) : MadeI n2 w w2 (L.set k (some (.slice (some ⟨w'.heap.size, 0, none⟩) n2 n2))) p cs := by
  have get : ∀ (j : Nat) (v : Value), (L.set k (some (Value.slice (some ⟨w'.heap.size, 0, none⟩) n2 n2)))[j]? = some (some v) → (j = k ∧ v = .slice (some ⟨w'.heap.size, 0, none⟩) n2 n2) ∨ (j ≠ k ∧ L[j]? = some (some v)) := by
    intro j v hj
    by_cases e : j = k
    · subst e; rw [List.getElem?_set_self hk] at hj; simp only [Option.some.injEq] at hj; exact .inl ⟨rfl, hj.symm⟩
    · rw [List.getElem?_set_ne (fun e' => e e'.symm)] at hj; exact .inr ⟨e, hj⟩
  refine ⟨below_two4 h.below hb, fun j v hj => ?_, fun i j u v hij hi hj g hu hv => ?_, fun g hg => ?_⟩
  · rcases get j v hj with ⟨_, rfl⟩ | ⟨_, hj⟩
    · exact ⟨⟨_, rfl⟩, hn.mono h.below.size⟩
    · obtain ⟨h1, h2⟩ := h.row j v hj
      exact ⟨h1, h2.below hb (Nat.le_refl _)⟩
  · rcases get i u hi with ⟨ei, eu⟩ | ⟨_, hi'⟩
    · rcases get j v hj with ⟨ej, ev⟩ | ⟨_, hj'⟩
      · exact hij (ei.trans ej.symm)
      · have q1 := ((h.row j v hj').2.lt hv).2
        have : w'.heap.size = g := by rw [eu] at hu; simpa [Value.ownBlock] using hu
        omega
    · rcases get j v hj with ⟨ej, ev⟩ | ⟨_, hj'⟩
      · have q1 := ((h.row i u hi').2.lt hu).2
        have : w'.heap.size = g := by rw [ev] at hv; simpa [Value.ownBlock] using hv
        omega
      · exact h.apart i j u v hij hi' hj' g hu hv
  · obtain ⟨h1, h2, h3, h4⟩ := h.ptr g hg
    refine ⟨h1, Nat.lt_of_lt_of_le h2 hb.size, fun j v hj hv => ?_, (hb.block g h2).trans h4⟩
    rcases get j v hj with ⟨_, rfl⟩ | ⟨_, hj⟩
    · have : w'.heap.size = g := by simpa [Value.ownBlock] using hv
      omega
    · exact h3 j v hj hv
theorem MadeI.alloc {n2 : Nat} {w w' : World} {L : List (Option Value)} {cs : Array Value} (h : MadeI n2 w w' L none cs) (cs' : Array Value) : MadeI n2 w (w'.alloc (.cells cs' 198)) L (some w'.heap.size) cs' := by
  have hb : Below w'.heap.size w' (w'.alloc (.cells cs' 198)) := (Below.refl _ _).alloc (Nat.le_refl _) _
  refine ⟨below_two4 h.below hb, fun j v hj => ?_, h.apart, fun g hg => ?_⟩
  · obtain ⟨h1, h2⟩ := h.row j v hj
    exact ⟨h1, h2.below hb (Nat.le_refl _)⟩
  · cases hg
    refine ⟨h.below.size, by simp, fun j v hj hv => ?_, alloc_blk _ _⟩
    have := ((h.row j v hj).2.lt hv).2
    omega
theorem MadeI.store {n2 g : Nat} {w w' : World} {L : List (Option Value)} {z0 z1 z2 z3 : Value} (h : MadeI n2 w w' L (some g) #[z0, z1, z2, z3]) (x0 x1 x2 x3 : Value) :
    MadeI n2 w ((((w'.setCell ⟨g, 0, none⟩ x0).setCell ⟨g, 1, none⟩ x1).setCell ⟨g, 2, none⟩ x2).setCell ⟨g, 3, none⟩ x3) L (some g) #[x0, x1, x2, x3] := by
  obtain ⟨h1, h2, h3, h4⟩ := h.ptr g rfl
  have hs : ∀ (w : World) (j : Nat) (x : Value), (w.setCell ⟨g, j, none⟩ x).heap.size = w.heap.size := fun w j x => by simp [World.setCell]
  refine ⟨(((h.below.setCell (p := ⟨g, 0, none⟩) h1 _).setCell (p := ⟨g, 1, none⟩) h1 _).setCell (p := ⟨g, 2, none⟩) h1 _).setCell (p := ⟨g, 3, none⟩) h1 _, fun j v hj => ?_, h.apart, fun g' hg => ?_⟩
  · obtain ⟨r1, r2⟩ := h.row j v hj
    have r3 := h3 j v hj
    have go : ∀ {w : World} (q : Nat) (x : Value), NewU w.heap.size w v (List.replicate n2 0) → True := fun _ _ _ => trivial
    have go2 : ∀ {B : Nat} {w : World} (q : Nat) (x : Value), NewU B w v (List.replicate n2 0) → NewU B (w.setCell ⟨g, q, none⟩ x) v (List.replicate n2 0) := fun q x hh =>
      hh.grownOther (grownBy_setCell _ _ _ _) (fun g' hv e => by cases e; exact r3 hv)
    exact ⟨r1, go2 3 x3 (go2 2 x2 (go2 1 x1 (go2 0 x0 r2)))⟩
  · cases hg
    refine ⟨h1, by rw [hs, hs, hs, hs]; exact h2, h3, blk_setCell (blk_setCell (blk_setCell (blk_setCell h4 0 x0) 1 x1) 2 x2) 3 x3⟩
/-- the frame, with what is made -/
def F6 (A0 : Act) (s0 s1 s2 s3 s36 s10 : Value) : Act := ⟨(((((A0.tmps.setIfInBounds 23 s0).setIfInBounds 27 s1).setIfInBounds 31 s2).setIfInBounds 35 s3).setIfInBounds 36 s36).setIfInBounds 10 s10, A0.defers⟩
def ptrV (p : Option Nat) : Value := match p with | none => undef | some g => .pointer (some ⟨g, 0, none⟩)
theorem put_mk (t : Array Value) (d : List Deferred) (s : Nat) (v : Value) : (⟨t, d⟩ : Act).put (some s) v = ⟨t.setIfInBounds s v, d⟩ := rfl
theorem eval_mk (t : Array Value) (d : List Deferred) (s : Nat) : (⟨t, d⟩ : Act).eval (.tmp s) = t.getD s undef := rfl
theorem eval_get (a : Act) (k : Nat) : a.eval (.tmp k) = a.tmps[k]?.getD undef := by show a.tmps.getD k undef = _; simp
theorem getD_same (xs : Array Value) (i : Nat) (h : i < xs.size) (v d : Value) : (xs.setIfInBounds i v).getD i d = v := by simp [h]
theorem getD_other (xs : Array Value) (i j : Nat) (hij : i ≠ j) (v d : Value) : (xs.setIfInBounds i v).getD j d = xs.getD j d := by simp [Array.getElem?_setIfInBounds_ne hij]
theorem F6_put23 (A0 : Act) (s0 s1 s2 s3 s36 s10 v : Value) : (F6 A0 s0 s1 s2 s3 s36 s10).put (some 23) v = F6 A0 v s1 s2 s3 s36 s10 := by
  unfold F6
  rw [put_mk, Array.setIfInBounds_comm (i := 10) (j := 23) _ _ (by decide), Array.setIfInBounds_comm (i := 36) (j := 23) _ _ (by decide), Array.setIfInBounds_comm (i := 35) (j := 23) _ _ (by decide), Array.setIfInBounds_comm (i := 31) (j := 23) _ _ (by decide), Array.setIfInBounds_comm (i := 27) (j := 23) _ _ (by decide), Array.setIfInBounds_setIfInBounds]
theorem F6_put27 (A0 : Act) (s0 s1 s2 s3 s36 s10 v : Value) : (F6 A0 s0 s1 s2 s3 s36 s10).put (some 27) v = F6 A0 s0 v s2 s3 s36 s10 := by
  unfold F6
  rw [put_mk, Array.setIfInBounds_comm (i := 10) (j := 27) _ _ (by decide), Array.setIfInBounds_comm (i := 36) (j := 27) _ _ (by decide), Array.setIfInBounds_comm (i := 35) (j := 27) _ _ (by decide), Array.setIfInBounds_comm (i := 31) (j := 27) _ _ (by decide), Array.setIfInBounds_setIfInBounds]
theorem F6_put31 (A0 : Act) (s0 s1 s2 s3 s36 s10 v : Value) : (F6 A0 s0 s1 s2 s3 s36 s10).put (some 31) v = F6 A0 s0 s1 v s3 s36 s10 := by
  unfold F6
  rw [put_mk, Array.setIfInBounds_comm (i := 10) (j := 31) _ _ (by decide), Array.setIfInBounds_comm (i := 36) (j := 31) _ _ (by decide), Array.setIfInBounds_comm (i := 35) (j := 31) _ _ (by decide), Array.setIfInBounds_setIfInBounds]
theorem F6_put35 (A0 : Act) (s0 s1 s2 s3 s36 s10 v : Value) : (F6 A0 s0 s1 s2 s3 s36 s10).put (some 35) v = F6 A0 s0 s1 s2 v s36 s10 := by
  unfold F6
  rw [put_mk, Array.setIfInBounds_comm (i := 10) (j := 35) _ _ (by decide), Array.setIfInBounds_comm (i := 36) (j := 35) _ _ (by decide), Array.setIfInBounds_setIfInBounds]
theorem F6_put36 (A0 : Act) (s0 s1 s2 s3 s36 s10 v : Value) : (F6 A0 s0 s1 s2 s3 s36 s10).put (some 36) v = F6 A0 s0 s1 s2 s3 v s10 := by
  unfold F6
  rw [put_mk, Array.setIfInBounds_comm (i := 10) (j := 36) _ _ (by decide), Array.setIfInBounds_setIfInBounds]
theorem F6_put10 (A0 : Act) (s0 s1 s2 s3 s36 s10 v : Value) : (F6 A0 s0 s1 s2 s3 s36 s10).put (some 10) v = F6 A0 s0 s1 s2 s3 s36 v := by
  unfold F6
  rw [put_mk, Array.setIfInBounds_setIfInBounds]
theorem F6_get23 (A0 : Act) (hA : A0.tmps.size = 127) (s0 s1 s2 s3 s36 s10 : Value) : (F6 A0 s0 s1 s2 s3 s36 s10).eval (.tmp 23) = s0 := by
  unfold F6
  rw [eval_mk, getD_other _ 10 23 (by decide), getD_other _ 36 23 (by decide), getD_other _ 35 23 (by decide), getD_other _ 31 23 (by decide), getD_other _ 27 23 (by decide), getD_same _ _ (by (repeat rw [Array.size_setIfInBounds]); rw [hA]; decide)]
theorem F6_get27 (A0 : Act) (hA : A0.tmps.size = 127) (s0 s1 s2 s3 s36 s10 : Value) : (F6 A0 s0 s1 s2 s3 s36 s10).eval (.tmp 27) = s1 := by
  unfold F6
  rw [eval_mk, getD_other _ 10 27 (by decide), getD_other _ 36 27 (by decide), getD_other _ 35 27 (by decide), getD_other _ 31 27 (by decide), getD_same _ _ (by (repeat rw [Array.size_setIfInBounds]); rw [hA]; decide)]
theorem F6_get31 (A0 : Act) (hA : A0.tmps.size = 127) (s0 s1 s2 s3 s36 s10 : Value) : (F6 A0 s0 s1 s2 s3 s36 s10).eval (.tmp 31) = s2 := by
  unfold F6
  rw [eval_mk, getD_other _ 10 31 (by decide), getD_other _ 36 31 (by decide), getD_other _ 35 31 (by decide), getD_same _ _ (by (repeat rw [Array.size_setIfInBounds]); rw [hA]; decide)]
theorem F6_get35 (A0 : Act) (hA : A0.tmps.size = 127) (s0 s1 s2 s3 s36 s10 : Value) : (F6 A0 s0 s1 s2 s3 s36 s10).eval (.tmp 35) = s3 := by
  unfold F6
  rw [eval_mk, getD_other _ 10 35 (by decide), getD_other _ 36 35 (by decide), getD_same _ _ (by (repeat rw [Array.size_setIfInBounds]); rw [hA]; decide)]
theorem F6_get36 (A0 : Act) (hA : A0.tmps.size = 127) (s0 s1 s2 s3 s36 s10 : Value) : (F6 A0 s0 s1 s2 s3 s36 s10).eval (.tmp 36) = s36 := by
  unfold F6
  rw [eval_mk, getD_other _ 10 36 (by decide), getD_same _ _ (by (repeat rw [Array.size_setIfInBounds]); rw [hA]; decide)]
theorem F6_get10 (A0 : Act) (hA : A0.tmps.size = 127) (s0 s1 s2 s3 s36 s10 : Value) : (F6 A0 s0 s1 s2 s3 s36 s10).eval (.tmp 10) = s10 := by
  unfold F6
  rw [eval_mk, getD_same _ _ (by (repeat rw [Array.size_setIfInBounds]); rw [hA]; decide)]
theorem F6_old22 (A0 : Act) (s0 s1 s2 s3 s36 s10 : Value) : (F6 A0 s0 s1 s2 s3 s36 s10).eval (.tmp 22) = A0.eval (.tmp 22) := by
  unfold F6
  rw [eval_mk, getD_other _ 10 22 (by decide), getD_other _ 36 22 (by decide), getD_other _ 35 22 (by decide), getD_other _ 31 22 (by decide), getD_other _ 27 22 (by decide), getD_other _ 23 22 (by decide)]
  rfl
theorem F6_old26 (A0 : Act) (s0 s1 s2 s3 s36 s10 : Value) : (F6 A0 s0 s1 s2 s3 s36 s10).eval (.tmp 26) = A0.eval (.tmp 26) := by
  unfold F6
  rw [eval_mk, getD_other _ 10 26 (by decide), getD_other _ 36 26 (by decide), getD_other _ 35 26 (by decide), getD_other _ 31 26 (by decide), getD_other _ 27 26 (by decide), getD_other _ 23 26 (by decide)]
  rfl
theorem F6_old30 (A0 : Act) (s0 s1 s2 s3 s36 s10 : Value) : (F6 A0 s0 s1 s2 s3 s36 s10).eval (.tmp 30) = A0.eval (.tmp 30) := by
  unfold F6
  rw [eval_mk, getD_other _ 10 30 (by decide), getD_other _ 36 30 (by decide), getD_other _ 35 30 (by decide), getD_other _ 31 30 (by decide), getD_other _ 27 30 (by decide), getD_other _ 23 30 (by decide)]
  rfl
theorem F6_old34 (A0 : Act) (s0 s1 s2 s3 s36 s10 : Value) : (F6 A0 s0 s1 s2 s3 s36 s10).eval (.tmp 34) = A0.eval (.tmp 34) := by
  unfold F6
  rw [eval_mk, getD_other _ 10 34 (by decide), getD_other _ 36 34 (by decide), getD_other _ 35 34 (by decide), getD_other _ 31 34 (by decide), getD_other _ 27 34 (by decide), getD_other _ 23 34 (by decide)]
  rfl
theorem noSome (k : Nat) (v : Value) (h : ([none, none, none, none] : List (Option Value))[k]? = some (some v)) : False := by
  match k, h with
  | 0, h | 1, h | 2, h | 3, h => cases h
  | n + 4, h => simp at h
set_option maxRecDepth 100000 in
set_option maxHeartbeats 400000 in
theorem made_four {ops : Array Oper} {Q : Exit → Act → World → Prop} (A0 : Act) (hA : A0.tmps.size = 127) (hS : A0 = F6 A0 undef undef undef undef undef undef) (W1 : World) (n2 : Nat) (h2 : n2 ≤ 256)
    (h22 : A0.eval (.tmp 22) = .int .i64 (n2 : Int))
    (h26 : A0.eval (.tmp 26) = .int .i64 (n2 : Int))
    (h30 : A0.eval (.tmp 30) = .int .i64 (n2 : Int))
    (h34 : A0.eval (.tmp 34) = .int .i64 (n2 : Int))
    {y3 y7 y11 y15 y16 y17 y18 : TypeId} {s3 s7 s11 s15 s16 s17 s18 : String} {a3 a7 a11 a15 a16 a17 a18 : Array Edge} (hops : ops.size = 19)
    (e3 : ops[3]? = some ⟨some 23, .makeSlice 53 (.tmp 22) (.tmp 22), y3, s3, a3, none⟩) (e7 : ops[7]? = some ⟨some 27, .makeSlice 53 (.tmp 26) (.tmp 26), y7, s7, a7, none⟩)
    (e11 : ops[11]? = some ⟨some 31, .makeSlice 53 (.tmp 30) (.tmp 30), y11, s11, a11, none⟩) (e15 : ops[15]? = some ⟨some 35, .makeSlice 53 (.tmp 34) (.tmp 34), y15, s15, a15, none⟩)
    (e16 : ops[16]? = some ⟨some 36, .build 198 #[(0, .tmp 23), (1, .tmp 27), (2, .tmp 31), (3, .tmp 35)], y16, s16, a16, none⟩) (e17 : ops[17]? = some ⟨some 10, .alloc 198, y17, s17, a17, none⟩)
    (e18 : ops[18]? = some ⟨none, .store 198 (.tmp 10) (.tmp 36), y18, s18, a18, none⟩)
    (k3 : ∀ e ∈ a3, e.on = 2) (k7 : ∀ e ∈ a7, e.on = 6) (k11 : ∀ e ∈ a11, e.on = 10) (k15 : ∀ e ∈ a15, e.on = 14) (k16 : ∀ e ∈ a16, e.on = 3 ∨ e.on = 7 ∨ e.on = 11 ∨ e.on = 15) (k17 : ∀ e ∈ a17, False) (k18 : ∀ e ∈ a18, e.on ≤ 17)
    (j16 : ∀ k, k = 3 ∨ k = 7 ∨ k = 11 ∨ k = 15 → ∃ e ∈ a16, e.on = k ∧ Region.binds .any e = true) (j18 : ∀ k, k = 16 ∨ k = 17 → ∃ e ∈ a18, e.on = k ∧ Region.binds .any e = true)
    (hQ : ∀ v0 v1 v2 v3 g w', MadeI n2 W1 w' [some v0, some v1, some v2, some v3] (some g) #[v0, v1, v2, v3] → Q .normal (F6 A0 v0 v1 v2 v3 (.agg #[v0, v1, v2, v3]) (.pointer (some ⟨g, 0, none⟩))) w') :
    wpAny Tryz.prog .any ops Q 7 #[true, true, true, false, true, true, true, false, true, true, true, false, true, true, true, false, false, false, false] A0 W1 := by
  refine wpAny_inv (Inv := fun l a w' => ∃ (f0 f1 f2 f3 : Option Value) (b16 : Bool) (p : Option Nat) (b18 : Bool) (s36 : Value) (cs : Array Value), l = #[true, true, true, f0.isSome, true, true, true, f1.isSome, true, true, true, f2.isSome, true, true, true, f3.isSome, b16, p.isSome, b18] ∧
    a = F6 A0 (f0.getD undef) (f1.getD undef) (f2.getD undef) (f3.getD undef) s36 (ptrV p) ∧ MadeI n2 W1 w' [f0, f1, f2, f3] p cs ∧
    (b16 = true → f0.isSome = true ∧ f1.isSome = true ∧ f2.isSome = true ∧ f3.isSome = true ∧ s36 = .agg #[f0.getD undef, f1.getD undef, f2.getD undef, f3.getD undef]) ∧ (b16 = false → s36 = undef) ∧
    (b18 = true → b16 = true ∧ p.isSome = true ∧ cs = #[f0.getD undef, f1.getD undef, f2.getD undef, f3.getD undef]) ∧ (b18 = false → cs = #[.slice none 0 0, .slice none 0 0, .slice none 0 0, .slice none 0 0])) ?_ ?_ 7 _ A0 W1 ?_ (by rw [hops]; rfl) (by decide)
  · clear hS
    rintro l a w' ⟨f0, f1, f2, f3, b16, p, b18, s36, cs, rfl, ha, hI, h16, h16n, h18, h18n⟩ i hi
    obtain ⟨g1, o, ho, hall⟩ := mem_ready.1 hi
    have hi7 : i = 3 ∨ i = 7 ∨ i = 11 ∨ i = 15 ∨ i = 16 ∨ i = 17 ∨ i = 18 := by
      match i, g1 with
      | 0, g1 | 1, g1 | 2, g1 | 4, g1 | 5, g1 | 6, g1 | 8, g1 | 9, g1 | 10, g1 | 12, g1 | 13, g1 | 14, g1 => cases g1
      | 3, _ | 7, _ | 11, _ | 15, _ | 16, _ | 17, _ | 18, _ => omega
      | n + 19, g1 => cases g1
    rcases hi7 with rfl | rfl | rfl | rfl | rfl | rfl | rfl
    · have hn : f0 = none := by
        cases f0 with
        | none => rfl
        | some x => cases g1
      subst hn
      refine wpOp_step e3 fun K hK => ?_
      refine step_makeU w' rfl (.tmp 22) (.tmp 22) rfl (n2 : Int) (n2 : Int) n2 (by rw [ha, F6_old22, h22]) (by rw [ha, F6_old22, h22]) rfl rfl (by omega) ?_
      intro w2 hn2 hb2
      refine hK _ _ ?_
      show ∃ _, _
      rw [ha, F6_put23]
      have hb16 : b16 = false := by
        cases b16
        · rfl
        · have := h16 rfl; simp at this
      subst hb16
      have hb18 : b18 = false := by
        cases b18
        · rfl
        · have := (h18 rfl).1; cases this
      subst hb18
      exact ⟨some (.slice (some ⟨w'.heap.size, 0, none⟩) n2 n2), f1, f2, f3, false, p, false, s36, cs, rfl, rfl, hI.make 0 (by simp) hn2 hb2, (fun h => by cases h), h16n, (fun h => by cases h), h18n⟩
    · have hn : f1 = none := by
        cases f1 with
        | none => rfl
        | some x => cases g1
      subst hn
      refine wpOp_step e7 fun K hK => ?_
      refine step_makeU w' rfl (.tmp 26) (.tmp 26) rfl (n2 : Int) (n2 : Int) n2 (by rw [ha, F6_old26, h26]) (by rw [ha, F6_old26, h26]) rfl rfl (by omega) ?_
      intro w2 hn2 hb2
      refine hK _ _ ?_
      show ∃ _, _
      rw [ha, F6_put27]
      have hb16 : b16 = false := by
        cases b16
        · rfl
        · have := h16 rfl; simp at this
      subst hb16
      have hb18 : b18 = false := by
        cases b18
        · rfl
        · have := (h18 rfl).1; cases this
      subst hb18
      exact ⟨f0, some (.slice (some ⟨w'.heap.size, 0, none⟩) n2 n2), f2, f3, false, p, false, s36, cs, rfl, rfl, hI.make 1 (by simp) hn2 hb2, (fun h => by cases h), h16n, (fun h => by cases h), h18n⟩
    · have hn : f2 = none := by
        cases f2 with
        | none => rfl
        | some x => cases g1
      subst hn
      refine wpOp_step e11 fun K hK => ?_
      refine step_makeU w' rfl (.tmp 30) (.tmp 30) rfl (n2 : Int) (n2 : Int) n2 (by rw [ha, F6_old30, h30]) (by rw [ha, F6_old30, h30]) rfl rfl (by omega) ?_
      intro w2 hn2 hb2
      refine hK _ _ ?_
      show ∃ _, _
      rw [ha, F6_put31]
      have hb16 : b16 = false := by
        cases b16
        · rfl
        · have := h16 rfl; simp at this
      subst hb16
      have hb18 : b18 = false := by
        cases b18
        · rfl
        · have := (h18 rfl).1; cases this
      subst hb18
      exact ⟨f0, f1, some (.slice (some ⟨w'.heap.size, 0, none⟩) n2 n2), f3, false, p, false, s36, cs, rfl, rfl, hI.make 2 (by simp) hn2 hb2, (fun h => by cases h), h16n, (fun h => by cases h), h18n⟩
    · have hn : f3 = none := by
        cases f3 with
        | none => rfl
        | some x => cases g1
      subst hn
      refine wpOp_step e15 fun K hK => ?_
      refine step_makeU w' rfl (.tmp 34) (.tmp 34) rfl (n2 : Int) (n2 : Int) n2 (by rw [ha, F6_old34, h34]) (by rw [ha, F6_old34, h34]) rfl rfl (by omega) ?_
      intro w2 hn2 hb2
      refine hK _ _ ?_
      show ∃ _, _
      rw [ha, F6_put35]
      have hb16 : b16 = false := by
        cases b16
        · rfl
        · have := h16 rfl; simp at this
      subst hb16
      have hb18 : b18 = false := by
        cases b18
        · rfl
        · have := (h18 rfl).1; cases this
      subst hb18
      exact ⟨f0, f1, f2, some (.slice (some ⟨w'.heap.size, 0, none⟩) n2 n2), false, p, false, s36, cs, rfl, rfl, hI.make 3 (by simp) hn2 hb2, (fun h => by cases h), h16n, (fun h => by cases h), h18n⟩
    · have hb : b16 = false := by
        cases b16 with
        | false => rfl
        | true => cases g1
      subst hb
      have hb18 : b18 = false := by
        cases b18
        · rfl
        · have := (h18 rfl).1; cases this
      subst hb18
      have hs : ∀ k, k = 3 ∨ k = 7 ∨ k = 11 ∨ k = 15 → Array.getD #[true, true, true, f0.isSome, true, true, true, f1.isSome, true, true, true, f2.isSome, true, true, true, f3.isSome, false, p.isSome, false] k false = true := fun k hk => by
        obtain ⟨e, he, hek, hb⟩ := j16 k hk
        rw [e16] at ho
        cases ho
        have := hall e he hb
        rw [hek] at this; exact this
      have i0 := hs 3 (by simp); have i1 := hs 7 (by simp); have i2 := hs 11 (by simp); have i3 := hs 15 (by simp)
      obtain ⟨v0, rfl⟩ := Option.isSome_iff_exists.1 i0
      obtain ⟨v1, rfl⟩ := Option.isSome_iff_exists.1 i1
      obtain ⟨v2, rfl⟩ := Option.isSome_iff_exists.1 i2
      obtain ⟨v3, rfl⟩ := Option.isSome_iff_exists.1 i3
      obtain ⟨⟨q0, rfl⟩, _⟩ := hI.row 0 v0 rfl
      obtain ⟨⟨q1, rfl⟩, _⟩ := hI.row 1 v1 rfl
      obtain ⟨⟨q2, rfl⟩, _⟩ := hI.row 2 v2 rfl
      obtain ⟨⟨q3, rfl⟩, _⟩ := hI.row 3 v3 rfl
      refine wpOp_step e16 fun K hK => ?_
      have ev0 : a.tmps[23]?.getD undef = .slice (some ⟨q0, 0, none⟩) n2 n2 := by rw [← eval_get, ha, F6_get23 A0 hA]; rfl
      have ev1 : a.tmps[27]?.getD undef = .slice (some ⟨q1, 0, none⟩) n2 n2 := by rw [← eval_get, ha, F6_get27 A0 hA]; rfl
      have ev2 : a.tmps[31]?.getD undef = .slice (some ⟨q2, 0, none⟩) n2 n2 := by rw [← eval_get, ha, F6_get31 A0 hA]; rfl
      have ev3 : a.tmps[35]?.getD undef = .slice (some ⟨q3, 0, none⟩) n2 n2 := by rw [← eval_get, ha, F6_get35 A0 hA]; rfl
      have Ha := Lib.hid ha; have HI := Lib.hid hI; have HK := Lib.hid hK; have H18 := Lib.hid h18n
      clear ha hI hK h16 h16n h18 h18n hall j16 j18 k3 k7 k11 k15 k16 k17 k18 e3 e7 e11 e15 e16 e17 e18 ho hs g1 hi h22 h26 h30 h34 hA hops hQ i0 i1 i2 i3
      go_simp
      refine HK.out _ _ ?_
      have pt := F6_put36 A0 (Value.slice (some ⟨q0, 0, none⟩) n2 n2) (Value.slice (some ⟨q1, 0, none⟩) n2 n2) (Value.slice (some ⟨q2, 0, none⟩) n2 n2) (Value.slice (some ⟨q3, 0, none⟩) n2 n2) s36 (ptrV p) (.agg #[Value.slice (some ⟨q0, 0, none⟩) n2 n2, Value.slice (some ⟨q1, 0, none⟩) n2 n2, Value.slice (some ⟨q2, 0, none⟩) n2 n2, Value.slice (some ⟨q3, 0, none⟩) n2 n2])
      have ha := Ha.out
      simp only [Option.getD_some] at ha
      rw [← ha] at pt
      exact ⟨some _, some _, some _, some _, true, p, false, _, cs, rfl, pt, HI.out, fun _ => ⟨rfl, rfl, rfl, rfl, rfl⟩, (fun h => by cases h), (fun h => by cases h), H18.out⟩
    · have hn : p = none := by
        cases p with
        | none => rfl
        | some x => cases g1
      subst hn
      have hb18 : b18 = false := by
        cases b18
        · rfl
        · have := (h18 rfl).2.1; cases this
      subst hb18
      refine wpOp_step e17 fun K hK => ?_
      have Ha := Lib.hid ha; have HI := Lib.hid hI; have HK := Lib.hid hK; have H16 := Lib.hid h16; have H16n := Lib.hid h16n
      clear ha hI hK h16 h16n h18 h18n hall j16 j18 k3 k7 k11 k15 k16 k17 k18 e3 e7 e11 e15 e16 e17 e18 ho g1 hi h22 h26 h30 h34 hA hops hQ
      go_simp
      refine HK.out _ _ ?_
      have pt := F6_put10 A0 (f0.getD undef) (f1.getD undef) (f2.getD undef) (f3.getD undef) s36 (ptrV none) (.pointer (some ⟨w'.heap.size, 0, none⟩))
      rw [← Ha.out] at pt
      exact ⟨f0, f1, f2, f3, b16, some w'.heap.size, false, s36, _, rfl, pt, HI.out.alloc _, H16.out, H16n.out, (fun h => by cases h), fun _ => rfl⟩
    · have hb : b18 = false := by
        cases b18 with
        | false => rfl
        | true => cases g1
      subst hb
      have hs : ∀ k, k = 16 ∨ k = 17 → Array.getD #[true, true, true, f0.isSome, true, true, true, f1.isSome, true, true, true, f2.isSome, true, true, true, f3.isSome, b16, p.isSome, false] k false = true := fun k hk => by
        obtain ⟨e, he, hek, hb⟩ := j18 k hk
        rw [e18] at ho
        cases ho
        have := hall e he hb
        rw [hek] at this; exact this
      have i0 : b16 = true := hs 16 (by simp)
      have i1 : p.isSome = true := hs 17 (by simp)
      subst i0
      obtain ⟨g, rfl⟩ := Option.isSome_iff_exists.1 i1
      obtain ⟨m0, m1, m2, m3, hs36⟩ := h16 rfl
      obtain ⟨v0, rfl⟩ := Option.isSome_iff_exists.1 m0
      obtain ⟨v1, rfl⟩ := Option.isSome_iff_exists.1 m1
      obtain ⟨v2, rfl⟩ := Option.isSome_iff_exists.1 m2
      obtain ⟨v3, rfl⟩ := Option.isSome_iff_exists.1 m3
      obtain ⟨⟨q0, rfl⟩, _⟩ := hI.row 0 v0 rfl
      obtain ⟨⟨q1, rfl⟩, _⟩ := hI.row 1 v1 rfl
      obtain ⟨⟨q2, rfl⟩, _⟩ := hI.row 2 v2 rfl
      obtain ⟨⟨q3, rfl⟩, _⟩ := hI.row 3 v3 rfl
      simp only [Option.getD_some] at ha hs36
      subst hs36
      have hcs := h18n rfl
      subst hcs
      refine wpOp_step e18 fun K hK => ?_
      have ev0 : a.tmps[36]?.getD undef = .agg #[.slice (some ⟨q0, 0, none⟩) n2 n2, .slice (some ⟨q1, 0, none⟩) n2 n2, .slice (some ⟨q2, 0, none⟩) n2 n2, .slice (some ⟨q3, 0, none⟩) n2 n2] := by rw [← eval_get, ha, F6_get36 A0 hA]
      have ev1 : a.tmps[10]?.getD undef = .pointer (some ⟨g, 0, none⟩) := by rw [← eval_get, ha, F6_get10 A0 hA]; rfl
      have hblk := (hI.ptr g rfl).2.2.2
      have c0 : w'.cell? ⟨g, 0, none⟩ = some (.slice none 0 0) := cell_blk hblk 0
      have c1 : w'.cell? ⟨g, 1, none⟩ = some (.slice none 0 0) := cell_blk hblk 1
      have c2 : w'.cell? ⟨g, 2, none⟩ = some (.slice none 0 0) := cell_blk hblk 2
      have c3 : w'.cell? ⟨g, 3, none⟩ = some (.slice none 0 0) := cell_blk hblk 3
      have d0 := free_blk hblk 0; have d1 := free_blk hblk 1; have d2 := free_blk hblk 2; have d3 := free_blk hblk 3
      have Ha := Lib.hid ha; have HI := Lib.hid hI; have HK := Lib.hid hK
      clear ha hI hK h16 h16n h18 h18n hall j16 j18 k3 k7 k11 k15 k16 k17 k18 e3 e7 e11 e15 e16 e17 e18 ho hs g1 hi h22 h26 h30 h34 hA hops hQ i1 hblk m0 m1 m2 m3
      go_simp
      refine HK.out _ _ ?_
      exact ⟨some _, some _, some _, some _, true, some g, true, _, _, rfl, Ha.out, HI.out.store _ _ _ _, fun _ => ⟨rfl, rfl, rfl, rfl, rfl⟩, (fun h => by cases h), fun _ => ⟨rfl, rfl, rfl⟩, (fun h => by cases h)⟩
  · rintro l a w' ⟨f0, f1, f2, f3, b16, p, b18, s36, cs, rfl, ha, hI, h16, h16n, h18, h18n⟩ hr
    have no : ∀ i, i ∉ Region.ready Region.Mode.any ops #[true, true, true, f0.isSome, true, true, true, f1.isSome, true, true, true, f2.isSome, true, true, true, f3.isSome, b16, p.isSome, b18] := fun i hi => by rw [hr] at hi; cases hi
    cases f0 with
    | none => exact (no 3 (mem_ready.2 ⟨rfl, _, e3, fun e he _ => by rw [k3 e he]; rfl⟩)).elim
    | some v0 =>
    cases f1 with
    | none => exact (no 7 (mem_ready.2 ⟨rfl, _, e7, fun e he _ => by rw [k7 e he]; rfl⟩)).elim
    | some v1 =>
    cases f2 with
    | none => exact (no 11 (mem_ready.2 ⟨rfl, _, e11, fun e he _ => by rw [k11 e he]; rfl⟩)).elim
    | some v2 =>
    cases f3 with
    | none => exact (no 15 (mem_ready.2 ⟨rfl, _, e15, fun e he _ => by rw [k15 e he]; rfl⟩)).elim
    | some v3 =>
    cases p with
    | none => exact (no 17 (mem_ready.2 ⟨rfl, _, e17, fun e he _ => (k17 e he).elim⟩)).elim
    | some g =>
    cases b16 with
    | false => exact (no 16 (mem_ready.2 ⟨rfl, _, e16, fun e he _ => by rcases k16 e he with h | h | h | h <;> rw [h] <;> rfl⟩)).elim
    | true =>
    cases b18 with
    | false =>
      refine (no 18 (mem_ready.2 ⟨rfl, _, e18, fun e he _ => ?_⟩)).elim
      have hq := k18 e he
      generalize e.on = q at hq ⊢
      match q, hq with
      | 0, _ | 1, _ | 2, _ | 3, _ | 4, _ | 5, _ | 6, _ | 7, _ | 8, _ | 9, _ | 10, _ | 11, _ | 12, _ | 13, _ | 14, _ | 15, _ | 16, _ | 17, _ => rfl
      | n + 18, hq => omega
    | true =>
    have h1 := (h16 rfl).2.2.2.2
    have h2 := (h18 rfl).2.2
    rw [ha, h1]
    rw [h2] at hI
    exact hQ v0 v1 v2 v3 g w' hI
  · exact ⟨none, none, none, none, false, none, false, undef, _, rfl, hS, ⟨Below.refl _ _, fun k v hk => (noSome k v hk).elim, fun j k u v _ hj _ => (noSome j u hj).elim, fun g hg => by cases hg⟩, (fun h => by cases h), fun _ => rfl, (fun h => by cases h), fun _ => rfl⟩
end Go.Proofs.YtlfneeobnihocaaGreatDoor

/- The walk of gkr's made: the four tables of a layer. The circuit is a value that reads as data, the lists are slices of 64-bit numbers. -/
namespace Go.Proofs.YtlfneeobnihocaaGreatDoor
set_option maxRecDepth 100000
set_option linter.unusedVariables false
open Go.RowKit Tally
theorem made_start (w : World) (x y z : Value) (t1 t2 : Nat) : ∃ W tb rs, (w.alloc (.cells #[x, y] t1)).alloc (.cells #[z, z, z, z] t2) = W ∧
    tb = w.heap.size ∧ rs = w.heap.size + 1 ∧ tb < rs ∧ rs < W.heap.size ∧
    W.cell? ⟨tb, 0, none⟩ = some x ∧ W.cell? ⟨tb, 1, none⟩ = some y ∧ W.heap[rs]? = some (.cells #[z, z, z, z] t2 (0, 0)) ∧ Below tb w W := by
  refine ⟨_, w.heap.size, w.heap.size + 1, rfl, rfl, rfl, by omega, by simp, ?_, ?_, ?_, ?_⟩
  · have h : ((w.alloc (.cells #[x, y] t1)).alloc (.cells #[z, z, z, z] t2)).heap[w.heap.size]? = some (.cells #[x, y] t1 (0, 0)) := by
      show ((w.heap.push _).push _)[w.heap.size]? = _
      rw [Array.getElem?_push, if_neg (by simp), Array.getElem?_push, if_pos rfl]
    exact cell_blk h 0
  · have h : ((w.alloc (.cells #[x, y] t1)).alloc (.cells #[z, z, z, z] t2)).heap[w.heap.size]? = some (.cells #[x, y] t1 (0, 0)) := by
      show ((w.heap.push _).push _)[w.heap.size]? = _
      rw [Array.getElem?_push, if_neg (by simp), Array.getElem?_push, if_pos rfl]
    exact cell_blk h 1
  · show ((w.heap.push _).push _)[w.heap.size + 1]? = _
    rw [Array.getElem?_push, if_pos (by simp)]
  · exact ((Below.refl _ _).alloc (Nat.le_refl _) _).alloc (by simp <;> omega) _
/-- the tables of a layer, in numbers -/
def layI (gs : List Gt) (z V : List Int) (n : Nat) : Ti := ⟨(wireTab gs false (z.map phi) n).map psi, (wireTab gs true (z.map phi) n).map psi, (List.range (n * n)).map fun q => at0 V (q / n), (List.range (n * n)).map fun q => at0 V (q % n)⟩
theorem layI_toF (gs : List Gt) (z V : List Int) (n : Nat) (h0 : 0 < n) (hV : V.length = n) : (layI gs z V n).toF = layT gs (z.map phi) (V.map phi) n := by
  show Tb.mk _ _ _ _ = Tb.mk _ _ _ _
  congr 1
  · exact mapphi_psi _
  · exact mapphi_psi _
  · show ((List.range (n * n)).map _).map phi = _
    rw [List.map_map]
    refine List.map_congr_left fun q hq => ?_
    have hq := List.mem_range.1 hq
    exact (atF_map V _ (by rw [hV]; exact Nat.div_lt_of_lt_mul hq)).symm
  · show ((List.range (n * n)).map _).map phi = _
    rw [List.map_map]
    refine List.map_congr_left fun q hq => ?_
    exact (atF_map V _ (by rw [hV]; exact Nat.mod_lt _ h0)).symm
theorem layI_len (gs : List Gt) (z V : List Int) (n : Nat) : (layI gs z V n).Len (n * n) := ⟨by simp [layI, wireTab], by simp [layI, wireTab], by simp [layI], by simp [layI]⟩
/-- the place of a gate in the tables -/
def idxG (g : Gt) (n : Nat) : Nat := g.a.toNat * n + g.b.toNat
/-- the table of a sort, of the first j gates -/
def WAt (gs : List Gt) (mul : Bool) (z : List F) (n j : Nat) (L : List Int) : Prop := L.length = n * n ∧ ∀ q, q < n * n → at0 L q = psi (sumTo (fun g => if (atg gs g).mul = mul ∧ idxG (atg gs g) n = q then eqAt z g else 0) j)
theorem wAt_start (gs : List Gt) (mul : Bool) (z : List F) (n n2 : Nat) (h : n2 = n * n) : WAt gs mul z n 0 (List.replicate n2 0) := by
  refine ⟨by simp [h], fun q hq => ?_⟩
  show _ = psi 0
  rw [psi_zero]; simp [at0, h, hq]
theorem wAt_no {gs : List Gt} {mul : Bool} {z : List F} {n j : Nat} {L : List Int} (h : WAt gs mul z n j L) (hm : ¬ (atg gs j).mul = mul) : WAt gs mul z n (j + 1) L := by
  refine ⟨h.1, fun q hq => ?_⟩
  rw [h.2 q hq]
  show psi _ = psi (sumTo _ j + (if _ then _ else _))
  rw [if_neg (fun e => hm e.1), add_zero']
theorem wAt_yes {gs : List Gt} {mul : Bool} {z : List F} {n j p : Nat} {L : List Int} {x : Int} (h : WAt gs mul z n j L) (hm : (atg gs j).mul = mul) (hp : idxG (atg gs j) n = p) (hx : phi x = eqAt z j) (hp2 : p < n * n) :
    WAt gs mul z n (j + 1) (L.set p (psi (phi (at0 L p) + phi x))) := by
  refine ⟨by rw [List.length_set]; exact h.1, fun q hq => ?_⟩
  show _ = psi (sumTo _ j + (if _ then _ else _))
  by_cases e : q = p
  · subst e
    rw [at0_set_self _ _ _ (by rw [h.1]; exact hq), h.2 q hq, phi_psi, if_pos ⟨hm, hp⟩, hx]
  · rw [at0_set_ne _ _ _ _ (fun e' => e e'.symm), h.2 q hq, if_neg (fun e' => e (by rw [← e'.2, hp])), add_zero']
theorem wAt_end {gs : List Gt} {mul : Bool} {z : List F} {n : Nat} {L : List Int} (h : WAt gs mul z n gs.length L) : L = (wireTab gs mul z n).map psi := by
  apply List.ext_getElem?
  intro q
  by_cases hq : q < n * n
  · have h1 := h.2 q hq
    have hl : q < L.length := by rw [h.1]; exact hq
    rw [List.getElem?_eq_getElem hl]
    simp only [at0, List.getElem?_eq_getElem hl, Option.getD_some] at h1
    rw [h1]
    simp only [wireTab, List.getElem?_map, List.getElem?_range hq, Option.map_some]
    rfl
  · rw [List.getElem?_eq_none (by rw [h.1]; omega), List.getElem?_eq_none (by simp [wireTab]; omega)]
/-- the first m places are filled -/
def FAt (f : Nat → Int) (N m : Nat) (L : List Int) : Prop := L.length = N ∧ ∀ q, q < m → at0 L q = f q
theorem fAt_step {f : Nat → Int} {N m : Nat} {L : List Int} {x : Int} (h : FAt f N m L) (hm : m < N) (hx : x = f m) : FAt f N (m + 1) (L.set m x) := by
  refine ⟨by rw [List.length_set]; exact h.1, fun q hq => ?_⟩
  by_cases e : q = m
  · subst e; rw [at0_set_self _ _ _ (by rw [h.1]; exact hm)]; exact hx
  · rw [at0_set_ne _ _ _ _ (fun e' => e e'.symm)]; exact h.2 q (by omega)
theorem fAt_end {f : Nat → Int} {N : Nat} {L : List Int} (h : FAt f N N L) : L = (List.range N).map f := by
  apply List.ext_getElem?
  intro q
  by_cases hq : q < N
  · have h1 := h.2 q hq
    have hl : q < L.length := by rw [h.1]; exact hq
    rw [List.getElem?_eq_getElem hl]
    simp only [at0, List.getElem?_eq_getElem hl, Option.getD_some] at h1
    rw [h1]; simp [hq]
  · rw [List.getElem?_eq_none (by rw [h.1]; omega), List.getElem?_eq_none (by simp; omega)]
/-- the places of the four tables -/
structure Pl4 (B M q0 q1 q2 q3 g : Nat) : Prop where
  n01 : q0 ≠ q1
  n02 : q0 ≠ q2
  n03 : q0 ≠ q3
  n12 : q1 ≠ q2
  n13 : q1 ≠ q3
  n23 : q2 ≠ q3
  g0 : g ≠ q0
  g1 : g ≠ q1
  g2 : g ≠ q2
  g3 : g ≠ q3
  b0 : B ≤ q0 ∧ q0 < M
  b1 : B ≤ q1 ∧ q1 < M
  b2 : B ≤ q2 ∧ q2 < M
  b3 : B ≤ q3 ∧ q3 < M
  bg : B ≤ g ∧ g < M
/-- the four tables, being filled -/
structure MS (B M q0 q1 q2 q3 g n2 : Nat) (LA LM LX LY : List Int) (ez : Value) (EZ : List Int) (w3 wr : World) : Prop where
  r0 : NewU B wr (.slice (some ⟨q0, 0, none⟩) n2 n2) LA
  r1 : NewU B wr (.slice (some ⟨q1, 0, none⟩) n2 n2) LM
  r2 : NewU B wr (.slice (some ⟨q2, 0, none⟩) n2 n2) LX
  r3 : NewU B wr (.slice (some ⟨q3, 0, none⟩) n2 n2) LY
  ez : NewU M wr ez EZ
  blk : wr.heap[g]? = some (.cells #[.slice (some ⟨q0, 0, none⟩) n2 n2, .slice (some ⟨q1, 0, none⟩) n2 n2, .slice (some ⟨q2, 0, none⟩) n2 n2, .slice (some ⟨q3, 0, none⟩) n2 n2] 198 (0, 0))
  below : Below B w3 wr
  size : M ≤ wr.heap.size
theorem setCell_size (w : World) (a : Addr) (u : Value) : (w.setCell a u).heap.size = w.heap.size := by simp [World.setCell]
theorem MS.set0 {B M q0 q1 q2 q3 g n2 : Nat} {LA LM LX LY : List Int} {ez : Value} {EZ : List Int} {w3 wr : World} (h : MS B M q0 q1 q2 q3 g n2 LA LM LX LY ez EZ w3 wr) (P : Pl4 B M q0 q1 q2 q3 g) (j : Nat) (y : Int) (hy : U64 y) :
    MS B M q0 q1 q2 q3 g n2 (LA.set j y) LM LX LY ez EZ w3 (wr.setCell ⟨q0, j, none⟩ (.int .u64 y)) :=
  ⟨h.r0.set j y hy, h.r1.other j _ P.n01.symm, h.r2.other j _ P.n02.symm, h.r3.other j _ P.n03.symm, h.ez.low P.b0.2 j _, (Below.heap_setCell _ _ _ _ P.g0).trans h.blk, h.below.setCell P.b0.1 _, by rw [setCell_size]; exact h.size⟩
theorem MS.set1 {B M q0 q1 q2 q3 g n2 : Nat} {LA LM LX LY : List Int} {ez : Value} {EZ : List Int} {w3 wr : World} (h : MS B M q0 q1 q2 q3 g n2 LA LM LX LY ez EZ w3 wr) (P : Pl4 B M q0 q1 q2 q3 g) (j : Nat) (y : Int) (hy : U64 y) :
    MS B M q0 q1 q2 q3 g n2 LA (LM.set j y) LX LY ez EZ w3 (wr.setCell ⟨q1, j, none⟩ (.int .u64 y)) :=
  ⟨h.r0.other j _ P.n01, h.r1.set j y hy, h.r2.other j _ P.n12.symm, h.r3.other j _ P.n13.symm, h.ez.low P.b1.2 j _, (Below.heap_setCell _ _ _ _ P.g1).trans h.blk, h.below.setCell P.b1.1 _, by rw [setCell_size]; exact h.size⟩
theorem MS.set2 {B M q0 q1 q2 q3 g n2 : Nat} {LA LM LX LY : List Int} {ez : Value} {EZ : List Int} {w3 wr : World} (h : MS B M q0 q1 q2 q3 g n2 LA LM LX LY ez EZ w3 wr) (P : Pl4 B M q0 q1 q2 q3 g) (j : Nat) (y : Int) (hy : U64 y) :
    MS B M q0 q1 q2 q3 g n2 LA LM (LX.set j y) LY ez EZ w3 (wr.setCell ⟨q2, j, none⟩ (.int .u64 y)) :=
  ⟨h.r0.other j _ P.n02, h.r1.other j _ P.n12, h.r2.set j y hy, h.r3.other j _ P.n23.symm, h.ez.low P.b2.2 j _, (Below.heap_setCell _ _ _ _ P.g2).trans h.blk, h.below.setCell P.b2.1 _, by rw [setCell_size]; exact h.size⟩
theorem MS.set3 {B M q0 q1 q2 q3 g n2 : Nat} {LA LM LX LY : List Int} {ez : Value} {EZ : List Int} {w3 wr : World} (h : MS B M q0 q1 q2 q3 g n2 LA LM LX LY ez EZ w3 wr) (P : Pl4 B M q0 q1 q2 q3 g) (j : Nat) (y : Int) (hy : U64 y) :
    MS B M q0 q1 q2 q3 g n2 LA LM LX (LY.set j y) ez EZ w3 (wr.setCell ⟨q3, j, none⟩ (.int .u64 y)) :=
  ⟨h.r0.other j _ P.n03, h.r1.other j _ P.n13, h.r2.other j _ P.n23, h.r3.set j y hy, h.ez.low P.b3.2 j _, (Below.heap_setCell _ _ _ _ P.g3).trans h.blk, h.below.setCell P.b3.1 _, by rw [setCell_size]; exact h.size⟩
theorem MS.go {B M q0 q1 q2 q3 g n2 : Nat} {LA LM LX LY : List Int} {ez : Value} {EZ : List Int} {w3 wr w' : World} (h : MS B M q0 q1 q2 q3 g n2 LA LM LX LY ez EZ w3 wr) (hb : Below wr.heap.size wr w') (hB : B ≤ wr.heap.size) :
    MS B M q0 q1 q2 q3 g n2 LA LM LX LY ez EZ w3 w' :=
  ⟨h.r0.go hb, h.r1.go hb, h.r2.go hb, h.r3.go hb, h.ez.go hb, (hb.block g (blk_lt h.blk)).trans h.blk, h.below.trans (hb.mono hB), Nat.le_trans h.size hb.size⟩
theorem keep_drw {w : World} {a : Addr} {x : Option Value} (h : w.cell? a = x) : w.drew.cell? a = x := h
theorem keep_set1 {w : World} {q j b o : Nat} (u : Value) {x : Option Value} (hb : b ≠ q) (h : w.cell? ⟨b, o, none⟩ = x) : (w.setCell ⟨q, j, none⟩ u).cell? ⟨b, o, none⟩ = x := by
  rw [World.cell?_of_block (w := w) (Below.heap_setCell _ _ _ _ hb)]; exact h
set_option maxRecDepth 100000 in
set_option maxHeartbeats 8000000 in
theorem gkr_made (v : Value) (c : Ci) (i : Nat) (vz vb : Value) (z V : List Int) (w : World) (h : IsC w v c) (hG : Good c) (hi : i < c.layers.length) (hz : RowU w vz z) (hb : RowU w vb V) (hzl : (z.length : Int) = (aty c.layers i).log) (n : Nat) (hn : V.length = n) (hnk : n = 2 ^ (belowLog c i).toNat) :
    Calls Tryz.prog 161 #[v, .int .i64 i, vz, vb] w fun e w' => ∃ v', e = .returned v' ∧ NewT w.heap.size w' v' (layI (aty c.layers i).gates z V n) ∧ Below w.heap.size w w' := by
  have h16 : n ≤ 16 := by rw [hnk]; exact (pow4 (hG.below4 (by omega))).2
  have h1 : 1 ≤ n := by rw [hnk]; exact (pow4 (hG.below4 (by omega))).1
  have HC0 := Lib.hid h
  have Hz := Lib.hid hz; have Hb := Lib.hid hb
  have hz8 : z.length ≤ 8 := by have := hG.l4 i hi; omega
  have HG := Lib.hid hG
  have Hlen := Lib.hid (show (aty c.layers i).gates.length = 2 ^ z.length by rw [hG.len i hi]; congr 1; omega)
  have HIn := Lib.hid (hG.gatesIn hi)
  obtain ⟨hlog, u, rfl, hL⟩ := h
  obtain ⟨_, _, a, cap, rfl, hr⟩ := hL
  obtain ⟨b, off, rfl, hblt, hcell⟩ := hr (by omega)
  obtain ⟨_, ug, c2, hg⟩ := hcell i hi
  have Hg := Lib.hid hg
  obtain ⟨_, _, az, cz, rfl, _⟩ := hz
  obtain ⟨_, _, ab, cb, rfl, _⟩ := hb
  rw [hn]
  rw [hn] at Hb
  obtain ⟨n2, hn2⟩ : ∃ n2 : Nat, n * n = n2 := ⟨n * n, rfl⟩
  have Hn2 := Lib.hid hn2
  have hn2i : (n : Int) * (n : Int) = (n2 : Int) := by rw [← hn2]; exact (Int.natCast_mul n n).symm
  have hm1 : n2 ≤ 256 := by have := Nat.mul_le_mul h16 h16; omega
  have hn2p : 1 ≤ n2 := by have := Nat.mul_le_mul h1 h1; omega
  have hili : (i : Int) < (c.layers.length : Int) := by omega
  have HnV := Lib.hid hn
  have Hnk := Lib.hid hnk
  clear hr hcell hg hG hlog hn hnk hn2 hzl
  go_enter Tryz.func161, Tryz.ntmps161
  go_wp2_with (fail)
  obtain ⟨W, tb, rs, hW, e1, e2, l1, l2, k0, k1, hrs, hbel⟩ := made_start w (.int .i64 c.log) (.slice (some ⟨b, off, none⟩) c.layers.length cap) (.slice none 0 0) 62 198
  rw [hW, ← e2, ← e1]
  have HBW := Lib.hid (show Below w.heap.size w W from e1 ▸ hbel)
  have Htb := Lib.hid e1
  have Hrs := Lib.hid hrs
  clear hW e1 e2 hbel hrs
  refine wp_region_any (by kernel_rfl) ?_
  change wpAny _ _ _ _ _ _ _ (World.drew _)
  have HR := Lib.hid (show Below W.heap.size W W.drew from below_drewN (Below.refl _ _) 1)
  have hWd : W.drew.heap.size = W.heap.size := rfl
  generalize W.drew = W1 at *
  have hm2 : (n2 : Int) ≤ 256 := by omega
  have hm3 : (0 : Int) ≤ (n2 : Int) := by omega
  have hwn : IntKind.i64.wrap (n2 : Int) = (n2 : Int) := IntWalk.i64_in _ (by omega)
  refine wpAny_take (i := 0) (v := .int .i64 (n : Int)) rfl (by kernel_rfl) (by kernel_rfl) (by kernel_rfl) (fun _ _ _ h => h) (Or.inl ⟨by rfl, ?_⟩) ?_
  · intro w; go_simp; done
  refine wpAny_take (i := 1) (v := .int .i64 (n : Int)) rfl (by kernel_rfl) (by kernel_rfl) (by kernel_rfl) (fun _ _ _ h => h) (Or.inl ⟨by rfl, ?_⟩) ?_
  · intro w; go_simp; done
  refine wpAny_take (i := 2) (v := .int .i64 (n2 : Int)) rfl (by kernel_rfl) (by kernel_rfl) (by kernel_rfl) (fun _ _ _ h => h) (Or.inl ⟨by rfl, ?_⟩) ?_
  · intro w; go_simp; done
  refine wpAny_take (i := 4) (v := .int .i64 (n : Int)) rfl (by kernel_rfl) (by kernel_rfl) (by kernel_rfl) (fun _ _ _ h => h) (Or.inl ⟨by rfl, ?_⟩) ?_
  · intro w; go_simp; done
  refine wpAny_take (i := 5) (v := .int .i64 (n : Int)) rfl (by kernel_rfl) (by kernel_rfl) (by kernel_rfl) (fun _ _ _ h => h) (Or.inl ⟨by rfl, ?_⟩) ?_
  · intro w; go_simp; done
  refine wpAny_take (i := 6) (v := .int .i64 (n2 : Int)) rfl (by kernel_rfl) (by kernel_rfl) (by kernel_rfl) (fun _ _ _ h => h) (Or.inl ⟨by rfl, ?_⟩) ?_
  · intro w; go_simp; done
  refine wpAny_take (i := 8) (v := .int .i64 (n : Int)) rfl (by kernel_rfl) (by kernel_rfl) (by kernel_rfl) (fun _ _ _ h => h) (Or.inl ⟨by rfl, ?_⟩) ?_
  · intro w; go_simp; done
  refine wpAny_take (i := 9) (v := .int .i64 (n : Int)) rfl (by kernel_rfl) (by kernel_rfl) (by kernel_rfl) (fun _ _ _ h => h) (Or.inl ⟨by rfl, ?_⟩) ?_
  · intro w; go_simp; done
  refine wpAny_take (i := 10) (v := .int .i64 (n2 : Int)) rfl (by kernel_rfl) (by kernel_rfl) (by kernel_rfl) (fun _ _ _ h => h) (Or.inl ⟨by rfl, ?_⟩) ?_
  · intro w; go_simp; done
  refine wpAny_take (i := 12) (v := .int .i64 (n : Int)) rfl (by kernel_rfl) (by kernel_rfl) (by kernel_rfl) (fun _ _ _ h => h) (Or.inl ⟨by rfl, ?_⟩) ?_
  · intro w; go_simp; done
  refine wpAny_take (i := 13) (v := .int .i64 (n : Int)) rfl (by kernel_rfl) (by kernel_rfl) (by kernel_rfl) (fun _ _ _ h => h) (Or.inl ⟨by rfl, ?_⟩) ?_
  · intro w; go_simp; done
  refine wpAny_take (i := 14) (v := .int .i64 (n2 : Int)) rfl (by kernel_rfl) (by kernel_rfl) (by kernel_rfl) (fun _ _ _ h => h) (Or.inl ⟨by rfl, ?_⟩) ?_
  · intro w; go_simp; done
  go_simp
  clear hwn
  change wpAny _ _ _ _ 7 #[true, true, true, false, true, true, true, false, true, true, true, false, true, true, true, false, false, false, false] _ W1
  refine made_four _ rfl (by rfl) W1 n2 hm1 rfl rfl rfl rfl rfl rfl rfl rfl rfl rfl rfl rfl (by simp) (by simp) (by simp) (by simp) (by simp) (by simp) (by simp) (by rintro k (rfl | rfl | rfl | rfl) <;> simp [Region.binds]) (by rintro k (rfl | rfl) <;> simp [Region.binds]) ?_
  intro v0 v1 v2 v3 g w2 hM
  obtain ⟨⟨q0, rfl⟩, m0⟩ := hM.row 0 v0 rfl
  obtain ⟨⟨q1, rfl⟩, m1⟩ := hM.row 1 v1 rfl
  obtain ⟨⟨q2, rfl⟩, m2⟩ := hM.row 2 v2 rfl
  obtain ⟨⟨q3, rfl⟩, m3⟩ := hM.row 3 v3 rfl
  obtain ⟨p1, p2, p3, p4⟩ := hM.ptr g rfl
  have hPl : Pl4 W1.heap.size w2.heap.size q0 q1 q2 q3 g :=
    ⟨fun e => hM.apart 0 1 _ _ (by omega) rfl rfl q0 rfl (by rw [e]; rfl), fun e => hM.apart 0 2 _ _ (by omega) rfl rfl q0 rfl (by rw [e]; rfl), fun e => hM.apart 0 3 _ _ (by omega) rfl rfl q0 rfl (by rw [e]; rfl), fun e => hM.apart 1 2 _ _ (by omega) rfl rfl q1 rfl (by rw [e]; rfl), fun e => hM.apart 1 3 _ _ (by omega) rfl rfl q1 rfl (by rw [e]; rfl), fun e => hM.apart 2 3 _ _ (by omega) rfl rfl q2 rfl (by rw [e]; rfl),
      fun e => p3 0 _ rfl (by rw [e]; rfl), fun e => p3 1 _ rfl (by rw [e]; rfl), fun e => p3 2 _ rfl (by rw [e]; rfl), fun e => p3 3 _ rfl (by rw [e]; rfl), m0.blk, m1.blk, m2.blk, m3.blk, ⟨p1, p2⟩⟩
  have HPl := Lib.hid hPl
  have M0 := Lib.hid m0; have M1 := Lib.hid m1; have M2 := Lib.hid m2; have M3 := Lib.hid m3; have Mg := Lib.hid p4
  have HB2 := Lib.hid hM.below
  have HBw := Lib.hid (show Below w.heap.size w w2 from (HBW.out.trans (HR.out.mono HBW.out.size)).trans (hM.below.mono (by have := HBW.out.size; omega)))
  have hBW : w.heap.size ≤ W1.heap.size := by have := HBW.out.size; omega
  clear hM m0 m1 m2 m3 p1 p2 p3 p4 hPl
  have htb : tb < W1.heap.size := by omega
  have hrsB : rs < W1.heap.size := by omega
  have K1 := Lib.hid (show w2.cell? ⟨tb, 1, none⟩ = some (.slice (some ⟨b, off, none⟩) c.layers.length cap) from (HB2.out.cell (p := ⟨tb, 1, none⟩) htb).trans ((HR.out.cell (p := ⟨tb, 1, none⟩) (by exact (show tb < W.heap.size by omega))).trans k1))
  have Krs := Lib.hid ((HB2.out.block rs hrsB).trans ((HR.out.block rs (by omega)).trans Hrs.out))
  clear k0 k1
  have hB2 : W1.heap.size ≤ w2.heap.size := HB2.out.size
  generalize W1.heap.size = B at *
  unfold F6
  go_wp2_with (fail)
  refine (mle_Eq z _ _ (Hz.out.go HBw.out) hz8).mono ?_
  rintro e w3 ⟨ez, rfl, hnz, hb3⟩
  have Lz := Lib.hid (eqs_len' z)
  have Az := Lib.hid (fun b h => eqs_at0 (z.map phi) b h)
  generalize (eqs (z.map phi)).map psi = EZ at *
  obtain ⟨ge, ce, rfl, hge1, hge2, _, _⟩ := hnz.shape (by rw [Lz.out]; exact Nat.pow_pos (by decide))
  have hs23 := hb3.size
  have HMS := Lib.hid (show MS B w2.heap.size q0 q1 q2 q3 g n2 (List.replicate n2 0) (List.replicate n2 0) (List.replicate n2 0) (List.replicate n2 0) (.slice (some ⟨ge, 0, none⟩) EZ.length ce) EZ w3 w3 from
    ⟨M0.out.go hb3, M1.out.go hb3, M2.out.go hb3, M3.out.go hb3, hnz, (hb3.block g HPl.out.bg.2).trans Mg.out, Below.refl _ _, hs23⟩)
  have HBw3 := Lib.hid (below_two HBw.out hb3)
  have K1' := (hb3.cell (p := ⟨tb, 1, none⟩) (by exact Nat.lt_of_lt_of_le htb hB2)).trans K1.out
  have K2' := (HBw3.out.cell (p := ⟨b, off + i * 2 + 1, none⟩) (by exact hblt)).trans c2
  have Krs3 := Lib.hid ((hb3.block rs (by exact Nat.lt_of_lt_of_le hrsB hB2)).trans Krs.out)
  have HUz := Lib.hid hnz.1
  clear hnz hb3 c2 M0 M1 M2 M3 Mg
  obtain ⟨hgi, hgl, ag, cg, rfl, hgr⟩ := Hg.out
  have Hgr := Lib.hid hgr
  have hgl16 : (aty c.layers i).gates.length ≤ 16 := by rw [HG.out.len i hi]; exact (pow4 (HG.out.l4 i hi)).2
  have Hgd := Lib.hid (HG.out.gate i hi)
  have Hnk' := Lib.hid Hnk.out.symm
  clear hgr hgi hgl
  generalize hgs : (aty c.layers i).gates = gs at *
  have Hgs := Lib.hid hgs
  clear hgs
  rw [Hnk'.out] at Hgd HIn
  generalize w2.heap.size = M at *
  have hi0 : (0 : Int) ≤ (i : Int) := by omega
  go_wp2_with (fail)
  clear K2'
  go_loopw [49] (fun i wr => ∃ (j : Nat) (LA LM : List Int), j ≤ gs.length ∧ i = .int .i64 (j : Int) ∧ Hid (MS B M q0 q1 q2 q3 g n2 LA LM (List.replicate n2 0) (List.replicate n2 0) (.slice (some ⟨ge, 0, none⟩) EZ.length ce) EZ w3 wr) ∧ Hid (WAt gs false (z.map phi) n j LA) ∧ Hid (WAt gs true (z.map phi) n j LM)) (fun i _ => gs.length - (intOf i).toNat)
  case atStart => exact ⟨0, _, _, by omega, rfl, HMS.out, wAt_start _ _ _ _ _ Hn2.out.symm, wAt_start _ _ _ _ _ Hn2.out.symm⟩
  case round =>
    obtain ⟨j, LA, LM, hj, rfl, HS, HA, HMm⟩ := hrel
    by_cases hz : j < gs.length
    · obtain ⟨b2, off2, rfl, hb2lt, hgc⟩ := Hgr.out (by omega)
      obtain ⟨e1, e2, e3⟩ := hgc j hz
      have hbr := HBw3.out.trans (HS.out.below.mono hBW)
      have f1 := (hbr.cell (p := ⟨b2, off2 + j * 3, none⟩) (by exact hb2lt)).trans e1
      have f2 := (hbr.cell (p := ⟨b2, off2 + j * 3 + 1, none⟩) (by exact hb2lt)).trans e2
      have f3 := (hbr.cell (p := ⟨b2, off2 + j * 3 + 2, none⟩) (by exact hb2lt)).trans e3
      have hjl : (j : Int) < (gs.length : Int) := by omega
      have hj0 : (0 : Int) ≤ (j : Int) := by omega
      have hok := HIn.out j hz
      have hbd := gateOk_bd (Hgd.out j hz)
      have hAno := Lib.hid (fun hm => wAt_no (j := j) HA.out hm)
      have hMno := Lib.hid (fun hm => wAt_no (j := j) HMm.out hm)
      have hAyes := Lib.hid (fun hm (p : Nat) x hp hx h2 => wAt_yes (p := p) (x := x) (j := j) HA.out hm hp hx h2)
      have hMyes := Lib.hid (fun hm (p : Nat) x hp hx h2 => wAt_yes (p := p) (x := x) (j := j) HMm.out hm hp hx h2)
      have hjz : j < EZ.length := by rw [Lz.out, ← Hlen.out]; exact hz
      have hjzi : (j : Int) < (EZ.length : Int) := by omega
      have azj := Az.out j (by rw [List.length_map, ← Hlen.out]; exact hz)
      have hBwr : B ≤ wr.heap.size := Nat.le_trans hB2 HS.out.size
      have HLA := Lib.hid HA.out.1; have HLM := Lib.hid HMm.out.1
      clear hgc e1 e2 e3 hbr HA HMm
      generalize atg gs j = gt at *
      obtain ⟨gm, ga, gb⟩ := gt
      obtain ⟨hA, hB⟩ := hok
      obtain ⟨ga0, _, gb0, _⟩ := hbd
      simp only at f1 f2 f3 hA hB ga0 gb0
      obtain ⟨A, rfl⟩ : ∃ A : Nat, ga = (A : Int) := ⟨ga.toNat, by omega⟩
      obtain ⟨Bb, rfl⟩ : ∃ B : Nat, gb = (B : Int) := ⟨gb.toNat, by omega⟩
      have hA' : A < n := by omega
      have hB' : Bb < n := by omega
      have hpn := idx_lt hA' hB'
      obtain ⟨p, hp⟩ : ∃ p, A * n + Bb = p := ⟨_, rfl⟩
      rw [hp] at hpn
      have hidx := Lib.hid (show idxG ⟨gm, (A : Int), (Bb : Int)⟩ n = p from hp)
      obtain ⟨An, hAn⟩ : ∃ An : Nat, A * n = An := ⟨_, rfl⟩
      have hAni : (A : Int) * (n : Int) = (An : Int) := by rw [← hAn]; exact (Int.natCast_mul A n).symm
      have hsum : (An : Int) + (Bb : Int) = (p : Int) := by omega
      have hpn2 : p < n2 := by rw [← Hn2.out]; exact hpn
      have hpL : p < LA.length := by rw [HLA.out, Hn2.out]; exact hpn2
      have hpLM : p < LM.length := by rw [HLM.out, Hn2.out]; exact hpn2
      have hpi : (p : Int) < (n2 : Int) := by omega
      have hp0 : (0 : Int) ≤ (p : Int) := by omega
      have hAn256 : (An : Int) ≤ 256 := by omega
      have hpn' := Lib.hid hpn
      clear hA hB hp hAn hpn ga0 gb0
      cases gm
      · go_wp2_with (fail)
        obtain ⟨wv, rfl⟩ : ∃ x : World, x = wr := ⟨_, rfl⟩
        obtain ⟨X, hX, t0, t1, t2, hXb, hXs⟩ := copied3' wv (.bool false) (.int .i64 A) (.int .i64 Bb) 126
        rw [hX]
        have HX := Lib.hid (HS.out.go hXb hBwr)
        clear hX hXs hXb t0 t1 t2 f1 f2 f3
        have cz1 := HX.out.ez.cellAt j hjz
        have cT := HX.out.r0.cellAt p hpL
        have fT := HX.out.r0.freeAt p
        have cG : X.cell? ⟨g, 0, none⟩ = some (.slice (some ⟨q0, 0, none⟩) n2 n2) := cell_blk HX.out.blk 0
        have uT := HX.out.r0.1 _ (at0_mem hpL)
        rw [azj] at cz1
        generalize hTP : at0 LA p = TP at *
        have HTP := Lib.hid hTP
        clear hTP
        refine wp_region_still_tail 14 (by kernel_rfl) (by kernel_rfl) ?_
        simp only [List.take_succ_cons, List.take_zero, List.drop_succ_cons, List.drop_zero]
        repeat (first | still_step | still_call (still_of (field_Add _ _ _ uT (U64.psi _))))
        try refine wpStill_nil ?_
        change wpList _ _ _ _ _ (World.drew _)
        go_wp2
        go_roundw
        case rel => exact ⟨j + 1, LA.set p (psi (phi TP + phi (psi (eqAt (z.map phi) j)))), LM, by omega, by go_num, (HX.out.set0 HPl.out p _ (U64.psi _)).go (below_drw _) (by rw [setCell_size]; exact Nat.le_trans hB2 HX.out.size), by have := hAyes.out (by first | rfl | trivial) p _ hidx.out (phi_psi _) hpn'.out; rw [HTP.out] at this; exact this, hMno.out (by intro h; cases h)⟩
        case measure => simp [intOf]; omega
      · go_wp2_with (fail)
        obtain ⟨wv, rfl⟩ : ∃ x : World, x = wr := ⟨_, rfl⟩
        obtain ⟨X, hX, t0, t1, t2, hXb, hXs⟩ := copied3' wv (.bool true) (.int .i64 A) (.int .i64 Bb) 126
        rw [hX]
        have HX := Lib.hid (HS.out.go hXb hBwr)
        clear hX hXs hXb t0 t1 t2 f1 f2 f3
        have cz1 := HX.out.ez.cellAt j hjz
        have cT := HX.out.r1.cellAt p hpLM
        have fT := HX.out.r1.freeAt p
        have cG : X.cell? ⟨g, 1, none⟩ = some (.slice (some ⟨q1, 0, none⟩) n2 n2) := cell_blk HX.out.blk 1
        have uT := HX.out.r1.1 _ (at0_mem hpLM)
        rw [azj] at cz1
        generalize hTP : at0 LM p = TP at *
        have HTP := Lib.hid hTP
        clear hTP
        refine wp_region_still_tail 14 (by kernel_rfl) (by kernel_rfl) ?_
        simp only [List.take_succ_cons, List.take_zero, List.drop_succ_cons, List.drop_zero]
        repeat (first | still_step | still_call (still_of (field_Add _ _ _ uT (U64.psi _))))
        try refine wpStill_nil ?_
        change wpList _ _ _ _ _ (World.drew _)
        go_wp2
        go_roundw
        case rel => exact ⟨j + 1, LA, LM.set p (psi (phi TP + phi (psi (eqAt (z.map phi) j)))), by omega, by go_num, (HX.out.set1 HPl.out p _ (U64.psi _)).go (below_drw _) (by rw [setCell_size]; exact Nat.le_trans hB2 HX.out.size), hAno.out (by intro h; cases h), by have := hMyes.out (by first | rfl | trivial) p _ hidx.out (phi_psi _) hpn'.out; rw [HTP.out] at this; exact this⟩
        case measure => simp [intOf]; omega
    · obtain rfl : j = gs.length := by omega
      have HLA := Lib.hid (wAt_end HA.out); have HLM := Lib.hid (wAt_end HMm.out)
      clear HA HMm
      go_wp2_with (fail)
      obtain ⟨wo, rfl⟩ : ∃ x : World, x = wr := ⟨_, rfl⟩
      go_loopw [93] (fun i wr => ∃ (x : Nat) (LX LY : List Int), x ≤ n ∧ i = .int .i64 (x : Int) ∧ Hid (MS B M q0 q1 q2 q3 g n2 LA LM LX LY (.slice (some ⟨ge, 0, none⟩) EZ.length ce) EZ w3 wr) ∧ Hid (FAt (fun q => at0 V (q / n)) n2 (x * n) LX) ∧ Hid (FAt (fun q => at0 V (q % n)) n2 (x * n) LY)) (fun i _ => n - (intOf i).toNat)
      case atStart => exact ⟨0, _, _, by omega, rfl, HS.out, ⟨by simp, fun q hq => by omega⟩, ⟨by simp, fun q hq => by omega⟩⟩
      case round =>
        obtain ⟨x, LX, LY, hx, rfl, HS2, HX, HY⟩ := hrel
        by_cases hxn : x < n
        · have hxi : (x : Int) < (n : Int) := by omega
          go_wp2_with (fail)
          go_loopw [97] (fun i wr => ∃ (y : Nat) (LX LY : List Int), y ≤ n ∧ i = .int .i64 (y : Int) ∧ Hid (MS B M q0 q1 q2 q3 g n2 LA LM LX LY (.slice (some ⟨ge, 0, none⟩) EZ.length ce) EZ w3 wr) ∧ Hid (FAt (fun q => at0 V (q / n)) n2 (x * n + y) LX) ∧ Hid (FAt (fun q => at0 V (q % n)) n2 (x * n + y) LY)) (fun i _ => n - (intOf i).toNat)
          case atStart => exact ⟨0, LX, LY, by omega, rfl, HS2.out, HX.out, HY.out⟩
          case round =>
            rename_i wq
            clear HX HY HS2
            obtain ⟨y, LX, LY, hy, rfl, HS2, HX, HY⟩ := hrel
            by_cases hyn : y < n
            · have hyi : (y : Int) < (n : Int) := by omega
              have hpn := idx_lt hxn hyn
              have HX1 := Lib.hid (fun v h1 => fAt_step (x := v) HX.out (by rw [← Hn2.out]; exact hpn) h1)
              have HY1 := Lib.hid (fun v h1 => fAt_step (x := v) HY.out (by rw [← Hn2.out]; exact hpn) h1)
              have HdX := Lib.hid (idx_div (a := x) hyn); have HdY := Lib.hid (idx_mod (a := x) hyn)
              have HLX := Lib.hid HX.out.1; have HLY := Lib.hid HY.out.1
              obtain ⟨p, hp⟩ : ∃ p, x * n + y = p := ⟨_, rfl⟩
              have Hp1 := Lib.hid (show x * n + (y + 1) = p + 1 by omega)
              rw [hp] at hpn HX1 HY1 HdX HdY
              obtain ⟨An, hAn⟩ : ∃ An : Nat, x * n = An := ⟨_, rfl⟩
              have hAni : (x : Int) * (n : Int) = (An : Int) := by rw [← hAn]; exact (Int.natCast_mul x n).symm
              have hsum : (An : Int) + (y : Int) = (p : Int) := by omega
              have hpn2 : p < n2 := by rw [← Hn2.out]; exact hpn
              have hpX : p < LX.length := by rw [HLX.out]; exact hpn2
              have hpY : p < LY.length := by rw [HLY.out]; exact hpn2
              have hpi : (p : Int) < (n2 : Int) := by omega
              have hp0 : (0 : Int) ≤ (p : Int) := by omega
              have hx0 : (0 : Int) ≤ (x : Int) := by omega
              have hy0 : (0 : Int) ≤ (y : Int) := by omega
              have hAn256 : (An : Int) ≤ 256 := by omega
              clear hp hAn hpn HX HY
              have hBwr : B ≤ wr.heap.size := Nat.le_trans hB2 HS2.out.size
              obtain ⟨ub, _, ab', cb', e, hbc⟩ := Hb.out
              simp only [Value.slice.injEq] at e
              obtain ⟨rfl, -, rfl⟩ := e
              obtain ⟨bb, ob, rfl, hblt2, hbcell⟩ := hbc (by rw [HnV.out]; omega)
              have hbr := HBw3.out.trans (HS2.out.below.mono hBW)
              have cX := (hbr.cell (p := ⟨bb, ob + x, none⟩) hblt2).trans (hbcell x (by rw [HnV.out]; exact hxn))
              have cY := (hbr.cell (p := ⟨bb, ob + y, none⟩) hblt2).trans (hbcell y (by rw [HnV.out]; exact hyn))
              have uX := ub _ (at0_mem (l := V) (j := x) (by rw [HnV.out]; exact hxn))
              have uY := ub _ (at0_mem (l := V) (j := y) (by rw [HnV.out]; exact hyn))
              have cG2 : wr.cell? ⟨g, 2, none⟩ = some (.slice (some ⟨q2, 0, none⟩) n2 n2) := cell_blk HS2.out.blk 2
              have cG3 : wr.cell? ⟨g, 3, none⟩ = some (.slice (some ⟨q3, 0, none⟩) n2 n2) := cell_blk HS2.out.blk 3
              have cT2 := HS2.out.r2.cellAt p hpX
              have fT2 := HS2.out.r2.freeAt p
              have cT3 := HS2.out.r3.cellAt p hpY
              have fT3 := HS2.out.r3.freeAt p
              have n23 := HPl.out.n23
              clear hbc hbcell hbr ub
              generalize at0 LX p = OX at *
              generalize at0 LY p = OY at *
              generalize hVX : at0 V x = VX at *
              generalize hVY : at0 V y = VY at *
              have HVX := Lib.hid hVX; have HVY := Lib.hid hVY
              clear hVX hVY
              obtain ⟨wv, rfl⟩ : ∃ x : World, x = wr := ⟨_, rfl⟩
              go_wp2_with (fail)
              have hw1 : IntKind.i64.wrap (An : Int) = (An : Int) := IntWalk.i64_in _ (by omega)
              have hw2 : IntKind.i64.wrap (p : Int) = (p : Int) := IntWalk.i64_in _ (by omega)
              have hxi' : (x : Int) < (n : Int) := by omega
              have hpi' : (p : Int) < (n2 : Int) := by omega
              have hx0' : (0 : Int) ≤ (x : Int) := by omega
              have hp0' : (0 : Int) ≤ (p : Int) := by omega
              have nb2 : bb ≠ q2 := by have := HPl.out.b2.1; omega
              have nb3 : bb ≠ q3 := by have := HPl.out.b3.1; omega
              have ng2 : g ≠ q2 := HPl.out.g2
              have ng3 : g ≠ q3 := HPl.out.g3
              go_region_held3 (fun w' => w'.cell? ⟨g, 2, none⟩ = some (.slice (some ⟨q2, 0, none⟩) n2 n2) ∧ w'.cell? ⟨g, 3, none⟩ = some (.slice (some ⟨q3, 0, none⟩) n2 n2) ∧ w'.cell? ⟨bb, ob + x, none⟩ = some (.int .u64 VX) ∧ w'.cell? ⟨bb, ob + y, none⟩ = some (.int .u64 VY))
                (first
                  | with_reducible exact ⟨keep_drw cG2, keep_drw cG3, keep_drw cX, keep_drw cY⟩
                  | with_reducible exact ⟨keep_set1 _ ng2 (keep_drw cG2), keep_set1 _ ng2 (keep_drw cG3), keep_set1 _ nb2 (keep_drw cX), keep_set1 _ nb2 (keep_drw cY)⟩
                  | with_reducible exact ⟨keep_drw (keep_set1 _ ng2 cG2), keep_drw (keep_set1 _ ng2 cG3), keep_drw (keep_set1 _ nb2 cX), keep_drw (keep_set1 _ nb2 cY)⟩
                  | with_reducible exact ⟨keep_set1 _ ng3 (keep_drw cG2), keep_set1 _ ng3 (keep_drw cG3), keep_set1 _ nb3 (keep_drw cX), keep_set1 _ nb3 (keep_drw cY)⟩
                  | with_reducible exact ⟨keep_drw (keep_set1 _ ng3 (keep_set1 _ ng2 cG2)), keep_drw (keep_set1 _ ng3 (keep_set1 _ ng2 cG3)), keep_drw (keep_set1 _ nb3 (keep_set1 _ nb2 cX)), keep_drw (keep_set1 _ nb3 (keep_set1 _ nb2 cY))⟩
                  | with_reducible exact ⟨keep_set1 _ ng3 (keep_set1 _ ng2 (keep_drw cG2)), keep_set1 _ ng3 (keep_set1 _ ng2 (keep_drw cG3)), keep_set1 _ nb3 (keep_set1 _ nb2 (keep_drw cX)), keep_set1 _ nb3 (keep_set1 _ nb2 (keep_drw cY))⟩)
                (fail)
              go_wp2
              go_roundw
              case rel => exact ⟨y + 1, LX.set p VX, LY.set p VY, by omega, by go_num, (by first
                  | exact ((HS2.out.set2 HPl.out p VX uX).set3 HPl.out p VY uY).go (below_drw _) (by rw [setCell_size, setCell_size]; exact hBwr)
                  | exact ((HS2.out.go (below_drw _) hBwr).set2 HPl.out p VX uX).set3 HPl.out p VY uY), by rw [Hp1.out]; exact HX1.out VX (by rw [HdX.out]; exact HVX.out.symm), by rw [Hp1.out]; exact HY1.out VY (by rw [HdY.out]; exact HVY.out.symm)⟩
              case measure => simp [intOf]; omega
            · obtain rfl : y = n := by omega
              go_wp2
              go_roundw
              case rel => exact ⟨x + 1, LX, LY, by omega, by go_num, HS2.out, by rw [Nat.succ_mul]; exact HX.out, by rw [Nat.succ_mul]; exact HY.out⟩
              case measure => simp [intOf]; omega
        · obtain rfl : x = n := by omega
          have HLX := Lib.hid (show LX = (List.range (x * x)).map fun q => at0 V (q / x) by have := HX.out; rw [Hn2.out] at this ⊢; exact fAt_end this)
          have HLY := Lib.hid (show LY = (List.range (x * x)).map fun q => at0 V (q % x) by have := HY.out; rw [Hn2.out] at this ⊢; exact fAt_end this)
          have d0 : wr.cell? ⟨g, 0, none⟩ = some _ := cell_blk HS2.out.blk 0
          have d1 : wr.cell? ⟨g, 1, none⟩ = some _ := cell_blk HS2.out.blk 1
          have d2 : wr.cell? ⟨g, 2, none⟩ = some _ := cell_blk HS2.out.blk 2
          have d3 : wr.cell? ⟨g, 3, none⟩ = some _ := cell_blk HS2.out.blk 3
          have hrr := (HS2.out.below.block rs hrsB).trans Krs3.out
          have g0 : wr.cell? ⟨rs, 0, none⟩ = some _ := cell_blk hrr 0
          have g1 : wr.cell? ⟨rs, 1, none⟩ = some _ := cell_blk hrr 1
          have g2 : wr.cell? ⟨rs, 2, none⟩ = some _ := cell_blk hrr 2
          have g3 : wr.cell? ⟨rs, 3, none⟩ = some _ := cell_blk hrr 3
          have f0 := free_blk hrr 0; have f1 := free_blk hrr 1; have f2 := free_blk hrr 2; have f3 := free_blk hrr 3
          have Hrr := Lib.hid hrr
          clear hrr HX HY
          go_wp2_with (fail)
          clear d0 d1 d2 d3 g0 g1 g2 g3 f0 f1 f2 f3
          have hws : w.heap.size ≤ rs := by have := Htb.out; omega
          have HW := HBw3.out.trans (HS2.out.below.mono hBW)
          have hbw := (((HW.setCell (p := ⟨rs, 0, none⟩) hws (.slice (some ⟨q0, 0, none⟩) n2 n2)).setCell (p := ⟨rs, 1, none⟩) hws (.slice (some ⟨q1, 0, none⟩) n2 n2)).setCell (p := ⟨rs, 2, none⟩) hws (.slice (some ⟨q2, 0, none⟩) n2 n2)).setCell (p := ⟨rs, 3, none⟩) hws (.slice (some ⟨q3, 0, none⟩) n2 n2)
          have R0 := (((HS2.out.r0.low hrsB 0 (.slice (some ⟨q0, 0, none⟩) n2 n2)).low hrsB 1 (.slice (some ⟨q1, 0, none⟩) n2 n2)).low hrsB 2 (.slice (some ⟨q2, 0, none⟩) n2 n2)).low hrsB 3 (.slice (some ⟨q3, 0, none⟩) n2 n2)
          have R1 := (((HS2.out.r1.low hrsB 0 (.slice (some ⟨q0, 0, none⟩) n2 n2)).low hrsB 1 (.slice (some ⟨q1, 0, none⟩) n2 n2)).low hrsB 2 (.slice (some ⟨q2, 0, none⟩) n2 n2)).low hrsB 3 (.slice (some ⟨q3, 0, none⟩) n2 n2)
          have R2 := (((HS2.out.r2.low hrsB 0 (.slice (some ⟨q0, 0, none⟩) n2 n2)).low hrsB 1 (.slice (some ⟨q1, 0, none⟩) n2 n2)).low hrsB 2 (.slice (some ⟨q2, 0, none⟩) n2 n2)).low hrsB 3 (.slice (some ⟨q3, 0, none⟩) n2 n2)
          have R3 := (((HS2.out.r3.low hrsB 0 (.slice (some ⟨q0, 0, none⟩) n2 n2)).low hrsB 1 (.slice (some ⟨q1, 0, none⟩) n2 n2)).low hrsB 2 (.slice (some ⟨q2, 0, none⟩) n2 n2)).low hrsB 3 (.slice (some ⟨q3, 0, none⟩) n2 n2)
          have hblk := blk_setCell (blk_setCell (blk_setCell (blk_setCell Hrr.out 0 (.slice (some ⟨q0, 0, none⟩) n2 n2)) 1 (.slice (some ⟨q1, 0, none⟩) n2 n2)) 2 (.slice (some ⟨q2, 0, none⟩) n2 n2)) 3 (.slice (some ⟨q3, 0, none⟩) n2 n2)
          rw [HLA.out, ← Hgs.out] at R0; rw [HLM.out, ← Hgs.out] at R1; rw [HLX.out] at R2; rw [HLY.out] at R3
          generalize (((wr.setCell ⟨rs, 0, none⟩ (.slice (some ⟨q0, 0, none⟩) n2 n2)).setCell ⟨rs, 1, none⟩ (.slice (some ⟨q1, 0, none⟩) n2 n2)).setCell ⟨rs, 2, none⟩ (.slice (some ⟨q2, 0, none⟩) n2 n2)).setCell ⟨rs, 3, none⟩ (.slice (some ⟨q3, 0, none⟩) n2 n2) = wz at *
          have d0 : wz.cell? ⟨rs, 0, none⟩ = some (.slice (some ⟨q0, 0, none⟩) n2 n2) := cell_blk hblk 0
          have d1 : wz.cell? ⟨rs, 1, none⟩ = some (.slice (some ⟨q1, 0, none⟩) n2 n2) := cell_blk hblk 1
          have d2 : wz.cell? ⟨rs, 2, none⟩ = some (.slice (some ⟨q2, 0, none⟩) n2 n2) := cell_blk hblk 2
          have d3 : wz.cell? ⟨rs, 3, none⟩ = some (.slice (some ⟨q3, 0, none⟩) n2 n2) := cell_blk hblk 3
          exact bodyPost_ret (v := .agg #[.slice (some ⟨q0, 0, none⟩) n2 n2, .slice (some ⟨q1, 0, none⟩) n2 n2, .slice (some ⟨q2, 0, none⟩) n2 n2, .slice (some ⟨q3, 0, none⟩) n2 n2]) (by simp [results, Tryz.results161, go_sem, d0, d1, d2, d3]) rfl ⟨_, rfl, ⟨_, _, _, _, rfl, R0.mono hBW, R1.mono hBW, R2.mono hBW, R3.mono hBW⟩, hbw⟩
end Go.Proofs.YtlfneeobnihocaaGreatDoor
