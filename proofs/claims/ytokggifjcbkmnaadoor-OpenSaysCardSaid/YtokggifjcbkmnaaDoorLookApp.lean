/- Append of a pair, of a look, at a step of a region that draws its order. No condition. -/
import Derived.Test.YtokggifjcbkmnaaDoorLooks
import Derived.Deep.RegionLaw
namespace Go.Proofs.YtokggifjcbkmnaaDoor
set_option maxRecDepth 100000
set_option linter.unusedVariables false
open Go.ChangeShapes Go.WideShapes Go.ChangeAt Go.RowKit Go.Deep Go.Joins
theorem step_appA {ops : Array Oper} {o : Oper} {a : Act} {K : Act → World → Prop} {Q : Exit → Act → World → Prop} {E : Prop} {w0 : World} (hgd : o.guard = none) (s x : Operand)
    (ho : o.op = .call { callee := .builtin .append, args := #[s, x], argTypes := #[61, 61] })
    (B : Nat) (v : Value) (l : List (Int × Int)) (hs : a.eval s = v) (hown : NewA B w0 v l) (y z : Int) (hx : a.eval x = .slice (some ⟨w0.heap.size, 0, none⟩) 1 1) (hy : U64 y) (hz : U64 z)
    (hlen : l.length + 1 ≤ 1000) (hB : B ≤ w0.heap.size)
    (h : ∀ v' w', NewA B w' v' (l ++ [(y, z)]) → w0.grownBy w' v.ownBlock → (v'.ownBlock = v.ownBlock ∨ ∃ b, v'.ownBlock = some b ∧ w0.heap.size ≤ b) → K (a.put o.dst v') w') :
    if Region.wanted o (yielded ops a.tmps) = true then Oper.wp Tryd.prog o a (w0.alloc (.cells #[.int .u64 y, .int .u64 z] 67)) K Q else E := by
  obtain ⟨i0, hi1, hz0, hz1, hz2⟩ := info_parts Tryd.infoA
  refine step_append_lies _ hgd s x _ ho B 67 i0 (.agg #[.int .u64 0, .int .u64 0]) 2 16 Tryd.underlying61 hi1 hz0 hz1 hz2 rfl (by decide) v l.length _ hs (hown.2.2.alloc _) ⟨w0.heap.size, 0, none⟩ 1 1 [.int .u64 y, .int .u64 z] hx rfl
    (World.news_of_block (cs := #[.int .u64 y, .int .u64 z]) (t := 67) (fr := (0, 0)) (alloc_blk w0 _)) (by simp [Value.oneCell']) (by decide) (by unfold maxLen; omega) (by omega) (by simp; omega) (w0.heap.size + 1) (by simp) ?_
  intro g cap w' h1 h2 h3 _
  refine h _ w' ⟨?_, by simp; omega, by simpa [flatA_append, flatA] using h1⟩ (grownBy_chain (below_toGrown ((Below.refl _ _).alloc (Nat.le_refl _) _) _) h2) (h3.elim (fun e => .inl e.symm) fun e => .inr ⟨g, rfl, by omega⟩)
  intro p hp
  rcases List.mem_append.mp hp with hp | hp
  · exact hown.1 p hp
  · rw [List.mem_singleton.mp hp]; exact ⟨hy, hz⟩
/-- append of a pair -/
theorem wpList_appA {ops : Array Oper} {rest : List Oper} {o : Oper} {a : Act} {Q : Exit → Act → World → Prop} {w0 : World} (hgd : o.guard = none) (s x : Operand)
    (ho : o.op = .call { callee := .builtin .append, args := #[s, x], argTypes := #[61, 61] })
    (B : Nat) (v : Value) (l : List (Int × Int)) (hs : a.eval s = v) (hown : NewA B w0 v l) (y z : Int) (hx : a.eval x = .slice (some ⟨w0.heap.size, 0, none⟩) 1 1) (hy : U64 y) (hz : U64 z)
    (hlen : l.length + 1 ≤ 1000) (hB : B ≤ w0.heap.size)
    (h : ∀ v' w', NewA B w' v' (l ++ [(y, z)]) → Below B w0 w' → w0.grownBy w' v.ownBlock → (v'.ownBlock = v.ownBlock ∨ ∃ b, v'.ownBlock = some b ∧ w0.heap.size ≤ b) → wpList Tryd.prog ops Q rest (a.put o.dst v') w') : wpList Tryd.prog ops Q (o :: rest) a (w0.alloc (.cells #[.int .u64 y, .int .u64 z] 67)) := by
  obtain ⟨i0, hi1, hz0, hz1, hz2⟩ := info_parts Tryd.infoA
  have hlt := hown.2.2.lt
  refine wpList_append_own_at _ hgd s x _ ho B 67 i0 (.agg #[.int .u64 0, .int .u64 0]) 2 16 Tryd.underlying61 hi1 hz0 hz1 hz2 rfl (by decide) v l.length _ hs (hown.2.2.alloc _) ⟨w0.heap.size, 0, none⟩ 1 1 [.int .u64 y, .int .u64 z] hx (by simp) ?_ (by simp [Value.oneCell']) (by unfold maxLen; omega) (by omega) (by simp; omega) ?_
  · exact World.news_of_block (cs := #[.int .u64 y, .int .u64 z]) (t := 67) (fr := (0, 0)) (alloc_blk w0 _)
  · intro v' w' h5 h6 _ h8
    have hal : Below w0.heap.size w0 (w0.alloc (.cells #[.int .u64 y, .int .u64 z] 67)) := (Below.refl _ _).alloc (Nat.le_refl _) _
    have hsz : (w0.alloc (.cells #[.int .u64 y, .int .u64 z] 67)).heap.size = w0.heap.size + 1 := by simp
    have hg0 : w0.grownBy w' v.ownBlock := grownBy_chain (below_toGrown hal _) h6
    have hbl : Below B w0 w' := ((Below.refl B w0).alloc hB _).grown h6 (by simp; omega) fun k hk => (hlt k hk).1
    refine h v' w' ⟨?_, by simp; omega, by simpa [flatA_append, flatA] using h5⟩ hbl hg0 (h8.imp id fun e => ⟨_, e, by rw [hsz]; omega⟩)
    intro p hp
    rcases List.mem_append.mp hp with hp | hp
    · exact hown.1 p hp
    · rw [List.mem_singleton.mp hp]; exact ⟨hy, hz⟩
end Go.Proofs.YtokggifjcbkmnaaDoor
