/- Several texts in one: MemU, Grown, Far. What each says, and its conditions, stands at its head. -/
import Derived.Test.YtlfneeobnihocaaGreatDoorUni
import Derived.Maps.AppendAt
import Derived.Deep.AppendLies
import Derived.Lib.QuietBelow
import Derived.BigQuiet
/- Memory: a list of lists that a call makes, and appends to. No condition. -/
namespace Go.Proofs.YtlfneeobnihocaaGreatDoor
set_option maxRecDepth 100000
set_option linter.unusedVariables false
open Go.RowKit Tally
theorem Tryz.infoUU : (Tryz.prog.info? 53).map (fun i => (i.zero, i.size, i.bytes)) = some (some (.slice none 0 0), 1, 24) := by kernel_rfl
/-- v is a slice of slices in memory from block B on, that its holder may append to; it reads as ll; its rows lie apart from it -/
def NewUU (B : Nat) (w : World) (v : Value) (ll : List (List Int)) : Prop :=
  ll.length * 24 ≤ 140737488351232 ∧ ∃ us : List Value, us.length = ll.length ∧ w.ownsRow B 53 1 v ll.length us ∧
    ∀ j, j < ll.length → ∃ u, us[j]? = some u ∧ NewU B w u (atl ll j) ∧ ∀ g, v.ownBlock = some g → u.ownBlock ≠ some g
theorem NewU.isSlice {B : Nat} {w : World} {v : Value} {l : List Int} (h : NewU B w v l) : ∃ a c, v = .slice a l.length c := by
  rcases h.2.2.2 with ⟨rfl, h0⟩ | ⟨g, cap, cur, rfl, _⟩
  · exact ⟨none, 0, by rw [h0]⟩
  · exact ⟨_, _, rfl⟩
theorem NewU.lt {B : Nat} {w : World} {v : Value} {l : List Int} (h : NewU B w v l) {g : Nat} (hg : v.ownBlock = some g) : B ≤ g ∧ g < w.heap.size := h.2.2.lt g hg
theorem NewUU.lt {B : Nat} {w : World} {v : Value} {ll : List (List Int)} (h : NewUU B w v ll) {g : Nat} (hg : v.ownBlock = some g) : B ≤ g ∧ g < w.heap.size := by
  obtain ⟨_, us, _, ho, _⟩ := h
  exact ho.lt g hg
theorem ownsRow_grown {w w' : World} {B : Nat} {e : TypeId} {s : Nat} {v : Value} {n : Nat} {xs : List Value} {r : Option Nat} (h : w.ownsRow B e s v n xs) (hg : w.grownBy w' r) (hne : ∀ g, v.ownBlock = some g → r ≠ some g) : w'.ownsRow B e s v n xs := by
  have hlt := h.lt
  obtain ⟨h1, h2⟩ := h
  refine ⟨h1, ?_⟩
  rcases h2 with h2 | ⟨g, cap, cur, rfl, hg1, hh, r1⟩
  · exact .inl h2
  · refine .inr ⟨g, cap, cur, rfl, hg1, ?_, r1⟩
    rw [hg.block g (hlt g rfl).2 (fun e => hne g rfl e.symm)]; exact hh
theorem NewU.grownOther {B : Nat} {w w' : World} {v : Value} {l : List Int} {r : Option Nat} (h : NewU B w v l) (hg : w.grownBy w' r) (hne : ∀ g, v.ownBlock = some g → r ≠ some g) : NewU B w' v l :=
  ⟨h.1, h.2.1, ownsRow_grown h.2.2 hg hne⟩
theorem NewUU.below {B K : Nat} {w w' : World} {v : Value} {ll : List (List Int)} (h : NewUU B w v ll) (hb : Below K w w') (hK : w.heap.size ≤ K) : NewUU B w' v ll := by
  obtain ⟨h1, us, h2, h3, h4⟩ := h
  refine ⟨h1, us, h2, ownsRow_below h3 hb hK, fun j hj => ?_⟩
  obtain ⟨u, e, hu, hn⟩ := h4 j hj
  exact ⟨u, e, hu.below hb hK, hn⟩
theorem NewUU.mono {B B' : Nat} {w : World} {v : Value} {ll : List (List Int)} (h : NewUU B w v ll) (hB : B' ≤ B) : NewUU B' w v ll := by
  obtain ⟨h1, us, h2, h3, h4⟩ := h
  refine ⟨h1, us, h2, ownsRow_mono h3 hB, fun j hj => ?_⟩
  obtain ⟨u, e, hu, hn⟩ := h4 j hj
  exact ⟨u, e, hu.mono hB, hn⟩
theorem NewUU.nil (B : Nat) (w : World) : NewUU B w (.slice none 0 0) [] := ⟨by simp, [], rfl, World.ownsRow_nil w B _ _, fun j hj => absurd hj (by simp)⟩
theorem NewUU.len {B : Nat} {w : World} {v : Value} {ll : List (List Int)} (h : NewUU B w v ll) : ll.length ≤ 5864062014634 := by have := h.1; omega
theorem NewUU.isSlice {B : Nat} {w : World} {v : Value} {ll : List (List Int)} (h : NewUU B w v ll) : ∃ a c, v = .slice a ll.length c := by
  obtain ⟨_, us, _, h3, _⟩ := h
  rcases h3.2 with ⟨rfl, h0⟩ | ⟨g, cap, cur, rfl, _⟩
  · exact ⟨none, 0, by rw [h0]⟩
  · exact ⟨_, _, rfl⟩
theorem NewUU.rows {B : Nat} {w : World} {v : Value} {ll : List (List Int)} (h : NewUU B w v ll) : RowUU w v ll := by
  obtain ⟨h1, us, h2, h3, h4⟩ := h
  have h3' := h3
  refine ⟨by omega, ?_⟩
  rcases h3.2 with ⟨rfl, h0⟩ | ⟨g, cap, cur, rfl, hg, hh, hn, hcap, hs, ht⟩
  · exact ⟨none, 0, by rw [h0], fun hl => by omega⟩
  · refine ⟨_, cap, rfl, fun hl => ⟨g, 0, rfl, (h3'.lt g rfl).2, fun j hj => ?_⟩⟩
    obtain ⟨u, e, hu, _⟩ := h4 j hj
    refine ⟨u, ?_, hu.row⟩
    have := h3'.cellAt j (by omega)
    rw [Nat.zero_add, this]; exact e
theorem NewUU.lit1 (B : Nat) (w : World) (u : Value) (l : List Int) (h : NewU B w u l) (hB : B ≤ w.heap.size) : NewUU B (w.alloc (.cells #[u] 53)) (.slice (some ⟨w.heap.size, 0, none⟩) 1 1) [l] := by
  refine ⟨by simp, [u], rfl, ?_, fun j hj => ?_⟩
  · exact ownsRow_mono (World.ownsRow_lit w #[u] 1 (Nat.le_refl _) (by unfold maxLen; omega) rfl) hB
  · obtain rfl : j = 0 := by simp at hj; omega
    refine ⟨u, rfl, h.below ((Below.refl _ _).alloc (Nat.le_refl _) _) (Nat.le_refl _), fun g hg hu => ?_⟩
    have := (h.lt hu).2
    have hg' : w.heap.size = g := by simpa [Value.ownBlock] using hg
    omega
theorem atl_append_left (ll : List (List Int)) (l : List Int) (j : Nat) (h : j < ll.length) : atl (ll ++ [l]) j = atl ll j := by
  simp [atl, List.getElem?_append_left h]
theorem atl_append_last (ll : List (List Int)) (l : List Int) : atl (ll ++ [l]) ll.length = l := by simp [atl]
/-- append of one list -/
theorem wpList_appUU {ops : Array Oper} {rest : List Oper} {o : Oper} {a : Act} {Q : Exit → Act → World → Prop} {w0 : World} (hgd : o.guard = none) (s x : Operand)
    (ho : o.op = .call { callee := .builtin .append, args := #[s, x], argTypes := #[76, 76] })
    (B : Nat) (v : Value) (ll : List (List Int)) (hs : a.eval s = v) (hown : NewUU B w0 v ll) (u : Value) (l : List Int) (hu : NewU B w0 u l) (hne : ∀ g, v.ownBlock = some g → u.ownBlock ≠ some g)
    (hx : a.eval x = .slice (some ⟨w0.heap.size, 0, none⟩) 1 1) (hlen : ll.length + 1 ≤ 5864062014634) (hB : B ≤ w0.heap.size)
    (h : ∀ v' w', NewUU B w' v' (ll ++ [l]) → NewU B w' u l → Below B w0 w' → wpList Tryz.prog ops Q rest (a.put o.dst v') w') : wpList Tryz.prog ops Q (o :: rest) a (w0.alloc (.cells #[u] 53)) := by
  obtain ⟨i0, hi1, hz0, hz1, hz2⟩ := info_parts Tryz.infoUU
  obtain ⟨h1, us, h2, h3, h4⟩ := hown
  have hlt := h3.lt
  have h1c : u.oneCell' = true := by
    obtain ⟨_, _, ho⟩ := hu
    rcases ho.2 with ⟨rfl, _⟩ | ⟨g, cap, cur, rfl, _⟩ <;> rfl
  refine wpList_append_own_at _ hgd s x _ ho B 53 i0 (.slice none 0 0) 1 24 Tryz.underlying76 hi1 hz0 hz1 hz2 rfl (by decide) v ll.length us hs (h3.alloc _) ⟨w0.heap.size, 0, none⟩ 1 1 [u] hx (by simp) ?_ (by simpa using h1c) (by unfold maxLen; omega) (by omega) (by simp; omega) ?_
  · intro j y hj
    have hj0 : j = 0 := by
      rcases Nat.eq_zero_or_pos j with h | h
      · exact h
      · rw [List.getElem?_eq_none (by simp; omega)] at hj; cases hj
    subst hj0
    have e1 : ((⟨w0.heap.size, 0, none⟩ : Addr).add 0) = ⟨w0.heap.size, 0, none⟩ := by rw [Addr.add_lit]
    rw [e1, World.cell?_alloc_at _ _ _ _ rfl]
    simpa using hj
  · intro v' w' h5 h6 _ h8
    have hal : Below w0.heap.size w0 (w0.alloc (.cells #[u] 53)) := (Below.refl _ _).alloc (Nat.le_refl _) _
    have hbl : Below B w0 w' := ((Below.refl B w0).alloc hB _).grown h6 (by simp; omega) fun k hk => (hlt k hk).1
    have hu' : NewU B w' u l := (hu.below hal (Nat.le_refl _)).grownOther h6 (fun g hg hr => hne g hr hg)
    refine h v' w' ⟨by simp; omega, us ++ [u], by simp [h2], by simpa using h5, fun j hj => ?_⟩ hu' hbl
    have hsz : (w0.alloc (.cells #[u] 53)).heap.size = w0.heap.size + 1 := by simp
    have apart : ∀ y : Value, (∀ g, v.ownBlock = some g → y.ownBlock ≠ some g) → (∀ g, y.ownBlock = some g → g < w0.heap.size) → ∀ g, v'.ownBlock = some g → y.ownBlock ≠ some g := by
      intro y hy1 hy2 g hg hyg
      rcases h8 with h8 | h8
      · rw [h8] at hg; exact hy1 g hg hyg
      · rw [h8, hsz] at hg
        have := hy2 g hyg
        cases hg; omega
    by_cases hj2 : j < ll.length
    · obtain ⟨y, e, hy, hyn⟩ := h4 j hj2
      refine ⟨y, by rw [List.getElem?_append_left (by omega)]; exact e, ?_, apart y hyn (fun g hg => (hy.lt hg).2)⟩
      rw [atl_append_left _ _ _ hj2]
      exact (hy.below hal (Nat.le_refl _)).grownOther h6 (fun g hg hr => hyn g hr hg)
    · obtain rfl : j = ll.length := by simp at hj; omega
      refine ⟨u, by rw [← h2]; simp, ?_, apart u hne (fun g hg => (hu.lt hg).2)⟩
      rw [atl_append_last]; exact hu'
/-- append of one number, at a step of a region that draws its order -/
theorem step_appU {ops : Array Oper} {o : Oper} {a : Act} {K : Act → World → Prop} {Q : Exit → Act → World → Prop} {E : Prop} {w0 : World} (hgd : o.guard = none) (s x : Operand)
    (ho : o.op = .call { callee := .builtin .append, args := #[s, x], argTypes := #[53, 53] })
    (B : Nat) (v : Value) (l : List Int) (hs : a.eval s = v) (hown : NewU B w0 v l) (y : Int) (hx : a.eval x = .slice (some ⟨w0.heap.size, 0, none⟩) 1 1) (hy : U64 y)
    (hlen : l.length + 1 ≤ 17592186043904) (hB : B ≤ w0.heap.size)
    (h : ∀ v' w', NewU B w' v' (l ++ [y]) → Below B w0 w' → K (a.put o.dst v') w') :
    if Region.wanted o (yielded ops a.tmps) = true then Oper.wp Tryz.prog o a (w0.alloc (.cells #[.int .u64 y] 57)) K Q else E := by
  obtain ⟨i0, hi1, hz0, hz1, hz2⟩ := info_parts Tryz.infoU
  have hlt := hown.2.2.lt
  refine step_append_lies _ hgd s x _ ho B 57 i0 (.int .u64 0) 1 8 Tryz.underlying53 hi1 hz0 hz1 hz2 rfl (by decide) v l.length _ hs (hown.2.2.alloc _) ⟨w0.heap.size, 0, none⟩ 1 1 [.int .u64 y] hx rfl
    (World.news_of_block (cs := #[.int .u64 y]) (t := 57) (fr := (0, 0)) (alloc_blk w0 _)) (by simp [Value.oneCell']) (by decide) (by unfold maxLen; omega) (by omega) (by simp; omega) (w0.heap.size + 1) (by simp) ?_
  intro g cap w' h1 h2 _ _
  refine h _ w' ⟨?_, by simp; omega, by simpa using h1⟩ (((Below.refl B w0).alloc hB _).grown h2 (by simp; omega) fun k hk => (hlt k hk).1)
  intro z hz
  rcases List.mem_append.mp hz with hz | hz
  · exact hown.1 z hz
  · rw [List.mem_singleton.mp hz]; exact hy
end Go.Proofs.YtlfneeobnihocaaGreatDoor
/- Regions that draw their order and whose callees make memory: the contracts, met in a world of the class of Derived.Lib.QuietBelow; worlds with a struct copied. No condition. -/
namespace Go.Proofs.YtlfneeobnihocaaGreatDoor
set_option maxRecDepth 100000
set_option linter.unusedVariables false
open Go.RowKit Tally
open Go.Sort (grow)
/-- a contract that leaves the world alone -/
theorem regrown_same {Pr : Program} {f : FuncId} {args : Array Value} {w : World} {d : Nat} {os : Array Obj} {v : Value}
    (h : Calls Pr f args (grow (redrawn w d) os) fun e w' => e = .returned v ∧ grow (redrawn w d) os = w') : Calls Pr f args (grow (redrawn w d) os) fun e w'' => e = .returned v ∧ ∃ p : Regrown, w'' = grow (redrawn w p.d) p.os :=
  h.mono fun _ _ ⟨he, hw⟩ => ⟨he, ⟨d, os⟩, hw.symm⟩
/-- a contract that only draws -/
theorem regrown_drawn {Pr : Program} {f : FuncId} {args : Array Value} {w : World} {d : Nat} {os : Array Obj} {v : Value}
    (h : Calls Pr f args (grow (redrawn w d) os) fun e w' => e = .returned v ∧ Drawn (grow (redrawn w d) os) w') : Calls Pr f args (grow (redrawn w d) os) fun e w'' => e = .returned v ∧ ∃ p : Regrown, w'' = grow (redrawn w p.d) p.os :=
  Calls.regrown_of (h.mono fun _ _ ⟨he, hw⟩ => ⟨he, hw.below⟩)
theorem RowU.regrown {w : World} {v : Value} {l : List Int} (h : RowU w v l) (d : Nat) (os : Array Obj) : RowU (grow (redrawn w d) os) v l := h.below (below_regrown w d os) (Nat.le_refl _)
theorem copied1' (w : World) (x : Value) (t : Nat) : ∃ W, w.alloc (.cells #[x] t) = W ∧ W.cell? ⟨w.heap.size, 0, none⟩ = some x ∧ Below w.heap.size w W ∧ W.heap.size = w.heap.size + 1 := by
  refine ⟨_, rfl, ?_, (Below.refl _ _).alloc (Nat.le_refl _) _, by simp⟩
  rw [World.cell?_alloc_at _ _ _ _ rfl]; rfl
theorem copied2' (w : World) (x y : Value) (t : Nat) : ∃ W, w.alloc (.cells #[x, y] t) = W ∧ W.cell? ⟨w.heap.size, 0, none⟩ = some x ∧ W.cell? ⟨w.heap.size, 1, none⟩ = some y ∧ Below w.heap.size w W ∧ W.heap.size = w.heap.size + 1 := by
  refine ⟨_, rfl, ?_, ?_, (Below.refl _ _).alloc (Nat.le_refl _) _, by simp⟩
  · rw [World.cell?_alloc_at _ _ _ _ rfl]; rfl
  · rw [World.cell?_alloc_at _ _ _ _ rfl]; rfl
theorem copied3' (w : World) (x y z : Value) (t : Nat) : ∃ W, w.alloc (.cells #[x, y, z] t) = W ∧ W.cell? ⟨w.heap.size, 0, none⟩ = some x ∧ W.cell? ⟨w.heap.size, 1, none⟩ = some y ∧ W.cell? ⟨w.heap.size, 2, none⟩ = some z ∧ Below w.heap.size w W ∧ W.heap.size = w.heap.size + 1 := by
  refine ⟨_, rfl, ?_, ?_, ?_, (Below.refl _ _).alloc (Nat.le_refl _) _, by simp⟩
  · rw [World.cell?_alloc_at _ _ _ _ rfl]; rfl
  · rw [World.cell?_alloc_at _ _ _ _ rfl]; rfl
  · rw [World.cell?_alloc_at _ _ _ _ rfl]; rfl
theorem below_two {a b c : World} (h : Below a.heap.size a b) (k : Below b.heap.size b c) : Below a.heap.size a c := h.trans (k.mono h.size)
theorem RowU.go {w w' : World} {v : Value} {l : List Int} (h : RowU w v l) (hb : Below w.heap.size w w') : RowU w' v l := h.below hb (Nat.le_refl _)
end Go.Proofs.YtlfneeobnihocaaGreatDoor
/- What stays whatever is written to some blocks; append of a list, with what lies in other blocks. No condition. -/
namespace Go.Proofs.YtlfneeobnihocaaGreatDoor
set_option maxRecDepth 100000
set_option linter.unusedVariables false
open Go.RowKit Tally
/-- Q holds whatever is written to the blocks of S, or made anew -/
def Far (S : Nat → Prop) (Q : World → Prop) (w : World) : Prop := ∀ w' : World, w.heap.size ≤ w'.heap.size → (∀ b, b < w.heap.size → ¬ S b → w'.heap[b]? = w.heap[b]?) → Q w'
theorem Far.now {S : Nat → Prop} {Q : World → Prop} {w : World} (h : Far S Q w) : Q w := h w (Nat.le_refl _) fun _ _ _ => rfl
theorem Far.fresh {S S' : Nat → Prop} {Q : World → Prop} {w w' : World} (h : Far S Q w) (hs : w.heap.size ≤ w'.heap.size) (hk : ∀ b, b < w.heap.size → ¬ S b → w'.heap[b]? = w.heap[b]?) (hS : ∀ b, b < w.heap.size → S' b → S b) : Far S' Q w' :=
  fun w'' h2 k2 => h w'' (Nat.le_trans hs h2) fun b hb hn => (k2 b (Nat.lt_of_lt_of_le hb hs) fun e => hn (hS b hb e)).trans (hk b hb hn)
theorem Far.step {S : Nat → Prop} {Q : World → Prop} {w w' : World} (h : Far S Q w) (hs : w.heap.size ≤ w'.heap.size) (hk : ∀ b, b < w.heap.size → ¬ S b → w'.heap[b]? = w.heap[b]?) : Far S Q w' := h.fresh hs hk fun _ _ e => e
theorem Far.go {S : Nat → Prop} {Q : World → Prop} {w w' : World} (h : Far S Q w) (hb : Below w.heap.size w w') : Far S Q w' := h.step hb.size fun b hlt _ => hb.block b hlt
theorem Far.less {S S' : Nat → Prop} {Q : World → Prop} {w : World} (h : Far S Q w) (hS : ∀ b, b < w.heap.size → S' b → S b) : Far S' Q w := h.fresh (Nat.le_refl _) (fun _ _ _ => rfl) hS
theorem Far.grown {S : Nat → Prop} {Q : World → Prop} {w w' : World} {r : Option Nat} (h : Far S Q w) (hg : w.grownBy w' r) (hr : ∀ g, r = some g → g < w.heap.size → S g) : Far S Q w' :=
  h.step hg.size fun b hlt hn => hg.block b hlt fun e => hn (hr b e.symm hlt)
theorem Far.set {S : Nat → Prop} {Q : World → Prop} {w : World} {b : Nat} (h : Far S Q w) (hb : S b) (j : Nat) (u : Value) : Far S Q (w.setCell ⟨b, j, none⟩ u) :=
  h.grown (grownBy_setCell _ _ _ _) fun g e _ => by cases e; exact hb
theorem Far.imp {S : Nat → Prop} {Q Q' : World → Prop} {w : World} (h : Far S Q w) (hq : ∀ w, Q w → Q' w) : Far S Q' w := fun w' a b => hq w' (h w' a b)
theorem Far.and {S : Nat → Prop} {Q Q' : World → Prop} {w : World} (h : Far S Q w) (k : Far S Q' w) : Far S (fun w => Q w ∧ Q' w) w := fun w' a b => ⟨h w' a b, k w' a b⟩
/-- below B all stays -/
theorem Far.of_below {Q : World → Prop} {w : World} {B : Nat} {S : Nat → Prop} (hS : ∀ b, b < w.heap.size → S b → B ≤ b) (hB : B ≤ w.heap.size) (h : ∀ w' : World, w.heap.size ≤ w'.heap.size → (∀ b, b < B → w'.heap[b]? = w.heap[b]?) → Q w') : Far S Q w :=
  fun w' a b => h w' a fun c hc => b c (by omega) fun e => by have := hS c (by omega) e; omega
theorem ownsRow_same {w w' : World} {B : Nat} {e : TypeId} {s : Nat} {v : Value} {n : Nat} {xs : List Value} (h : w.ownsRow B e s v n xs) (hb : ∀ g, v.ownBlock = some g → w'.heap[g]? = w.heap[g]?) : w'.ownsRow B e s v n xs := by
  obtain ⟨h1, h2⟩ := h
  refine ⟨h1, ?_⟩
  rcases h2 with h2 | ⟨g, cap, cur, hv, hg, hh, r⟩
  · exact .inl h2
  · exact .inr ⟨g, cap, cur, hv, hg, by rw [hb g (by rw [hv]; rfl)]; exact hh, r⟩
theorem NewU.far {B : Nat} {w : World} {v : Value} {l : List Int} {S : Nat → Prop} (h : NewU B w v l) (hS : ∀ g, v.ownBlock = some g → ¬ S g) : Far S (fun w => NewU B w v l) w :=
  fun _ _ k => ⟨h.1, h.2.1, ownsRow_same h.2.2 fun g hg => k g (h.lt hg).2 (hS g hg)⟩
theorem NewU.farRow {B : Nat} {w : World} {v : Value} {l : List Int} {S : Nat → Prop} (h : NewU B w v l) (hS : ∀ g, v.ownBlock = some g → ¬ S g) : Far S (fun w => RowU w v l) w :=
  (h.far hS).imp fun _ h => h.row
theorem NewUU.far {B : Nat} {w : World} {v : Value} {ll : List (List Int)} {S : Nat → Prop} (h : NewUU B w v ll) (hS : ∀ b, B ≤ b → b < w.heap.size → ¬ S b) : Far S (fun w => NewUU B w v ll) w := by
  intro w' _ k
  have hlt := fun g (hg : v.ownBlock = some g) => h.lt hg
  obtain ⟨h1, us, h2, h3, h4⟩ := h
  refine ⟨h1, us, h2, ownsRow_same h3 fun g hg => k g (hlt g hg).2 (hS g (hlt g hg).1 (hlt g hg).2), fun j hj => ?_⟩
  obtain ⟨u, e, hu, hn⟩ := h4 j hj
  exact ⟨u, e, ⟨hu.1, hu.2.1, ownsRow_same hu.2.2 fun g hg => k g (hu.lt hg).2 (hS g (hu.lt hg).1 (hu.lt hg).2)⟩, hn⟩
theorem NewUU.farRow {B : Nat} {w : World} {v : Value} {ll : List (List Int)} {S : Nat → Prop} (h : NewUU B w v ll) (hS : ∀ b, B ≤ b → b < w.heap.size → ¬ S b) : Far S (fun w => RowUU w v ll) w :=
  (h.far hS).imp fun _ h => h.rows
/-- append of one list; what lies in other blocks stays -/
theorem wpList_appUUg {ops : Array Oper} {rest : List Oper} {o : Oper} {a : Act} {Q : Exit → Act → World → Prop} {w0 : World} (hgd : o.guard = none) (s x : Operand)
    (ho : o.op = .call { callee := .builtin .append, args := #[s, x], argTypes := #[76, 76] })
    (B : Nat) (v : Value) (ll : List (List Int)) (hs : a.eval s = v) (hown : NewUU B w0 v ll) (u : Value) (l : List Int) (hu : NewU B w0 u l) (hne : ∀ g, v.ownBlock = some g → u.ownBlock ≠ some g)
    (hx : a.eval x = .slice (some ⟨w0.heap.size, 0, none⟩) 1 1) (hlen : ll.length + 1 ≤ 5864062014634) (hB : B ≤ w0.heap.size)
    (h : ∀ v' w', NewUU B w' v' (ll ++ [l]) → NewU B w' u l → Below B w0 w' → w0.grownBy w' v.ownBlock → wpList Tryz.prog ops Q rest (a.put o.dst v') w') : wpList Tryz.prog ops Q (o :: rest) a (w0.alloc (.cells #[u] 53)) := by
  obtain ⟨i0, hi1, hz0, hz1, hz2⟩ := info_parts Tryz.infoUU
  obtain ⟨h1, us, h2, h3, h4⟩ := hown
  have hlt := h3.lt
  have h1c : u.oneCell' = true := by
    obtain ⟨_, _, ho⟩ := hu
    rcases ho.2 with ⟨rfl, _⟩ | ⟨g, cap, cur, rfl, _⟩ <;> rfl
  refine wpList_append_own_at _ hgd s x _ ho B 53 i0 (.slice none 0 0) 1 24 Tryz.underlying76 hi1 hz0 hz1 hz2 rfl (by decide) v ll.length us hs (h3.alloc _) ⟨w0.heap.size, 0, none⟩ 1 1 [u] hx (by simp) ?_ (by simpa using h1c) (by unfold maxLen; omega) (by omega) (by simp; omega) ?_
  · intro j y hj
    have hj0 : j = 0 := by
      rcases Nat.eq_zero_or_pos j with h | h
      · exact h
      · rw [List.getElem?_eq_none (by simp; omega)] at hj; cases hj
    subst hj0
    have e1 : ((⟨w0.heap.size, 0, none⟩ : Addr).add 0) = ⟨w0.heap.size, 0, none⟩ := by rw [Addr.add_lit]
    rw [e1, World.cell?_alloc_at _ _ _ _ rfl]
    simpa using hj
  · intro v' w' h5 h6 _ h8
    have hal : Below w0.heap.size w0 (w0.alloc (.cells #[u] 53)) := (Below.refl _ _).alloc (Nat.le_refl _) _
    have hbl : Below B w0 w' := ((Below.refl B w0).alloc hB _).grown h6 (by simp; omega) fun k hk => (hlt k hk).1
    have hu' : NewU B w' u l := (hu.below hal (Nat.le_refl _)).grownOther h6 (fun g hg hr => hne g hr hg)
    refine h v' w' ⟨by simp; omega, us ++ [u], by simp [h2], by simpa using h5, fun j hj => ?_⟩ hu' hbl (grownBy_trans (World.grownBy_alloc _ _ _) h6)
    have hsz : (w0.alloc (.cells #[u] 53)).heap.size = w0.heap.size + 1 := by simp
    have apart : ∀ y : Value, (∀ g, v.ownBlock = some g → y.ownBlock ≠ some g) → (∀ g, y.ownBlock = some g → g < w0.heap.size) → ∀ g, v'.ownBlock = some g → y.ownBlock ≠ some g := by
      intro y hy1 hy2 g hg hyg
      rcases h8 with h8 | h8
      · rw [h8] at hg; exact hy1 g hg hyg
      · rw [h8, hsz] at hg
        have := hy2 g hyg
        cases hg; omega
    by_cases hj2 : j < ll.length
    · obtain ⟨y, e, hy, hyn⟩ := h4 j hj2
      refine ⟨y, by rw [List.getElem?_append_left (by omega)]; exact e, ?_, apart y hyn (fun g hg => (hy.lt hg).2)⟩
      rw [atl_append_left _ _ _ hj2]
      exact (hy.below hal (Nat.le_refl _)).grownOther h6 (fun g hg hr => hyn g hr hg)
    · obtain rfl : j = ll.length := by simp at hj; omega
      refine ⟨u, by rw [← h2]; simp, ?_, apart u hne (fun g hg => (hu.lt hg).2)⟩
      rw [atl_append_last]; exact hu'
/-- append of one number; what lies in other blocks stays -/
theorem wpList_appUg {ops : Array Oper} {rest : List Oper} {o : Oper} {a : Act} {Q : Exit → Act → World → Prop} {w0 : World} (hgd : o.guard = none) (s x : Operand)
    (ho : o.op = .call { callee := .builtin .append, args := #[s, x], argTypes := #[53, 53] })
    (B : Nat) (v : Value) (l : List Int) (hs : a.eval s = v) (hown : NewU B w0 v l) (y : Int) (hx : a.eval x = .slice (some ⟨w0.heap.size, 0, none⟩) 1 1) (hy : U64 y)
    (hlen : l.length + 1 ≤ 17592186043904) (hB : B ≤ w0.heap.size)
    (h : ∀ v' w', NewU B w' v' (l ++ [y]) → Below B w0 w' → w0.grownBy w' v.ownBlock → wpList Tryz.prog ops Q rest (a.put o.dst v') w') : wpList Tryz.prog ops Q (o :: rest) a (w0.alloc (.cells #[.int .u64 y] 57)) := by
  obtain ⟨i0, hi1, hz0, hz1, hz2⟩ := info_parts Tryz.infoU
  have hlt := hown.2.2.lt
  refine wpList_append_own _ hgd s x _ ho B 57 i0 (.int .u64 0) 1 8 Tryz.underlying53 hi1 hz0 hz1 hz2 rfl (by decide) v l.length _ hs (hown.2.2.alloc _) ⟨w0.heap.size, 0, none⟩ 1 1 [.int .u64 y] hx rfl ?_ (by simp [Value.oneCell']) (by unfold maxLen; omega) (by omega) (by simp; omega) ?_
  · exact World.news_of_block (cs := #[.int .u64 y]) (t := 57) (fr := (0, 0)) (alloc_blk w0 _)
  · intro v' w' h2 h3 _
    refine h v' w' ⟨?_, by simp; omega, by simpa using h2⟩ (((Below.refl B w0).alloc hB _).grown h3 (by simp; omega) fun k hk => (hlt k hk).1) (grownBy_trans (World.grownBy_alloc _ _ _) h3)
    intro z hz
    rcases List.mem_append.mp hz with hz | hz
    · exact hown.1 z hz
    · rw [List.mem_singleton.mp hz]; exact hy
end Go.Proofs.YtlfneeobnihocaaGreatDoor
