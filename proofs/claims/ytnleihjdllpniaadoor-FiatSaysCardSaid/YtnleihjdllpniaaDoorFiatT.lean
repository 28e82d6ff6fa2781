/- The teller of draws in memory: a block of two cells, a sponge, a row of numbers of its own; the walks of fiat's give, rest and part. No condition. -/
import Derived.Test.YtnleihjdllpniaaDoorFiatM
import Derived.Test.YtnleihjdllpniaaDoorFar
import Derived.Test.YtnleihjdllpniaaDoorHeld
namespace Go.Proofs.YtnleihjdllpniaaDoor
set_option maxRecDepth 100000
set_option linter.unusedVariables false
open Go.RowKit Tally
/-- a teller at tb, its sponge at sb, its draws vd, all from block B on -/
structure TellA (w : World) (B tb sb : Nat) (vd : Value) (t : Tl) : Prop where
  blk : w.heap[tb]? = some (.cells #[.pointer (some ⟨sb, 0, none⟩), vd] 92 (0, 0))
  sp : SpAt w sb t.s
  row : NewU B w vd t.ds
  tbB : B ≤ tb
  sbB : B ≤ sb
theorem NewU.blkT {B : Nat} {w : World} {v : Value} {l : List Int} (h : NewU B w v l) {g : Nat} (hg : v.ownBlock = some g) : ∃ cs, w.heap[g]? = some (.cells cs 46 (0, 0)) := by
  rcases h.2.2.2 with ⟨rfl, _⟩ | ⟨g', cap, cur, rfl, _, hh, _⟩
  · cases hg
  · cases hg; exact ⟨_, hh⟩
theorem NewU.apart {B : Nat} {w : World} {v : Value} {l : List Int} (h : NewU B w v l) {b : Nat} {cs : Array Value} {t : TypeId} (hb : w.heap[b]? = some (.cells cs t (0, 0))) (ht : t ≠ 46) : ∀ g, v.ownBlock = some g → b ≠ g := by
  rintro g hg rfl
  obtain ⟨cs', h'⟩ := h.blkT hg
  rw [hb] at h'
  cases h'; exact ht rfl
theorem TellA.ne {w : World} {B tb sb : Nat} {vd : Value} {t : Tl} (h : TellA w B tb sb vd t) : tb ≠ sb := by
  rintro rfl
  have := h.blk.symm.trans h.sp
  revert this
  intro e; cases e
theorem TellA.lt {w : World} {B tb sb : Nat} {vd : Value} {t : Tl} (h : TellA w B tb sb vd t) : tb < w.heap.size ∧ sb < w.heap.size := ⟨blk_lt h.blk, blk_lt h.sp⟩
/-- what is made anew leaves it -/
theorem TellA.go {w w' : World} {B tb sb : Nat} {vd : Value} {t : Tl} (h : TellA w B tb sb vd t) (hb : Below w.heap.size w w') : TellA w' B tb sb vd t :=
  ⟨(hb.block tb h.lt.1).trans h.blk, h.sp.shift hb, h.row.below hb (Nat.le_refl _), h.tbB, h.sbB⟩
/-- the sponge takes something -/
theorem TellA.took {w w' : World} {B tb sb : Nat} {vd : Value} {t : Tl} {s : St} (h : TellA w B tb sb vd t) (hs : SpAt w' sb s) (hg : w.grownBy w' (some sb)) : TellA w' B tb sb vd ⟨s, t.ds⟩ :=
  ⟨(hg.block tb h.lt.1 (fun e => h.ne (by cases e; rfl))).trans h.blk, hs, h.row.grownOther hg (fun g hv e => h.row.apart h.sp (by decide) g hv (by cases e; rfl)), h.tbB, h.sbB⟩
theorem grown_below {B : Nat} {w w' : World} {sb : Nat} (hg : w.grownBy w' (some sb)) (h : B ≤ sb) (hw : B ≤ w.heap.size) : Below B w w' := below_of_grownBy hg h hw
/-- a row that stays whatever is written below n lies apart from a sponge there -/
theorem sep_far {w : World} {v : Value} {l : List Int} {n sb : Nat} {s : St} (h : Far (fun b => b < n) (fun W => RowU W v l) w) (hs : SpAt w sb s) (hn : sb < n) : Sep v sb := by
  rintro a k c rfl hk
  intro e
  have hb := blk_setCell (blk_setCell (blk_setCell hs 0 (.bool true)) 1 (.bool true)) 2 (.bool true)
  have h1 := (((h.set (b := sb) hn 0 (.bool true)).set (b := sb) hn 1 (.bool true)).set (b := sb) hn 2 (.bool true)).now
  obtain ⟨_, _, a', cap, e', hr⟩ := h1
  cases e'
  obtain ⟨b, off, ea, _, hc⟩ := hr hk
  cases ea
  have hc0 := hc 0 hk
  obtain rfl : b = sb := e
  rw [cell_blk hb] at hc0
  rcases off with _ | _ | _ | off <;> simp at hc0
/-- a cell that reads whatever is written to some blocks lies apart from them -/
theorem far_at {S : Nat → Prop} {w : World} {b o : Nat} {P : World → Value → Prop} (hlt : b < w.heap.size) (h : Far S (fun W => ∃ u, W.cell? ⟨b, o, none⟩ = some u ∧ P W u) w) (hP : ∀ W u, P W u → ∃ a n c, u = .slice a n c) :
    ∃ u, w.cell? ⟨b, o, none⟩ = some u ∧ Far S (fun W => P W u) w := by
  obtain ⟨u, hu, _⟩ := h.now
  have hS : ¬ S b := by
    intro hS
    obtain ⟨u', hu', hp⟩ := (h.set (b := b) hS o (.bool true)).now
    rw [World.cell?_setCell_same' w _ _ (by rw [hu]; rfl)] at hu'
    obtain ⟨a, n, c, e⟩ := hP _ _ hp
    cases hu'; cases e
  refine ⟨u, hu, fun W h1 h2 => ?_⟩
  obtain ⟨u', hu', hp⟩ := h W h1 h2
  have e : W.cell? ⟨b, o, none⟩ = w.cell? ⟨b, o, none⟩ := World.cell?_of_block (h2 b hlt hS)
  rw [e, hu] at hu'
  cases hu'; exact hp
theorem RowUU.farAt {S : Nat → Prop} {w : World} {v : Value} {ll : List (List Int)} (h : Far S (fun W => RowUU W v ll) w) {j : Nat} (hj : j < ll.length) :
    ∃ b off cap u, v = .slice (some ⟨b, off, none⟩) ll.length cap ∧ b < w.heap.size ∧ w.cell? ⟨b, off + j, none⟩ = some u ∧ Far S (fun W => RowU W u (atl ll j)) w := by
  obtain ⟨_, a, cap, rfl, hr⟩ := h.now
  obtain ⟨b, off, rfl, hlt, _⟩ := hr (by omega)
  have h1 : Far S (fun W => ∃ u, W.cell? ⟨b, off + j, none⟩ = some u ∧ RowU W u (atl ll j)) w := h.imp fun W hW => by
    obtain ⟨_, a', cap', e, hr'⟩ := hW
    obtain ⟨b', off', e', _, hc⟩ := hr' (by omega)
    subst e'
    cases e
    exact hc j hj
  obtain ⟨u, hu, hf⟩ := far_at hlt h1 fun W u hp => by obtain ⟨_, _, a, c, e, _⟩ := hp; exact ⟨a, _, c, e⟩
  exact ⟨b, off, cap, u, rfl, hlt, hu, hf⟩
theorem IsP.farAt {S : Nat → Prop} {w : World} {v : Value} {l : List Pi} (h : Far S (fun W => IsP W v l) w) {j : Nat} (hj : j < l.length) :
    ∃ b off cap u u2, v = .agg #[.slice (some ⟨b, off, none⟩) l.length cap] ∧ b < w.heap.size ∧ w.cell? ⟨b, off + j * 2, none⟩ = some u ∧ w.cell? ⟨b, off + j * 2 + 1, none⟩ = some u2 ∧
      Far S (fun W => RowUU W u (atp l j).rounds) w ∧ Far S (fun W => RowU W u2 (atp l j).line) w := by
  obtain ⟨v1, rfl, _, a, cap, rfl, hr⟩ := h.now
  obtain ⟨b, off, rfl, hlt, _⟩ := hr (by omega)
  have hall : ∀ W, IsP W (.agg #[.slice (some ⟨b, off, none⟩) l.length cap]) l → ∃ u u2, W.cell? ⟨b, off + j * 2, none⟩ = some u ∧ W.cell? ⟨b, off + j * 2 + 1, none⟩ = some u2 ∧ RowUU W u (atp l j).rounds ∧ RowU W u2 (atp l j).line := fun W hW => by
    obtain ⟨v2, e, _, a', cap', rfl, hr'⟩ := hW
    obtain ⟨b', off', e', _, hc⟩ := hr' (by omega)
    subst e'
    simp only [Value.agg.injEq, Array.mk.injEq, List.cons.injEq, Value.slice.injEq, Option.some.injEq, Addr.mk.injEq] at e
    obtain ⟨⟨⟨rfl, rfl, -⟩, -, rfl⟩, -⟩ := e
    exact hc j hj
  have h1 : Far S (fun W => ∃ u, W.cell? ⟨b, off + j * 2, none⟩ = some u ∧ RowUU W u (atp l j).rounds) w := h.imp fun W hW => by
    obtain ⟨u, u2, c1, _, r1, _⟩ := hall W hW; exact ⟨u, c1, r1⟩
  have h2 : Far S (fun W => ∃ u, W.cell? ⟨b, off + j * 2 + 1, none⟩ = some u ∧ RowU W u (atp l j).line) w := h.imp fun W hW => by
    obtain ⟨u, u2, _, c2, _, r2⟩ := hall W hW; exact ⟨u2, c2, r2⟩
  obtain ⟨u, hu, hf⟩ := far_at hlt h1 fun W u hp => by obtain ⟨_, a, c, e, _⟩ := hp; exact ⟨a, _, c, e⟩
  obtain ⟨u2, hu2, hf2⟩ := far_at hlt h2 fun W u hp => by obtain ⟨_, _, a, c, e, _⟩ := hp; exact ⟨a, _, c, e⟩
  exact ⟨b, off, cap, u, u2, rfl, hlt, hu, hu2, hf, hf2⟩
/-- append of one number, at a step of a region that draws its order; what lies in other blocks stays -/
theorem step_appUg {ops : Array Oper} {o : Oper} {a : Act} {K : Act → World → Prop} {Q : Exit → Act → World → Prop} {E : Prop} {w0 : World} (hgd : o.guard = none) (s x : Operand)
    (ho : o.op = .call { callee := .builtin .append, args := #[s, x], argTypes := #[25, 25] })
    (B : Nat) (v : Value) (l : List Int) (hs : a.eval s = v) (hown : NewU B w0 v l) (y : Int) (hx : a.eval x = .slice (some ⟨w0.heap.size, 0, none⟩) 1 1) (hy : U64 y)
    (hlen : l.length + 1 ≤ 17592186043904) (hB : B ≤ w0.heap.size)
    (h : ∀ v' w', NewU B w' v' (l ++ [y]) → w0.grownBy w' v.ownBlock → K (a.put o.dst v') w') :
    if Region.wanted o (yielded ops a.tmps) = true then Oper.wp Tryd.prog o a (w0.alloc (.cells #[.int .u64 y] 46)) K Q else E := by
  obtain ⟨i0, hi1, hz0, hz1, hz2⟩ := info_parts Tryd.infoU
  have hlt := hown.2.2.lt
  refine step_append_lies _ hgd s x _ ho B 46 i0 (.int .u64 0) 1 8 Tryd.underlying25 hi1 hz0 hz1 hz2 rfl (by decide) v l.length _ hs (hown.2.2.alloc _) ⟨w0.heap.size, 0, none⟩ 1 1 [.int .u64 y] hx rfl
    (World.news_of_block (cs := #[.int .u64 y]) (t := 46) (fr := (0, 0)) (alloc_blk w0 _)) (by simp [Value.oneCell']) (by decide) (by unfold maxLen; omega) (by omega) (by simp; omega) (w0.heap.size + 1) (by simp) ?_
  intro g cap w' h1 h2 _ _
  refine h _ w' ⟨?_, by simp; omega, by simpa using h1⟩ (grownBy_trans (World.grownBy_alloc _ _ _) h2)
  intro z hz
  rcases List.mem_append.mp hz with hz | hz
  · exact hown.1 z hz
  · rw [List.mem_singleton.mp hz]; exact hy
/-- boxes of parts stay -/
def KeepB (w w' : World) : Prop := ∀ (b : Nat) (cs : Array Value), w.heap[b]? = some (Obj.cells cs 82 (0, 0)) → w'.heap[b]? = some (Obj.cells cs 82 (0, 0))
theorem KeepB.refl (w : World) : KeepB w w := fun _ _ h => h
theorem KeepB.trans {a b c : World} (h : KeepB a b) (k : KeepB b c) : KeepB a c := fun x cs e => k x cs (h x cs e)
theorem KeepB.below {w w' : World} (h : Below w.heap.size w w') : KeepB w w' := fun b _ e => (h.block b (blk_lt e)).trans e
theorem KeepB.grown {w w' : World} {r : Option Nat} (hg : w.grownBy w' r) (hr : ∀ g, r = some g → ∃ cs t, w.heap[g]? = some (Obj.cells cs t (0, 0)) ∧ t ≠ 82) : KeepB w w' := fun b cs e => by
  refine (hg.block b (blk_lt e) fun h => ?_).trans e
  obtain ⟨cs', t, h2, ht⟩ := hr b h.symm
  rw [e] at h2
  cases h2; exact ht rfl
theorem KeepB.set {w : World} {b j : Nat} {v : Value} {cs : Array Value} {t : TypeId} (h : w.heap[b]? = some (.cells cs t (0, 0))) (ht : t ≠ 82) : KeepB w (w.setCell ⟨b, j, none⟩ v) :=
  KeepB.grown (grownBy_setCell _ _ _ _) fun g e => by cases e; exact ⟨_, _, h, ht⟩
theorem TellA.keepS {w w' : World} {B tb sb : Nat} {vd : Value} {t : Tl} (h : TellA w B tb sb vd t) (hg : w.grownBy w' (some sb)) : KeepB w w' :=
  KeepB.grown hg fun g e => by cases e; exact ⟨_, _, h.sp, by decide⟩
theorem give_step {w1 w2 w3 : World} {B tb sb : Nat} {vd vd' : Value} {t : Tl} (h : TellA w1 B tb sb vd t) (hs : SpAt w2 sb (mix t.s)) (hg : w1.grownBy w2 (some sb))
    (hn : NewU B w3 vd' (t.ds ++ [psi t.s.y])) {vd0 : Value} (hv : vd0 = vd') (hg2 : w2.grownBy w3 vd.ownBlock) (hB : B ≤ w1.heap.size) : (∃ vd', TellA (w3.setCell ⟨tb, 1, none⟩ vd0) B tb sb vd' t.give) ∧ Below B w1 (w3.setCell ⟨tb, 1, none⟩ vd0) ∧ KeepB w1 (w3.setCell ⟨tb, 1, none⟩ vd0) := by
  subst hv
  have h2 := h.took hs hg
  have k3 : ∀ b, b < w2.heap.size → vd.ownBlock ≠ some b → w3.heap[b]? = w2.heap[b]? := fun b hb hn => hg2.block b hb fun e => hn e.symm
  have hs3 : SpAt w3 sb (mix t.s) := (k3 sb h2.lt.2 fun e => h2.row.apart h2.sp (by decide) sb e rfl).trans hs
  have hb3 := (k3 tb h2.lt.1 fun e => h2.row.apart h2.blk (by decide) tb e rfl).trans h2.blk
  have hb4 := blk_setCell hb3 1 vd0
  have gs := grownBy_setCell w3 tb 1 vd0
  refine ⟨⟨vd0, hb4, (gs.block sb (blk_lt hs3) (fun e => h.ne (by cases e; rfl))).trans hs3, hn.grownOther gs (fun g hv e => hn.apart hb3 (by decide) g hv (by cases e; rfl)), h.tbB, h.sbB⟩, ?_, ?_⟩
  · exact ((below_of_grownBy hg h.sbB hB).grown hg2 (Nat.le_trans hB hg.size) fun g e => (h2.row.lt e).1).setCell (p := ⟨tb, 1, none⟩) h.tbB _
  · exact (h.keepS hg).trans ((KeepB.grown hg2 fun g e => by obtain ⟨cs, hc⟩ := h2.row.blkT e; exact ⟨cs, _, hc, by decide⟩).trans (KeepB.set hb3 (by decide)))
theorem fiat_take (w : World) (B tb sb : Nat) (vd : Value) (t : Tl) (h : TellA w B tb sb vd t) (hB : B ≤ w.heap.size) (v : Value) (l : List Int) (hp : RowU w v l) (hs : Sep v sb) (hl : l.length ≤ 1000) :
    Calls Tryd.prog 62 #[.pointer (some ⟨sb, 0, none⟩), v] w fun e w' => e = .returned (.int .i64 0) ∧ TellA w' B tb sb vd ⟨takeL l t.s, t.ds⟩ ∧ Below B w w' ∧ KeepB w w' :=
  (sponge_Take sb t.s v l w h.sp hp hs hl).mono fun _ _ ⟨he, h1, h2⟩ => ⟨he, h.took h1 h2, below_of_grownBy h2 h.sbB hB, h.keepS h2⟩
set_option maxHeartbeats 2000000 in
theorem fiat_give (w : World) (B tb sb : Nat) (vd : Value) (t : Tl) (h : TellA w B tb sb vd t) (hB : B ≤ w.heap.size) (hl : t.ds.length ≤ 100) :
    Calls Tryd.prog 63 #[.pointer (some ⟨tb, 0, none⟩)] w fun e w' => e = .returned (.tuple #[]) ∧ (∃ vd', TellA w' B tb sb vd' t.give) ∧ Below B w w' ∧ KeepB w w' := by
  have H := Lib.hid h
  have c0 : w.cell? ⟨tb, 0, none⟩ = some _ := cell_blk h.blk 0
  have c1 : w.cell? ⟨tb, 1, none⟩ = some _ := cell_blk h.blk 1
  have CG := Lib.hid (fun W (hW : Below w.heap.size w W) => sponge_Give sb t.s W (H.out.sp.shift hW))
  have K1 := Lib.hid (show ∀ w2, w.grownBy w2 (some sb) → w2.cell? ⟨tb, 0, none⟩ = some (.pointer (some ⟨sb, 0, none⟩)) ∧ w2.cell? ⟨tb, 1, none⟩ = some vd from fun w2 hg =>
    ⟨(World.cell?_of_block (hg.block tb H.out.lt.1 (fun e => H.out.ne (by cases e; rfl)))).trans c0, (World.cell?_of_block (hg.block tb H.out.lt.1 (fun e => H.out.ne (by cases e; rfl)))).trans c1⟩)
  have K2 := Lib.hid (show ∀ w2, w.grownBy w2 (some sb) → ∀ w3, w2.grownBy w3 vd.ownBlock → w3.cell? ⟨tb, 0, none⟩ = some (.pointer (some ⟨sb, 0, none⟩)) ∧ w3.cell? ⟨tb, 1, none⟩ = some vd ∧ w3.frozen? ⟨tb, 1, none⟩ = false from fun w2 hg w3 hg2 => by
    have b2 := (hg.block tb H.out.lt.1 (fun e => H.out.ne (by cases e; rfl))).trans H.out.blk
    have b3 := (hg2.block tb (blk_lt b2) (fun e => H.out.row.apart H.out.blk (by decide) tb e.symm rfl)).trans b2
    exact ⟨cell_blk b3 0, cell_blk b3 1, free_blk b3 1⟩)
  have hlen : t.ds.length + 1 ≤ 17592186043904 := by omega
  clear h
  go_enter Tryd.func63, Tryd.ntmps63
  go_region_law
    (first
      | (go_simp; go_at_call 99; (with_reducible refine (CG.out _ (below_drw w)).mono ?_); rintro e w2 ⟨rfl, hs2, hg2'⟩; have hg2 : w.grownBy w2 (some sb) := grownBy_trans (grownBy_drewN w 1 _) hg2'; have k20 := (K1.out w2 hg2).1; have k21 := (K1.out w2 hg2).2; have lt2 : tb < w2.heap.size := Nat.lt_of_lt_of_le H.out.lt.1 hg2.size; have HN2 := Lib.hid (H.out.took hs2 hg2).row; have hB2 : B ≤ w2.heap.size := Nat.le_trans hB hg2.size; have Hs2 := Lib.hid hs2; clear hs2 hg2')
      | (refine step_appUg rfl _ _ (by rfl) B _ _ (by rfl) HN2.out _ (by rfl) (U64.psi _) hlen hB2 ?_; intro v3 w3 hn3 hg3; obtain ⟨a3, c3, rfl⟩ := hn3.isSlice; obtain ⟨k30, k31, fr3⟩ := K2.out w2 hg2 w3 hg3; have HN3 := Lib.hid hn3; clear hn3))
  all_goals
    go_end0
    exact ⟨rfl, give_step H.out Hs2.out hg2 HN3.out (by rw [List.length_append, List.length_singleton]) hg3 hB⟩
/-- append of three numbers -/
theorem wpList_appU3 {ops : Array Oper} {rest : List Oper} {o : Oper} {a : Act} {Q : Exit → Act → World → Prop} {w0 : World} (hgd : o.guard = none) (s x : Operand)
    (ho : o.op = .call { callee := .builtin .append, args := #[s, x], argTypes := #[25, 25] })
    (B : Nat) (v : Value) (l : List Int) (hs : a.eval s = v) (hown : NewU B w0 v l) (y z u : Int) (hx : a.eval x = .slice (some ⟨w0.heap.size, 0, none⟩) 3 3) (hy : U64 y) (hz : U64 z) (hu : U64 u)
    (hlen : l.length + 3 ≤ 17592186043904) (hB : B ≤ w0.heap.size)
    (h : ∀ v' w', NewU B w' v' (l ++ [y, z, u]) → Below B w0 w' → wpList Tryd.prog ops Q rest (a.put o.dst v') w') : wpList Tryd.prog ops Q (o :: rest) a (w0.alloc (.cells #[.int .u64 y, .int .u64 z, .int .u64 u] 46)) := by
  refine wpList_app hgd s x _ ho B 46 _ (.int .u64 0) 1 8 Tryd.underlying25 Tryd.infoU rfl (by decide) v l.length _ hs hown.2.2 3 _ hx rfl (by simp [Value.oneCell']) (by unfold maxLen; omega) (by omega) hB fun v' w' h1 h2 => h v' w' ⟨?_, ?_, ?_⟩ h2
  · intro q hq
    rcases List.mem_append.mp hq with hq | hq
    · exact hown.1 q hq
    · simp at hq; rcases hq with rfl | rfl | rfl
      · exact hy
      · exact hz
      · exact hu
  · simp; omega
  · simpa using h1
theorem TellA.mono {w : World} {B B' tb sb : Nat} {vd : Value} {t : Tl} (h : TellA w B tb sb vd t) (hB : B' ≤ B) : TellA w B' tb sb vd t := ⟨h.blk, h.sp, h.row.mono hB, Nat.le_trans hB h.tbB, Nat.le_trans hB h.sbB⟩
end Go.Proofs.YtnleihjdllpniaaDoor
