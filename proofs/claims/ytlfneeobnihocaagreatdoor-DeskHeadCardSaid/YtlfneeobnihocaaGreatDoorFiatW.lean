/- Several texts in one: FiatT, FiatW. What each says, and its conditions, stands at its head. -/
import Derived.Test.YtlfneeobnihocaaGreatDoorFiatM
import Derived.Test.YtlfneeobnihocaaGreatDoorFar
import Derived.Test.YtlfneeobnihocaaGreatDoorHeld
/- The teller of draws in memory: a block of two cells, a sponge, a row of numbers of its own; the walks of fiat's give, rest and part. No condition. -/
namespace Go.Proofs.YtlfneeobnihocaaGreatDoor
set_option maxRecDepth 100000
set_option linter.unusedVariables false
open Go.RowKit Tally
/-- a teller at tb, its sponge at sb, its draws vd, all from block B on -/
structure TellA (w : World) (B tb sb : Nat) (vd : Value) (t : Tl) : Prop where
  blk : w.heap[tb]? = some (.cells #[.pointer (some ⟨sb, 0, none⟩), vd] 140 (0, 0))
  sp : SpAt w sb t.s
  row : NewU B w vd t.ds
  tbB : B ≤ tb
  sbB : B ≤ sb
theorem NewU.blkT {B : Nat} {w : World} {v : Value} {l : List Int} (h : NewU B w v l) {g : Nat} (hg : v.ownBlock = some g) : ∃ cs, w.heap[g]? = some (.cells cs 57 (0, 0)) := by
  rcases h.2.2.2 with ⟨rfl, _⟩ | ⟨g', cap, cur, rfl, _, hh, _⟩
  · cases hg
  · cases hg; exact ⟨_, hh⟩
theorem NewU.apart {B : Nat} {w : World} {v : Value} {l : List Int} (h : NewU B w v l) {b : Nat} {cs : Array Value} {t : TypeId} (hb : w.heap[b]? = some (.cells cs t (0, 0))) (ht : t ≠ 57) : ∀ g, v.ownBlock = some g → b ≠ g := by
  rintro g hg rfl
  obtain ⟨cs', h'⟩ := h.blkT hg
  rw [hb] at h'
  cases h'; exact ht rfl
theorem TellA.ne {w : World} {B tb sb : Nat} {vd : Value} {t : Tl} (h : TellA w B tb sb vd t) : tb ≠ sb := by
  rintro rfl
  have := h.blk.symm.trans h.sp
  revert this
  intro e; cases e
theorem TellA.lt {w : World} {B tb sb : Nat} {vd : Value} {t : Tl} (h : TellA w B tb sb vd t) : tb < w.heap.size ∧ sb < w.heap.size := ⟨blk_lt h.blk, blk_lt h.sp⟩
/-- what is made anew leaves it -/
theorem TellA.go {w w' : World} {B tb sb : Nat} {vd : Value} {t : Tl} (h : TellA w B tb sb vd t) (hb : Below w.heap.size w w') : TellA w' B tb sb vd t :=
  ⟨(hb.block tb h.lt.1).trans h.blk, h.sp.shift hb, h.row.below hb (Nat.le_refl _), h.tbB, h.sbB⟩
/-- the sponge takes something -/
theorem TellA.took {w w' : World} {B tb sb : Nat} {vd : Value} {t : Tl} {s : St} (h : TellA w B tb sb vd t) (hs : SpAt w' sb s) (hg : w.grownBy w' (some sb)) : TellA w' B tb sb vd ⟨s, t.ds⟩ :=
  ⟨(hg.block tb h.lt.1 (fun e => h.ne (by cases e; rfl))).trans h.blk, hs, h.row.grownOther hg (fun g hv e => h.row.apart h.sp (by decide) g hv (by cases e; rfl)), h.tbB, h.sbB⟩
theorem grown_below {B : Nat} {w w' : World} {sb : Nat} (hg : w.grownBy w' (some sb)) (h : B ≤ sb) (hw : B ≤ w.heap.size) : Below B w w' := below_of_grownBy hg h hw
/-- a row that stays whatever is written below n lies apart from a sponge there -/
theorem sep_far {w : World} {v : Value} {l : List Int} {n sb : Nat} {s : St} (h : Far (fun b => b < n) (fun W => RowU W v l) w) (hs : SpAt w sb s) (hn : sb < n) : Sep v sb := by
  rintro a k c rfl hk
  intro e
  have hb := blk_setCell (blk_setCell (blk_setCell hs 0 (.bool true)) 1 (.bool true)) 2 (.bool true)
  have h1 := (((h.set (b := sb) hn 0 (.bool true)).set (b := sb) hn 1 (.bool true)).set (b := sb) hn 2 (.bool true)).now
  obtain ⟨_, _, a', cap, e', hr⟩ := h1
  cases e'
  obtain ⟨b, off, ea, _, hc⟩ := hr hk
  cases ea
  have hc0 := hc 0 hk
  obtain rfl : b = sb := e
  rw [cell_blk hb] at hc0
  rcases off with _ | _ | _ | off <;> simp at hc0
/-- a cell that reads whatever is written to some blocks lies apart from them -/
theorem far_at {S : Nat → Prop} {w : World} {b o : Nat} {P : World → Value → Prop} (hlt : b < w.heap.size) (h : Far S (fun W => ∃ u, W.cell? ⟨b, o, none⟩ = some u ∧ P W u) w) (hP : ∀ W u, P W u → ∃ a n c, u = .slice a n c) :
    ∃ u, w.cell? ⟨b, o, none⟩ = some u ∧ Far S (fun W => P W u) w := by
  obtain ⟨u, hu, _⟩ := h.now
  have hS : ¬ S b := by
    intro hS
    obtain ⟨u', hu', hp⟩ := (h.set (b := b) hS o (.bool true)).now
    rw [World.cell?_setCell_same' w _ _ (by rw [hu]; rfl)] at hu'
    obtain ⟨a, n, c, e⟩ := hP _ _ hp
    cases hu'; cases e
  refine ⟨u, hu, fun W h1 h2 => ?_⟩
  obtain ⟨u', hu', hp⟩ := h W h1 h2
  have e : W.cell? ⟨b, o, none⟩ = w.cell? ⟨b, o, none⟩ := World.cell?_of_block (h2 b hlt hS)
  rw [e, hu] at hu'
  cases hu'; exact hp
theorem RowUU.farAt {S : Nat → Prop} {w : World} {v : Value} {ll : List (List Int)} (h : Far S (fun W => RowUU W v ll) w) {j : Nat} (hj : j < ll.length) :
    ∃ b off cap u, v = .slice (some ⟨b, off, none⟩) ll.length cap ∧ b < w.heap.size ∧ w.cell? ⟨b, off + j, none⟩ = some u ∧ Far S (fun W => RowU W u (atl ll j)) w := by
  obtain ⟨_, a, cap, rfl, hr⟩ := h.now
  obtain ⟨b, off, rfl, hlt, _⟩ := hr (by omega)
  have h1 : Far S (fun W => ∃ u, W.cell? ⟨b, off + j, none⟩ = some u ∧ RowU W u (atl ll j)) w := h.imp fun W hW => by
    obtain ⟨_, a', cap', e, hr'⟩ := hW
    obtain ⟨b', off', e', _, hc⟩ := hr' (by omega)
    subst e'
    cases e
    exact hc j hj
  obtain ⟨u, hu, hf⟩ := far_at hlt h1 fun W u hp => by obtain ⟨_, _, a, c, e, _⟩ := hp; exact ⟨a, _, c, e⟩
  exact ⟨b, off, cap, u, rfl, hlt, hu, hf⟩
theorem IsP.farAt {S : Nat → Prop} {w : World} {v : Value} {l : List Pi} (h : Far S (fun W => IsP W v l) w) {j : Nat} (hj : j < l.length) :
    ∃ b off cap u u2, v = .agg #[.slice (some ⟨b, off, none⟩) l.length cap] ∧ b < w.heap.size ∧ w.cell? ⟨b, off + j * 2, none⟩ = some u ∧ w.cell? ⟨b, off + j * 2 + 1, none⟩ = some u2 ∧
      Far S (fun W => RowUU W u (atp l j).rounds) w ∧ Far S (fun W => RowU W u2 (atp l j).line) w := by
  obtain ⟨v1, rfl, _, a, cap, rfl, hr⟩ := h.now
  obtain ⟨b, off, rfl, hlt, _⟩ := hr (by omega)
  have hall : ∀ W, IsP W (.agg #[.slice (some ⟨b, off, none⟩) l.length cap]) l → ∃ u u2, W.cell? ⟨b, off + j * 2, none⟩ = some u ∧ W.cell? ⟨b, off + j * 2 + 1, none⟩ = some u2 ∧ RowUU W u (atp l j).rounds ∧ RowU W u2 (atp l j).line := fun W hW => by
    obtain ⟨v2, e, _, a', cap', rfl, hr'⟩ := hW
    obtain ⟨b', off', e', _, hc⟩ := hr' (by omega)
    subst e'
    simp only [Value.agg.injEq, Array.mk.injEq, List.cons.injEq, Value.slice.injEq, Option.some.injEq, Addr.mk.injEq] at e
    obtain ⟨⟨⟨rfl, rfl, -⟩, -, rfl⟩, -⟩ := e
    exact hc j hj
  have h1 : Far S (fun W => ∃ u, W.cell? ⟨b, off + j * 2, none⟩ = some u ∧ RowUU W u (atp l j).rounds) w := h.imp fun W hW => by
    obtain ⟨u, u2, c1, _, r1, _⟩ := hall W hW; exact ⟨u, c1, r1⟩
  have h2 : Far S (fun W => ∃ u, W.cell? ⟨b, off + j * 2 + 1, none⟩ = some u ∧ RowU W u (atp l j).line) w := h.imp fun W hW => by
    obtain ⟨u, u2, _, c2, _, r2⟩ := hall W hW; exact ⟨u2, c2, r2⟩
  obtain ⟨u, hu, hf⟩ := far_at hlt h1 fun W u hp => by obtain ⟨_, a, c, e, _⟩ := hp; exact ⟨a, _, c, e⟩
  obtain ⟨u2, hu2, hf2⟩ := far_at hlt h2 fun W u hp => by obtain ⟨_, _, a, c, e, _⟩ := hp; exact ⟨a, _, c, e⟩
  exact ⟨b, off, cap, u, u2, rfl, hlt, hu, hu2, hf, hf2⟩
/-- append of one number, at a step of a region that draws its order; what lies in other blocks stays -/
theorem step_appUg {ops : Array Oper} {o : Oper} {a : Act} {K : Act → World → Prop} {Q : Exit → Act → World → Prop} {E : Prop} {w0 : World} (hgd : o.guard = none) (s x : Operand)
    (ho : o.op = .call { callee := .builtin .append, args := #[s, x], argTypes := #[53, 53] })
    (B : Nat) (v : Value) (l : List Int) (hs : a.eval s = v) (hown : NewU B w0 v l) (y : Int) (hx : a.eval x = .slice (some ⟨w0.heap.size, 0, none⟩) 1 1) (hy : U64 y)
    (hlen : l.length + 1 ≤ 17592186043904) (hB : B ≤ w0.heap.size)
    (h : ∀ v' w', NewU B w' v' (l ++ [y]) → w0.grownBy w' v.ownBlock → K (a.put o.dst v') w') :
    if Region.wanted o (yielded ops a.tmps) = true then Oper.wp Tryz.prog o a (w0.alloc (.cells #[.int .u64 y] 57)) K Q else E := by
  obtain ⟨i0, hi1, hz0, hz1, hz2⟩ := info_parts Tryz.infoU
  have hlt := hown.2.2.lt
  refine step_append_lies _ hgd s x _ ho B 57 i0 (.int .u64 0) 1 8 Tryz.underlying53 hi1 hz0 hz1 hz2 rfl (by decide) v l.length _ hs (hown.2.2.alloc _) ⟨w0.heap.size, 0, none⟩ 1 1 [.int .u64 y] hx rfl
    (World.news_of_block (cs := #[.int .u64 y]) (t := 57) (fr := (0, 0)) (alloc_blk w0 _)) (by simp [Value.oneCell']) (by decide) (by unfold maxLen; omega) (by omega) (by simp; omega) (w0.heap.size + 1) (by simp) ?_
  intro g cap w' h1 h2 _ _
  refine h _ w' ⟨?_, by simp; omega, by simpa using h1⟩ (grownBy_trans (World.grownBy_alloc _ _ _) h2)
  intro z hz
  rcases List.mem_append.mp hz with hz | hz
  · exact hown.1 z hz
  · rw [List.mem_singleton.mp hz]; exact hy
/-- boxes of parts stay -/
def KeepB (w w' : World) : Prop := ∀ (b : Nat) (cs : Array Value), w.heap[b]? = some (Obj.cells cs 143 (0, 0)) → w'.heap[b]? = some (Obj.cells cs 143 (0, 0))
theorem KeepB.refl (w : World) : KeepB w w := fun _ _ h => h
theorem KeepB.trans {a b c : World} (h : KeepB a b) (k : KeepB b c) : KeepB a c := fun x cs e => k x cs (h x cs e)
theorem KeepB.below {w w' : World} (h : Below w.heap.size w w') : KeepB w w' := fun b _ e => (h.block b (blk_lt e)).trans e
theorem KeepB.grown {w w' : World} {r : Option Nat} (hg : w.grownBy w' r) (hr : ∀ g, r = some g → ∃ cs t, w.heap[g]? = some (Obj.cells cs t (0, 0)) ∧ t ≠ 143) : KeepB w w' := fun b cs e => by
  refine (hg.block b (blk_lt e) fun h => ?_).trans e
  obtain ⟨cs', t, h2, ht⟩ := hr b h.symm
  rw [e] at h2
  cases h2; exact ht rfl
theorem KeepB.set {w : World} {b j : Nat} {v : Value} {cs : Array Value} {t : TypeId} (h : w.heap[b]? = some (.cells cs t (0, 0))) (ht : t ≠ 143) : KeepB w (w.setCell ⟨b, j, none⟩ v) :=
  KeepB.grown (grownBy_setCell _ _ _ _) fun g e => by cases e; exact ⟨_, _, h, ht⟩
theorem TellA.keepS {w w' : World} {B tb sb : Nat} {vd : Value} {t : Tl} (h : TellA w B tb sb vd t) (hg : w.grownBy w' (some sb)) : KeepB w w' :=
  KeepB.grown hg fun g e => by cases e; exact ⟨_, _, h.sp, by decide⟩
theorem give_step {w1 w2 w3 : World} {B tb sb : Nat} {vd vd' : Value} {t : Tl} (h : TellA w1 B tb sb vd t) (hs : SpAt w2 sb (mix t.s)) (hg : w1.grownBy w2 (some sb))
    (hn : NewU B w3 vd' (t.ds ++ [psi t.s.y])) {vd0 : Value} (hv : vd0 = vd') (hg2 : w2.grownBy w3 vd.ownBlock) (hB : B ≤ w1.heap.size) : (∃ vd', TellA (w3.setCell ⟨tb, 1, none⟩ vd0) B tb sb vd' t.give) ∧ Below B w1 (w3.setCell ⟨tb, 1, none⟩ vd0) ∧ KeepB w1 (w3.setCell ⟨tb, 1, none⟩ vd0) := by
  subst hv
  have h2 := h.took hs hg
  have k3 : ∀ b, b < w2.heap.size → vd.ownBlock ≠ some b → w3.heap[b]? = w2.heap[b]? := fun b hb hn => hg2.block b hb fun e => hn e.symm
  have hs3 : SpAt w3 sb (mix t.s) := (k3 sb h2.lt.2 fun e => h2.row.apart h2.sp (by decide) sb e rfl).trans hs
  have hb3 := (k3 tb h2.lt.1 fun e => h2.row.apart h2.blk (by decide) tb e rfl).trans h2.blk
  have hb4 := blk_setCell hb3 1 vd0
  have gs := grownBy_setCell w3 tb 1 vd0
  refine ⟨⟨vd0, hb4, (gs.block sb (blk_lt hs3) (fun e => h.ne (by cases e; rfl))).trans hs3, hn.grownOther gs (fun g hv e => hn.apart hb3 (by decide) g hv (by cases e; rfl)), h.tbB, h.sbB⟩, ?_, ?_⟩
  · exact ((below_of_grownBy hg h.sbB hB).grown hg2 (Nat.le_trans hB hg.size) fun g e => (h2.row.lt e).1).setCell (p := ⟨tb, 1, none⟩) h.tbB _
  · exact (h.keepS hg).trans ((KeepB.grown hg2 fun g e => by obtain ⟨cs, hc⟩ := h2.row.blkT e; exact ⟨cs, _, hc, by decide⟩).trans (KeepB.set hb3 (by decide)))
theorem fiat_take (w : World) (B tb sb : Nat) (vd : Value) (t : Tl) (h : TellA w B tb sb vd t) (hB : B ≤ w.heap.size) (v : Value) (l : List Int) (hp : RowU w v l) (hs : Sep v sb) (hl : l.length ≤ 1000) :
    Calls Tryz.prog 104 #[.pointer (some ⟨sb, 0, none⟩), v] w fun e w' => e = .returned (.int .i64 0) ∧ TellA w' B tb sb vd ⟨takeL l t.s, t.ds⟩ ∧ Below B w w' ∧ KeepB w w' :=
  (sponge_Take sb t.s v l w h.sp hp hs hl).mono fun _ _ ⟨he, h1, h2⟩ => ⟨he, h.took h1 h2, below_of_grownBy h2 h.sbB hB, h.keepS h2⟩
set_option maxHeartbeats 2000000 in
theorem fiat_give (w : World) (B tb sb : Nat) (vd : Value) (t : Tl) (h : TellA w B tb sb vd t) (hB : B ≤ w.heap.size) (hl : t.ds.length ≤ 100) :
    Calls Tryz.prog 105 #[.pointer (some ⟨tb, 0, none⟩)] w fun e w' => e = .returned (.tuple #[]) ∧ (∃ vd', TellA w' B tb sb vd' t.give) ∧ Below B w w' ∧ KeepB w w' := by
  have H := Lib.hid h
  have c0 : w.cell? ⟨tb, 0, none⟩ = some _ := cell_blk h.blk 0
  have c1 : w.cell? ⟨tb, 1, none⟩ = some _ := cell_blk h.blk 1
  have CG := Lib.hid (fun W (hW : Below w.heap.size w W) => sponge_Give sb t.s W (H.out.sp.shift hW))
  have K1 := Lib.hid (show ∀ w2, w.grownBy w2 (some sb) → w2.cell? ⟨tb, 0, none⟩ = some (.pointer (some ⟨sb, 0, none⟩)) ∧ w2.cell? ⟨tb, 1, none⟩ = some vd from fun w2 hg =>
    ⟨(World.cell?_of_block (hg.block tb H.out.lt.1 (fun e => H.out.ne (by cases e; rfl)))).trans c0, (World.cell?_of_block (hg.block tb H.out.lt.1 (fun e => H.out.ne (by cases e; rfl)))).trans c1⟩)
  have K2 := Lib.hid (show ∀ w2, w.grownBy w2 (some sb) → ∀ w3, w2.grownBy w3 vd.ownBlock → w3.cell? ⟨tb, 0, none⟩ = some (.pointer (some ⟨sb, 0, none⟩)) ∧ w3.cell? ⟨tb, 1, none⟩ = some vd ∧ w3.frozen? ⟨tb, 1, none⟩ = false from fun w2 hg w3 hg2 => by
    have b2 := (hg.block tb H.out.lt.1 (fun e => H.out.ne (by cases e; rfl))).trans H.out.blk
    have b3 := (hg2.block tb (blk_lt b2) (fun e => H.out.row.apart H.out.blk (by decide) tb e.symm rfl)).trans b2
    exact ⟨cell_blk b3 0, cell_blk b3 1, free_blk b3 1⟩)
  have hlen : t.ds.length + 1 ≤ 17592186043904 := by omega
  clear h
  go_enter Tryz.func105, Tryz.ntmps105
  go_region_law
    (first
      | (go_simp; go_at_call 146; (with_reducible refine (CG.out _ (below_drw w)).mono ?_); rintro e w2 ⟨rfl, hs2, hg2'⟩; have hg2 : w.grownBy w2 (some sb) := grownBy_trans (grownBy_drewN w 1 _) hg2'; have k20 := (K1.out w2 hg2).1; have k21 := (K1.out w2 hg2).2; have lt2 : tb < w2.heap.size := Nat.lt_of_lt_of_le H.out.lt.1 hg2.size; have HN2 := Lib.hid (H.out.took hs2 hg2).row; have hB2 : B ≤ w2.heap.size := Nat.le_trans hB hg2.size; have Hs2 := Lib.hid hs2; clear hs2 hg2')
      | (refine step_appUg rfl _ _ (by rfl) B _ _ (by rfl) HN2.out _ (by rfl) (U64.psi _) hlen hB2 ?_; intro v3 w3 hn3 hg3; obtain ⟨a3, c3, rfl⟩ := hn3.isSlice; obtain ⟨k30, k31, fr3⟩ := K2.out w2 hg2 w3 hg3; have HN3 := Lib.hid hn3; clear hn3))
  all_goals
    go_end0
    exact ⟨rfl, give_step H.out Hs2.out hg2 HN3.out (by rw [List.length_append, List.length_singleton]) hg3 hB⟩
/-- append of three numbers -/
theorem wpList_appU3 {ops : Array Oper} {rest : List Oper} {o : Oper} {a : Act} {Q : Exit → Act → World → Prop} {w0 : World} (hgd : o.guard = none) (s x : Operand)
    (ho : o.op = .call { callee := .builtin .append, args := #[s, x], argTypes := #[53, 53] })
    (B : Nat) (v : Value) (l : List Int) (hs : a.eval s = v) (hown : NewU B w0 v l) (y z u : Int) (hx : a.eval x = .slice (some ⟨w0.heap.size, 0, none⟩) 3 3) (hy : U64 y) (hz : U64 z) (hu : U64 u)
    (hlen : l.length + 3 ≤ 17592186043904) (hB : B ≤ w0.heap.size)
    (h : ∀ v' w', NewU B w' v' (l ++ [y, z, u]) → Below B w0 w' → wpList Tryz.prog ops Q rest (a.put o.dst v') w') : wpList Tryz.prog ops Q (o :: rest) a (w0.alloc (.cells #[.int .u64 y, .int .u64 z, .int .u64 u] 57)) := by
  refine wpList_app hgd s x _ ho B 57 _ (.int .u64 0) 1 8 Tryz.underlying53 Tryz.infoU rfl (by decide) v l.length _ hs hown.2.2 3 _ hx rfl (by simp [Value.oneCell']) (by unfold maxLen; omega) (by omega) hB fun v' w' h1 h2 => h v' w' ⟨?_, ?_, ?_⟩ h2
  · intro q hq
    rcases List.mem_append.mp hq with hq | hq
    · exact hown.1 q hq
    · simp at hq; rcases hq with rfl | rfl | rfl
      · exact hy
      · exact hz
      · exact hu
  · simp; omega
  · simpa using h1
theorem TellA.mono {w : World} {B B' tb sb : Nat} {vd : Value} {t : Tl} (h : TellA w B tb sb vd t) (hB : B' ≤ B) : TellA w B' tb sb vd t := ⟨h.blk, h.sp, h.row.mono hB, Nat.le_trans hB h.tbB, Nat.le_trans hB h.sbB⟩
end Go.Proofs.YtlfneeobnihocaaGreatDoor

/- The walks of fiat's rest, part, words and begun. The circuit is right; the lists are no longer than a sponge takes. -/
namespace Go.Proofs.YtlfneeobnihocaaGreatDoor
set_option maxRecDepth 100000
set_option linter.unusedVariables false
open Go.RowKit Tally
open Go.Sort (grow)
set_option maxHeartbeats 1000000 in
theorem fiat_rest (w : World) (B tb sb : Nat) (vd : Value) (t : Tl) (h : TellA w B tb sb vd t) (n : Nat) (hn : n ≤ 1000000) :
    Calls Tryz.prog 103 #[.pointer (some ⟨tb, 0, none⟩), .int .i64 n] w fun e w' => e = .returned (.slice (some ⟨w.heap.size, 0, none⟩) n n) ∧ NewU w.heap.size w' (.slice (some ⟨w.heap.size, 0, none⟩) n n) (padTo n t.ds) ∧ Below w.heap.size w w' := by
  have H := Lib.hid h
  have HR := Lib.hid h.row.row
  have c1 : w.cell? ⟨tb, 1, none⟩ = some _ := cell_blk h.blk 1
  have lt := h.lt.1
  clear h
  go_enter Tryz.func103, Tryz.ntmps103
  go_wp2_with (first
    | (at_make; refine wpList_makeU _ rfl _ _ rfl _ _ n rfl rfl rfl rfl (by omega) ?_; intro w1 hn1 hb1; have Hq := Lib.hid (HR.out.below hb1 (Nat.le_refl _)); have c1' := (hb1.cell (p := ⟨tb, 1, none⟩) lt).trans c1; have Hn1 := Lib.hid hn1; clear hn1)
    | (with_reducible refine wpList_copyU (o := ⟨some 13, _, _, _, _, _⟩) rfl (.tmp 8) (.tmp 12) rfl w.heap.size w.heap.size n rfl Hn1.out vd t.ds rfl Hq.out w.heap.size w hb1 (Nat.le_refl _) ?_; intro k2 w2 hn2 hb2; have Hn2 := Lib.hid hn2; clear hn2))
  go_ret
  exact ⟨rfl, Hn2.out, hb2⟩
set_option maxRecDepth 100000 in
set_option maxHeartbeats 2000000 in
theorem fiat_part (W0 w : World) (tb sb : Nat) (vd : Value) (t : Tl) (u u2 : Value) (P : Pi) (h : TellA w W0.heap.size tb sb vd t) (hb0 : Below W0.heap.size W0 w) (hu : RowUU W0 u P.rounds) (hu2 : RowU W0 u2 P.line)
    (hl : t.ds.length + P.rounds.length + 1 ≤ 100) (hr : ∀ j, j < P.rounds.length → (atl P.rounds j).length ≤ 1000) (hl2 : P.line.length ≤ 1000) :
    Calls Tryz.prog 107 #[.pointer (some ⟨tb, 0, none⟩), .agg #[u, u2]] w fun e w' => e = .returned (.tuple #[]) ∧ (∃ vd', TellA w' W0.heap.size tb sb vd' (tellL (listsP P) t)) ∧ Below W0.heap.size W0 w' := by
  have H := Lib.hid h
  have HB0 := Lib.hid hb0
  have Hr := Lib.hid hr
  have Hu2 := Lib.hid hu2
  have Hsep2 := Lib.hid (hu2.sep h.sbB)
  obtain ⟨hll, a, cap, rfl, hc⟩ := hu
  have Hc := Lib.hid hc
  clear h hb0 hr hu2 hc
  go_enter Tryz.func107, Tryz.ntmps107
  go_wp2_with (fail)
  obtain ⟨pb, hpb⟩ : ∃ pb, pb = w.heap.size := ⟨_, rfl⟩
  obtain ⟨W1, hW⟩ : ∃ W1, w.alloc (.cells #[.slice a P.rounds.length cap, u2] 143) = W1 := ⟨_, rfl⟩
  have b1 : W1.heap[pb]? = some (.cells #[.slice a P.rounds.length cap, u2] 143 (0, 0)) := by rw [hpb, ← hW]; exact alloc_blk w _
  have B1 : Below w.heap.size w W1 := by rw [← hW]; exact below_alloc _ _
  rw [hW, ← hpb]
  have H1 := Lib.hid (H.out.go B1)
  have HB1 := Lib.hid (HB0.out.trans (B1.mono HB0.out.size))
  clear hW hpb B1
  go_loopw [9] (fun i wr => ∃ (k : Nat), k ≤ P.rounds.length ∧ i = .int .i64 (k : Int) ∧ wr.heap[pb]? = some (.cells #[.slice a P.rounds.length cap, u2] 143 (0, 0)) ∧ Below W0.heap.size W0 wr ∧ Hid (∃ vd', TellA wr W0.heap.size tb sb vd' (tellL (P.rounds.take k) t))) (fun i _ => P.rounds.length - (intOf i).toNat)
  case atStart => exact ⟨0, by omega, rfl, b1, HB1.out, ⟨vd, H1.out⟩⟩
  case round =>
    obtain ⟨k, hk, rfl, hpb, hbr, HA⟩ := hrel
    obtain ⟨vd', ha⟩ := HA.out
    have HA' := Lib.hid ha
    have hsz := hbr.size
    have d0 : wr.cell? ⟨tb, 0, none⟩ = some _ := cell_blk ha.blk 0
    have d1 : wr.cell? ⟨pb, 1, none⟩ = some _ := cell_blk hpb 1
    have Hpb := Lib.hid hpb
    have Hlt := Lib.hid (tellL_length (P.rounds.take k) t)
    clear ha hpb
    by_cases hz : k < P.rounds.length
    · obtain ⟨bl, off, rfl, hblt, hcell⟩ := Hc.out (by omega)
      obtain ⟨uj, huj, hrj⟩ := hcell k hz
      have cj := (hbr.cell (p := ⟨bl, off + k, none⟩) hblt).trans huj
      have Hrow := Lib.hid (hrj.below hbr (Nat.le_refl _))
      have Hsep := Lib.hid (hrj.sep HA'.out.sbB)
      have hl1 := Hr.out k hz
      have Hstep := Lib.hid (show tellL (P.rounds.take (k + 1)) t = (tellL (P.rounds.take k) t).told (atl P.rounds k) by
        rw [List.take_add_one, List.getElem?_eq_getElem hz]
        show tellL (_ ++ [_]) t = _
        rw [tellL_snoc]
        congr 1
        simp [atl, List.getElem?_eq_getElem hz])
      clear huj hrj hcell
      go_wp2_with (fail)
      refine (fiat_take _ _ _ _ _ _ HA'.out hsz _ _ Hrow.out Hsep.out hl1).mono ?_
      rintro e w2 ⟨rfl, ht2, hb2, hk2⟩
      have HT2 := Lib.hid ht2
      have s2 := hb2.size
      clear ht2
      go_wp2_with (fail)
      refine (fiat_give _ _ _ _ _ _ HT2.out (by omega) (by show (tellL (P.rounds.take k) t).ds.length ≤ 100; rw [Hlt.out, List.length_take]; omega)).mono ?_
      rintro e w3 ⟨rfl, ⟨vd3, ht3⟩, hb3, hk3⟩
      have HT3 := Lib.hid ht3
      clear ht3
      go_wp2
      go_roundw
      case rel => exact ⟨k + 1, by omega, by go_num, hk3 _ _ (hk2 _ _ Hpb.out), (hbr.trans hb2).trans hb3, ⟨vd3, by rw [Hstep.out]; exact HT3.out⟩⟩
      case measure => simp [intOf]; omega
    · obtain rfl : k = P.rounds.length := by omega
      have Hrow := Lib.hid ((Hu2.out.below hbr (Nat.le_refl _)).go (below_drw wr))
      have HA2 := Lib.hid (HA'.out.go (below_drw wr))
      have hsz2 : W0.heap.size ≤ wr.drew.heap.size := hsz
      have hbr2 : Below W0.heap.size W0 wr.drew := below_drewN hbr 1
      go_wp2_with (fail)
      refine wp_region_still_tail 6 (by kernel_rfl) (by kernel_rfl) ?_
      simp only [List.take_succ_cons, List.take_zero, List.drop_succ_cons, List.drop_zero]
      repeat (first | still_step)
      try refine wpStill_nil ?_
      change wpList _ _ _ _ _ (World.drew _)
      go_wp2_with (fail)
      refine (fiat_take _ _ _ _ _ _ HA2.out hsz2 _ _ Hrow.out Hsep2.out hl2).mono ?_
      rintro e w2 ⟨rfl, ht2, hb2, hk2⟩
      have HT2 := Lib.hid ht2
      have s2 := hb2.size
      clear ht2
      go_wp2_with (fail)
      refine (fiat_give _ _ _ _ _ _ HT2.out (by omega) (by show (tellL (P.rounds.take P.rounds.length) t).ds.length ≤ 100; rw [Hlt.out, List.length_take]; omega)).mono ?_
      rintro e w3 ⟨rfl, ⟨vd3, ht3⟩, hb3, hk3⟩
      have HT3 := Lib.hid ht3
      clear ht3
      go_wp2
      go_end0
      refine ⟨rfl, ⟨vd3, ?_⟩, (hbr2.trans hb2).trans hb3⟩
      have e : tellL (listsP P) t = (tellL (P.rounds.take P.rounds.length) t).told P.line := by
        unfold listsP; rw [tellL_snoc, List.take_of_length_le (Nat.le_refl _)]
      rw [e]; exact HT3.out
set_option maxRecDepth 100000 in
set_option maxHeartbeats 2000000 in
theorem fiat_words (v : Value) (c : Ci) (w : World) (h : IsC w v c) (hG : Good c) :
    Calls Tryz.prog 142 #[v] w fun e w' => ∃ vw, e = .returned vw ∧ NewU w.heap.size w' vw (wordsI c) ∧ Below w.heap.size w w' := by
  obtain ⟨hlog, u, rfl, hL⟩ := h
  obtain ⟨hls, hll, a, cap, rfl, hr⟩ := hL
  have Hr := Lib.hid hr
  have HG := Lib.hid hG
  clear hr hls hG
  have hc0 := HG.out.log0
  have hc4 := HG.out.log4
  have hn4 := HG.out.n4
  go_enter Tryz.func142, Tryz.ntmps142
  go_wp2_with (fail)
  obtain ⟨W1, hW, k0, k1, B1, s1⟩ := copied2' w (.int .i64 c.log) (.slice a c.layers.length cap) 62
  rw [hW]
  have h1n := NewU.lit2 W1 c.log (c.layers.length : Int) ⟨by omega, by omega⟩ ⟨by omega, by omega⟩
  obtain ⟨W2, hW2⟩ : ∃ W2, W1.alloc (.cells #[.int .u64 c.log, .int .u64 (c.layers.length : Int)] 57) = W2 := ⟨_, rfl⟩
  have B2 : Below w.heap.size w W2 := by rw [← hW2]; exact B1.alloc B1.size _
  rw [hW2] at h1n ⊢
  have HN2 := Lib.hid (show NewU w.heap.size W2 (.slice (some ⟨w.heap.size + 1, 0, none⟩) 2 2) (wordsTo c 0) from by rw [← s1]; exact h1n.mono (B' := w.heap.size) B1.size)
  have HB2 := Lib.hid B2
  clear hW s1 k0 k1 B1 h1n hW2 B2
  go_loopw [3, 20] (fun vo i wr => ∃ (k : Nat) (vx : Value), vx = vo ∧ k ≤ c.layers.length ∧ i = .int .i64 (k : Int) ∧ Hid (NewU w.heap.size wr vx (wordsTo c k)) ∧ Below w.heap.size w wr) (fun _ i _ => c.layers.length - (intOf i).toNat)
  case atStart => exact ⟨0, _, rfl, by omega, rfl, HN2.out, HB2.out⟩
  case round =>
    obtain ⟨k, vx, hvx, hk, rfl, HN, hbr⟩ := hrel
    subst hvx
    by_cases hz : k < c.layers.length
    · obtain ⟨b, off, rfl, hblt, hcell⟩ := Hr.out (by omega)
      obtain ⟨c1, u, c2, hg⟩ := hcell k hz
      have d1 := (hbr.cell (p := ⟨b, off + k * 2, none⟩) (by exact hblt)).trans c1
      have d2 := (hbr.cell (p := ⟨b, off + k * 2 + 1, none⟩) (by exact hblt)).trans c2
      obtain ⟨hgi, hgl, ag, cg, rfl, hgr⟩ := hg
      have Hg := Lib.hid hgr
      have l0 := HG.out.l0 k hz
      have l4 := HG.out.l4 k hz
      have HW0 := Lib.hid (wordsAt_zero c k)
      have HWs := Lib.hid (fun j (h : j < (aty c.layers k).gates.length) => wordsAt_succ c k h)
      have HWe := Lib.hid (wordsAt_all c hz)
      have HWl := Lib.hid (show ∀ j, j ≤ (aty c.layers k).gates.length → (wordsAt c k j).length ≤ 500 from fun j hj => by
        have h1 := wordsTo_len HG.out k hk
        have h2 := wordsAt_len (c := c) k j hj
        have h3 := HG.out.len k hz
        have h4 := (pow4 (HG.out.l4 k hz)).2
        omega)
      have HGt := Lib.hid (show ∀ j, j < (aty c.layers k).gates.length → (0 ≤ (atg (aty c.layers k).gates j).a ∧ (atg (aty c.layers k).gates j).a ≤ 16) ∧ (0 ≤ (atg (aty c.layers k).gates j).b ∧ (atg (aty c.layers k).gates j).b ≤ 16) from fun j hj => by
        have h1 := of_decide_eq_true (HG.out.gate k hz j hj)
        have h2 := (pow4 (HG.out.below4 (k := k) (by omega))).2
        omega)
      have hT := Lib.hid (show (wordsTo c k).length ≤ 500 from by have := wordsTo_len HG.out k hk; omega)
      clear hcell c1 c2 hgr hgi
      generalize (aty c.layers k).gates = gs at *
      generalize (aty c.layers k).log = lg at *
      obtain ⟨wo, rfl⟩ : ∃ x : World, x = wr := ⟨_, rfl⟩
      obtain ⟨W, hW, q0, q1, hWr, hWs⟩ := copied2' wo (.int .i64 lg) (.slice ag gs.length cg) 124
      have hbl : W.heap[wo.heap.size]? = some (.cells #[.int .i64 lg, .slice ag gs.length cg] 124 (0, 0)) := by rw [← hW]; exact alloc_blk wo _
      have HNW := Lib.hid (show NewU w.heap.size W vx (wordsTo c k) from HN.out.below hWr (Nat.le_refl _))
      have HbW := Lib.hid (hbr.trans (hWr.mono hbr.size))
      have hszW : w.heap.size ≤ W.heap.size := Nat.le_trans hbr.size hWr.size
      have Hbl := Lib.hid hbl
      have HW := Lib.hid hW; have HWz := Lib.hid hWs
      clear hWr hWs hbl q0 hW
      go_wp2_with (at_builtin; try rw [HW.out]; refine wpList_appUg rfl _ _ (by rfl) w.heap.size vx (wordsTo c k) (by rfl) HNW.out lg (by rw [HWz.out]; rfl) ⟨by omega, by omega⟩ (by have := hT.out; omega) hszW ?_; intro v3 w3 hn3 hb3 hg3; have HN3 := Lib.hid (show NewU w.heap.size w3 v3 (wordsAt c k 0) by rw [HW0.out]; exact hn3); have q1' := cell_blk ((hg3.block wo.heap.size (blk_lt Hbl.out) (fun e => HNW.out.apart Hbl.out (by decide) wo.heap.size e.symm rfl)).trans Hbl.out) 1; have HB3 := Lib.hid (HbW.out.trans hb3); clear hn3 hb3 hg3 q1 hszW)
      go_loopw [3, 33] (fun vo i w2 => ∃ (j : Nat) (vj : Value), vj = vo ∧ j ≤ gs.length ∧ i = .int .i64 (j : Int) ∧ Hid (NewU w.heap.size w2 vj (wordsAt c k j)) ∧ Hid (Below w.heap.size w w2)) (fun _ i _ => gs.length - (intOf i).toNat)
      case atStart => exact ⟨0, _, rfl, by omega, rfl, HN3.out, HB3.out⟩
      case round =>
        obtain ⟨j, vj, hvj, hj, rfl, HNj, HBj⟩ := hrel
        subst hvj
        by_cases hjz : j < gs.length
        · obtain ⟨b2, off2, rfl, hb2lt, hgc⟩ := Hg.out (by omega)
          obtain ⟨c1, c2, c3⟩ := hgc j hjz
          have f1 := (HBj.out.cell (p := ⟨b2, off2 + j * 3, none⟩) (by exact hb2lt)).trans c1
          have f2 := (HBj.out.cell (p := ⟨b2, off2 + j * 3 + 1, none⟩) (by exact hb2lt)).trans c2
          have f3 := (HBj.out.cell (p := ⟨b2, off2 + j * 3 + 2, none⟩) (by exact hb2lt)).trans c3
          obtain ⟨⟨ga0, ga1⟩, gb0, gb1⟩ := HGt.out j hjz
          have Hs := Lib.hid (HWs.out j hjz)
          have Hl := Lib.hid (HWl.out j (by omega))
          have hsz2 := HBj.out.size
          clear c1 c2 c3 hgc q1'
          generalize (atg gs j).mul = gm at *
          generalize (atg gs j).a = A at *
          generalize (atg gs j).b = Bb at *
          cases gm
          · obtain ⟨wv, rfl⟩ : ∃ x : World, x = wr := ⟨_, rfl⟩
            obtain ⟨X, hX, t0, t1, t2, hXb, hXs⟩ := copied3' wv (.bool false) (.int .i64 A) (.int .i64 Bb) 126
            have HNx := Lib.hid (show NewU w.heap.size X vj (wordsAt c k j) from HNj.out.below hXb (Nat.le_refl _))
            have HBx := Lib.hid (HBj.out.trans (hXb.mono hsz2))
            have hsX : w.heap.size ≤ X.heap.size := by omega
            have HX := Lib.hid hX; have HXs := Lib.hid hXs
            clear hX hXb hXs
            go_wp2_with (at_builtin; try rw [HX.out]; refine wpList_appU3 rfl _ _ (by rfl) w.heap.size vj (wordsAt c k j) (by rfl) HNx.out 0 A Bb (by rw [HXs.out]; rfl) U64.zero ⟨by omega, by omega⟩ ⟨by omega, by omega⟩ (by have := Hl.out; omega) hsX ?_; intro v5 w5 hn5 hb5; have HN5 := Lib.hid (show NewU w.heap.size w5 v5 (wordsAt c k (j + 1)) by rw [Hs.out]; exact hn5); have HB5 := Lib.hid (HBx.out.trans hb5); clear hn5 hb5)
            go_roundw
            case rel => exact ⟨j + 1, _, rfl, by omega, by go_num, HN5.out, HB5.out⟩
            case measure => simp [intOf]; omega
          · obtain ⟨wv, rfl⟩ : ∃ x : World, x = wr := ⟨_, rfl⟩
            obtain ⟨X, hX, t0, t1, t2, hXb, hXs⟩ := copied3' wv (.bool true) (.int .i64 A) (.int .i64 Bb) 126
            have HNx := Lib.hid (show NewU w.heap.size X vj (wordsAt c k j) from HNj.out.below hXb (Nat.le_refl _))
            have HBx := Lib.hid (HBj.out.trans (hXb.mono hsz2))
            have hsX : w.heap.size ≤ X.heap.size := by omega
            have HX := Lib.hid hX; have HXs := Lib.hid hXs
            clear hX hXb hXs
            go_wp2_with (at_builtin; try rw [HX.out]; refine wpList_appU3 rfl _ _ (by rfl) w.heap.size vj (wordsAt c k j) (by rfl) HNx.out 1 A Bb (by rw [HXs.out]; rfl) U64.one ⟨by omega, by omega⟩ ⟨by omega, by omega⟩ (by have := Hl.out; omega) hsX ?_; intro v5 w5 hn5 hb5; have HN5 := Lib.hid (show NewU w.heap.size w5 v5 (wordsAt c k (j + 1)) by rw [Hs.out]; exact hn5); have HB5 := Lib.hid (HBx.out.trans hb5); clear hn5 hb5)
            go_roundw
            case rel => exact ⟨j + 1, _, rfl, by omega, by go_num, HN5.out, HB5.out⟩
            case measure => simp [intOf]; omega
        · obtain rfl : j = gs.length := by omega
          have HNe := Lib.hid (show NewU w.heap.size wr _ (wordsTo c (k + 1)) by rw [← HWe.out]; exact HNj.out)
          go_wp2
          go_roundw
          case rel => exact ⟨k + 1, _, rfl, by omega, by go_num, HNe.out, HBj.out⟩
          case measure => simp [intOf]; omega
    · obtain rfl : k = c.layers.length := by omega
      go_wp2
      go_ret
      exact ⟨_, rfl, by rw [← wordsTo_all]; exact HN.out, hbr⟩
set_option maxRecDepth 100000 in
set_option maxHeartbeats 2000000 in
theorem fiat_begun (w : World) (v vi vo : Value) (c : Ci) (inp out : List Int) (h : IsC w v c) (hG : Good c) (hi : RowU w vi inp) (ho : RowU w vo out) (hil : inp.length ≤ 1000) (hol : out.length ≤ 1000) :
    Calls Tryz.prog 100 #[v, vi, vo] w fun e w' => ∃ tb sb vd, e = .returned (.pointer (some ⟨tb, 0, none⟩)) ∧ TellA w' w.heap.size tb sb vd (begT c inp out) ∧ Below w.heap.size w w' := by
  have HC := Lib.hid h; have HG := Lib.hid hG; have Hi := Lib.hid hi; have Ho := Lib.hid ho
  obtain ⟨ac, cc, rfl⟩ := h.shape
  have hc4 := HG.out.n4
  have hc1 := HG.out.n1
  obtain ⟨-, -, ai, ci, rfl, -⟩ := Hi.out
  obtain ⟨-, -, ao, co, rfl, -⟩ := Ho.out
  have Hil := Lib.hid hil; have Hol := Lib.hid hol
  clear h hG hi ho hil hol
  go_enter Tryz.func100, Tryz.ntmps100
  go_wp2_with (fail)
  obtain ⟨W1, hW, k0, k1, B1, s1⟩ := copied2' w (.int .i64 c.log) (.slice ac c.layers.length cc) 62
  rw [hW]
  obtain ⟨cb, hcb⟩ : ∃ cb, cb = w.heap.size := ⟨_, rfl⟩
  rw [← hcb] at k0 k1 s1 ⊢
  have HX1 := Lib.hid (show Boxed cb (.int .i64 c.log) (.slice ac c.layers.length cc) W1 from ⟨k0, k1, by omega⟩)
  have H1 := Lib.hid B1
  clear hW s1 k0 k1 B1 hcb
  refine (sponge_New 1 W1 (U64.mk (by decide) (by decide))).mono ?_
  rintro e w2 ⟨sb, rfl, hsb, hS2, hb2⟩
  have HS2 := Lib.hid hS2
  have Hsb := Lib.hid hsb
  have Hb2 := Lib.hid hb2
  have HX2 := Lib.hid (HX1.out.go hb2)
  have r0 := HX2.out.c0; have r1 := HX2.out.c1; have lt2 := HX2.out.lt
  clear hS2 hsb hb2
  go_wp2_with (fail)
  obtain ⟨tb, htb⟩ : ∃ tb, tb = w2.heap.size := ⟨_, rfl⟩
  obtain ⟨W3, hW3⟩ : ∃ W3, w2.alloc (.cells #[.pointer (some ⟨sb, 0, none⟩), .slice none 0 0] 140) = W3 := ⟨_, rfl⟩
  have hblk : W3.heap[tb]? = some (.cells #[.pointer (some ⟨sb, 0, none⟩), .slice none 0 0] 140 (0, 0)) := by rw [htb, ← hW3]; exact alloc_blk w2 _
  have B3 : Below w2.heap.size w2 W3 := by rw [← hW3]; exact below_alloc _ _
  rw [hW3, ← htb]
  have HA3 := Lib.hid (show TellA W3 W1.heap.size tb sb (.slice none 0 0) ⟨newS 1, []⟩ from ⟨hblk, HS2.out.shift B3, NewU.nil _ _, by rw [htb]; exact Hb2.out.size, Hsb.out⟩)
  have HX3 := Lib.hid (HX2.out.go B3)
  have HB13 := Lib.hid (show Below W1.heap.size W1 W3 from below_two Hb2.out B3)
  have H3 := Lib.hid (below_two (below_two H1.out Hb2.out) B3)
  clear hW3 hblk B3 htb r0 r1 lt2
  refine (fiat_words _ c W3 (HC.out.go H3.out) HG.out).mono ?_
  rintro e w4 ⟨vw, rfl, hn4, hb4⟩
  obtain ⟨aw, cw, rfl⟩ := hn4.isSlice
  have HN4 := Lib.hid hn4
  have HA4 := Lib.hid (HA3.out.go hb4)
  have HX4 := Lib.hid (HX3.out.go hb4)
  have HB14 := Lib.hid (HB13.out.trans (hb4.mono HB13.out.size))
  have H4 := Lib.hid (below_two H3.out hb4)
  have ltA := HA3.out.lt
  clear hn4 hb4
  go_wp2_with (fail)
  obtain ⟨W5, hW5⟩ : ∃ W5, w4.alloc (.cells #[.slice aw (wordsI c).length cw, .slice ai inp.length ci, .slice ao out.length co] 53) = W5 := ⟨_, rfl⟩
  obtain ⟨qb, hqb⟩ : ∃ qb, qb = w4.heap.size := ⟨_, rfl⟩
  have hblk5 : W5.heap[qb]? = some (.cells #[.slice aw (wordsI c).length cw, .slice ai inp.length ci, .slice ao out.length co] 53 (0, 0)) := by rw [hqb, ← hW5]; exact alloc_blk w4 _
  have B5 : Below w4.heap.size w4 W5 := by rw [← hW5]; exact below_alloc _ _
  rw [hW5, ← hqb]
  have hqs : sb < qb := by rw [hqb]; exact HA4.out.lt.2
  have HA5 := Lib.hid (HA4.out.go B5)
  have HX5 := Lib.hid (HX4.out.go B5)
  have HB15 := Lib.hid (HB14.out.trans (B5.mono HB14.out.size))
  have H5 := Lib.hid (below_two H4.out B5)
  have HRows := Lib.hid (show ∀ k, k < 3 → ∃ u l, W5.cell? ⟨qb, k, none⟩ = some u ∧ RowU W5 u l ∧ Sep u sb ∧ l.length ≤ 1000 ∧ takeL l (begS c inp out k) = begS c inp out (k + 1) from fun k hk => by
    have hwb : W1.heap.size ≤ sb := HA5.out.sbB
    have hwB : w.heap.size ≤ sb := by have := H1.out.size; omega
    match k, hk with
    | 0, _ => exact ⟨_, _, cell_blk hblk5 0, HN4.out.row.go B5, fun x n cp hv h0 => by
        intro e
        have h1 := (HN4.out.lt (g := x.block) (by cases hv; rfl)).1
        have h2 := HA3.out.lt.2
        omega, by have := wordsI_len HG.out; omega, rfl⟩
    | 1, _ => exact ⟨_, _, cell_blk hblk5 1, Hi.out.go H5.out, Hi.out.sep hwB, Hil.out, rfl⟩
    | 2, _ => exact ⟨_, _, cell_blk hblk5 2, Ho.out.go H5.out, Ho.out.sep hwB, Hol.out, rfl⟩)
  have Hq5 := Lib.hid (blk_lt hblk5)
  clear hW5 hblk5 B5 hqb ltA
  go_loopw [19] (fun i wr => ∃ (k : Nat), k ≤ 3 ∧ i = .int .i64 (k : Int) ∧ SpAt wr sb (begS c inp out k) ∧ W5.grownBy wr (some sb)) (fun i _ => 3 - (intOf i).toNat)
  case atStart => exact ⟨0, by omega, rfl, HA5.out.sp, grownBy_refl _ _⟩
  case round =>
    obtain ⟨k, hk, rfl, hs, hg⟩ := hrel
    by_cases hz : k < 3
    · obtain ⟨u, l, hu, hr, hsep, hl, hst⟩ := HRows.out k hz
      have cu := (World.cell?_of_block (hg.block qb Hq5.out (fun e => by cases e; omega))).trans hu
      have ct := (World.cell?_of_block (hg.block tb HA5.out.lt.1 (fun e => HA5.out.ne (by cases e; rfl)))).trans (cell_blk HA5.out.blk 0)
      have HS := Lib.hid hs
      have Hrow := Lib.hid (hr.grown hg hsep)
      have Hsep := Lib.hid hsep
      have Hst := Lib.hid hst
      have Hg := Lib.hid hg
      clear hs hg hr hsep hst hu
      go_wp2_with (fail)
      refine (sponge_Take sb _ u l wr HS.out Hrow.out Hsep.out hl).mono ?_
      rintro e w6 ⟨rfl, h6, hg6⟩
      go_wp2
      go_roundw
      case rel => exact ⟨k + 1, by omega, by go_num, by rw [← Hst.out]; exact h6, grownBy_trans Hg.out hg6⟩
      case measure => simp [intOf]; omega
    · obtain rfl : k = 3 := by omega
      rw [show ((3 : Nat) : Int) = 3 from rfl]
      have HA6 := Lib.hid (show TellA wr W1.heap.size tb sb (.slice none 0 0) (startT c inp out) from HA5.out.took hs hg)
      have hBw : Below W1.heap.size W1 wr := HB15.out.trans (below_of_grownBy hg HA5.out.sbB HB15.out.size)
      have hHw : Below w.heap.size w wr := H5.out.trans (below_of_grownBy hg (by have := H1.out.size; have := HA5.out.sbB; omega) H5.out.size)
      have cx1 := (hBw.cell (p := ⟨cb, 1, none⟩) HX1.out.lt).trans HX1.out.c1
      have cx0 := (hBw.cell (p := ⟨cb, 0, none⟩) HX1.out.lt).trans HX1.out.c0
      obtain ⟨hlog, uu, e, hL⟩ := HC.out.go hHw
      simp only [Value.agg.injEq, Array.mk.injEq, List.cons.injEq] at e
      obtain ⟨-, rfl, -⟩ := e
      obtain ⟨hls, hll, a', cap', e, hr⟩ := hL
      cases e
      obtain ⟨m, hm⟩ : ∃ m, c.layers.length = m + 1 := ⟨c.layers.length - 1, by omega⟩
      have hbl : belowLog c c.layers.length = (aty c.layers m).log := by rw [hm, belowLog_succ]
      obtain ⟨b, off, rfl, hblt, hcell⟩ := hr (by omega)
      obtain ⟨c1, _⟩ := hcell m (by omega)
      have t0 := HG.out.below0 (k := c.layers.length) (Nat.le_refl _)
      have t4 := HG.out.below4 (k := c.layers.length) (Nat.le_refl _)
      have HbegT := Lib.hid (show begT c inp out = gives (belowLog c c.layers.length).toNat (startT c inp out) from rfl)
      have hs1 : (c.layers.length : Int) - 1 = (m : Int) := by omega
      have hml : (m : Int) < (c.layers.length : Int) := by omega
      have hm0 : (1 : Int) ≤ (c.layers.length : Int) := by omega
      have hm4 : (c.layers.length : Int) ≤ 4 := by omega
      have Hhw := Lib.hid hHw
      have HbB := Lib.hid hBw
      rw [hbl] at t0 t4 HbegT
      generalize (aty c.layers m).log = top at *
      obtain ⟨T, rfl⟩ : ∃ T : Nat, top = (T : Int) := ⟨top.toNat, by omega⟩
      clear hcell hr hls hll hm hlog hbl hHw hBw hs hg
      go_wp2_with (fail)
      go_loopw [39] (fun i wx => ∃ (k : Nat), k ≤ T ∧ i = .int .i64 (k : Int) ∧ Hid (Below W1.heap.size W1 wx) ∧ Hid (∃ vd', TellA wx W1.heap.size tb sb vd' (gives k (startT c inp out)))) (fun i _ => T - (intOf i).toNat)
      case atStart => exact ⟨0, by omega, rfl, HbB.out, ⟨_, HA6.out⟩⟩
      case round =>
        obtain ⟨k, hk, rfl, HBx, HAx⟩ := hrel
        by_cases hz2 : k < T
        · obtain ⟨vd', ha⟩ := HAx.out
          have HA7 := Lib.hid ha
          clear ha
          go_wp2_with (fail)
          refine (fiat_give _ _ _ _ _ _ HA7.out HBx.out.size (by rw [gives_length]; show 0 + _ ≤ 100; omega)).mono ?_
          rintro e w8 ⟨rfl, ⟨vd8, ht8⟩, hb8, -⟩
          have HT8 := Lib.hid ht8
          have HB8 := Lib.hid (HBx.out.trans hb8)
          clear ht8 hb8
          go_wp2
          go_roundw
          case rel => exact ⟨k + 1, by omega, by go_num, HB8.out, ⟨vd8, HT8.out⟩⟩
          case measure => simp [intOf]; omega
        · obtain rfl : k = T := by omega
          obtain ⟨vd', ha⟩ := HAx.out
          have HA7 := Lib.hid ha
          clear ha
          go_wp2
          go_ret
          have e := HbegT.out
          rw [Int.toNat_natCast] at e
          exact ⟨tb, sb, vd', rfl, by rw [e]; exact HA7.out.mono (H1.out.size), H1.out.trans (HBx.out.mono (H1.out.size))⟩
end Go.Proofs.YtlfneeobnihocaaGreatDoor
