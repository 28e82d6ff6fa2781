/- Plain law and walks of the sponges, the program's and the reference's: both are mixed alike. The sponge's three numbers lie in a block of its own. -/
import Derived.Test.YtlfneeobnihocaaGreatDoorMem
namespace Go.Proofs.YtlfneeobnihocaaGreatDoor
set_option maxRecDepth 100000
set_option linter.unusedVariables false
open Go.RowKit Tally

/-- a sponge's three numbers -/
structure St where
  x : F
  y : F
  z : F
/-- the 17th power -/
def p17 (x : F) : F := x ^ 17
/-- turn number k -/
def turn (k : Int) (s : St) : St :=
  let a := p17 (s.x + phi k)
  let b := p17 (s.y + phi (2 * k))
  let c := p17 (s.z + phi (3 * k))
  ⟨a + (b + c) + a, a + (b + c) + b, a + (b + c) + c⟩
/-- the first n turns -/
def turns : Nat → St → St
  | 0, s => s
  | n + 1, s => turn ((n : Int) + 1) (turns n s)
/-- mixed -/
def mix (s : St) : St := turns 8 s

/-- the program's sponge in block b -/
def SpAt (w : World) (b : Nat) (s : St) : Prop := w.heap[b]? = some (.cells #[.int .u64 (psi s.x), .int .u64 (psi s.y), .int .u64 (psi s.z)] 196 (0, 0))
theorem SpAt.cells {w : World} {b : Nat} {s : St} (h : SpAt w b s) : w.cell? ⟨b, 0, none⟩ = some (.int .u64 (psi s.x)) ∧ w.cell? ⟨b, 1, none⟩ = some (.int .u64 (psi s.y)) ∧ w.cell? ⟨b, 2, none⟩ = some (.int .u64 (psi s.z)) :=
  ⟨cell_blk h 0, cell_blk h 1, cell_blk h 2⟩
theorem SpAt.free {w : World} {b : Nat} {s : St} (h : SpAt w b s) (j : Nat) : w.frozen? ⟨b, j, none⟩ = false := free_blk h j
theorem SpAt.lt {w : World} {b : Nat} {s : St} (h : SpAt w b s) : b < w.heap.size := blk_lt h
theorem SpAt.set {w : World} {b : Nat} {s : St} (h : SpAt w b s) (x y z : F) : SpAt (((w.setCell ⟨b, 0, none⟩ (.int .u64 (psi x))).setCell ⟨b, 1, none⟩ (.int .u64 (psi y))).setCell ⟨b, 2, none⟩ (.int .u64 (psi z))) b ⟨x, y, z⟩ :=
  blk_setCell (blk_setCell (blk_setCell h 0 _) 1 _) 2 _
theorem SpAt.set0 {w : World} {b : Nat} {s : St} (h : SpAt w b s) (x : F) : SpAt (w.setCell ⟨b, 0, none⟩ (.int .u64 (psi x))) b ⟨x, s.y, s.z⟩ := blk_setCell h 0 _
theorem SpAt.set' {w : World} {b : Nat} {s : St} (h : SpAt w b s) (t : St) {X Y Z : Int} (hx : X = psi t.x) (hy : Y = psi t.y) (hz : Z = psi t.z) : SpAt (((w.setCell ⟨b, 0, none⟩ (.int .u64 X)).setCell ⟨b, 1, none⟩ (.int .u64 Y)).setCell ⟨b, 2, none⟩ (.int .u64 Z)) b t := by
  subst hx; subst hy; subst hz; exact h.set _ _ _
theorem SpAt.set0' {w : World} {b : Nat} {s : St} (h : SpAt w b s) (x : F) {X : Int} (hx : X = psi x) : SpAt (w.setCell ⟨b, 0, none⟩ (.int .u64 X)) b ⟨x, s.y, s.z⟩ := by
  subst hx; exact h.set0 _
theorem SpAt.new (w : World) (z : F) : SpAt (w.alloc (.cells #[.int .u64 0, .int .u64 1, .int .u64 (psi z)] 196)) w.heap.size ⟨0, 1, z⟩ := by
  unfold SpAt; rw [alloc_blk, psi_zero, psi_one]
theorem set3_grown (w : World) (b : Nat) (x y z : Value) : w.grownBy (((w.setCell ⟨b, 0, none⟩ x).setCell ⟨b, 1, none⟩ y).setCell ⟨b, 2, none⟩ z) (some b) :=
  grownBy_trans (grownBy_trans (grownBy_setCell _ _ _ _) (grownBy_setCell _ _ _ _)) (grownBy_setCell _ _ _ _)

theorem field_Pow17 (a : Int) (w : World) (ha : U64 a) :
    Calls Tryz.prog 110 #[.int .u64 a, .int .u64 17] w fun e w' => e = .returned (.int .u64 (psi (p17 (phi a)))) ∧ w = w' := field_Pow a 17 w ha (U64.mk (by decide) (by decide))
set_option maxHeartbeats 400000 in
theorem sponge_mix (b : Nat) (s : St) (w : World) (h : SpAt w b s) :
    Calls Tryz.prog 160 #[.pointer (some ⟨b, 0, none⟩)] w fun e w' => e = .returned (.tuple #[]) ∧ SpAt w' b (mix s) ∧ w.grownBy w' (some b) := by
  go_enter Tryz.func160, Tryz.ntmps160
  go_wp2
  go_loopw [2] (fun i wr => ∃ (k : Nat), k ≤ 8 ∧ i = .int .u64 ((k : Int) + 1) ∧ SpAt wr b (turns k s) ∧ w.grownBy wr (some b)) (fun i _ => (9 - intOf i).toNat)
  case atStart => exact ⟨0, by omega, rfl, h, World.grownBy.refl _ _⟩
  case round =>
    obtain ⟨k, hk9, rfl, hb, hg⟩ := hrel
    by_cases hk : k < 8
    · obtain ⟨hx, hy, hz⟩ := hb.cells
      have f0 := hb.free 0
      have f1 := hb.free 1
      have f2 := hb.free 2
      have u1 : U64 ((k : Int) + 1) := ⟨by omega, by omega⟩
      have u2 : U64 (2 * ((k : Int) + 1)) := ⟨by omega, by omega⟩
      have u3 : U64 (3 * ((k : Int) + 1)) := ⟨by omega, by omega⟩
      have Hb := Lib.hid hb
      clear hb
      go_wp2_with (first | (go_at_call 108; (with_reducible refine (field_Add _ _ _ (by first | assumption | exact U64.psi _ | exact U64.zero | exact U64.one | exact U64.mk (by decide) (by decide)) (by first | assumption | exact U64.psi _ | exact U64.zero | exact U64.one | exact U64.mk (by decide) (by decide))).mono ?_); rintro e w' ⟨rfl, rfl⟩) | (go_at_call 110; (with_reducible refine (field_Pow17 _ _ (by first | assumption | exact U64.psi _ | exact U64.zero | exact U64.one | exact U64.mk (by decide) (by decide))).mono ?_); rintro e w' ⟨rfl, rfl⟩))
      go_roundw
      case rel =>
        exact ⟨k + 1, by omega, by go_num, Hb.out.set' (turn ((k : Int) + 1) (turns k s)) (by simp only [phi_psi, turn]) (by simp only [phi_psi, turn]) (by simp only [phi_psi, turn]), grownBy_trans hg (set3_grown _ _ _ _ _)⟩
      case measure => simp [intOf]; omega
    · obtain rfl : k = 8 := by omega
      go_wp2
      go_end0
      exact ⟨rfl, hb, hg⟩

theorem SpAt.shift {w w' : World} {b : Nat} {s : St} (h : SpAt w b s) (hb : Below w.heap.size w w') : SpAt w' b s := (hb.block b h.lt).trans h
/-- a number is taken -/
def tookF (n : F) (s : St) : St := mix ⟨s.x + n, s.y, s.z⟩
def took (n : Int) (s : St) : St := tookF (phi n) s
/-- a list's numbers are taken -/
def tookL (l : List Int) (s : St) : St := l.foldl (fun s n => took n s) s
/-- a list is taken -/
def takeL (l : List Int) (s : St) : St := tookL l (took l.length s)
/-- a new sponge -/
def newS (word : Int) : St := mix ⟨0, 1, phi word⟩
/-- what stands for the hash of two numbers -/
def pairF (a b : F) : F := (tookF b (tookF a (tookF (phi 2) (newS 7)))).y
set_option maxHeartbeats 400000 in
theorem sponge_take1 (b : Nat) (s : St) (n : Int) (w : World) (h : SpAt w b s) (hn : U64 n) :
    Calls Tryz.prog 145 #[.pointer (some ⟨b, 0, none⟩), .int .u64 n] w fun e w' => e = .returned (.tuple #[]) ∧ SpAt w' b (took n s) ∧ w.grownBy w' (some b) := by
  obtain ⟨hx, hy, hz⟩ := h.cells
  have f0 := h.free 0
  have H := Lib.hid h
  clear h
  go_enter Tryz.func145, Tryz.ntmps145
  go_wp2_with (first | (go_at_call 108; (with_reducible refine (field_Add _ _ _ (by first | assumption | exact U64.psi _ | exact U64.zero | exact U64.one | exact U64.mk (by decide) (by decide)) (by first | assumption | exact U64.psi _ | exact U64.zero | exact U64.one | exact U64.mk (by decide) (by decide))).mono ?_); rintro e w' ⟨rfl, rfl⟩) | (go_at_call 160; (with_reducible refine (sponge_mix _ _ _ (H.out.set0' (s.x + phi n) (by rw [phi_psi]))).mono ?_); rintro e w' ⟨rfl, h1, h2⟩))
  go_end0
  exact ⟨rfl, h1, grownBy_trans (grownBy_setCell _ _ _ _) h2⟩
set_option maxHeartbeats 400000 in
theorem sponge_Give (b : Nat) (s : St) (w : World) (h : SpAt w b s) :
    Calls Tryz.prog 146 #[.pointer (some ⟨b, 0, none⟩)] w fun e w' => e = .returned (.int .u64 (psi s.y)) ∧ SpAt w' b (mix s) ∧ w.grownBy w' (some b) := by
  obtain ⟨hx, hy, hz⟩ := h.cells
  have H := Lib.hid h
  clear h
  go_enter Tryz.func146, Tryz.ntmps146
  go_wp2_with (go_at_call 160; (with_reducible refine (sponge_mix _ s _ H.out).mono ?_); rintro e w' ⟨rfl, h1, h2⟩)
  go_ret
  exact ⟨rfl, h1, h2⟩
set_option maxHeartbeats 400000 in
theorem sponge_New (n : Int) (w : World) (hn : U64 n) :
    Calls Tryz.prog 141 #[.int .u64 n] w fun e w' => ∃ b, e = .returned (.pointer (some ⟨b, 0, none⟩)) ∧ w.heap.size ≤ b ∧ SpAt w' b (newS n) ∧ Below w.heap.size w w' := by
  go_enter Tryz.func141, Tryz.ntmps141
  go_wp2_with (first | (go_at_call 64; (with_reducible refine (field_Norm _ _ (by first | assumption | exact U64.psi _ | exact U64.zero | exact U64.one | exact U64.mk (by decide) (by decide))).mono ?_); rintro e w' ⟨rfl, rfl⟩) | (go_at_call 160; (with_reducible refine (sponge_mix _ _ _ (SpAt.new _ _)).mono ?_); rintro e w' ⟨rfl, h1, h2⟩))
  go_ret
  exact ⟨_, rfl, Nat.le_refl _, h1, ((Below.refl _ _).alloc (Nat.le_refl _) _).trans (below_of_grownBy h2 (Nat.le_refl _) (by simp))⟩

/-- the slice's cells are not those of block b -/
def Sep (v : Value) (b : Nat) : Prop := ∀ a n c, v = .slice (some a) n c → 0 < n → a.block ≠ b
theorem RowU.sep {w : World} {v : Value} {l : List Int} {b : Nat} (h : RowU w v l) (hb : w.heap.size ≤ b) : Sep v b := by
  intro a n c hv hn
  obtain ⟨_, _, a', cap, rfl, h3⟩ := h
  cases hv
  obtain ⟨k, off, hk, hlt, _⟩ := h3 hn
  cases hk
  show k ≠ b; omega
theorem tookL_snoc (l : List Int) (k : Nat) (s : St) (h : k < l.length) : tookL (l.take (k + 1)) s = took (at0 l k) (tookL (l.take k) s) := by
  unfold tookL; rw [take_snoc' l k h, List.foldl_append]; rfl
set_option maxHeartbeats 400000 in
theorem sponge_Take (b : Nat) (s : St) (v : Value) (l : List Int) (w : World) (h : SpAt w b s) (hp : RowU w v l) (hs : Sep v b) (hl : l.length ≤ 1000) :
    Calls Tryz.prog 104 #[.pointer (some ⟨b, 0, none⟩), v] w fun e w' => e = .returned (.int .i64 0) ∧ SpAt w' b (takeL l s) ∧ w.grownBy w' (some b) := by
  have hat := Lib.hid (fun j => @RowU.at _ _ _ hp j)
  have hl' : ¬ (1000 : Int) < (l.length : Int) := by omega
  obtain ⟨h1, h2, a, cap, rfl, hr⟩ := hp
  have Hr := Lib.hid hr
  have Hs := Lib.hid hs
  have H := Lib.hid h
  have ul : U64 (l.length : Int) := ⟨by omega, by omega⟩
  clear hr h1 hs h
  go_enter Tryz.func104, Tryz.ntmps104
  go_wp2_with (go_at_call 145; (with_reducible refine (sponge_take1 _ _ _ _ H.out (by first | assumption | exact U64.psi _ | exact U64.zero | exact U64.one | exact U64.mk (by decide) (by decide))).mono ?_); rintro e w1 ⟨rfl, h1, hg1⟩)
  go_loopw [17] (fun i wr => ∃ (k : Nat), k ≤ l.length ∧ i = .int .i64 (k : Int) ∧ SpAt wr b (tookL (l.take k) (took l.length s)) ∧ w.grownBy wr (some b)) (fun i _ => l.length - (intOf i).toNat)
  case atStart => exact ⟨0, by omega, rfl, h1, hg1⟩
  case round =>
    obtain ⟨k, hk, rfl, hb, hg⟩ := hrel
    by_cases hz : k < l.length
    · obtain ⟨bl, off, rfl, hblt, hcell⟩ := Hr.out (by omega)
      have hne : bl ≠ b := Hs.out _ _ _ rfl (by omega)
      have hcj : wr.cell? ⟨bl, off + k, none⟩ = some (.int .u64 (at0 l k)) := by
        rw [World.cell?_of_block (w := w) (hg.block bl hblt (fun e => hne (by cases e; rfl)))]
        exact hcell k hz
      have hu := hat.out k hz
      clear hcell
      go_wp2_with (go_at_call 145; (with_reducible refine (sponge_take1 _ _ _ _ hb (by first | assumption | exact U64.psi _ | exact U64.zero | exact U64.one | exact U64.mk (by decide) (by decide))).mono ?_); rintro e w2 ⟨rfl, h2, hg2⟩)
      go_roundw
      case rel => exact ⟨k + 1, by omega, by go_num, by rw [tookL_snoc l k _ hz]; exact h2, grownBy_trans hg hg2⟩
      case measure => simp [intOf]; omega
    · obtain rfl : k = l.length := by omega
      go_wp2
      go_ret
      rw [List.take_of_length_le (Nat.le_refl _)] at hb
      exact ⟨rfl, hb, hg⟩
set_option maxHeartbeats 400000 in
theorem sponge_Take_long (b : Nat) (v : Value) (l : List Int) (w : World) (hp : RowU w v l) (hl : 1000 < l.length) :
    Calls Tryz.prog 104 #[.pointer (some ⟨b, 0, none⟩), v] w fun e w' => e = .returned (.int .i64 2) ∧ w = w' := by
  have hl' : (1000 : Int) < (l.length : Int) := by omega
  obtain ⟨h1, h2, a, cap, rfl, hr⟩ := hp
  clear hr h1
  go_enter Tryz.func104, Tryz.ntmps104
  go_wp2
  go_ret
  exact ⟨rfl, rfl⟩
theorem pairF_eq (a b : Int) : (takeL [a, b] (newS 7)).y = pairF (phi a) (phi b) := rfl
set_option maxHeartbeats 400000 in
theorem sponge_Pair (a b : Int) (w : World) (ha : U64 a) (hb : U64 b) :
    Calls Tryz.prog 150 #[.int .u64 a, .int .u64 b] w fun e w' => e = .returned (.int .u64 (psi (pairF (phi a) (phi b)))) ∧ Below w.heap.size w w' := by
  go_enter Tryz.func150, Tryz.ntmps150
  go_wp2_with (go_at_call 141; (with_reducible refine (sponge_New _ _ (by first | assumption | exact U64.psi _ | exact U64.zero | exact U64.one | exact U64.mk (by decide) (by decide))).mono ?_); rintro e w1 ⟨g, rfl, hg, hS, hb1⟩)
  have hlt := hS.lt
  have hS1 := hS.shift (Below.alloc (Below.refl _ w1) (Nat.le_refl _) (.cells #[.int .u64 a, .int .u64 b] 57))
  have hR := (NewU.lit2 w1 a b ha hb).row
  have hsep : Sep (.slice (some ⟨w1.heap.size, 0, none⟩) 2 2) g := fun x n c hv _ => by cases hv; show w1.heap.size ≠ g; omega
  have HR := Lib.hid hR
  have HS := Lib.hid hsep
  have H1 := Lib.hid hS1
  clear hR hsep hS1
  refine (sponge_Take _ _ _ _ _ H1.out HR.out HS.out (by simp)).mono ?_
  rintro e w2 ⟨rfl, h2, hg2⟩
  go_wp2_with (go_at_call 146; (with_reducible refine (sponge_Give _ _ _ h2).mono ?_); rintro e w3 ⟨rfl, h3, hg3⟩)
  go_ret
  refine ⟨ret_u64 (by rw [pairF_eq]), ?_⟩
  have b1 : Below w.heap.size w (w1.alloc (.cells #[.int .u64 a, .int .u64 b] 57)) := hb1.alloc hb1.size _
  exact (b1.trans (below_of_grownBy hg2 hg (b1.size))).trans (below_of_grownBy hg3 hg (Nat.le_trans b1.size hg2.size))
end Go.Proofs.YtlfneeobnihocaaGreatDoor
