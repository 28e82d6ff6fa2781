/- The helpers of the laws over tables: the reference's Vars, between; the law MleEqs. The table of bits lies as its initialiser lays it. -/
import Derived.Test.YtokggifjcbkmnaaDoorMleW
import Derived.Test.YtokggifjcbkmnaaDoorLists
namespace Go.Proofs.YtokggifjcbkmnaaDoor
set_option maxRecDepth 100000
set_option linter.unusedVariables false
open Go.RowKit Tally
theorem NewU.lit4 (w : World) (x y z u : Int) (hx : U64 x) (hy : U64 y) (hz : U64 z) (hu : U64 u) : NewU w.heap.size (w.alloc (.cells #[.int .u64 x, .int .u64 y, .int .u64 z, .int .u64 u] 23)) (.slice (some ⟨w.heap.size, 0, none⟩) 4 4) [x, y, z, u] :=
  ⟨by simpa using ⟨hx, hy, hz, hu⟩, by simp, World.ownsRow_lit w #[.int .u64 x, .int .u64 y, .int .u64 z, .int .u64 u] 4 (Nat.le_refl _) (by unfold maxLen; omega) rfl⟩
theorem below_alloc (w : World) (o : Obj) : Below w.heap.size w (w.alloc o) := (Below.refl _ _).alloc (Nat.le_refl _) _
theorem NewU.more {B : Nat} {w : World} {v : Value} {l : List Int} (h : NewU B w v l) (o : Obj) : NewU B (w.alloc o) v l := h.below (below_alloc w o) (Nat.le_refl _)
theorem RowU.more {w : World} {v : Value} {l : List Int} (h : RowU w v l) (o : Obj) : RowU (w.alloc o) v l := h.below (below_alloc w o) (Nat.le_refl _)
theorem Tab.more {w : World} (h : Tab w) (o : Obj) : Tab (w.alloc o) := h.below (below_alloc w o)
theorem RowU.step {w w' : World} {v : Value} {l : List Int} (h : RowU w v l) (hb : Below w.heap.size w w') : RowU w' v l := h.below hb (Nat.le_refl _)
theorem below_chain {a b c : World} (h : Below a.heap.size a b) (k : Below b.heap.size b c) : Below a.heap.size a c := h.trans (k.mono h.size)
theorem u64n (n : Nat) (h : n < 1000000) : U64 (n : Int) := ⟨by omega, by omega⟩
theorem bet1 : psi (evalF ([3, 5, 7, 11].map phi) ([1, 0].map phi)) = 7 := by decide +kernel
theorem bet2 : psi (evalF ([3, 5].map phi) ([2].map phi)) = 7 := by decide +kernel
theorem row1 (w : World) (n : Nat) (x : Int) (hx : U64 x) (hn : w.heap.size = n) : RowU (w.alloc (.cells #[.int .u64 x] 23)) (.slice (some ⟨n, 0, none⟩) 1 1) [x] := by
  subst hn; exact (NewU.lit1 w x hx).row
theorem row2 (w : World) (n : Nat) (x y : Int) (hx : U64 x) (hy : U64 y) (hn : w.heap.size = n) : RowU (w.alloc (.cells #[.int .u64 x, .int .u64 y] 23)) (.slice (some ⟨n, 0, none⟩) 2 2) [x, y] := by
  subst hn; exact (NewU.lit2 w x y hx hy).row
theorem row4 (w : World) (n : Nat) (x y z u : Int) (hx : U64 x) (hy : U64 y) (hz : U64 z) (hu : U64 u) (hn : w.heap.size = n) : RowU (w.alloc (.cells #[.int .u64 x, .int .u64 y, .int .u64 z, .int .u64 u] 23)) (.slice (some ⟨n, 0, none⟩) 4 4) [x, y, z, u] := by
  subst hn; exact (NewU.lit4 w x y z u hx hy hz hu).row
theorem eval_4 (v v2 : Value) (w : World) (hT : Tab w) (hp : RowU w v [3, 5, 7, 11]) (hp2 : RowU w v2 [1, 0]) : Calls Tryd.prog 12 #[v, v2] w fun e w' => e = .returned (.tuple #[.int .u64 7, .int .i64 0]) ∧ Below w.heap.size w w' := by
  have := mle_Eval [3, 5, 7, 11] [1, 0] v v2 w hT hp hp2 (by simp) (by decide)
  rwa [bet1] at this
theorem eval_2 (v v2 : Value) (w : World) (hT : Tab w) (hp : RowU w v [3, 5]) (hp2 : RowU w v2 [2]) : Calls Tryd.prog 12 #[v, v2] w fun e w' => e = .returned (.tuple #[.int .u64 7, .int .i64 0]) ∧ Below w.heap.size w w' := by
  have := mle_Eval [3, 5] [2] v v2 w hT hp hp2 (by simp) (by decide)
  rwa [bet2] at this
set_option maxHeartbeats 1000000 in
theorem keep_between (w : World) (hT : Tab w) :
    Calls Tryd.prog 8 #[] w fun e w' => e = .returned (.bool true) ∧ Below w.heap.size w w' := by
  have HT := Lib.hid hT
  clear hT
  have u0 := u64n 0 (by decide)
  have u1 := u64n 1 (by decide)
  have u2 := u64n 2 (by decide)
  have u3 := u64n 3 (by decide)
  have u5 := u64n 5 (by decide)
  have u7 := u64n 7 (by decide)
  have u11 := u64n 11 (by decide)
  go_enter Tryd.func8, Tryd.ntmps8
  go_wp2_with (fail)
  refine (eval_4 _ _ _ ((HT.out.more _).more _) ((row4 w w.heap.size 3 5 7 11 u3 u5 u7 u11 rfl).more _) (row2 _ (w.heap.size + 1) 1 0 u1 u0 (by simp))).mono ?_
  rintro e w1 ⟨rfl, hb⟩
  have hbw := Lib.hid (below_chain (below_chain (below_alloc w _) (below_alloc _ _)) hb)
  clear hb
  go_wp2_with (fail)
  refine (eval_2 _ _ _ (((HT.out.below hbw.out).more _).more _) ((row2 w1 w1.heap.size 3 5 u3 u5 rfl).more _) (row1 _ (w1.heap.size + 1) 2 u2 (by simp))).mono ?_
  rintro e w2 ⟨rfl, hb⟩
  have hbw2 := Lib.hid (below_chain hbw.out (below_chain (below_chain (below_alloc w1 _) (below_alloc _ _)) hb))
  clear hb
  go_wp2
  go_ret
  exact ⟨rfl, hbw2.out⟩
theorem pow_ne {k n : Nat} (h : k ≠ n) : (2 : Nat) ^ n ≠ 2 ^ k := fun e => h ((Nat.pow_right_inj (by decide : 1 < 2)).mp e).symm
set_option maxHeartbeats 1000000 in
theorem ref_Vars (l : List Int) (n : Nat) (v : Value) (w : World) (hp : RowU w v l) (hn : l.length = 2 ^ n) (h8 : n ≤ 8) :
    Calls Tryd.prog 10 #[v] w fun e w' => e = .returned (.int .i64 n) ∧ w = w' := by
  obtain ⟨_, h2, ad, cap, rfl, hr⟩ := hp
  have Hn := Lib.hid hn
  clear hr hn
  go_enter Tryd.func10, Tryd.ntmps10
  go_wp2
  go_loop [3] (fun i => ∃ k : Nat, k ≤ n ∧ i = .int .i64 (k : Int)) (fun i => 9 - (intOf i).toNat)
  case atStart => exact ⟨0, by omega, rfl⟩
  case round =>
    obtain ⟨k, hk, rfl⟩ := hrel
    have hk8 : (k : Int) ≤ 8 := by omega
    have hq := pow_wrap8 (n := k) (by omega)
    by_cases hz : k < n
    · have hb : ((l.length : Int) == ((2 ^ k : Nat) : Int)) = false := by
        rw [beq_eq_false_iff_ne, Hn.out]; exact fun e => pow_ne (by omega) (Int.ofNat_inj.mp e)
      generalize ((2 ^ k : Nat) : Int) = q at *
      go_wp2
      go_round
      case rel => exact ⟨k + 1, by omega, by go_num⟩
      case measure => simp [intOf]; omega
    · obtain rfl : n = k := by omega
      have hb : ((l.length : Int) == ((2 ^ n : Nat) : Int)) = true := by
        rw [beq_iff_eq, Hn.out]
      generalize ((2 ^ n : Nat) : Int) = q at *
      go_wp2
      go_ret
      exact ⟨rfl, rfl⟩
set_option maxHeartbeats 1000000 in
theorem ref_Vars_no (l : List Int) (v : Value) (w : World) (hp : RowU w v l) (hn : NoTab l.length) :
    Calls Tryd.prog 10 #[v] w fun e w' => e = .returned (.int .i64 (-1)) ∧ w = w' := by
  obtain ⟨_, h2, ad, cap, rfl, hr⟩ := hp
  have Hn := Lib.hid hn
  clear hr hn
  go_enter Tryd.func10, Tryd.ntmps10
  go_wp2
  go_loop [3] (fun i => ∃ k : Nat, k ≤ 9 ∧ i = .int .i64 (k : Int)) (fun i => 9 - (intOf i).toNat)
  case atStart => exact ⟨0, by omega, rfl⟩
  case round =>
    obtain ⟨k, hk, rfl⟩ := hrel
    by_cases hz : k < 9
    · have hk8 : (k : Int) ≤ 8 := by omega
      have hq := pow_wrap8 (n := k) (by omega)
      have hb : ((l.length : Int) == ((2 ^ k : Nat) : Int)) = false := by
        rw [beq_eq_false_iff_ne]; exact fun e => Hn.out k (by omega) (Int.ofNat_inj.mp e)
      generalize ((2 ^ k : Nat) : Int) = q at *
      go_wp2
      go_round
      case rel => exact ⟨k + 1, by omega, by go_num⟩
      case measure => simp [intOf]; omega
    · obtain rfl : k = 9 := by omega
      go_wp2
      go_ret
      exact ⟨rfl, rfl⟩
end Go.Proofs.YtokggifjcbkmnaaDoor
