/- Several texts in one: Lists, KeepM. What each says, and its conditions, stands at its head. -/
import Derived.Test.YtlfneeobnihocaaGreatDoorUni
import Derived.Test.YtlfneeobnihocaaGreatDoorOpen
import Derived.Laws.CopyOwn
import Derived.IntWalk
import Derived.Test.YtlfneeobnihocaaGreatDoorMleW
/- Lists: slices.Equal at equal lists, copy into a new list, the helpers Rest, point and table of the laws. No condition but that the arguments read as lists. -/
namespace Go.Proofs.YtlfneeobnihocaaGreatDoor
set_option maxRecDepth 100000
set_option linter.unusedVariables false
open Go.RowKit Tally
/-- a row whose block is known -/
theorem RowU.known {w : World} {g n c : Nat} {l : List Int} (h : RowU w (.slice (some ⟨g, 0, none⟩) n c) l) : l.length = n ∧ (0 < n → g < w.heap.size) ∧ ∀ j, j < l.length → w.cell? ⟨g, j, none⟩ = some (.int .u64 (at0 l j)) := by
  obtain ⟨_, _, ad, cap, e, hr⟩ := h
  cases e
  refine ⟨rfl, fun h0 => ?_, fun j hj => ?_⟩
  · obtain ⟨b, off, e, hlt, _⟩ := hr h0
    cases e; exact hlt
  · obtain ⟨b, off, e, _, hc⟩ := hr (by omega)
    cases e
    have := hc j hj
    rwa [Nat.zero_add] at this
/-- n numbers: those of a list, and noughts -/
def padTo (n : Nat) (l : List Int) : List Int := l.take n ++ List.replicate (n - l.length) 0
theorem padTo_length (n : Nat) (l : List Int) : (padTo n l).length = n := by simp [padTo]; omega
theorem splice_pad (n : Nat) (l : List Int) : splice ((List.replicate n (0 : Int)).map (Value.int .u64)) 0 ((l.take n).map (Value.int .u64)) = (padTo n l).map (Value.int .u64) := by
  unfold splice padTo
  rw [List.map_append]
  simp only [List.take_zero, List.nil_append, List.map_replicate, List.drop_replicate, List.length_map, List.length_take, Nat.zero_add]
  congr 2; omega
theorem wpList_copyU {ops : Array Oper} {rest : List Oper} {o : Oper} {a : Act} {Q : Exit → Act → World → Prop} {w : World} (hgd : o.guard = none) (d s : Operand)
    (ho : o.op = .call { callee := .builtin .copy, args := #[d, s], argTypes := #[53, 53] })
    (B g n : Nat) (hd : a.eval d = .slice (some ⟨g, 0, none⟩) n n) (hown : NewU B w (.slice (some ⟨g, 0, none⟩) n n) (List.replicate n 0)) (v : Value) (l : List Int) (hs : a.eval s = v) (hp : RowU w v l)
    (B0 : Nat) (w0 : World) (hb : Below B0 w0 w) (hB : B0 ≤ g)
    (h : ∀ k w', NewU B w' (.slice (some ⟨g, 0, none⟩) n n) (padTo n l) → Below B0 w0 w' → wpList Tryz.prog ops Q rest (a.put o.dst (goInt k)) w') : wpList Tryz.prog ops Q (o :: rest) a w := by
  obtain ⟨hu, hll, ad, cap, rfl, hr⟩ := hp
  obtain ⟨o1, o2, o3⟩ := hown
  have o3' : w.ownsRow B 57 1 (.slice (some ⟨g, 0, none⟩) n n) n ((List.replicate n (0 : Int)).map (Value.int .u64)) := by simpa using o3
  obtain ⟨-, o4⟩ := o3'
  rcases o4 with ⟨r, _⟩ | ⟨g', cap', cur, rv, r2, r3, r4, r5, r6, r7⟩
  · cases r
  · cases rv
    have hcur : cur.toList = (List.replicate n (0 : Int)).map (Value.int .u64) := by
      rw [← r7, List.take_of_length_le (by simp; omega)]
    have hbk : w.heap[g]? = some (.cells (((List.replicate n (0 : Int)).map (Value.int .u64)).toArray) 57 (0, 0)) := by rw [r3, ← hcur]
    obtain ⟨i0, hi1, hz0, hz1, hz2⟩ := info_parts Tryz.infoU
    refine wpList_copy_splice hgd d s _ _ ho 57 Tryz.underlying53 (by rw [hi1]; simp [hz1]) _ _ _ _ _ _ hd hs g 0 _ _ hbk ((l.take n).map (Value.int .u64)) (by simp [Nat.min_comm]) ?_ (by simp; omega) (by intro u hu'; obtain ⟨x, _, rfl⟩ := List.mem_map.mp hu'; rfl) B0 w0 hb hB ?_
    · intro hpos
      refine ⟨rfl, ?_⟩
      have hl0 : 0 < l.length := by simp at hpos; omega
      obtain ⟨b, off, rfl, hlt, hc⟩ := hr hl0
      refine ⟨_, rfl, fun j u hj => ?_⟩
      have hj2 : j < l.length := by
        rcases Nat.lt_or_ge j l.length with h' | h'
        · exact h'
        · rw [List.getElem?_eq_none (by simp; omega)] at hj; cases hj
      rw [Addr.add_lit, hc j hj2]
      simp only [List.getElem?_map, List.getElem?_take] at hj
      split at hj
      · simpa [at0, hj2] using hj
      · cases hj
    · intro w' hw' hb'
      refine h _ w' ⟨?_, by rw [padTo_length]; simpa using o2, ?_⟩ hb'
      · intro x hx
        rcases List.mem_append.mp hx with hx | hx
        · exact hu x (List.mem_of_mem_take hx)
        · rw [List.eq_of_mem_replicate hx]; exact U64.zero
      · rw [splice_pad] at hw'
        refine ⟨by simp, .inr ⟨g, n, _, by rw [padTo_length], r2, hw'.out, by rw [padTo_length]; exact Nat.le_refl _, r5, by simp [padTo_length], ?_⟩⟩
        rw [List.take_of_length_le (by simp [padTo_length])]
theorem rest_wrap {n m : Int} (hn : I64 n) (h0 : 0 < m) (h1 : m ≤ 1000000) (h : n.tmod m < 0) : wrap64 (n.tmod m + m) = n % m := by
  have e := Int.tmod_eq_emod (a := n) (b := m)
  have h2 : -9223372036854775808 ≤ n ∧ n ≤ 9223372036854775807 := hn
  have hm0 : 0 ≤ n % m := Int.emod_nonneg _ (by omega)
  have hm1 : n % m < m := Int.emod_lt_of_pos _ h0
  have ha : (m.natAbs : Int) = m := by omega
  have e2 : n.tmod m + m = n % m := by
    rw [e] at h ⊢
    split at h <;> rename_i hc
    · omega
    · rw [if_neg hc]; omega
  rw [e2]; exact IntWalk.wrap64_in _ ⟨by omega, by omega⟩
theorem rest_pos {n m : Int} (h0 : 0 < m) (h : ¬ n.tmod m < 0) : n.tmod m = n % m := by
  have e := Int.tmod_eq_emod (a := n) (b := m)
  have hm1 : n % m < m := Int.emod_lt_of_pos _ h0
  have ha : (m.natAbs : Int) = m := by omega
  rw [e] at h ⊢
  split at h <;> rename_i hc
  · rw [if_pos hc]; omega
  · omega
theorem ret_i64' {a b : Int} (h : a = b) : Ending.returned (.int .i64 a) = .returned (.int .i64 b) := by rw [h]
theorem shl_small {r : Int} (h0 : 0 ≤ r) (h1 : r < 5) : ∃ j : Nat, j ≤ 4 ∧ r = (j : Int) ∧ wrap64 (2 ^ r.toNat) = ((2 ^ j : Nat) : Int) := by
  refine ⟨r.toNat, by omega, by omega, ?_⟩
  have h1 : (2 : Nat) ^ r.toNat ≤ 2 ^ 4 := Nat.pow_le_pow_right (by decide) (by omega)
  have e : ((2 : Int) ^ r.toNat) = ((2 ^ r.toNat : Nat) : Int) := by simp
  rw [e]; generalize 2 ^ r.toNat = m at *; exact IntWalk.wrap64_in _ ⟨by omega, by omega⟩
end Go.Proofs.YtlfneeobnihocaaGreatDoor
/- The helpers of the laws over tables: the reference's Vars, between; the law MleEqs. The table of bits lies as its initialiser lays it. -/
namespace Go.Proofs.YtlfneeobnihocaaGreatDoor
set_option maxRecDepth 100000
set_option linter.unusedVariables false
open Go.RowKit Tally
theorem NewU.lit4 (w : World) (x y z u : Int) (hx : U64 x) (hy : U64 y) (hz : U64 z) (hu : U64 u) : NewU w.heap.size (w.alloc (.cells #[.int .u64 x, .int .u64 y, .int .u64 z, .int .u64 u] 57)) (.slice (some ⟨w.heap.size, 0, none⟩) 4 4) [x, y, z, u] :=
  ⟨by simpa using ⟨hx, hy, hz, hu⟩, by simp, World.ownsRow_lit w #[.int .u64 x, .int .u64 y, .int .u64 z, .int .u64 u] 4 (Nat.le_refl _) (by unfold maxLen; omega) rfl⟩
theorem below_alloc (w : World) (o : Obj) : Below w.heap.size w (w.alloc o) := (Below.refl _ _).alloc (Nat.le_refl _) _
theorem NewU.more {B : Nat} {w : World} {v : Value} {l : List Int} (h : NewU B w v l) (o : Obj) : NewU B (w.alloc o) v l := h.below (below_alloc w o) (Nat.le_refl _)
theorem RowU.more {w : World} {v : Value} {l : List Int} (h : RowU w v l) (o : Obj) : RowU (w.alloc o) v l := h.below (below_alloc w o) (Nat.le_refl _)
theorem Tab.more {w : World} (h : Tab w) (o : Obj) : Tab (w.alloc o) := h.below (below_alloc w o)
theorem RowU.step {w w' : World} {v : Value} {l : List Int} (h : RowU w v l) (hb : Below w.heap.size w w') : RowU w' v l := h.below hb (Nat.le_refl _)
theorem below_chain {a b c : World} (h : Below a.heap.size a b) (k : Below b.heap.size b c) : Below a.heap.size a c := h.trans (k.mono h.size)
theorem u64n (n : Nat) (h : n < 1000000) : U64 (n : Int) := ⟨by omega, by omega⟩
theorem bet1 : psi (evalF ([3, 5, 7, 11].map phi) ([1, 0].map phi)) = 7 := by decide +kernel
theorem bet2 : psi (evalF ([3, 5].map phi) ([2].map phi)) = 7 := by decide +kernel
theorem row1 (w : World) (n : Nat) (x : Int) (hx : U64 x) (hn : w.heap.size = n) : RowU (w.alloc (.cells #[.int .u64 x] 57)) (.slice (some ⟨n, 0, none⟩) 1 1) [x] := by
  subst hn; exact (NewU.lit1 w x hx).row
theorem row2 (w : World) (n : Nat) (x y : Int) (hx : U64 x) (hy : U64 y) (hn : w.heap.size = n) : RowU (w.alloc (.cells #[.int .u64 x, .int .u64 y] 57)) (.slice (some ⟨n, 0, none⟩) 2 2) [x, y] := by
  subst hn; exact (NewU.lit2 w x y hx hy).row
theorem row4 (w : World) (n : Nat) (x y z u : Int) (hx : U64 x) (hy : U64 y) (hz : U64 z) (hu : U64 u) (hn : w.heap.size = n) : RowU (w.alloc (.cells #[.int .u64 x, .int .u64 y, .int .u64 z, .int .u64 u] 57)) (.slice (some ⟨n, 0, none⟩) 4 4) [x, y, z, u] := by
  subst hn; exact (NewU.lit4 w x y z u hx hy hz hu).row
theorem eval_4 (v v2 : Value) (w : World) (hT : Tab w) (hp : RowU w v [3, 5, 7, 11]) (hp2 : RowU w v2 [1, 0]) : Calls Tryz.prog 34 #[v, v2] w fun e w' => e = .returned (.tuple #[.int .u64 7, .int .i64 0]) ∧ Below w.heap.size w w' := by
  have := mle_Eval [3, 5, 7, 11] [1, 0] v v2 w hT hp hp2 (by simp) (by decide)
  rwa [bet1] at this
theorem eval_2 (v v2 : Value) (w : World) (hT : Tab w) (hp : RowU w v [3, 5]) (hp2 : RowU w v2 [2]) : Calls Tryz.prog 34 #[v, v2] w fun e w' => e = .returned (.tuple #[.int .u64 7, .int .i64 0]) ∧ Below w.heap.size w w' := by
  have := mle_Eval [3, 5] [2] v v2 w hT hp hp2 (by simp) (by decide)
  rwa [bet2] at this
theorem pow_ne {k n : Nat} (h : k ≠ n) : (2 : Nat) ^ n ≠ 2 ^ k := fun e => h ((Nat.pow_right_inj (by decide : 1 < 2)).mp e).symm
set_option maxHeartbeats 1000000 in
theorem ref_Vars (l : List Int) (n : Nat) (v : Value) (w : World) (hp : RowU w v l) (hn : l.length = 2 ^ n) (h8 : n ≤ 8) :
    Calls Tryz.prog 49 #[v] w fun e w' => e = .returned (.int .i64 n) ∧ w = w' := by
  obtain ⟨_, h2, ad, cap, rfl, hr⟩ := hp
  have Hn := Lib.hid hn
  clear hr hn
  go_enter Tryz.func49, Tryz.ntmps49
  go_wp2
  go_loop [3] (fun i => ∃ k : Nat, k ≤ n ∧ i = .int .i64 (k : Int)) (fun i => 9 - (intOf i).toNat)
  case atStart => exact ⟨0, by omega, rfl⟩
  case round =>
    obtain ⟨k, hk, rfl⟩ := hrel
    have hk8 : (k : Int) ≤ 8 := by omega
    have hq := pow_wrap8 (n := k) (by omega)
    by_cases hz : k < n
    · have hb : ((l.length : Int) == ((2 ^ k : Nat) : Int)) = false := by
        rw [beq_eq_false_iff_ne, Hn.out]; exact fun e => pow_ne (by omega) (Int.ofNat_inj.mp e)
      generalize ((2 ^ k : Nat) : Int) = q at *
      go_wp2
      go_round
      case rel => exact ⟨k + 1, by omega, by go_num⟩
      case measure => simp [intOf]; omega
    · obtain rfl : n = k := by omega
      have hb : ((l.length : Int) == ((2 ^ n : Nat) : Int)) = true := by
        rw [beq_iff_eq, Hn.out]
      generalize ((2 ^ n : Nat) : Int) = q at *
      go_wp2
      go_ret
      exact ⟨rfl, rfl⟩
set_option maxHeartbeats 1000000 in
theorem ref_Vars_no (l : List Int) (v : Value) (w : World) (hp : RowU w v l) (hn : NoTab l.length) :
    Calls Tryz.prog 49 #[v] w fun e w' => e = .returned (.int .i64 (-1)) ∧ w = w' := by
  obtain ⟨_, h2, ad, cap, rfl, hr⟩ := hp
  have Hn := Lib.hid hn
  clear hr hn
  go_enter Tryz.func49, Tryz.ntmps49
  go_wp2
  go_loop [3] (fun i => ∃ k : Nat, k ≤ 9 ∧ i = .int .i64 (k : Int)) (fun i => 9 - (intOf i).toNat)
  case atStart => exact ⟨0, by omega, rfl⟩
  case round =>
    obtain ⟨k, hk, rfl⟩ := hrel
    by_cases hz : k < 9
    · have hk8 : (k : Int) ≤ 8 := by omega
      have hq := pow_wrap8 (n := k) (by omega)
      have hb : ((l.length : Int) == ((2 ^ k : Nat) : Int)) = false := by
        rw [beq_eq_false_iff_ne]; exact fun e => Hn.out k (by omega) (Int.ofNat_inj.mp e)
      generalize ((2 ^ k : Nat) : Int) = q at *
      go_wp2
      go_round
      case rel => exact ⟨k + 1, by omega, by go_num⟩
      case measure => simp [intOf]; omega
    · obtain rfl : k = 9 := by omega
      go_wp2
      go_ret
      exact ⟨rfl, rfl⟩
end Go.Proofs.YtlfneeobnihocaaGreatDoor
