/- The walk of the law CircuitReads: it returns true, whatever is handed in. -/
import Derived.Test.YtopmlieadcpdmaaDoorReadCW
import Derived.Test.YtopmlieadcpdmaaDoorSameC
import Derived.Deep.Cut
namespace Go.Proofs.YtopmlieadcpdmaaDoor
set_option maxRecDepth 100000
set_option linter.unusedVariables false
open Go.RowKit Tally
theorem r_ReadAll (s : ByteArray) (w : World) (hs : s.size ≤ 9223372036854775807) :
    Calls Tryd.prog 14 #[.string s] w fun e w' => ∃ v, e = .returned (.tuple #[v, .int .i64 (parseR s.data.toList).2.1, .int .i64 (parseR s.data.toList).2.2]) ∧ IsC w' v (parseR s.data.toList).1 ∧ Below w.heap.size w w' := by
  by_cases h : s.size ≤ 4096
  · exact r_Read s w h _ rfl
  · exact r_Read_big s w (by omega) hs
theorem heapC2 (w : World) (x y : Value) (t : Nat) : ∃ W, w.alloc (.cells #[x, y] t) = W ∧ W.heap[w.heap.size]? = some (.cells #[x, y] t (0, 0)) ∧ Below w.heap.size w W ∧ W.heap.size = w.heap.size + 1 :=
  ⟨_, rfl, alloc_blk w _, (Below.refl _ _).alloc (Nat.le_refl _) _, by simp⟩
set_option maxHeartbeats 4000000 in
theorem circuitReads_walk (w : World) (s : ByteArray) (hs : s.size ≤ 9223372036854775807) :
    Calls Tryd.prog 4 #[.string s] w fun e w' => e = .returned (.bool true) ∧ Below w.heap.size w w' := by
  obtain ⟨R, hR⟩ : ∃ R, R = parseR s.data.toList := ⟨_, rfl⟩
  have C1 := Lib.hid (fun w => c_Parse s w hs)
  have C2 := Lib.hid (fun w => r_ReadAll s w hs)
  rw [← hR] at C1 C2
  clear hR hs
  obtain ⟨c, n, e⟩ := R
  have hnn : (n == n) = true := beq_self_eq_true n
  have hee : (e == e) = true := beq_self_eq_true e
  go_enter Tryd.func4, Tryd.ntmps4
  go_wp2_with (fail)
  refine (C1.out w).mono ?_
  rintro e1 w1 ⟨v, rfl, hC, hb⟩
  dsimp only at hC ⊢
  obtain ⟨hl, u, rfl, hL⟩ := hC
  obtain ⟨_, _, a2, p2, rfl, _⟩ := id hL
  have HC := Lib.hid (show IsC w1 (.agg #[.int .i64 c.log, .slice a2 c.layers.length p2]) c from ⟨hl, _, rfl, hL⟩)
  have H1 := Lib.hid hb
  clear hl hL hb
  go_wp2_with (fail)
  obtain ⟨W1, hW1, k1, B1, s1⟩ := heapC2 w1 (.int .i64 c.log) (.slice a2 c.layers.length p2) 24
  rw [hW1]
  have HC1 := Lib.hid (HC.out.below B1 (Nat.le_refl _))
  have HB1 := Lib.hid (below_two H1.out B1)
  have K1 := Lib.hid k1
  clear hW1 B1 s1 k1
  refine (C2.out W1).mono ?_
  rintro e2 w2 ⟨v2, rfl, hC, hb⟩
  dsimp only at hC ⊢
  obtain ⟨hl, u2, rfl, hL⟩ := hC
  obtain ⟨_, _, a3, p3, rfl, _⟩ := id hL
  have HC2 := Lib.hid (show IsC w2 (.agg #[.int .i64 c.log, .slice a3 c.layers.length p3]) c from ⟨hl, _, rfl, hL⟩)
  have HC1' := Lib.hid (HC1.out.below hb (Nat.le_refl _))
  have HB2 := Lib.hid (below_two HB1.out hb)
  have K2 := Lib.hid ((hb.block w1.heap.size (blk_lt K1.out)).trans K1.out)
  have hlt := blk_lt K2.out
  clear hl hL hb
  go_upto_region 3 with (fail)
  obtain ⟨W2, hW2, k2, B2, s2⟩ := heapC2 w2 (.int .i64 c.log) (.slice a3 c.layers.length p3) 24
  rw [hW2]
  have k3 := (B2.block w1.heap.size hlt).trans K2.out
  have x0 : W2.cell? ⟨w1.heap.size, 0, none⟩ = some (.int .i64 c.log) := cell_blk k3 0
  have x1 : W2.cell? ⟨w1.heap.size, 1, none⟩ = some (.slice a2 c.layers.length p2) := cell_blk k3 1
  have x2 : W2.cell? ⟨w2.heap.size, 0, none⟩ = some (.int .i64 c.log) := cell_blk k2 0
  have x3 : W2.cell? ⟨w2.heap.size, 1, none⟩ = some (.slice a3 c.layers.length p3) := cell_blk k2 1
  have CS := Lib.hid (ref_SameCircuit c _ _ W2 (HC1'.out.below B2 (Nat.le_refl _)) (HC2.out.below B2 (Nat.le_refl _)))
  have HB3 := Lib.hid (below_two HB2.out B2)
  clear hW2 B2 s2 k2 k3 hlt
  go_wp2_with (fail)
  refine CS.out.mono ?_
  rintro e3 w3 ⟨rfl, hb3⟩
  go_wp2
  go_ret
  exact ⟨rfl, below_two HB3.out hb3⟩
end Go.Proofs.YtopmlieadcpdmaaDoor
