/- The walks of the reference's Circuit and Below, and of wiring.Below. The circuit is a value that reads as data. -/
import Derived.Test.YtaaaoljllpbplaaCheckW
namespace Go.Proofs.Ytaaaoljllpbplaa
set_option maxRecDepth 100000
set_option linter.unusedVariables false
open Go.RowKit Tally
set_option maxHeartbeats 1000000 in
theorem rc_In_y (n lo hi : Int) (w : World) (h1 : lo ≤ n) (h2 : n ≤ hi) :
    Calls Try.prog 21 #[.int .i64 n, .int .i64 lo, .int .i64 hi] w fun e w' => e = .returned (.bool true) ∧ w = w' := by
  go_enter Try.func21, Try.ntmps21
  go_wp2
  go_ret
  exact ⟨rfl, rfl⟩
set_option maxHeartbeats 1000000 in
theorem rc_In_n (n lo hi : Int) (w : World) (h : n < lo ∨ hi < n) :
    Calls Try.prog 21 #[.int .i64 n, .int .i64 lo, .int .i64 hi] w fun e w' => e = .returned (.bool false) ∧ w = w' := by
  by_cases h1 : n < lo
  · clear h
    have hd : decide (lo ≤ n) = false := by simp; omega
    go_enter Try.func21, Try.ntmps21
    go_wp2
    go_ret
    exact ⟨rfl, rfl⟩
  · have h2 : decide (n ≤ hi) = false := by simp; omega
    have h3 : lo ≤ n := by omega
    clear h h1
    go_enter Try.func21, Try.ntmps21
    go_wp2
    go_ret
    exact ⟨rfl, rfl⟩
/-- the Log of the layer below -/
def belowLog (c : Ci) (i : Nat) : Int := if i = 0 then c.log else (aty c.layers (i - 1)).log
theorem circ_cell (w : World) (x y : Value) (t : Nat) : (w.alloc (.cells #[x, y] t)).cell? ⟨w.heap.size, 0, none⟩ = some x ∧ (w.alloc (.cells #[x, y] t)).cell? ⟨w.heap.size, 1, none⟩ = some y := by
  refine ⟨?_, ?_⟩
  · rw [World.cell?_alloc_at _ _ _ _ rfl]; rfl
  · rw [World.cell?_alloc_at _ _ _ _ rfl]; rfl
set_option maxHeartbeats 1000000 in
theorem ref_Below (v : Value) (c : Ci) (i : Nat) (w : World) (h : IsC w v c) (hi : i ≤ c.layers.length) (hl4 : c.layers.length ≤ 4) :
    Calls Try.prog 13 #[v, .int .i64 i] w fun e w' => e = .returned (.int .i64 (belowLog c i)) ∧ Below w.heap.size w w' := by
  obtain ⟨hlog, u, rfl, hL⟩ := h
  obtain ⟨hls, hll, a, cap, rfl, hr⟩ := hL
  by_cases h0 : i = 0
  · subst h0
    have HR := Lib.hid (show belowLog c 0 = c.log from rfl)
    clear hr hls
    go_enter Try.func13, Try.ntmps13
    go_wp2
    go_ret
    exact ⟨ret_i _ _ HR.out.symm, (Below.refl _ _).alloc (Nat.le_refl _) _⟩
  · obtain ⟨j, rfl⟩ : ∃ j, i = j + 1 := ⟨i - 1, by omega⟩
    have HR := Lib.hid (show belowLog c (j + 1) = (aty c.layers j).log from by unfold belowLog; rw [if_neg (by omega)]; rfl)
    obtain ⟨b, off, rfl, hblt, hcell⟩ := hr (by omega)
    obtain ⟨c1, _⟩ := hcell j (by omega)
    have hz : (((j + 1 : Nat) : Int) == 0) = false := beq_false_of_ne (by omega)
    have hs : ((j + 1 : Nat) : Int) - 1 = (j : Int) := by omega
    have hjl : (j : Int) < (c.layers.length : Int) := by omega
    have hm1 : (1 : Int) ≤ ((j + 1 : Nat) : Int) := by omega
    have hm2 : ((j + 1 : Nat) : Int) ≤ 100 := by omega
    generalize ((j + 1 : Nat) : Int) = M at *
    clear hcell hr hls
    go_enter Try.func13, Try.ntmps13
    go_wp2
    go_ret
    exact ⟨ret_i _ _ HR.out.symm, (Below.refl _ _).alloc (Nat.le_refl _) _⟩
set_option maxHeartbeats 1000000 in
theorem wiring_Below (v : Value) (c : Ci) (i : Nat) (w : World) (h : IsC w v c) (hi : i ≤ c.layers.length) (hl4 : c.layers.length ≤ 4) :
    Calls Try.prog 29 #[v, .int .i64 i] w fun e w' => e = .returned (.int .i64 (belowLog c i)) ∧ Below w.heap.size w w' := by
  obtain ⟨hlog, u, rfl, hL⟩ := h
  obtain ⟨hls, hll, a, cap, rfl, hr⟩ := hL
  by_cases h0 : i = 0
  · subst h0
    have HR := Lib.hid (show belowLog c 0 = c.log from rfl)
    clear hr hls
    go_enter Try.func29, Try.ntmps29
    go_wp2
    go_ret
    exact ⟨ret_i _ _ HR.out.symm, (Below.refl _ _).alloc (Nat.le_refl _) _⟩
  · obtain ⟨j, rfl⟩ : ∃ j, i = j + 1 := ⟨i - 1, by omega⟩
    have HR := Lib.hid (show belowLog c (j + 1) = (aty c.layers j).log from by unfold belowLog; rw [if_neg (by omega)]; rfl)
    obtain ⟨b, off, rfl, hblt, hcell⟩ := hr (by omega)
    obtain ⟨c1, _⟩ := hcell j (by omega)
    have hz : (((j + 1 : Nat) : Int) == 0) = false := beq_false_of_ne (by omega)
    have hs : ((j + 1 : Nat) : Int) - 1 = (j : Int) := by omega
    have hjl : (j : Int) < (c.layers.length : Int) := by omega
    have hm1 : (1 : Int) ≤ ((j + 1 : Nat) : Int) := by omega
    have hm2 : ((j + 1 : Nat) : Int) ≤ 100 := by omega
    generalize ((j + 1 : Nat) : Int) = M at *
    clear hcell hr hls
    go_enter Try.func29, Try.ntmps29
    go_wp2
    go_ret
    exact ⟨ret_i _ _ HR.out.symm, (Below.refl _ _).alloc (Nat.le_refl _) _⟩
end Go.Proofs.Ytaaaoljllpbplaa
