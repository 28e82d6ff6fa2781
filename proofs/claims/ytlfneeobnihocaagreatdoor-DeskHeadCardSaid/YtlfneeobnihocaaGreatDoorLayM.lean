/- Circuits cut short, circuits of adding gates; the tiny circuit; what circuit.Run hands back, as a list of rows. No condition. -/
import Derived.Test.YtlfneeobnihocaaGreatDoorRunW
import Derived.Test.YtlfneeobnihocaaGreatDoorKeepM
namespace Go.Proofs.YtlfneeobnihocaaGreatDoor
set_option maxRecDepth 100000
set_option linter.unusedVariables false
open Go.RowKit Tally
/-- a struct of two cells that lies in a block of its own -/
structure Boxed (b : Nat) (x y : Value) (w : World) : Prop where
  c0 : w.cell? ⟨b, 0, none⟩ = some x
  c1 : w.cell? ⟨b, 1, none⟩ = some y
  lt : b < w.heap.size
theorem Boxed.go {b : Nat} {x y : Value} {w w' : World} (h : Boxed b x y w) (hb : Below w.heap.size w w') : Boxed b x y w' :=
  ⟨(hb.cell (p := ⟨b, 0, none⟩) h.lt).trans h.c0, (hb.cell (p := ⟨b, 1, none⟩) h.lt).trans h.c1, Nat.lt_of_lt_of_le h.lt hb.size⟩
/-- what Run hands back: the values of the inputs and of all layers -/
def RunAt (w : World) (v : Value) (c : Ci) (I : List F) : Prop := ∃ b off cp, v = .slice (some ⟨b, off, none⟩) (c.layers.length + 1) cp ∧ b < w.heap.size ∧ ∀ j, j ≤ c.layers.length → ∃ u, w.cell? ⟨b, off + j, none⟩ = some u ∧ RowU w u ((valF c I j).map psi)
theorem RunAt.go {w w' : World} {v : Value} {c : Ci} {I : List F} (h : RunAt w v c I) (hb : Below w.heap.size w w') : RunAt w' v c I := by
  obtain ⟨b, off, cp, rfl, hlt, hc⟩ := h
  refine ⟨b, off, cp, rfl, Nat.lt_of_lt_of_le hlt hb.size, fun j hj => ?_⟩
  obtain ⟨u, hu, hr⟩ := hc j hj
  exact ⟨u, (hb.cell (p := ⟨b, off + j, none⟩) hlt).trans hu, hr.go hb⟩
theorem NewUU.runAt {B : Nat} {w : World} {v : Value} {c : Ci} {I : List F} (h : NewUU B w v (valsI c I c.layers.length)) : RunAt w v c I := by
  obtain ⟨_, a, cap, rfl, hc⟩ := h.rows
  obtain ⟨b, off, rfl, hlt, hcell⟩ := hc (by rw [valsI_length]; omega)
  refine ⟨b, off, cap, by rw [valsI_length], hlt, fun j hj => ?_⟩
  obtain ⟨u, hu, hr⟩ := hcell j (by rw [valsI_length]; omega)
  rw [valsI_at _ _ _ _ hj] at hr
  exact ⟨u, hu, hr⟩
theorem c_RunAt (v : Value) (c : Ci) (vi : Value) (inp : List Int) (w : World) (h : IsC w v c) (hp : RowU w vi inp) (hc0 : checkC c = 0) (hl : inp.length = 2 ^ c.log.toNat) :
    Calls Tryz.prog 98 #[v, vi] w fun e w' => ∃ v', e = .returned (.tuple #[v', .int .i64 0]) ∧ RunAt w' v' c (inp.map phi) ∧ Below w.heap.size w w' :=
  (c_Run v c vi inp w h hp (good_of_check hc0) hc0 hl).mono fun _ _ ⟨v', he, hn, hb⟩ => ⟨v', he, hn.runAt, hb⟩
/-- a circuit's first layers -/
def cutC (c : Ci) (n : Nat) : Ci := ⟨c.log, c.layers.take n⟩
theorem checkL_take (n : Nat) : ∀ (m : Nat) (ls : List Ly), checkL m ls = 0 → checkL m (ls.take n) = 0 := by
  induction n with
  | zero => intro m ls _; rfl
  | succ n ih =>
    intro m ls h
    cases ls with
    | nil => rfl
    | cons l ls =>
      obtain ⟨h1, h2, h3, h4⟩ := checkL_cons h
      show checkL m (l :: ls.take n) = 0
      unfold checkL
      rw [if_pos (log_yes h1), if_pos h2, if_pos h3]
      exact ih _ _ h4
theorem check_cut {c : Ci} {n : Nat} (h : checkC c = 0) (hn : 1 ≤ n) (hl : n ≤ c.layers.length) : checkC (cutC c n) = 0 := by
  have hg := good_of_check h
  have hlen : (cutC c n).layers.length = n := by simp [cutC]; omega
  have hL : checkL (2 ^ c.log.toNat) c.layers = 0 := by
    unfold checkC at h
    rw [if_pos ⟨log_yes ⟨hg.log0, hg.log4⟩, by have := hg.n1; omega⟩, if_pos hg.n4] at h
    exact h
  unfold checkC
  rw [if_pos ⟨log_yes ⟨hg.log0, hg.log4⟩, by omega⟩, if_pos (by have := hg.n4; omega)]
  exact checkL_take n _ _ hL
theorem val_cut (c : Ci) (n : Nat) (I : List F) : ∀ k, k ≤ n → valF (cutC c n) I k = valF c I k := by
  intro k
  induction k with
  | zero => intro _; rfl
  | succ k ih =>
    intro h
    show layF (valF (cutC c n) I k) (aty (c.layers.take n) k).gates = layF (valF c I k) (aty c.layers k).gates
    rw [ih (by omega)]
    congr 2
    simp [aty, show k < n by omega]
theorem RowL.take {w : World} {a : Option Addr} {m cap : Nat} {l : List Ly} (h : RowL w (.slice a m cap) l) (n : Nat) (hn : n ≤ l.length) : RowL w (.slice a n cap) (l.take n) := by
  obtain ⟨h1, h2, ad, cp, e, h3⟩ := h
  cases e
  have hl : (l.take n).length = n := by simp; omega
  refine ⟨fun y hy => h1 y (List.mem_of_mem_take hy), by rw [hl]; omega, a, cap, by rw [hl], fun h0 => ?_⟩
  rw [hl] at h0
  obtain ⟨b, off, rfl, hlt, hc⟩ := h3 (by omega)
  refine ⟨b, off, rfl, hlt, fun j hj => ?_⟩
  rw [hl] at hj
  have e : aty (l.take n) j = aty l j := by simp [aty, hj]
  rw [e]
  exact hc j (by omega)
theorem atF_lay (V : List F) (gs : List Gt) (j : Nat) : atF (layF V gs) j = if j < gs.length then gateF V (atg gs j) else 0 := by
  split
  · rename_i h; exact layF_at V gs j h
  · rename_i h; simp [atF, layF, h]
/-- adding gates alone are linear -/
theorem val_linear (c : Ci) (I J S : List F) (hadd : ∀ q, q < c.layers.length → ∀ j, j < (aty c.layers q).gates.length → (atg (aty c.layers q).gates j).mul = false) (hS : ∀ j, atF S j = atF I j + atF J j) :
    ∀ k, k ≤ c.layers.length → ∀ j, atF (valF c S k) j = atF (valF c I k) j + atF (valF c J k) j := by
  intro k
  induction k with
  | zero => intro _; exact hS
  | succ k ih =>
    intro hk j
    have ih' := ih (by omega)
    show atF (layF (valF c S k) _) j = atF (layF (valF c I k) _) j + atF (layF (valF c J k) _) j
    rw [atF_lay, atF_lay, atF_lay]
    split
    · rename_i hj
      have hm := hadd k (by omega) j hj
      unfold gateF
      rw [hm]
      simp only [Bool.false_eq_true, if_false]
      rw [ih', ih']; grind
    · exact (add_zero' 0).symm
/-- the tiny circuit: two inputs, multiplied, and added -/
def tinyC : Ci := ⟨1, [⟨1, [⟨true, 0, 1⟩, ⟨false, 0, 1⟩]⟩]⟩
theorem tiny_check : checkC tinyC = 0 := by decide
theorem tiny_vals : (valF tinyC ([3, 4].map phi) 1).map psi = [12, 7] := by decide +kernel
end Go.Proofs.YtlfneeobnihocaaGreatDoor
