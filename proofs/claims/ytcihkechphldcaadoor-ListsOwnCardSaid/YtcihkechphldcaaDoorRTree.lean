/- The walks of the reference's trees: Root, Path, Climb, each calling itself. The lists are slices of 2^n numbers, n to 8. -/
import Derived.Test.YtcihkechphldcaaDoorTreeK
import Derived.Test.YtcihkechphldcaaDoorRSponge
import Derived.Test.YtcihkechphldcaaDoorOpen
import Derived.Deep.RegionHeld3
import Derived.IntWalk
namespace Go.Proofs.YtcihkechphldcaaDoor
set_option maxRecDepth 100000
set_option linter.unusedVariables false
open Go.RowKit Tally
/-- the numbers of a list lie in block b from off on -/
def Sub (w : World) (b off : Nat) (l : List Int) : Prop := (∀ x ∈ l, U64 x) ∧ b < w.heap.size ∧ ∀ j, j < l.length → w.cell? ⟨b, off + j, none⟩ = some (.int .u64 (at0 l j))
theorem Sub.below {K : Nat} {w w' : World} {b off : Nat} {l : List Int} (h : Sub w b off l) (hb : Below K w w') (hK : w.heap.size ≤ K) : Sub w' b off l :=
  ⟨h.1, Nat.lt_of_lt_of_le h.2.1 hb.size, fun j hj => by rw [hb.cell (by have := h.2.1; show b < K; omega)]; exact h.2.2 j hj⟩
theorem Sub.step {w w' : World} {b off : Nat} {l : List Int} (h : Sub w b off l) (hb : Below w.heap.size w w') : Sub w' b off l := h.below hb (Nat.le_refl _)
theorem at0_take (l : List Int) (n j : Nat) (h : j < n) : at0 (l.take n) j = at0 l j := by simp [at0, h]
theorem at0_drop (l : List Int) (n j : Nat) : at0 (l.drop n) j = at0 l (n + j) := by simp [at0]
theorem Sub.take {w : World} {b off : Nat} {l : List Int} (h : Sub w b off l) (n : Nat) : Sub w b off (l.take n) :=
  ⟨fun x hx => h.1 x (List.mem_of_mem_take hx), h.2.1, fun j hj => by
    have hj' : j < n ∧ j < l.length := by simp at hj; omega
    rw [at0_take _ _ _ hj'.1]; exact h.2.2 j hj'.2⟩
theorem Sub.drop {w : World} {b off : Nat} {l : List Int} (h : Sub w b off l) (n : Nat) : Sub w b (off + n) (l.drop n) :=
  ⟨fun x hx => h.1 x (List.mem_of_mem_drop hx), h.2.1, fun j hj => by
    have hj' : n + j < l.length := by simp at hj; omega
    rw [at0_drop, Nat.add_assoc]; exact h.2.2 _ hj'⟩
theorem Sub.row {w : World} {b off : Nat} {l : List Int} (h : Sub w b off l) (n cap : Nat) (hl : l.length = n) (hn : n ≤ 9223372036854775807) : RowU w (.slice (some ⟨b, off, none⟩) n cap) l := by
  subst hl; exact ⟨h.1, hn, _, cap, rfl, fun _ => ⟨b, off, rfl, h.2.1, h.2.2⟩⟩
theorem RowU.sub {w : World} {v : Value} {l : List Int} (h : RowU w v l) (h0 : 0 < l.length) : ∃ b off cap, v = .slice (some ⟨b, off, none⟩) l.length cap ∧ Sub w b off l := by
  obtain ⟨h1, h2, a, cap, rfl, h3⟩ := h
  obtain ⟨b, off, rfl, hlt, hc⟩ := h3 h0
  exact ⟨b, off, cap, rfl, h1, hlt, hc⟩
theorem below_chain' {a b c : World} (h : Below a.heap.size a b) (k : Below b.heap.size b c) : Below a.heap.size a c := h.trans (k.mono h.size)
theorem below_drew' (w : World) : Below w.heap.size w w.drew := below_drewN (Below.refl _ _) 1
theorem climbR_congr (leaf : F) (p q : List F) (n : Nat) : (∀ k, k < n → atF p k = atF q k) → ∀ i, climbR pairF leaf p n i = climbR pairF leaf q n i := by
  induction n with
  | zero => intro _ i; rfl
  | succ n ih =>
    intro h i
    simp only [climbR]
    rw [ih (fun k hk => h k (by omega)) i, ih (fun k hk => h k (by omega)) (i - 2 ^ n), h n (by omega)]
end Go.Proofs.YtcihkechphldcaaDoor
