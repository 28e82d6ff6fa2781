/- The walk of the reference's Factors and of the law SumSays: it returns true, whatever is handed in. The table of bits lies as its initialiser lays it. -/
import Derived.Test.YtcihkechphldcaaDoorSumW
namespace Go.Proofs.YtcihkechphldcaaDoor
set_option maxRecDepth 100000
set_option linter.unusedVariables false
open Go.RowKit Tally
set_option maxHeartbeats 1000000 in
theorem ref_In_y (n lo hi : Int) (w : World) (h1 : lo ≤ n) (h2 : n ≤ hi) :
    Calls Tryd.prog 66 #[.int .i64 n, .int .i64 lo, .int .i64 hi] w fun e w' => e = .returned (.bool true) ∧ w = w' := by
  go_enter Tryd.func66, Tryd.ntmps66
  go_wp2
  go_ret
  exact ⟨rfl, rfl⟩
set_option maxHeartbeats 1000000 in
theorem ref_In_n (n lo hi : Int) (w : World) (h : n < lo ∨ hi < n) :
    Calls Tryd.prog 66 #[.int .i64 n, .int .i64 lo, .int .i64 hi] w fun e w' => e = .returned (.bool false) ∧ w = w' := by
  by_cases h1 : n < lo
  · clear h
    have hd : decide (lo ≤ n) = false := by simp; omega
    go_enter Tryd.func66, Tryd.ntmps66
    go_wp2
    go_ret
    exact ⟨rfl, rfl⟩
  · have h2 : decide (n ≤ hi) = false := by simp; omega
    have h3 : lo ≤ n := by omega
    clear h h1
    go_enter Tryd.func66, Tryd.ntmps66
    go_wp2
    go_ret
    exact ⟨rfl, rfl⟩
/-- the number of variables, or -1 -/
def VarsI (n : Nat) (m : Int) : Prop := (m = -1 ∧ NoTab n) ∨ ∃ k : Nat, k ≤ 8 ∧ n = 2 ^ k ∧ m = (k : Int)
theorem ref_Vars_any (l : List Int) (v : Value) (w : World) (hp : RowU w v l) (m : Int) (hm : VarsI l.length m) :
    Calls Tryd.prog 9 #[v] w fun e w' => e = .returned (.int .i64 m) ∧ w = w' := by
  rcases hm with ⟨rfl, h⟩ | ⟨k, h8, h, rfl⟩
  · exact ref_Vars_no l v w hp h
  · exact ref_Vars l k v w hp h h8
theorem varsI_ex (n : Nat) : ∃ m, VarsI n m ∧ -1 ≤ m ∧ m ≤ 8 := by
  rcases tab_or2 n with h | ⟨k, h8, h⟩
  · exact ⟨-1, .inl ⟨rfl, h⟩, by omega, by omega⟩
  · exact ⟨k, .inr ⟨k, h8, h, rfl⟩, by omega, by omega⟩
theorem varsI_len {n : Nat} {k : Nat} (h : VarsI n (k : Int)) : n = 2 ^ k ∧ k ≤ 8 := by
  rcases h with ⟨h, _⟩ | ⟨j, h8, h, e⟩
  · omega
  · obtain rfl : k = j := by omega
    exact ⟨h, h8⟩
/-- what Factors tells -/
def FacE (ll : List (List Int)) (e : Ending) : Prop :=
  (∃ n : Nat, Facts ll n ∧ e = .returned (.int .i64 n)) ∨ ((∀ n, ¬ Facts ll n) ∧ e = .returned (.int .i64 (-1)))
theorem fixed_nil (ll : List (List Int)) : fixed ll [] = tabs ll := rfl
theorem fixed_one (ll : List (List Int)) (x : Int) : fixed ll [x] = tabs (fixAll ll (phi x)) := by
  unfold fixed tabs fixAll
  rw [List.map_map]
  refine List.map_congr_left fun t _ => ?_
  simp only [Function.comp, mapphi_psi]; rfl
theorem Facts.part {ll : List (List Int)} {n : Nat} (h : Facts ll n) : ∀ j, j < ll.length → (atl ll j).length = 2 ^ n := h.2.2.2
end Go.Proofs.YtcihkechphldcaaDoor
