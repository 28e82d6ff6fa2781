/- The walks of the reference's trees: Root, Path, Climb, each calling itself. The lists are slices of 2^n numbers, n to 8. -/
import Derived.Test.YtlfneeobnihocaaGreatDoorTreeK
import Derived.Test.YtlfneeobnihocaaGreatDoorRSponge
import Derived.Test.YtlfneeobnihocaaGreatDoorUni
import Derived.Deep.RegionHeld3
import Derived.IntWalk
namespace Go.Proofs.YtlfneeobnihocaaGreatDoor
set_option maxRecDepth 100000
set_option linter.unusedVariables false
open Go.RowKit Tally
def Sub (w : World) (b off : Nat) (l : List Int) : Prop := (∀ x ∈ l, U64 x) ∧ b < w.heap.size ∧ ∀ j, j < l.length → w.cell? ⟨b, off + j, none⟩ = some (.int .u64 (at0 l j))
theorem Sub.below {K : Nat} {w w' : World} {b off : Nat} {l : List Int} (h : Sub w b off l) (hb : Below K w w') (hK : w.heap.size ≤ K) : Sub w' b off l :=
 ⟨h.1, Nat.lt_of_lt_of_le h.2.1 hb.size, fun j hj => by rw [hb.cell (by have := h.2.1; show b < K; omega)]; exact h.2.2 j hj⟩
theorem Sub.step {w w' : World} {b off : Nat} {l : List Int} (h : Sub w b off l) (hb : Below w.heap.size w w') : Sub w' b off l := h.below hb (Nat.le_refl _)
theorem at0_take (l : List Int) (n j : Nat) (h : j < n) : at0 (l.take n) j = at0 l j := by simp [at0, h]
theorem at0_drop (l : List Int) (n j : Nat) : at0 (l.drop n) j = at0 l (n + j) := by simp [at0]
theorem Sub.take {w : World} {b off : Nat} {l : List Int} (h : Sub w b off l) (n : Nat) : Sub w b off (l.take n) :=
 ⟨fun x hx => h.1 x (List.mem_of_mem_take hx), h.2.1, fun j hj => by
  have hj' : j < n ∧ j < l.length := by simp at hj; omega
  rw [at0_take _ _ _ hj'.1]; exact h.2.2 j hj'.2⟩
theorem Sub.drop {w : World} {b off : Nat} {l : List Int} (h : Sub w b off l) (n : Nat) : Sub w b (off + n) (l.drop n) :=
 ⟨fun x hx => h.1 x (List.mem_of_mem_drop hx), h.2.1, fun j hj => by
  have hj' : n + j < l.length := by simp at hj; omega
  rw [at0_drop, Nat.add_assoc]; exact h.2.2 _ hj'⟩
theorem Sub.row {w : World} {b off : Nat} {l : List Int} (h : Sub w b off l) (n cap : Nat) (hl : l.length = n) (hn : n ≤ 9223372036854775807) : RowU w (.slice (some ⟨b, off, none⟩) n cap) l := by
 subst hl; exact ⟨h.1, hn, _, cap, rfl, fun _ => ⟨b, off, rfl, h.2.1, h.2.2⟩⟩
theorem below_chain' {a b c : World} (h : Below a.heap.size a b) (k : Below b.heap.size b c) : Below a.heap.size a c := h.trans (k.mono h.size)
theorem below_drew' (w : World) : Below w.heap.size w w.drew := below_drewN (Below.refl _ _) 1
set_option maxHeartbeats 1000000 in
theorem ref_Root (n : Nat) : ∀ (t : List Int) (b off m cap : Nat) (w : World), Sub w b off t → t.length = m → m = 2 ^ n → n ≤ 8 → m ≤ cap → cap ≤ 9223372036854775807 →
  Calls Tryz.prog 50 #[.slice (some ⟨b, off, none⟩) m cap] w fun e w' => e = .returned (.int .u64 (psi (rootR pairF n (t.map phi)))) ∧ Below w.heap.size w w' := by
 induction n with
 | zero =>
  intro t b off m cap w hs hl hm h8 hc hc2
  obtain rfl : m = 1 := by simpa using hm
  have hcell := hs.2.2 0 (by omega)
  rw [Nat.add_zero] at hcell
  have hu := hs.1 _ (at0_mem (show 0 < t.length by omega))
  have hR := zH (show rootR pairF 0 (t.map phi) = pairF (phi (at0 t 0)) (phi 0) by rw [phi_zero]; show pairF (atF (t.map phi) 0) 0 = _; rw [atF_map t 0 (by omega)])
  clear hl hm hs
  go_enter Tryz.func50, Tryz.ntmps50
  go_wp2_with (fail)
  refine (rsponge_Pair _ _ _ hu U64.zero).mono ?_
  rintro e w1 ⟨rfl, hb1⟩
  go_wp2
  go_ret
  exact ⟨by rw [hR.out]; rfl, hb1⟩
 | succ n ih =>
  intro t b off m cap w hs hl hm h8 hc hc2
  obtain ⟨q1, q2⟩ := pow_le8 (n := n) (by omega)
  obtain ⟨h, hh⟩ : ∃ h, h = 2 ^ n := ⟨_, rfl⟩
  have hm2 : m = 2 * h := by rw [hm, hh, Nat.pow_succ]; omega
  rw [← hh] at q1 q2
  have hz : ((m : Int) == 1) = false := beq_false_of_ne (by omega)
  have hq : (m : Int) / 2 = (h : Int) := by omega
  have hq1 : (m : Int).tdiv 2 = (h : Int) := by rw [Int.tdiv_eq_ediv_of_nonneg (by omega)]; omega
  have hq2 : IntKind.i64.wrap (h : Int) = (h : Int) := IntWalk.i64_in _ (by omega)
  have hq3 : (0 : Int) ≤ (h : Int) := by omega
  have h1 : h ≤ m := by omega
  have h2 : h ≤ cap := by omega
  have h3 : (h : Int) ≤ (cap : Int) := by omega
  have h4 : (h : Int) ≤ (m : Int) := by omega
  have h5 : cap ≠ h := by omega
  have HA := zH (hs.take h)
  have HB := zH (hs.drop h)
  have HlA := zH (show (t.take h).length = h by simp; omega)
  have HlB := zH (show (t.drop h).length = m - h by simp; omega)
  have Hh := zH hh
  have Hmh := zH (show m - h = h by omega)
  have hR := zH (show rootR pairF (n + 1) (t.map phi) = pairF (rootR pairF n ((t.take h).map phi)) (rootR pairF n ((t.drop h).map phi)) by rw [hh, List.map_take, List.map_drop]; rfl)
  clear hs hl hm hh hm2
  go_enter Tryz.func50, Tryz.ntmps50
  go_wp2
  go_region_held3 (fun w' => Below w.heap.size w w')
   (first | exact below_drew' _ | exact below_chain' (by assumption) hbA | exact below_chain' (by assumption) hbB | exact below_chain' (by assumption) hbC)
   (first
    | (go_at_call 50; (with_reducible refine (ih (t.take h) b off h cap _ (HA.out.step (by assumption)) HlA.out Hh.out (by omega) (by omega) hc2).mono ?_); rintro e wA ⟨rfl, hbA⟩)
    | (go_at_call 50; (with_reducible refine (ih (t.drop h) b (off + h) (m - h) (cap - h) _ (HB.out.step (by assumption)) HlB.out (by rw [Hmh.out]; exact Hh.out) (by omega) (by omega) (by omega)).mono ?_); rintro e wB ⟨rfl, hbB⟩)
    | (go_at_call 76; (with_reducible refine (rsponge_Pair _ _ _ (U64.psi _) (U64.psi _)).mono ?_); rintro e wC ⟨rfl, hbC⟩))
  all_goals
   go_wp2
   go_ret
   exact ⟨ret_u64 (by rw [hR.out, phi_psi, phi_psi, List.map_take, List.map_drop]), by assumption⟩
end Go.Proofs.YtlfneeobnihocaaGreatDoor
