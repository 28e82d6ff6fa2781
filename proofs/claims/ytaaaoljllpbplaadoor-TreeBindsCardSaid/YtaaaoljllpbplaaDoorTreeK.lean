/- The helper grown; the walk of the law TreePaths: it returns true, whatever is handed in. The table of bits lies as its initialiser lays it. -/
import Derived.Test.YtaaaoljllpbplaaDoorTreeW2
import Derived.Test.YtaaaoljllpbplaaDoorKeepM
namespace Go.Proofs.YtaaaoljllpbplaaDoor
set_option maxRecDepth 100000
set_option linter.unusedVariables false
open Go.RowKit Tally
theorem root56 : rootF [5, 6] 1 = pairF (pairF (phi 5) (phi 0)) (pairF (phi 6) (phi 0)) := by
  have h0 : phi 0 = 0 := phi_zero
  rw [h0]; rfl
/-- the root of 5 and 6, hidden -/
def r56 : F := pairF (pairF (phi 5) (phi 0)) (pairF (phi 6) (phi 0))
theorem r56_ne : (psi r56 != 0) = true := by decide +kernel
theorem root_56 (v : Value) (w : World) (hT : Tab w) (hp : RowU w v [5, 6]) : Calls Tryd.prog 45 #[v] w fun e w' => e = .returned (.tuple #[.int .u64 (psi r56), .int .i64 0]) ∧ Below w.heap.size w w' := by
  have := tree_Root [5, 6] 1 v w hT hp (by simp) (by decide)
  rw [root56] at this; exact this
/-- the leaves of 5 and 6, hidden -/
def l5 : F := pairF (phi 5) (phi 0)
def l6 : F := pairF (phi 6) (phi 0)
theorem pair_5 (w : World) : Calls Tryd.prog 40 #[.int .u64 5, .int .u64 0] w fun e w' => e = .returned (.int .u64 (psi l5)) ∧ Below w.heap.size w w' := sponge_Pair 5 0 w ⟨by decide, by decide⟩ U64.zero
theorem pair_6 (w : World) : Calls Tryd.prog 40 #[.int .u64 6, .int .u64 0] w fun e w' => e = .returned (.int .u64 (psi l6)) ∧ Below w.heap.size w w' := sponge_Pair 6 0 w ⟨by decide, by decide⟩ U64.zero
theorem pair_56 (w : World) : Calls Tryd.prog 40 #[.int .u64 (psi l5), .int .u64 (psi l6)] w fun e w' => e = .returned (.int .u64 (psi r56)) ∧ Below w.heap.size w w' := by
  have := sponge_Pair (psi l5) (psi l6) w (U64.psi _) (U64.psi _)
  rw [phi_psi, phi_psi] at this; exact this
set_option maxHeartbeats 1000000 in
theorem keep_grown (w : World) (hT : Tab w) :
    Calls Tryd.prog 38 #[] w fun e w' => e = .returned (.bool true) ∧ Below w.heap.size w w' := by
  have HT := Lib.hid hT
  clear hT
  have u5 := u64n 5 (by decide)
  have u6 := u64n 6 (by decide)
  have hne := r56_ne
  go_enter Tryd.func38, Tryd.ntmps38
  go_wp2_with (fail)
  refine (root_56 _ _ (HT.out.more _) (row2 w w.heap.size 5 6 u5 u6 rfl)).mono ?_
  rintro e w1 ⟨rfl, hb⟩
  have H1 := Lib.hid (below_chain (below_alloc w _) hb)
  clear hb
  go_wp2_with (fail)
  refine (pair_5 _).mono ?_
  rintro e w2 ⟨rfl, hb⟩
  have H2 := Lib.hid (below_chain H1.out hb)
  clear hb
  go_wp2_with (fail)
  refine (pair_6 _).mono ?_
  rintro e w3 ⟨rfl, hb⟩
  have H3 := Lib.hid (below_chain H2.out hb)
  clear hb
  go_wp2_with (fail)
  refine (pair_56 _).mono ?_
  rintro e w4 ⟨rfl, hb⟩
  have H4 := Lib.hid (below_chain H3.out hb)
  clear hb
  go_wp2
  go_ret
  exact ⟨rfl, H4.out⟩
theorem climb_root (t : List Int) (n i : Nat) (hn : t.length = 2 ^ n) (hi : i < 2 ^ n) : climbF (at0 t i) ((pathF t n i).map psi) i = rootF t n := by
  unfold climbF pathF rootF
  rw [mapphi_psi]
  have e : pairF (phi (at0 t i)) 0 = atF (leafs pairF (t.map phi)) i := by
    rw [leafs_at pairF _ i (by simpa [hn] using hi), atF_map t i (by omega)]
  rw [e]
  exact climb_path pairF n _ i (by simp [leafs, hn]) hi
set_option maxHeartbeats 2000000 in
theorem treePaths_walk (w : World) (hT : Tab w) (v : Value) (a : List Int) (hp : RowU w v a) (k : Int) (hk : I64 k) (i : Int) (hi : I64 i) :
    Calls Tryd.prog 8 #[v, .int .i64 k, .int .i64 i] w fun e w' => e = .returned (.bool true) ∧ Below w.heap.size w w' := by
  have HT := Lib.hid hT
  have Hp := Lib.hid hp
  have Hk := Lib.hid hk
  have Hi := Lib.hid hi
  clear hT hp hk hi
  go_enter Tryd.func8, Tryd.ntmps8
  go_wp2_with (fail)
  refine (keep_grown _ HT.out).mono ?_
  rintro e w1 ⟨rfl, hb⟩
  have H1 := Lib.hid hb
  clear hb
  go_wp2_with (fail)
  refine (keep_table _ _ _ _ (Hp.out.step H1.out) Hk.out).mono ?_
  rintro e w3 ⟨rfl, hn3, hb3⟩
  obtain ⟨n, hn⟩ : ∃ n, n = (k % 5).toNat := ⟨_, rfl⟩
  rw [← hn] at hn3 ⊢
  have hn8 : n ≤ 8 := by omega
  clear hn
  obtain ⟨t, ht⟩ : ∃ t, t = padTo (2 ^ n) a := ⟨_, rfl⟩
  rw [← ht] at hn3
  have Ht := Lib.hid (show t.length = 2 ^ n by rw [ht, padTo_length])
  clear ht
  have Hn3 := Lib.hid hn3.row
  have H3 := Lib.hid (below_chain H1.out hb3)
  clear hn3 hb3
  obtain ⟨g1, g2⟩ := pow_le8 hn8
  generalize hN : 2 ^ n = N at *
  have HN := Lib.hid hN
  clear hN
  have hm0 : 0 ≤ i % (N : Int) := Int.emod_nonneg _ (by omega)
  have hm1 : i % (N : Int) < (N : Int) := Int.emod_lt_of_pos _ (by omega)
  go_wp2_with (fail)
  refine (ref_Rest i (N : Int) _ Hi.out (by omega) (by omega)).mono ?_
  rintro e w' ⟨rfl, rfl⟩
  obtain ⟨q, hq⟩ : ∃ q : Nat, i % (N : Int) = (q : Int) := ⟨(i % (N : Int)).toNat, by omega⟩
  rw [hq] at hm1 hm0 ⊢
  have hqN : q < N := by omega
  clear hq hm0 hm1
  have HqN := Lib.hid hqN
  go_wp2_with (fail)
  refine (tree_Root t n _ _ (HT.out.below H3.out) Hn3.out (by rw [Ht.out, HN.out]) hn8).mono ?_
  rintro e w4 ⟨rfl, hb⟩
  have H4 := Lib.hid (below_chain H3.out hb)
  have Hn4 := Lib.hid (Hn3.out.step hb)
  clear hb
  go_wp2_with (fail)
  refine (tree_Path t n q _ _ (HT.out.below H4.out) Hn4.out (by rw [Ht.out, HN.out]) hn8 (by rw [HN.out]; exact hqN)).mono ?_
  rintro e w5 ⟨v5, rfl, hn5, hb⟩
  have H5 := Lib.hid (below_chain H4.out hb)
  have Hn5 := Lib.hid (Hn4.out.step hb)
  have Hp5 := Lib.hid hn5.row
  obtain ⟨ap, cp, ev⟩ := hn5.isSlice
  have hpl : ((pathF t n q).map psi).length = n := by rw [List.length_map]; exact pathN_length _ _ _ _
  rw [hpl] at ev
  subst ev
  clear hb hn5
  obtain ⟨hk1, hk2, hk3⟩ := Hn5.out.known
  have hcell := hk3 q (by omega)
  have hu := Hn5.out.1 _ (at0_mem (show q < t.length by omega))
  have hlt : (q : Int) < (N : Int) := by omega
  clear hk1 hk3
  go_wp2_with (fail)
  refine (tree_Climb q (at0 t q) _ _ _ hu Hp5.out (by rw [hpl]; exact hn8) (by rw [hpl, HN.out]; exact hqN)).mono ?_
  rintro e w6 ⟨rfl, hb⟩
  rw [climb_root t n q (by rw [Ht.out, HN.out]) (by rw [HN.out]; exact hqN)]
  have H6 := Lib.hid (below_chain H5.out hb)
  have Hn6 := Lib.hid (Hn5.out.step hb)
  clear hb hcell hpl
  go_wp2_with (fail)
  refine (ref_Vars t n _ _ Hn6.out (by rw [Ht.out, HN.out]) hn8).mono ?_
  rintro e w' ⟨rfl, rfl⟩
  go_wp2
  go_ret
  exact ⟨rfl, H6.out⟩
end Go.Proofs.YtaaaoljllpbplaaDoor
