/- The walk of the law TreeSays: it returns true, whatever is handed in. The table of bits lies as its initialiser lays it. -/
import Derived.Test.YtaaaoljllpbplaaDoorRTree
import Derived.Test.YtaaaoljllpbplaaDoorTreeW2
import Derived.Test.YtaaaoljllpbplaaDoorKeepM
namespace Go.Proofs.YtaaaoljllpbplaaDoor
set_option maxRecDepth 100000
set_option linter.unusedVariables false
open Go.RowKit Tally
set_option maxHeartbeats 1000000 in
theorem ref_In_yes (n lo hi : Int) (w : World) (h1 : lo ≤ n) (h2 : n ≤ hi) :
    Calls Tryd.prog 51 #[.int .i64 n, .int .i64 lo, .int .i64 hi] w fun e w' => e = .returned (.bool true) ∧ w = w' := by
  go_enter Tryd.func51, Tryd.ntmps51
  go_wp2
  go_ret
  exact ⟨rfl, rfl⟩
set_option maxHeartbeats 1000000 in
theorem ref_In_no (n lo hi : Int) (w : World) (h : n < lo ∨ hi < n) :
    Calls Tryd.prog 51 #[.int .i64 n, .int .i64 lo, .int .i64 hi] w fun e w' => e = .returned (.bool false) ∧ w = w' := by
  by_cases h1 : n < lo
  · clear h
    have hd : decide (lo ≤ n) = false := by simp; omega
    go_enter Tryd.func51, Tryd.ntmps51
    go_wp2
    go_ret
    exact ⟨rfl, rfl⟩
  · have h2 : decide (n ≤ hi) = false := by simp; omega
    have h3 : lo ≤ n := by omega
    clear h h1
    go_enter Tryd.func51, Tryd.ntmps51
    go_wp2
    go_ret
    exact ⟨rfl, rfl⟩
set_option maxHeartbeats 1000000 in
theorem tree_Root_no (t : List Int) (v : Value) (w : World) (hT : Tab w) (hp : RowU w v t) (hn : NoTab t.length) :
    Calls Tryd.prog 45 #[v] w fun e w' => e = .returned (.tuple #[.int .u64 0, .int .i64 4]) ∧ w = w' := by
  have HT := Lib.hid hT
  have Hp := Lib.hid hp
  have Hn := Lib.hid hn
  clear hT hp hn
  go_enter Tryd.func45, Tryd.ntmps45
  go_wp2_with (fail)
  refine (mle_Vars_no _ _ _ HT.out Hp.out Hn.out).mono ?_
  rintro e w' ⟨rfl, rfl⟩
  go_wp2
  go_ret2
  exact ⟨rfl, rfl⟩
set_option maxHeartbeats 1000000 in
theorem tree_Path_no (t : List Int) (i : Int) (v : Value) (w : World) (hT : Tab w) (hp : RowU w v t) (hn : NoTab t.length) :
    Calls Tryd.prog 46 #[v, .int .i64 i] w fun e w' => e = .returned (.tuple #[.slice none 0 0, .int .i64 4]) ∧ w = w' := by
  have HT := Lib.hid hT
  have Hp := Lib.hid hp
  have Hn := Lib.hid hn
  clear hT hp hn
  go_enter Tryd.func46, Tryd.ntmps46
  go_wp2_with (fail)
  refine (mle_Vars_no _ _ _ HT.out Hp.out Hn.out).mono ?_
  rintro e w' ⟨rfl, rfl⟩
  go_wp2
  go_ret2
  exact ⟨rfl, rfl⟩
set_option maxHeartbeats 1000000 in
theorem tree_Path_arg (t : List Int) (n : Nat) (i : Int) (v : Value) (w : World) (hT : Tab w) (hp : RowU w v t) (hn : t.length = 2 ^ n) (h8 : n ≤ 8) (hi : i < 0 ∨ (t.length : Int) ≤ i) :
    Calls Tryd.prog 46 #[v, .int .i64 i] w fun e w' => e = .returned (.tuple #[.slice none 0 0, .int .i64 1]) ∧ w = w' := by
  have HT := Lib.hid hT
  have Hp := Lib.hid hp
  have Hn := Lib.hid hn
  obtain ⟨_, h2, adt, capt, rfl, _⟩ := hp
  clear hT hn
  by_cases h0 : i < 0
  · clear hi
    go_enter Tryd.func46, Tryd.ntmps46
    go_wp2_with (fail)
    refine (mle_Vars _ _ _ _ HT.out Hp.out Hn.out h8).mono ?_
    rintro e w' ⟨rfl, rfl⟩
    go_wp2
    go_ret2
    exact ⟨rfl, rfl⟩
  · have h1 : (t.length : Int) ≤ i := by omega
    clear hi
    go_enter Tryd.func46, Tryd.ntmps46
    go_wp2_with (fail)
    refine (mle_Vars _ _ _ _ HT.out Hp.out Hn.out h8).mono ?_
    rintro e w' ⟨rfl, rfl⟩
    go_wp2
    go_ret2
    exact ⟨rfl, rfl⟩
set_option maxHeartbeats 1000000 in
theorem tree_Climb_no (i x : Int) (p : List Int) (v : Value) (w : World) (hp : RowU w v p) (h : ¬ (p.length ≤ 8 ∧ 0 ≤ i ∧ i < ((2 ^ p.length : Nat) : Int))) :
    Calls Tryd.prog 39 #[.int .i64 i, .int .u64 x, v] w fun e w' => e = .returned (.tuple #[.int .u64 0, .int .i64 1]) ∧ w = w' := by
  obtain ⟨_, h2, ad, cap, rfl, _⟩ := hp
  by_cases h8 : p.length ≤ 8
  · have h8' : ¬ (8 : Int) < (p.length : Int) := by omega
    by_cases h0 : i < 0
    · clear h
      go_enter Tryd.func39, Tryd.ntmps39
      go_wp2
      go_ret2
      exact ⟨rfl, rfl⟩
    · have h3 : ((2 ^ p.length : Nat) : Int) ≤ i := by omega
      have hw := pow_wrap8 h8
      clear h
      generalize ((2 ^ p.length : Nat) : Int) = N at *
      go_enter Tryd.func39, Tryd.ntmps39
      go_wp2
      go_ret2
      exact ⟨rfl, rfl⟩
  · have h8' : (8 : Int) < (p.length : Int) := by omega
    clear h
    go_enter Tryd.func39, Tryd.ntmps39
    go_wp2
    go_ret2
    exact ⟨rfl, rfl⟩
set_option maxHeartbeats 2000000 in
theorem treeSays_no_yes (w : World) (hT : Tab w) (v : Value) (t : List Int) (hp : RowU w v t) (hcap : CapOk v) (i : Int) (hi : I64 i) (x : Int) (hx : U64 x) (v2 : Value) (p : List Int) (hp2 : RowU w v2 p) (hcap2 : CapOk v2) (hn : NoTab t.length) (h8 : p.length ≤ 8) (h0 : 0 ≤ i) (hlt : i < ((2 ^ p.length : Nat) : Int)) :
    Calls Tryd.prog 10 #[v, .int .i64 i, .int .u64 x, v2] w fun e w' => e = .returned (.bool true) ∧ Below w.heap.size w w' := by
  have HT := Lib.hid hT
  have Hp := Lib.hid hp
  have Hp2 := Lib.hid hp2
  have Hcap := Lib.hid hcap
  have Hcap2 := Lib.hid hcap2
  have Hn := Lib.hid hn
  obtain ⟨k, rfl⟩ : ∃ k : Nat, i = (k : Int) := ⟨i.toNat, by omega⟩
  have hk : k < 2 ^ p.length := by omega
  have Hk := Lib.hid hk
  have hw8 := pow_wrap8 h8
  have h8' : (p.length : Int) ≤ 8 := by omega
  clear hk
  obtain ⟨_, ht2, at1, ct, rfl, _⟩ := hp
  obtain ⟨_, hp2l, ap, cp, rfl, _⟩ := hp2
  have hi2 : -9223372036854775808 ≤ (k : Int) ∧ (k : Int) ≤ 9223372036854775807 := hi
  clear hT hn hcap hcap2
  generalize hN : ((2 ^ p.length : Nat) : Int) = N at *
  have HN := Lib.hid hN
  clear hN
  go_enter Tryd.func10, Tryd.ntmps10
  go_wp2_with (fail)
  refine (ref_Vars_no _ _ _ Hp.out Hn.out).mono ?_
  rintro e w' ⟨rfl, rfl⟩
  have B1 := Lib.hid (Below.refl w.heap.size w)
  go_wp2_with (fail)
  refine (ref_Climb p.length p k x _ _ (Hp2.out.step B1.out) Hcap2.out rfl h8 Hk.out hx).mono ?_
  rintro e w3 ⟨rfl, hb⟩
  have B3 := Lib.hid (below_chain B1.out hb)
  clear hb
  go_wp2_with (fail)
  refine (tree_Root_no _ _ _ (HT.out.below B3.out) (Hp.out.step B3.out) Hn.out).mono ?_
  rintro e w' ⟨rfl, rfl⟩
  go_wp2_with (fail)
  refine (tree_Path_no _ _ _ _ (HT.out.below B3.out) (Hp.out.step B3.out) Hn.out).mono ?_
  rintro e w' ⟨rfl, rfl⟩
  go_wp2_with (fail)
  refine (tree_Climb k x p _ _ hx (Hp2.out.step B3.out) h8 Hk.out).mono ?_
  rintro e w6 ⟨rfl, hb⟩
  rw [show climbF x p k = climbR pairF (phi x) (p.map phi) p.length k from by have := climb_eq pairF (phi x) (p.map phi) p.length k (by simp) Hk.out; rw [List.take_of_length_le (by simp)] at this; exact this]
  have B6 := Lib.hid (below_chain B3.out hb)
  clear hb
  go_wp2_with (fail)
  refine (slices_Equal [] _ _ _ (NewU.nil 0 _).row (NewU.nil 0 _).row).mono ?_
  rintro e w7 ⟨rfl, hd⟩
  have B7 := Lib.hid (below_chain B6.out hd.below)
  clear hd
  go_wp2
  go_ret
  exact ⟨rfl, B7.out⟩
set_option maxHeartbeats 2000000 in
theorem treeSays_no_no (w : World) (hT : Tab w) (v : Value) (t : List Int) (hp : RowU w v t) (hcap : CapOk v) (i : Int) (hi : I64 i) (x : Int) (hx : U64 x) (v2 : Value) (p : List Int) (hp2 : RowU w v2 p) (hcap2 : CapOk v2) (hn : NoTab t.length) (hc : ¬ (p.length ≤ 8 ∧ 0 ≤ i ∧ i < ((2 ^ p.length : Nat) : Int))) :
    Calls Tryd.prog 10 #[v, .int .i64 i, .int .u64 x, v2] w fun e w' => e = .returned (.bool true) ∧ Below w.heap.size w w' := by
  have HT := Lib.hid hT
  have Hp := Lib.hid hp
  have Hp2 := Lib.hid hp2
  have Hcap := Lib.hid hcap
  have Hcap2 := Lib.hid hcap2
  have Hn := Lib.hid hn
  have Hc := Lib.hid hc
  obtain ⟨_, ht2, at1, ct, rfl, _⟩ := hp
  obtain ⟨_, hp2l, ap, cp, rfl, _⟩ := hp2
  have hi2 : -9223372036854775808 ≤ i ∧ i ≤ 9223372036854775807 := hi
  clear hT hn hcap hcap2 hc
  by_cases h8 : p.length ≤ 8
  · have h8' : (p.length : Int) ≤ 8 := by omega
    have hw8 := pow_wrap8 h8
    by_cases h0 : i < 0
    · generalize hN : ((2 ^ p.length : Nat) : Int) = N at hw8
      have HN := Lib.hid hN
      clear hN
      have hd0 : decide ((0 : Int) ≤ i) = false := by simp; omega
      go_enter Tryd.func10, Tryd.ntmps10
      go_wp2_with (fail)
      refine (ref_Vars_no _ _ _ Hp.out Hn.out).mono ?_
      rintro e w' ⟨rfl, rfl⟩
      have B1 := Lib.hid (Below.refl w.heap.size w)
      go_wp2_with (fail)
      refine (tree_Root_no _ _ _ (HT.out.below B1.out) (Hp.out.step B1.out) Hn.out).mono ?_
      rintro e w' ⟨rfl, rfl⟩
      go_wp2_with (fail)
      refine (tree_Path_no _ _ _ _ (HT.out.below B1.out) (Hp.out.step B1.out) Hn.out).mono ?_
      rintro e w' ⟨rfl, rfl⟩
      go_wp2_with (fail)
      refine (tree_Climb_no _ x p _ _ (Hp2.out.step B1.out) (by have := Hc.out; exact this)).mono ?_
      rintro e w' ⟨rfl, rfl⟩
      go_wp2_with (fail)
      refine (slices_Equal [] _ _ _ (NewU.nil 0 _).row (NewU.nil 0 _).row).mono ?_
      rintro e w7 ⟨rfl, hd⟩
      have B7 := Lib.hid (below_chain B1.out hd.below)
      clear hd
      go_wp2
      go_ret
      exact ⟨rfl, B7.out⟩
    · have hge : decide (i < ((2 ^ p.length : Nat) : Int)) = false := by have := Hc.out; simp only [decide_eq_false_iff_not]; omega
      have h0' : (0 : Int) ≤ i := by omega
      generalize hN : ((2 ^ p.length : Nat) : Int) = N at hge hw8
      have HN := Lib.hid hN
      clear hN
      go_enter Tryd.func10, Tryd.ntmps10
      go_wp2_with (fail)
      refine (ref_Vars_no _ _ _ Hp.out Hn.out).mono ?_
      rintro e w' ⟨rfl, rfl⟩
      have B1 := Lib.hid (Below.refl w.heap.size w)
      go_wp2_with (fail)
      refine (tree_Root_no _ _ _ (HT.out.below B1.out) (Hp.out.step B1.out) Hn.out).mono ?_
      rintro e w' ⟨rfl, rfl⟩
      go_wp2_with (fail)
      refine (tree_Path_no _ _ _ _ (HT.out.below B1.out) (Hp.out.step B1.out) Hn.out).mono ?_
      rintro e w' ⟨rfl, rfl⟩
      go_wp2_with (fail)
      refine (tree_Climb_no _ x p _ _ (Hp2.out.step B1.out) (by have := Hc.out; exact this)).mono ?_
      rintro e w' ⟨rfl, rfl⟩
      go_wp2_with (fail)
      refine (slices_Equal [] _ _ _ (NewU.nil 0 _).row (NewU.nil 0 _).row).mono ?_
      rintro e w7 ⟨rfl, hd⟩
      have B7 := Lib.hid (below_chain B1.out hd.below)
      clear hd
      go_wp2
      go_ret
      exact ⟨rfl, B7.out⟩
  · have h8' : decide ((p.length : Int) ≤ 8) = false := by simp; omega
    clear h8
    go_enter Tryd.func10, Tryd.ntmps10
    go_wp2_with (fail)
    refine (ref_Vars_no _ _ _ Hp.out Hn.out).mono ?_
    rintro e w' ⟨rfl, rfl⟩
    have B1 := Lib.hid (Below.refl w.heap.size w)
    go_wp2_with (fail)
    refine (tree_Root_no _ _ _ (HT.out.below B1.out) (Hp.out.step B1.out) Hn.out).mono ?_
    rintro e w' ⟨rfl, rfl⟩
    go_wp2_with (fail)
    refine (tree_Path_no _ _ _ _ (HT.out.below B1.out) (Hp.out.step B1.out) Hn.out).mono ?_
    rintro e w' ⟨rfl, rfl⟩
    go_wp2_with (fail)
    refine (tree_Climb_no _ x p _ _ (Hp2.out.step B1.out) (by have := Hc.out; exact this)).mono ?_
    rintro e w' ⟨rfl, rfl⟩
    go_wp2_with (fail)
    refine (slices_Equal [] _ _ _ (NewU.nil 0 _).row (NewU.nil 0 _).row).mono ?_
    rintro e w7 ⟨rfl, hd⟩
    have B7 := Lib.hid (below_chain B1.out hd.below)
    clear hd
    go_wp2
    go_ret
    exact ⟨rfl, B7.out⟩
set_option maxHeartbeats 2000000 in
theorem treeSays_in_yes (w : World) (hT : Tab w) (v : Value) (t : List Int) (hp : RowU w v t) (hcap : CapOk v) (i : Int) (hi : I64 i) (x : Int) (hx : U64 x) (v2 : Value) (p : List Int) (hp2 : RowU w v2 p) (hcap2 : CapOk v2) (n q : Nat) (hn : t.length = 2 ^ n) (h5 : n ≤ 5) (hq : q < t.length) (hiq : i = (q : Int)) (h8 : p.length ≤ 8) (h0 : 0 ≤ i) (hlt : i < ((2 ^ p.length : Nat) : Int)) :
    Calls Tryd.prog 10 #[v, .int .i64 i, .int .u64 x, v2] w fun e w' => e = .returned (.bool true) ∧ Below w.heap.size w w' := by
  have HT := Lib.hid hT
  have Hp := Lib.hid hp
  have Hp2 := Lib.hid hp2
  have Hcap := Lib.hid hcap
  have Hcap2 := Lib.hid hcap2
  have Hn := Lib.hid hn
  obtain ⟨k, rfl⟩ : ∃ k : Nat, i = (k : Int) := ⟨i.toNat, by omega⟩
  have hk : k < 2 ^ p.length := by omega
  have Hk := Lib.hid hk
  have hw8 := pow_wrap8 h8
  have h8' : (p.length : Int) ≤ 8 := by omega
  clear hk
  obtain rfl : k = q := by omega
  obtain ⟨_, ht2, at1, ct, rfl, _⟩ := hp
  obtain ⟨_, hp2l, ap, cp, rfl, _⟩ := hp2
  have hi2 : -9223372036854775808 ≤ (k : Int) ∧ (k : Int) ≤ 9223372036854775807 := hi
  obtain ⟨g1, g2⟩ := pow_le8 (n := n) (by omega)
  rw [← hn] at g1 g2
  have h5' : ¬ (5 : Int) < (n : Int) := by omega
  have Hc1 := Lib.hid (Hcap.out _ _ _ rfl)
  have Hq := Lib.hid hq
  have hq1 : ((k : Nat) : Int) ≤ (t.length : Int) - 1 := by omega
  clear hT hn hcap hcap2 hq
  generalize hN : ((2 ^ p.length : Nat) : Int) = N at *
  have HN := Lib.hid hN
  clear hN
  go_enter Tryd.func10, Tryd.ntmps10
  go_wp2_with (fail)
  refine (ref_Vars _ n _ _ Hp.out Hn.out (by omega)).mono ?_
  rintro e w' ⟨rfl, rfl⟩
  obtain ⟨b, off, cc, ev, hs⟩ := Hp.out.sub (by omega)
  cases ev
  have Hs := Lib.hid hs
  clear hs
  go_wp2_with (fail)
  refine (ref_Root n t b off _ _ _ Hs.out rfl Hn.out (by omega) Hc1.out.1 Hc1.out.2).mono ?_
  rintro e w1 ⟨rfl, hb⟩
  have B1 := Lib.hid hb
  clear hb
  go_wp2_with (fail)
  refine (ref_In_yes _ _ _ _ (by omega) hq1).mono ?_
  rintro e w' ⟨rfl, rfl⟩
  go_wp2_with (fail)
  refine (ref_Path n t k b off _ _ _ (Hs.out.step B1.out) rfl Hn.out (by omega) Hc1.out.1 Hc1.out.2 Hq.out).mono ?_
  rintro e w2 ⟨vR, rfl, hnR, hb⟩
  have HR := Lib.hid hnR.row
  have B2 := Lib.hid (below_chain B1.out hb)
  clear hb hnR
  go_wp2_with (fail)
  refine (ref_Climb p.length p k x _ _ (Hp2.out.step B2.out) Hcap2.out rfl h8 Hk.out hx).mono ?_
  rintro e w3 ⟨rfl, hb⟩
  have B3 := Lib.hid (below_chain B2.out hb)
  have HR3 := Lib.hid (HR.out.step hb)
  clear hb
  go_wp2_with (fail)
  refine (tree_Root t n _ _ (HT.out.below B3.out) (Hp.out.step B3.out) Hn.out (by omega)).mono ?_
  rintro e w4 ⟨rfl, hb⟩
  rw [show rootF t n = rootR pairF n (t.map phi) from root_eq pairF n (t.map phi) (by simpa using Hn.out)]
  have B4 := Lib.hid (below_chain B3.out hb)
  have HR4 := Lib.hid (HR3.out.step hb)
  clear hb
  go_wp2_with (fail)
  refine (tree_Path t n k _ _ (HT.out.below B4.out) (Hp.out.step B4.out) Hn.out (by omega) (by rw [← Hn.out]; exact Hq.out)).mono ?_
  rintro e w5 ⟨vP, rfl, hnP, hb⟩
  rw [show pathF t n k = pathR pairF n (t.map phi) k from path_eq pairF n (t.map phi) k (by simpa using Hn.out) (by rw [← Hn.out]; exact Hq.out)] at hnP
  have HP5 := Lib.hid hnP.row
  have HR5 := Lib.hid (HR4.out.step hb)
  have B5 := Lib.hid (below_chain B4.out hb)
  clear hb hnP
  go_wp2_with (fail)
  refine (tree_Climb k x p _ _ hx (Hp2.out.step B5.out) h8 Hk.out).mono ?_
  rintro e w6 ⟨rfl, hb⟩
  rw [show climbF x p k = climbR pairF (phi x) (p.map phi) p.length k from by have := climb_eq pairF (phi x) (p.map phi) p.length k (by simp) Hk.out; rw [List.take_of_length_le (by simp)] at this; exact this]
  have B6 := Lib.hid (below_chain B5.out hb)
  have HP6 := Lib.hid (HP5.out.step hb)
  have HR6 := Lib.hid (HR5.out.step hb)
  clear hb
  go_wp2_with (fail)
  refine (slices_Equal _ _ _ _ HP6.out HR6.out).mono ?_
  rintro e w7 ⟨rfl, hd⟩
  have B7 := Lib.hid (below_chain B6.out hd.below)
  clear hd
  go_wp2
  go_ret
  exact ⟨rfl, B7.out⟩
set_option maxHeartbeats 2000000 in
theorem treeSays_in_no (w : World) (hT : Tab w) (v : Value) (t : List Int) (hp : RowU w v t) (hcap : CapOk v) (i : Int) (hi : I64 i) (x : Int) (hx : U64 x) (v2 : Value) (p : List Int) (hp2 : RowU w v2 p) (hcap2 : CapOk v2) (n q : Nat) (hn : t.length = 2 ^ n) (h5 : n ≤ 5) (hq : q < t.length) (hiq : i = (q : Int)) (hc : ¬ (p.length ≤ 8 ∧ 0 ≤ i ∧ i < ((2 ^ p.length : Nat) : Int))) :
    Calls Tryd.prog 10 #[v, .int .i64 i, .int .u64 x, v2] w fun e w' => e = .returned (.bool true) ∧ Below w.heap.size w w' := by
  have HT := Lib.hid hT
  have Hp := Lib.hid hp
  have Hp2 := Lib.hid hp2
  have Hcap := Lib.hid hcap
  have Hcap2 := Lib.hid hcap2
  have Hn := Lib.hid hn
  have Hc := Lib.hid hc
  subst hiq
  obtain ⟨_, ht2, at1, ct, rfl, _⟩ := hp
  obtain ⟨_, hp2l, ap, cp, rfl, _⟩ := hp2
  have hi2 : -9223372036854775808 ≤ (q : Int) ∧ (q : Int) ≤ 9223372036854775807 := hi
  obtain ⟨g1, g2⟩ := pow_le8 (n := n) (by omega)
  rw [← hn] at g1 g2
  have h5' : ¬ (5 : Int) < (n : Int) := by omega
  have Hc1 := Lib.hid (Hcap.out _ _ _ rfl)
  have Hq := Lib.hid hq
  have hq1 : ((q : Nat) : Int) ≤ (t.length : Int) - 1 := by omega
  clear hT hn hcap hcap2 hc hq
  by_cases h8 : p.length ≤ 8
  · have h8' : (p.length : Int) ≤ 8 := by omega
    have hw8 := pow_wrap8 h8
    have hge : decide ((q : Int) < ((2 ^ p.length : Nat) : Int)) = false := by have := Hc.out; simp only [decide_eq_false_iff_not]; omega
    have hdn : (0 : Int) ≤ (q : Int) := by omega
    generalize hN : ((2 ^ p.length : Nat) : Int) = N at hge hw8
    have HN := Lib.hid hN
    clear hN
    go_enter Tryd.func10, Tryd.ntmps10
    go_wp2_with (fail)
    refine (ref_Vars _ n _ _ Hp.out Hn.out (by omega)).mono ?_
    rintro e w' ⟨rfl, rfl⟩
    obtain ⟨b, off, cc, ev, hs⟩ := Hp.out.sub (by omega)
    cases ev
    have Hs := Lib.hid hs
    clear hs
    go_wp2_with (fail)
    refine (ref_Root n t b off _ _ _ Hs.out rfl Hn.out (by omega) Hc1.out.1 Hc1.out.2).mono ?_
    rintro e w1 ⟨rfl, hb⟩
    have B1 := Lib.hid hb
    clear hb
    go_wp2_with (fail)
    refine (ref_In_yes _ _ _ _ (by omega) hq1).mono ?_
    rintro e w' ⟨rfl, rfl⟩
    go_wp2_with (fail)
    refine (ref_Path n t q b off _ _ _ (Hs.out.step B1.out) rfl Hn.out (by omega) Hc1.out.1 Hc1.out.2 Hq.out).mono ?_
    rintro e w2 ⟨vR, rfl, hnR, hb⟩
    have HR := Lib.hid hnR.row
    have B2 := Lib.hid (below_chain B1.out hb)
    clear hb hnR
    go_wp2_with (fail)
    refine (tree_Root t n _ _ (HT.out.below B2.out) (Hp.out.step B2.out) Hn.out (by omega)).mono ?_
    rintro e w4 ⟨rfl, hb⟩
    rw [show rootF t n = rootR pairF n (t.map phi) from root_eq pairF n (t.map phi) (by simpa using Hn.out)]
    have B4 := Lib.hid (below_chain B2.out hb)
    have HR4 := Lib.hid (HR.out.step hb)
    clear hb
    go_wp2_with (fail)
    refine (tree_Path t n q _ _ (HT.out.below B4.out) (Hp.out.step B4.out) Hn.out (by omega) (by rw [← Hn.out]; exact Hq.out)).mono ?_
    rintro e w5 ⟨vP, rfl, hnP, hb⟩
    rw [show pathF t n q = pathR pairF n (t.map phi) q from path_eq pairF n (t.map phi) q (by simpa using Hn.out) (by rw [← Hn.out]; exact Hq.out)] at hnP
    have HP5 := Lib.hid hnP.row
    have HR5 := Lib.hid (HR4.out.step hb)
    have B5 := Lib.hid (below_chain B4.out hb)
    clear hb hnP
    go_wp2_with (fail)
    refine (tree_Climb_no _ x p _ _ (Hp2.out.step B5.out) (by have := Hc.out; exact this)).mono ?_
    rintro e w' ⟨rfl, rfl⟩
    go_wp2_with (fail)
    refine (slices_Equal _ _ _ _ HP5.out HR5.out).mono ?_
    rintro e w7 ⟨rfl, hd⟩
    have B7 := Lib.hid (below_chain B5.out hd.below)
    clear hd
    go_wp2
    go_ret
    exact ⟨rfl, B7.out⟩
  · have h8' : decide ((p.length : Int) ≤ 8) = false := by simp; omega
    clear h8
    go_enter Tryd.func10, Tryd.ntmps10
    go_wp2_with (fail)
    refine (ref_Vars _ n _ _ Hp.out Hn.out (by omega)).mono ?_
    rintro e w' ⟨rfl, rfl⟩
    obtain ⟨b, off, cc, ev, hs⟩ := Hp.out.sub (by omega)
    cases ev
    have Hs := Lib.hid hs
    clear hs
    go_wp2_with (fail)
    refine (ref_Root n t b off _ _ _ Hs.out rfl Hn.out (by omega) Hc1.out.1 Hc1.out.2).mono ?_
    rintro e w1 ⟨rfl, hb⟩
    have B1 := Lib.hid hb
    clear hb
    go_wp2_with (fail)
    refine (ref_In_yes _ _ _ _ (by omega) hq1).mono ?_
    rintro e w' ⟨rfl, rfl⟩
    go_wp2_with (fail)
    refine (ref_Path n t q b off _ _ _ (Hs.out.step B1.out) rfl Hn.out (by omega) Hc1.out.1 Hc1.out.2 Hq.out).mono ?_
    rintro e w2 ⟨vR, rfl, hnR, hb⟩
    have HR := Lib.hid hnR.row
    have B2 := Lib.hid (below_chain B1.out hb)
    clear hb hnR
    go_wp2_with (fail)
    refine (tree_Root t n _ _ (HT.out.below B2.out) (Hp.out.step B2.out) Hn.out (by omega)).mono ?_
    rintro e w4 ⟨rfl, hb⟩
    rw [show rootF t n = rootR pairF n (t.map phi) from root_eq pairF n (t.map phi) (by simpa using Hn.out)]
    have B4 := Lib.hid (below_chain B2.out hb)
    have HR4 := Lib.hid (HR.out.step hb)
    clear hb
    go_wp2_with (fail)
    refine (tree_Path t n q _ _ (HT.out.below B4.out) (Hp.out.step B4.out) Hn.out (by omega) (by rw [← Hn.out]; exact Hq.out)).mono ?_
    rintro e w5 ⟨vP, rfl, hnP, hb⟩
    rw [show pathF t n q = pathR pairF n (t.map phi) q from path_eq pairF n (t.map phi) q (by simpa using Hn.out) (by rw [← Hn.out]; exact Hq.out)] at hnP
    have HP5 := Lib.hid hnP.row
    have HR5 := Lib.hid (HR4.out.step hb)
    have B5 := Lib.hid (below_chain B4.out hb)
    clear hb hnP
    go_wp2_with (fail)
    refine (tree_Climb_no _ x p _ _ (Hp2.out.step B5.out) (by have := Hc.out; exact this)).mono ?_
    rintro e w' ⟨rfl, rfl⟩
    go_wp2_with (fail)
    refine (slices_Equal _ _ _ _ HP5.out HR5.out).mono ?_
    rintro e w7 ⟨rfl, hd⟩
    have B7 := Lib.hid (below_chain B5.out hd.below)
    clear hd
    go_wp2
    go_ret
    exact ⟨rfl, B7.out⟩
set_option maxHeartbeats 2000000 in
theorem treeSays_out_yes (w : World) (hT : Tab w) (v : Value) (t : List Int) (hp : RowU w v t) (hcap : CapOk v) (i : Int) (hi : I64 i) (x : Int) (hx : U64 x) (v2 : Value) (p : List Int) (hp2 : RowU w v2 p) (hcap2 : CapOk v2) (n : Nat) (hn : t.length = 2 ^ n) (h5 : n ≤ 5) (hio : i < 0 ∨ (t.length : Int) ≤ i) (h8 : p.length ≤ 8) (h0 : 0 ≤ i) (hlt : i < ((2 ^ p.length : Nat) : Int)) :
    Calls Tryd.prog 10 #[v, .int .i64 i, .int .u64 x, v2] w fun e w' => e = .returned (.bool true) ∧ Below w.heap.size w w' := by
  have HT := Lib.hid hT
  have Hp := Lib.hid hp
  have Hp2 := Lib.hid hp2
  have Hcap := Lib.hid hcap
  have Hcap2 := Lib.hid hcap2
  have Hn := Lib.hid hn
  obtain ⟨k, rfl⟩ : ∃ k : Nat, i = (k : Int) := ⟨i.toNat, by omega⟩
  have hk : k < 2 ^ p.length := by omega
  have Hk := Lib.hid hk
  have hw8 := pow_wrap8 h8
  have h8' : (p.length : Int) ≤ 8 := by omega
  clear hk
  obtain ⟨_, ht2, at1, ct, rfl, _⟩ := hp
  obtain ⟨_, hp2l, ap, cp, rfl, _⟩ := hp2
  have hi2 : -9223372036854775808 ≤ (k : Int) ∧ (k : Int) ≤ 9223372036854775807 := hi
  obtain ⟨g1, g2⟩ := pow_le8 (n := n) (by omega)
  rw [← hn] at g1 g2
  have h5' : ¬ (5 : Int) < (n : Int) := by omega
  have Hc1 := Lib.hid (Hcap.out _ _ _ rfl)
  have Hio := Lib.hid hio
  clear hio
  clear hT hn hcap hcap2
  generalize hN : ((2 ^ p.length : Nat) : Int) = N at *
  have HN := Lib.hid hN
  clear hN
  go_enter Tryd.func10, Tryd.ntmps10
  go_wp2_with (fail)
  refine (ref_Vars _ n _ _ Hp.out Hn.out (by omega)).mono ?_
  rintro e w' ⟨rfl, rfl⟩
  obtain ⟨b, off, cc, ev, hs⟩ := Hp.out.sub (by omega)
  cases ev
  have Hs := Lib.hid hs
  clear hs
  go_wp2_with (fail)
  refine (ref_Root n t b off _ _ _ Hs.out rfl Hn.out (by omega) Hc1.out.1 Hc1.out.2).mono ?_
  rintro e w1 ⟨rfl, hb⟩
  have B1 := Lib.hid hb
  clear hb
  go_wp2_with (fail)
  refine (ref_In_no _ _ _ _ (by have := Hio.out; omega)).mono ?_
  rintro e w' ⟨rfl, rfl⟩
  go_wp2_with (fail)
  refine (ref_Climb p.length p k x _ _ (Hp2.out.step B1.out) Hcap2.out rfl h8 Hk.out hx).mono ?_
  rintro e w3 ⟨rfl, hb⟩
  have B3 := Lib.hid (below_chain B1.out hb)
  clear hb
  go_wp2_with (fail)
  refine (tree_Root t n _ _ (HT.out.below B3.out) (Hp.out.step B3.out) Hn.out (by omega)).mono ?_
  rintro e w4 ⟨rfl, hb⟩
  rw [show rootF t n = rootR pairF n (t.map phi) from root_eq pairF n (t.map phi) (by simpa using Hn.out)]
  have B4 := Lib.hid (below_chain B3.out hb)
  clear hb
  go_wp2_with (fail)
  refine (tree_Path_arg t n _ _ _ (HT.out.below B4.out) (Hp.out.step B4.out) Hn.out (by omega) Hio.out).mono ?_
  rintro e w' ⟨rfl, rfl⟩
  go_wp2_with (fail)
  refine (tree_Climb k x p _ _ hx (Hp2.out.step B4.out) h8 Hk.out).mono ?_
  rintro e w6 ⟨rfl, hb⟩
  rw [show climbF x p k = climbR pairF (phi x) (p.map phi) p.length k from by have := climb_eq pairF (phi x) (p.map phi) p.length k (by simp) Hk.out; rw [List.take_of_length_le (by simp)] at this; exact this]
  have B6 := Lib.hid (below_chain B4.out hb)
  clear hb
  go_wp2_with (fail)
  refine (slices_Equal [] _ _ _ (NewU.nil 0 _).row (NewU.nil 0 _).row).mono ?_
  rintro e w7 ⟨rfl, hd⟩
  have B7 := Lib.hid (below_chain B6.out hd.below)
  clear hd
  go_wp2
  go_ret
  exact ⟨rfl, B7.out⟩
set_option maxHeartbeats 2000000 in
theorem treeSays_out_no (w : World) (hT : Tab w) (v : Value) (t : List Int) (hp : RowU w v t) (hcap : CapOk v) (i : Int) (hi : I64 i) (x : Int) (hx : U64 x) (v2 : Value) (p : List Int) (hp2 : RowU w v2 p) (hcap2 : CapOk v2) (n : Nat) (hn : t.length = 2 ^ n) (h5 : n ≤ 5) (hio : i < 0 ∨ (t.length : Int) ≤ i) (hc : ¬ (p.length ≤ 8 ∧ 0 ≤ i ∧ i < ((2 ^ p.length : Nat) : Int))) :
    Calls Tryd.prog 10 #[v, .int .i64 i, .int .u64 x, v2] w fun e w' => e = .returned (.bool true) ∧ Below w.heap.size w w' := by
  have HT := Lib.hid hT
  have Hp := Lib.hid hp
  have Hp2 := Lib.hid hp2
  have Hcap := Lib.hid hcap
  have Hcap2 := Lib.hid hcap2
  have Hn := Lib.hid hn
  have Hc := Lib.hid hc
  obtain ⟨_, ht2, at1, ct, rfl, _⟩ := hp
  obtain ⟨_, hp2l, ap, cp, rfl, _⟩ := hp2
  have hi2 : -9223372036854775808 ≤ i ∧ i ≤ 9223372036854775807 := hi
  obtain ⟨g1, g2⟩ := pow_le8 (n := n) (by omega)
  rw [← hn] at g1 g2
  have h5' : ¬ (5 : Int) < (n : Int) := by omega
  have Hc1 := Lib.hid (Hcap.out _ _ _ rfl)
  have Hio := Lib.hid hio
  clear hio
  clear hT hn hcap hcap2 hc
  by_cases h8 : p.length ≤ 8
  · have h8' : (p.length : Int) ≤ 8 := by omega
    have hw8 := pow_wrap8 h8
    by_cases h0 : i < 0
    · generalize hN : ((2 ^ p.length : Nat) : Int) = N at hw8
      have HN := Lib.hid hN
      clear hN
      have hd0 : decide ((0 : Int) ≤ i) = false := by simp; omega
      go_enter Tryd.func10, Tryd.ntmps10
      go_wp2_with (fail)
      refine (ref_Vars _ n _ _ Hp.out Hn.out (by omega)).mono ?_
      rintro e w' ⟨rfl, rfl⟩
      obtain ⟨b, off, cc, ev, hs⟩ := Hp.out.sub (by omega)
      cases ev
      have Hs := Lib.hid hs
      clear hs
      go_wp2_with (fail)
      refine (ref_Root n t b off _ _ _ Hs.out rfl Hn.out (by omega) Hc1.out.1 Hc1.out.2).mono ?_
      rintro e w1 ⟨rfl, hb⟩
      have B1 := Lib.hid hb
      clear hb
      go_wp2_with (fail)
      refine (ref_In_no _ _ _ _ (by have := Hio.out; omega)).mono ?_
      rintro e w' ⟨rfl, rfl⟩
      go_wp2_with (fail)
      refine (tree_Root t n _ _ (HT.out.below B1.out) (Hp.out.step B1.out) Hn.out (by omega)).mono ?_
      rintro e w4 ⟨rfl, hb⟩
      rw [show rootF t n = rootR pairF n (t.map phi) from root_eq pairF n (t.map phi) (by simpa using Hn.out)]
      have B4 := Lib.hid (below_chain B1.out hb)
      clear hb
      go_wp2_with (fail)
      refine (tree_Path_arg t n _ _ _ (HT.out.below B4.out) (Hp.out.step B4.out) Hn.out (by omega) Hio.out).mono ?_
      rintro e w' ⟨rfl, rfl⟩
      go_wp2_with (fail)
      refine (tree_Climb_no _ x p _ _ (Hp2.out.step B4.out) (by have := Hc.out; exact this)).mono ?_
      rintro e w' ⟨rfl, rfl⟩
      go_wp2_with (fail)
      refine (slices_Equal [] _ _ _ (NewU.nil 0 _).row (NewU.nil 0 _).row).mono ?_
      rintro e w7 ⟨rfl, hd⟩
      have B7 := Lib.hid (below_chain B4.out hd.below)
      clear hd
      go_wp2
      go_ret
      exact ⟨rfl, B7.out⟩
    · have hge : decide (i < ((2 ^ p.length : Nat) : Int)) = false := by have := Hc.out; simp only [decide_eq_false_iff_not]; omega
      have h0' : (0 : Int) ≤ i := by omega
      generalize hN : ((2 ^ p.length : Nat) : Int) = N at hge hw8
      have HN := Lib.hid hN
      clear hN
      go_enter Tryd.func10, Tryd.ntmps10
      go_wp2_with (fail)
      refine (ref_Vars _ n _ _ Hp.out Hn.out (by omega)).mono ?_
      rintro e w' ⟨rfl, rfl⟩
      obtain ⟨b, off, cc, ev, hs⟩ := Hp.out.sub (by omega)
      cases ev
      have Hs := Lib.hid hs
      clear hs
      go_wp2_with (fail)
      refine (ref_Root n t b off _ _ _ Hs.out rfl Hn.out (by omega) Hc1.out.1 Hc1.out.2).mono ?_
      rintro e w1 ⟨rfl, hb⟩
      have B1 := Lib.hid hb
      clear hb
      go_wp2_with (fail)
      refine (ref_In_no _ _ _ _ (by have := Hio.out; omega)).mono ?_
      rintro e w' ⟨rfl, rfl⟩
      go_wp2_with (fail)
      refine (tree_Root t n _ _ (HT.out.below B1.out) (Hp.out.step B1.out) Hn.out (by omega)).mono ?_
      rintro e w4 ⟨rfl, hb⟩
      rw [show rootF t n = rootR pairF n (t.map phi) from root_eq pairF n (t.map phi) (by simpa using Hn.out)]
      have B4 := Lib.hid (below_chain B1.out hb)
      clear hb
      go_wp2_with (fail)
      refine (tree_Path_arg t n _ _ _ (HT.out.below B4.out) (Hp.out.step B4.out) Hn.out (by omega) Hio.out).mono ?_
      rintro e w' ⟨rfl, rfl⟩
      go_wp2_with (fail)
      refine (tree_Climb_no _ x p _ _ (Hp2.out.step B4.out) (by have := Hc.out; exact this)).mono ?_
      rintro e w' ⟨rfl, rfl⟩
      go_wp2_with (fail)
      refine (slices_Equal [] _ _ _ (NewU.nil 0 _).row (NewU.nil 0 _).row).mono ?_
      rintro e w7 ⟨rfl, hd⟩
      have B7 := Lib.hid (below_chain B4.out hd.below)
      clear hd
      go_wp2
      go_ret
      exact ⟨rfl, B7.out⟩
  · have h8' : decide ((p.length : Int) ≤ 8) = false := by simp; omega
    clear h8
    go_enter Tryd.func10, Tryd.ntmps10
    go_wp2_with (fail)
    refine (ref_Vars _ n _ _ Hp.out Hn.out (by omega)).mono ?_
    rintro e w' ⟨rfl, rfl⟩
    obtain ⟨b, off, cc, ev, hs⟩ := Hp.out.sub (by omega)
    cases ev
    have Hs := Lib.hid hs
    clear hs
    go_wp2_with (fail)
    refine (ref_Root n t b off _ _ _ Hs.out rfl Hn.out (by omega) Hc1.out.1 Hc1.out.2).mono ?_
    rintro e w1 ⟨rfl, hb⟩
    have B1 := Lib.hid hb
    clear hb
    go_wp2_with (fail)
    refine (ref_In_no _ _ _ _ (by have := Hio.out; omega)).mono ?_
    rintro e w' ⟨rfl, rfl⟩
    go_wp2_with (fail)
    refine (tree_Root t n _ _ (HT.out.below B1.out) (Hp.out.step B1.out) Hn.out (by omega)).mono ?_
    rintro e w4 ⟨rfl, hb⟩
    rw [show rootF t n = rootR pairF n (t.map phi) from root_eq pairF n (t.map phi) (by simpa using Hn.out)]
    have B4 := Lib.hid (below_chain B1.out hb)
    clear hb
    go_wp2_with (fail)
    refine (tree_Path_arg t n _ _ _ (HT.out.below B4.out) (Hp.out.step B4.out) Hn.out (by omega) Hio.out).mono ?_
    rintro e w' ⟨rfl, rfl⟩
    go_wp2_with (fail)
    refine (tree_Climb_no _ x p _ _ (Hp2.out.step B4.out) (by have := Hc.out; exact this)).mono ?_
    rintro e w' ⟨rfl, rfl⟩
    go_wp2_with (fail)
    refine (slices_Equal [] _ _ _ (NewU.nil 0 _).row (NewU.nil 0 _).row).mono ?_
    rintro e w7 ⟨rfl, hd⟩
    have B7 := Lib.hid (below_chain B4.out hd.below)
    clear hd
    go_wp2
    go_ret
    exact ⟨rfl, B7.out⟩
set_option maxHeartbeats 1000000 in
theorem treeSays_big (w : World) (v : Value) (t : List Int) (hp : RowU w v t) (i x : Int) (v2 : Value) (n : Nat) (hn : t.length = 2 ^ n) (h8 : n ≤ 8) (h5 : 5 < n) :
    Calls Tryd.prog 10 #[v, .int .i64 i, .int .u64 x, v2] w fun e w' => e = .returned (.bool true) ∧ Below w.heap.size w w' := by
  have Hp := Lib.hid hp
  have Hn := Lib.hid hn
  have h5' : (5 : Int) < (n : Int) := by omega
  clear hp hn
  go_enter Tryd.func10, Tryd.ntmps10
  go_wp2_with (fail)
  refine (ref_Vars _ n _ _ Hp.out Hn.out h8).mono ?_
  rintro e w' ⟨rfl, rfl⟩
  go_wp2
  go_ret
  exact ⟨rfl, Below.refl _ _⟩
theorem tab_or (n : Nat) : NoTab n ∨ ∃ k, k ≤ 8 ∧ n = 2 ^ k := by
  by_cases h : ∃ k, k ≤ 8 ∧ n = 2 ^ k
  · exact .inr h
  · exact .inl fun k hk e => h ⟨k, hk, e⟩
theorem treeSays_walk (w : World) (hT : Tab w) (v : Value) (t : List Int) (hp : RowU w v t) (hcap : CapOk v) (i : Int) (hi : I64 i) (x : Int) (hx : U64 x) (v2 : Value) (p : List Int) (hp2 : RowU w v2 p) (hcap2 : CapOk v2) :
    Calls Tryd.prog 10 #[v, .int .i64 i, .int .u64 x, v2] w fun e w' => e = .returned (.bool true) ∧ Below w.heap.size w w' := by
  by_cases hc : p.length ≤ 8 ∧ 0 ≤ i ∧ i < ((2 ^ p.length : Nat) : Int)
  · obtain ⟨c1, c2, c3⟩ := hc
    rcases tab_or t.length with hn | ⟨n, h8, hn⟩
    · exact treeSays_no_yes w hT v t hp hcap i hi x hx v2 p hp2 hcap2 hn c1 c2 c3
    · by_cases h5 : n ≤ 5
      · by_cases hin : i < (t.length : Int)
        · exact treeSays_in_yes w hT v t hp hcap i hi x hx v2 p hp2 hcap2 n i.toNat hn h5 (by omega) (by omega) c1 c2 c3
        · exact treeSays_out_yes w hT v t hp hcap i hi x hx v2 p hp2 hcap2 n hn h5 (by omega) c1 c2 c3
      · exact treeSays_big w v t hp i x v2 n hn h8 (by omega)
  · rcases tab_or t.length with hn | ⟨n, h8, hn⟩
    · exact treeSays_no_no w hT v t hp hcap i hi x hx v2 p hp2 hcap2 hn hc
    · by_cases h5 : n ≤ 5
      · by_cases hin : 0 ≤ i ∧ i < (t.length : Int)
        · exact treeSays_in_no w hT v t hp hcap i hi x hx v2 p hp2 hcap2 n i.toNat hn h5 (by omega) (by omega) hc
        · exact treeSays_out_no w hT v t hp hcap i hi x hx v2 p hp2 hcap2 n hn h5 (by omega) hc
      · exact treeSays_big w v t hp i x v2 n hn h8 (by omega)
end Go.Proofs.YtaaaoljllpbplaaDoor
