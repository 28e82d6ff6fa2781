/- The walk of the law OpenSays: it returns true, whatever is handed in. The table of bits lies as its initialiser lays it. -/
import Derived.Test.YtokggifjcbkmnaaDoorROpened
import Derived.Test.YtokggifjcbkmnaaDoorRSameO
import Derived.Test.YtokggifjcbkmnaaDoorOpenOpenE
import Derived.Test.YtokggifjcbkmnaaDoorOpenKeep
import Derived.Test.YtokggifjcbkmnaaDoorROpenW1
namespace Go.Proofs.YtokggifjcbkmnaaDoor
set_option maxRecDepth 100000
set_option linter.unusedVariables false
open Go.RowKit Tally
theorem tab_orO (n : Nat) : NoTab n ∨ ∃ k, k ≤ 8 ∧ n = 2 ^ k := by
  by_cases h : ∃ k, k ≤ 8 ∧ n = 2 ^ k
  · exact .inr h
  · exact .inl fun k hk e => h ⟨k, hk, e⟩
theorem isO_zero (W : World) : IsO W (.agg #[.slice none 0 0, .int .u64 0, .slice none 0 0]) ⟨[], 0, []⟩ :=
  ⟨_, _, rfl, u64n 0 (by decide), ⟨by simp, by simp, none, 0, rfl, fun h => absurd h (by simp)⟩, by simp, none, 0, rfl, fun h => absurd h (by simp)⟩
set_option maxRecDepth 100000 in
set_option maxHeartbeats 4000000 in
theorem openSays_no (t pt places : List Int) (v vp vl : Value) (w : World) (hT : Tab w) (ht : RowU w v t) (hp : RowU w vp pt) (hl : RowI w vl places) (hn : NoTab t.length) :
    Calls Tryd.prog 5 #[v, vp, vl] w fun e w' => e = .returned (.bool true) ∧ Below w.heap.size w w' := by
  have CV := Lib.hid (ref_Vars_no t v w ht hn)
  have CO := Lib.hid (fun X (hX : Below w.heap.size w X) => open_Open_no t v vp vl X (hT.below hX) (ht.step hX) hn)
  clear hT ht hp hl hn
  obtain ⟨W1, hW1, b1, s1, B1⟩ := one_blockO w #[.slice none 0 0, .int .u64 0, .slice none 0 0] 40
  have HB1 := Lib.hid B1; have Hb1 := Lib.hid b1
  have l1 : w.heap.size < W1.heap.size := by omega
  clear b1 B1 s1
  go_enter Tryd.func5, Tryd.ntmps5
  go_wp2_with (fail)
  with_reducible refine CV.out.mono ?_
  rintro e w' ⟨rfl, rfl⟩
  clear CV
  go_wp2_with (fail)
  refine (CO.out W1 HB1.out).mono ?_
  rintro e w2 ⟨rfl, hb2⟩
  have hbk := (hb2.block w.heap.size l1).trans Hb1.out
  have HB2 := Lib.hid (below_chain HB1.out hb2)
  clear hb2 CO
  have m0 : w2.cell? ⟨w.heap.size, 0, none⟩ = some (.slice none 0 0) := cell_blk hbk 0
  have m1 : w2.cell? ⟨w.heap.size, 1, none⟩ = some (.int .u64 0) := cell_blk hbk 1
  have m2 : w2.cell? ⟨w.heap.size, 2, none⟩ = some (.slice none 0 0) := cell_blk hbk 2
  have n0 : ∀ o, (w2.alloc o).cell? ⟨w.heap.size, 0, none⟩ = some (.slice none 0 0) := fun o => (World.cell?_alloc_some w2 _ o (by rw [m0]; rfl)).trans m0
  have n1 : ∀ o, (w2.alloc o).cell? ⟨w.heap.size, 1, none⟩ = some (.int .u64 0) := fun o => (World.cell?_alloc_some w2 _ o (by rw [m1]; rfl)).trans m1
  have n2 : ∀ o, (w2.alloc o).cell? ⟨w.heap.size, 2, none⟩ = some (.slice none 0 0) := fun o => (World.cell?_alloc_some w2 _ o (by rw [m2]; rfl)).trans m2
  clear hbk
  go_wp2_with (fail)
  obtain ⟨W3, hW3, k0, k1, k2, B3, s3⟩ := copied3' w2 (.slice none 0 0) (.int .u64 0) (.slice none 0 0) 40
  rw [hW3]
  have HB3 := Lib.hid (below_chain HB2.out B3)
  clear hW3 k0 k1 k2 B3 s3 m0 m1 m2 n0 n1 n2
  refine (ref_SameOpening ⟨[], 0, []⟩ _ _ W3 (isO_zero W3) (isO_zero W3)).mono ?_
  rintro e w4 ⟨rfl, hb4⟩
  go_wp2_with (fail)
  go_ret
  exact ⟨by simp, below_chain HB3.out hb4⟩
set_option maxRecDepth 100000 in
set_option maxHeartbeats 4000000 in
theorem openSays_one (t pt places : List Int) (v vp vl : Value) (w : World) (hT : Tab w) (ht : RowU w v t) (hp : RowU w vp pt) (hl : RowI w vl places) (hn : t.length = 2 ^ 0) :
    Calls Tryd.prog 5 #[v, vp, vl] w fun e w' => e = .returned (.bool true) ∧ Below w.heap.size w w' := by
  have CV := Lib.hid (ref_Vars t 0 v w ht hn (by decide))
  have CO := Lib.hid (fun X (hX : Below w.heap.size w X) => open_Open_one t v vp vl X (hT.below hX) (ht.step hX) hn)
  clear hT ht hp hl hn
  obtain ⟨W1, hW1, b1, s1, B1⟩ := one_blockO w #[.slice none 0 0, .int .u64 0, .slice none 0 0] 40
  have HB1 := Lib.hid B1; have Hb1 := Lib.hid b1
  have l1 : w.heap.size < W1.heap.size := by omega
  clear b1 B1 s1
  go_enter Tryd.func5, Tryd.ntmps5
  go_wp2_with (fail)
  with_reducible refine CV.out.mono ?_
  rintro e w' ⟨rfl, rfl⟩
  clear CV
  go_wp2_with (fail)
  refine (CO.out W1 HB1.out).mono ?_
  rintro e w2 ⟨rfl, hb2⟩
  have hbk := (hb2.block w.heap.size l1).trans Hb1.out
  have HB2 := Lib.hid (below_chain HB1.out hb2)
  clear hb2 CO
  have m0 : w2.cell? ⟨w.heap.size, 0, none⟩ = some (.slice none 0 0) := cell_blk hbk 0
  have m1 : w2.cell? ⟨w.heap.size, 1, none⟩ = some (.int .u64 0) := cell_blk hbk 1
  have m2 : w2.cell? ⟨w.heap.size, 2, none⟩ = some (.slice none 0 0) := cell_blk hbk 2
  have n0 : ∀ o, (w2.alloc o).cell? ⟨w.heap.size, 0, none⟩ = some (.slice none 0 0) := fun o => (World.cell?_alloc_some w2 _ o (by rw [m0]; rfl)).trans m0
  have n1 : ∀ o, (w2.alloc o).cell? ⟨w.heap.size, 1, none⟩ = some (.int .u64 0) := fun o => (World.cell?_alloc_some w2 _ o (by rw [m1]; rfl)).trans m1
  have n2 : ∀ o, (w2.alloc o).cell? ⟨w.heap.size, 2, none⟩ = some (.slice none 0 0) := fun o => (World.cell?_alloc_some w2 _ o (by rw [m2]; rfl)).trans m2
  clear hbk
  go_wp2_with (fail)
  obtain ⟨W3, hW3, k0, k1, k2, B3, s3⟩ := copied3' w2 (.slice none 0 0) (.int .u64 0) (.slice none 0 0) 40
  rw [hW3]
  have HB3 := Lib.hid (below_chain HB2.out B3)
  clear hW3 k0 k1 k2 B3 s3 m0 m1 m2 n0 n1 n2
  refine (ref_SameOpening ⟨[], 0, []⟩ _ _ W3 (isO_zero W3) (isO_zero W3)).mono ?_
  rintro e w4 ⟨rfl, hb4⟩
  go_wp2_with (fail)
  go_ret
  exact ⟨by simp, below_chain HB3.out hb4⟩
set_option maxRecDepth 100000 in
set_option maxHeartbeats 4000000 in
theorem openSays_many (t pt places : List Int) (v vp vl : Value) (w : World) (hT : Tab w) (ht : RowU w v t) (hp : RowU w vp pt) (hl : RowI w vl places) (n : Nat) (h5 : 5 ≤ n) (h8 : n ≤ 8) (hn : t.length = 2 ^ n) :
    Calls Tryd.prog 5 #[v, vp, vl] w fun e w' => e = .returned (.bool true) ∧ Below w.heap.size w w' := by
  have CV := Lib.hid (ref_Vars t n v w ht hn h8)
  have hb4 : decide ((4 : Int) < (n : Int)) = true := decide_eq_true (by omega)
  clear hT ht hp hl hn
  go_enter Tryd.func5, Tryd.ntmps5
  go_wp2_with (fail)
  with_reducible refine CV.out.mono ?_
  rintro e w' ⟨rfl, rfl⟩
  clear CV
  go_wp2_with (fail)
  go_ret
  exact ⟨rfl, Below.refl _ _⟩
set_option maxRecDepth 100000 in
set_option maxHeartbeats 4000000 in
theorem openSays_len (t pt places : List Int) (v vp vl : Value) (w : World) (hT : Tab w) (ht : RowU w v t) (hp : RowU w vp pt) (hl : RowI w vl places) (m : Nat) (h3 : m ≤ 3) (hn : t.length = 2 ^ (m + 1)) (hpl : pt.length ≠ m + 1) :
    Calls Tryd.prog 5 #[v, vp, vl] w fun e w' => e = .returned (.bool true) ∧ Below w.heap.size w w' := by
  have CV := Lib.hid (ref_Vars t (m + 1) v w ht hn (by omega))
  have CO := Lib.hid (fun X (hX : Below w.heap.size w X) => open_Open_len t pt m (by omega) hn hpl v vp vl X (hT.below hX) (ht.step hX) (hp.step hX))
  obtain ⟨M, hM⟩ : ∃ M : Nat, M = m + 1 := ⟨_, rfl⟩
  have hb4 : decide ((4 : Int) < (M : Int)) = false := decide_eq_false (by omega)
  have hb1 : decide ((M : Int) < 1) = false := decide_eq_false (by omega)
  have hz1 : ((pt.length : Int) != (M : Int)) = true := by rw [bne_iff_ne]; omega
  rw [← hM] at CV
  obtain ⟨-, -, ap, cp, rfl, -⟩ := hp
  clear hT ht hl hn hM hpl
  obtain ⟨W1, hW1, b1, s1, B1⟩ := one_blockO w #[.slice none 0 0, .int .u64 0, .slice none 0 0] 40
  have HB1 := Lib.hid B1; have Hb1 := Lib.hid b1
  have l1 : w.heap.size < W1.heap.size := by omega
  clear b1 B1 s1
  go_enter Tryd.func5, Tryd.ntmps5
  go_wp2_with (fail)
  with_reducible refine CV.out.mono ?_
  rintro e w' ⟨rfl, rfl⟩
  clear CV
  go_wp2_with (fail)
  refine (CO.out W1 HB1.out).mono ?_
  rintro e w2 ⟨rfl, hb2⟩
  have hbk := (hb2.block w.heap.size l1).trans Hb1.out
  have HB2 := Lib.hid (below_chain HB1.out hb2)
  clear hb2 CO
  have m0 : w2.cell? ⟨w.heap.size, 0, none⟩ = some (.slice none 0 0) := cell_blk hbk 0
  have m1 : w2.cell? ⟨w.heap.size, 1, none⟩ = some (.int .u64 0) := cell_blk hbk 1
  have m2 : w2.cell? ⟨w.heap.size, 2, none⟩ = some (.slice none 0 0) := cell_blk hbk 2
  have n0 : ∀ o, (w2.alloc o).cell? ⟨w.heap.size, 0, none⟩ = some (.slice none 0 0) := fun o => (World.cell?_alloc_some w2 _ o (by rw [m0]; rfl)).trans m0
  have n1 : ∀ o, (w2.alloc o).cell? ⟨w.heap.size, 1, none⟩ = some (.int .u64 0) := fun o => (World.cell?_alloc_some w2 _ o (by rw [m1]; rfl)).trans m1
  have n2 : ∀ o, (w2.alloc o).cell? ⟨w.heap.size, 2, none⟩ = some (.slice none 0 0) := fun o => (World.cell?_alloc_some w2 _ o (by rw [m2]; rfl)).trans m2
  clear hbk
  go_wp2_with (fail)
  obtain ⟨W3, hW3, k0, k1, k2, B3, s3⟩ := copied3' w2 (.slice none 0 0) (.int .u64 0) (.slice none 0 0) 40
  rw [hW3]
  have HB3 := Lib.hid (below_chain HB2.out B3)
  clear hW3 k0 k1 k2 B3 s3 m0 m1 m2 n0 n1 n2
  refine (ref_SameOpening ⟨[], 0, []⟩ _ _ W3 (isO_zero W3) (isO_zero W3)).mono ?_
  rintro e w4 ⟨rfl, hb4⟩
  go_wp2_with (fail)
  go_ret
  exact ⟨by simp, below_chain HB3.out hb4⟩
set_option maxRecDepth 100000 in
set_option maxHeartbeats 4000000 in
theorem openSays_wrong (t pt places : List Int) (v vp vl : Value) (w : World) (hT : Tab w) (ht : RowU w v t) (hp : RowU w vp pt) (hl : RowI w vl places) (m : Nat) (h3 : m ≤ 3) (hn : t.length = 2 ^ (m + 1)) (hpl : pt.length = m + 1) (hwr : wrongB places ((2 ^ m : Nat) : Int) = true) :
    Calls Tryd.prog 5 #[v, vp, vl] w fun e w' => e = .returned (.bool true) ∧ Below w.heap.size w w' := by
  have CV := Lib.hid (ref_Vars t (m + 1) v w ht hn (by omega))
  have CO := Lib.hid (fun X (hX : Below w.heap.size w X) => open_Open_wrong t pt places m (by omega) hn hpl hwr v vp vl X (hT.below hX) (ht.step hX) (hp.step hX) (hl.go hX))
  obtain ⟨M, hM⟩ : ∃ M : Nat, M = m + 1 := ⟨_, rfl⟩
  have hb4 : decide ((4 : Int) < (M : Int)) = false := decide_eq_false (by omega)
  have hb1 : decide ((M : Int) < 1) = false := decide_eq_false (by omega)
  have HPl := Lib.hid (fun X (hX : Below w.heap.size w X) => ref_Places places m (by omega) vl X (hl.go hX))
  rw [hwr] at HPl
  have hz1 : ((M : Int) != (M : Int)) = false := by simp
  rw [← hM] at CV HPl
  obtain ⟨-, -, ap, cp, rfl, -⟩ := hp
  rw [hpl, ← hM] at CO ⊢
  clear hT ht hl hn hM hpl hwr
  obtain ⟨W1, hW1, b1, s1, B1⟩ := one_blockO w #[.slice none 0 0, .int .u64 0, .slice none 0 0] 40
  have HB1 := Lib.hid B1; have Hb1 := Lib.hid b1
  have l1 : w.heap.size < W1.heap.size := by omega
  clear b1 B1 s1
  go_enter Tryd.func5, Tryd.ntmps5
  go_wp2_with (fail)
  with_reducible refine CV.out.mono ?_
  rintro e w' ⟨rfl, rfl⟩
  clear CV
  go_wp2_with (fail)
  with_reducible refine (HPl.out W1 HB1.out).mono ?_
  rintro e w1 ⟨rfl, hd1⟩
  have hbk1 := (hd1.below.block w.heap.size l1).trans Hb1.out
  have HB1 := Lib.hid (below_chain HB1.out hd1.below)
  have Hb1 := Lib.hid hbk1
  have l1 : w.heap.size < w1.heap.size := Nat.lt_of_lt_of_le l1 hd1.below.size
  clear hW1 hbk1 hd1 HPl
  go_wp2_with (fail)
  refine (CO.out w1 HB1.out).mono ?_
  rintro e w2 ⟨rfl, hb2⟩
  have hbk := (hb2.block w.heap.size l1).trans Hb1.out
  have HB2 := Lib.hid (below_chain HB1.out hb2)
  clear hb2 CO
  have m0 : w2.cell? ⟨w.heap.size, 0, none⟩ = some (.slice none 0 0) := cell_blk hbk 0
  have m1 : w2.cell? ⟨w.heap.size, 1, none⟩ = some (.int .u64 0) := cell_blk hbk 1
  have m2 : w2.cell? ⟨w.heap.size, 2, none⟩ = some (.slice none 0 0) := cell_blk hbk 2
  have n0 : ∀ o, (w2.alloc o).cell? ⟨w.heap.size, 0, none⟩ = some (.slice none 0 0) := fun o => (World.cell?_alloc_some w2 _ o (by rw [m0]; rfl)).trans m0
  have n1 : ∀ o, (w2.alloc o).cell? ⟨w.heap.size, 1, none⟩ = some (.int .u64 0) := fun o => (World.cell?_alloc_some w2 _ o (by rw [m1]; rfl)).trans m1
  have n2 : ∀ o, (w2.alloc o).cell? ⟨w.heap.size, 2, none⟩ = some (.slice none 0 0) := fun o => (World.cell?_alloc_some w2 _ o (by rw [m2]; rfl)).trans m2
  clear hbk
  go_wp2_with (fail)
  obtain ⟨W3, hW3, k0, k1, k2, B3, s3⟩ := copied3' w2 (.slice none 0 0) (.int .u64 0) (.slice none 0 0) 40
  rw [hW3]
  have HB3 := Lib.hid (below_chain HB2.out B3)
  clear hW3 k0 k1 k2 B3 s3 m0 m1 m2 n0 n1 n2
  refine (ref_SameOpening ⟨[], 0, []⟩ _ _ W3 (isO_zero W3) (isO_zero W3)).mono ?_
  rintro e w4 ⟨rfl, hb4⟩
  go_wp2_with (fail)
  go_ret
  exact ⟨by simp, below_chain HB3.out hb4⟩
set_option maxRecDepth 100000 in
set_option maxHeartbeats 4000000 in
theorem openSays_right (t pt places : List Int) (v vp vl : Value) (w : World) (hT : Tab w) (ht : RowU w v t) (hp : RowU w vp pt) (hl : RowI w vl places) (htc : CapOk v) (m : Nat) (h3 : m ≤ 3) (hn : t.length = 2 ^ (m + 1)) (hpl : pt.length = m + 1) (hwr : wrongB places ((2 ^ m : Nat) : Int) = false) :
    Calls Tryd.prog 5 #[v, vp, vl] w fun e w' => e = .returned (.bool true) ∧ Below w.heap.size w w' := by
  have CV := Lib.hid (ref_Vars t (m + 1) v w ht hn (by omega))
  have CO := Lib.hid (fun X (hX : Below w.heap.size w X) => open_Open t pt places m (by omega) hpl hn hwr v vp vl X (hT.below hX) (ht.step hX) (hp.step hX) (hl.go hX))
  have CR := Lib.hid (fun X (hX : Below w.heap.size w X) => ref_Opened t pt places m (by omega) hpl hn hwr v vp vl X (ht.step hX) htc (hp.step hX) (hl.go hX))
  obtain ⟨M, hM⟩ : ∃ M : Nat, M = m + 1 := ⟨_, rfl⟩
  have hb4 : decide ((4 : Int) < (M : Int)) = false := decide_eq_false (by omega)
  have hb1 : decide ((M : Int) < 1) = false := decide_eq_false (by omega)
  have HPl := Lib.hid (fun X (hX : Below w.heap.size w X) => ref_Places places m (by omega) vl X (hl.go hX))
  rw [hwr] at HPl
  have hz1 : ((M : Int) != (M : Int)) = false := by simp
  rw [← hM] at CV HPl
  obtain ⟨O, hO⟩ : ∃ O, O = openI t pt places := ⟨_, rfl⟩
  rw [← hO] at CO CR
  obtain ⟨-, -, ap, cp, rfl, -⟩ := hp
  rw [hpl, ← hM] at CO CR ⊢
  clear hT ht hl hn hM hpl hwr htc hO
  obtain ⟨W1, hW1, b1, s1, B1⟩ := one_blockO w #[.slice none 0 0, .int .u64 0, .slice none 0 0] 40
  have HB1 := Lib.hid B1; have Hb1 := Lib.hid b1
  have l1 : w.heap.size < W1.heap.size := by omega
  clear b1 B1 s1
  go_enter Tryd.func5, Tryd.ntmps5
  go_wp2_with (fail)
  with_reducible refine CV.out.mono ?_
  rintro e w' ⟨rfl, rfl⟩
  clear CV
  go_wp2_with (fail)
  with_reducible refine (HPl.out W1 HB1.out).mono ?_
  rintro e w1 ⟨rfl, hd1⟩
  have hbk1 := (hd1.below.block w.heap.size l1).trans Hb1.out
  have HB1 := Lib.hid (below_chain HB1.out hd1.below)
  have Hb1 := Lib.hid hbk1
  have l1 : w.heap.size < w1.heap.size := Nat.lt_of_lt_of_le l1 hd1.below.size
  clear hW1 hbk1 hd1 HPl
  have z0 : w1.cell? ⟨w.heap.size, 0, none⟩ = some (.slice none 0 0) := cell_blk Hb1.out 0
  have z1 : w1.cell? ⟨w.heap.size, 1, none⟩ = some (.int .u64 0) := cell_blk Hb1.out 1
  have z2 : w1.cell? ⟨w.heap.size, 2, none⟩ = some (.slice none 0 0) := cell_blk Hb1.out 2
  go_wp2_with (fail)
  clear z0 z1 z2
  refine (CR.out w1 HB1.out).mono ?_
  rintro e w2 ⟨vr, rfl, hF, hb2⟩
  have HO2 := Lib.hid hF.now
  have hbk := (hb2.block w.heap.size l1).trans Hb1.out
  have l2 : w.heap.size < w2.heap.size := Nat.lt_of_lt_of_le l1 hb2.size
  have HB2 := Lib.hid (below_chain HB1.out hb2)
  have HF2 := Lib.hid ((hF.less (S' := fun b => b = w.heap.size) (fun b _ e => by have e' : b = w.heap.size := e; show b < w1.heap.size; omega)))
  obtain ⟨ur, uk, rfl, uv, hr, hkk⟩ := hF.now
  obtain ⟨-, -, a1, c1, rfl, -⟩ := hr
  obtain ⟨-, a2, c2, rfl, -⟩ := hkk
  have m0 : w2.cell? ⟨w.heap.size, 0, none⟩ = some (.slice none 0 0) := cell_blk hbk 0
  have m1 : w2.cell? ⟨w.heap.size, 1, none⟩ = some (.int .u64 0) := cell_blk hbk 1
  have m2 : w2.cell? ⟨w.heap.size, 2, none⟩ = some (.slice none 0 0) := cell_blk hbk 2
  have ff := free_blk hbk
  have Hbk := Lib.hid hbk
  clear hF hb2 CR hbk
  go_wp2_with (fail)
  have hbX := blk_setCell (blk_setCell (blk_setCell Hbk.out 0 (.slice a1 O.roots.length c1)) 1 (.int .u64 O.value)) 2 (.slice a2 O.looks.length c2)
  have hbz := ((HB2.out.setCell (p := ⟨w.heap.size, 0, none⟩) (Nat.le_refl _) (.slice a1 O.roots.length c1)).setCell (p := ⟨w.heap.size, 1, none⟩) (Nat.le_refl _) (.int .u64 O.value)).setCell (p := ⟨w.heap.size, 2, none⟩) (Nat.le_refl _) (.slice a2 O.looks.length c2)
  have hOX := (((HF2.out.set (b := w.heap.size) rfl 0 (.slice a1 O.roots.length c1)).set (b := w.heap.size) rfl 1 (.int .u64 O.value)).set (b := w.heap.size) rfl 2 (.slice a2 O.looks.length c2)).now
  generalize ((w2.setCell ⟨w.heap.size, 0, none⟩ (.slice a1 O.roots.length c1)).setCell ⟨w.heap.size, 1, none⟩ (.int .u64 O.value)).setCell ⟨w.heap.size, 2, none⟩ (.slice a2 O.looks.length c2) = X2 at *
  have HbX := Lib.hid hbX; have HBX := Lib.hid hbz; have HOX := Lib.hid hOX
  have lX := blk_lt hbX
  clear hbX hbz hOX m0 m1 m2 ff Hbk HF2 HO2 HB2
  refine (CO.out X2 HBX.out).mono ?_
  rintro e w5 ⟨vo, rfl, hF5, hb5⟩
  have HO5 := Lib.hid hF5.now
  have HOx5 := Lib.hid (HOX.out.go hb5)
  have hbk5 := (hb5.block w.heap.size lX).trans HbX.out
  have HB5 := Lib.hid (below_chain HBX.out hb5)
  obtain ⟨ur, uk, rfl, -, hr, hkk⟩ := hF5.now
  obtain ⟨-, -, a3, c3, rfl, -⟩ := hr
  obtain ⟨-, a4, c4, rfl, -⟩ := hkk
  have m0 : w5.cell? ⟨w.heap.size, 0, none⟩ = some (.slice a1 O.roots.length c1) := cell_blk hbk5 0
  have m1 : w5.cell? ⟨w.heap.size, 1, none⟩ = some (.int .u64 O.value) := cell_blk hbk5 1
  have m2 : w5.cell? ⟨w.heap.size, 2, none⟩ = some (.slice a2 O.looks.length c2) := cell_blk hbk5 2
  have n0 : ∀ o, (w5.alloc o).cell? ⟨w.heap.size, 0, none⟩ = some (.slice a1 O.roots.length c1) := fun o => (World.cell?_alloc_some w5 _ o (by rw [m0]; rfl)).trans m0
  have n1 : ∀ o, (w5.alloc o).cell? ⟨w.heap.size, 1, none⟩ = some (.int .u64 O.value) := fun o => (World.cell?_alloc_some w5 _ o (by rw [m1]; rfl)).trans m1
  have n2 : ∀ o, (w5.alloc o).cell? ⟨w.heap.size, 2, none⟩ = some (.slice a2 O.looks.length c2) := fun o => (World.cell?_alloc_some w5 _ o (by rw [m2]; rfl)).trans m2
  clear hF5 hb5 hbk5 CO
  go_wp2_with (fail)
  obtain ⟨W6, hW6, k0, k1, k2, B6, s6⟩ := copied3' w5 (.slice a3 O.roots.length c3) (.int .u64 O.value) (.slice a4 O.looks.length c4) 40
  rw [hW6]
  have HB6 := Lib.hid (below_chain HB5.out B6)
  have HO6 := Lib.hid (HO5.out.go B6); have HOx6 := Lib.hid (HOx5.out.go B6)
  clear hW6 k0 k1 k2 B6 s6 m0 m1 m2 n0 n1 n2
  refine (ref_SameOpening O _ _ W6 HO6.out HOx6.out).mono ?_
  rintro e w7 ⟨rfl, hb7⟩
  go_wp2_with (fail)
  go_ret
  exact ⟨by simp, below_chain HB6.out hb7⟩
theorem openSays_walk (w : World) (hT : Tab w) (v : Value) (t : List Int) (ht : RowU w v t) (htc : CapOk v) (vp : Value) (pt : List Int) (hp : RowU w vp pt) (vl : Value) (places : List Int) (hl : RowI w vl places) :
    Calls Tryd.prog 5 #[v, vp, vl] w fun e w' => e = .returned (.bool true) ∧ Below w.heap.size w w' := by
  rcases tab_orO t.length with h | ⟨n, h8, hn⟩
  · exact openSays_no t pt places v vp vl w hT ht hp hl h
  · by_cases h5 : 5 ≤ n
    · exact openSays_many t pt places v vp vl w hT ht hp hl n h5 h8 hn
    · cases n with
      | zero => exact openSays_one t pt places v vp vl w hT ht hp hl hn
      | succ m =>
        by_cases hpl : pt.length = m + 1
        · cases hwr : wrongB places ((2 ^ m : Nat) : Int) with
          | true => exact openSays_wrong t pt places v vp vl w hT ht hp hl m (by omega) hn hpl hwr
          | false => exact openSays_right t pt places v vp vl w hT ht hp hl htc m (by omega) hn hpl hwr
        · exact openSays_len t pt places v vp vl w hT ht hp hl m (by omega) hn hpl
end Go.Proofs.YtokggifjcbkmnaaDoor
