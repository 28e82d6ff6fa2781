/- The walk of open.Open where it refuses. The table of bits lies as its initialiser lays it. -/
import Derived.Test.YtokggifjcbkmnaaDoorOpenOpen
namespace Go.Proofs.YtokggifjcbkmnaaDoor
set_option maxRecDepth 100000
set_option linter.unusedVariables false
open Go.RowKit Tally
set_option maxRecDepth 100000 in
set_option maxHeartbeats 8000000 in
theorem open_Open_no (t : List Int) (vt vp vl : Value) (w : World) (hT : Tab w) (ht : RowU w vt t) (hn : NoTab t.length) :
    Calls Tryd.prog 25 #[vt, vp, vl] w fun e w' => e = .returned (.tuple #[.agg #[.slice none 0 0, .int .u64 0, .slice none 0 0], .int .i64 4]) ∧ Below w.heap.size w w' := by
  have CV := Lib.hid (fun X (hX : Below w.heap.size w X) => mle_Vars_no t vt X (hT.below hX) (ht.go hX) hn)
  clear hT hn ht
  obtain ⟨W1, hW1, b1, s1, B1⟩ := one_blockO w #[.slice none 0 0, .int .u64 0, .slice none 0 0] 40
  have HB1 := Lib.hid B1; have Hb1 := Lib.hid b1
  clear b1 B1
  go_enter Tryd.func25, Tryd.ntmps25
  go_wp2_with (fail)
  with_reducible refine (CV.out W1 HB1.out).mono ?_
  rintro e w2 ⟨rfl, rfl⟩
  clear hW1 CV
  have hrs := Hb1.out
  have z0 : W1.cell? ⟨w.heap.size, 0, none⟩ = some (.slice none 0 0) := cell_blk hrs 0
  have z1 : W1.cell? ⟨w.heap.size, 1, none⟩ = some (.int .u64 0) := cell_blk hrs 1
  have z2 : W1.cell? ⟨w.heap.size, 2, none⟩ = some (.slice none 0 0) := cell_blk hrs 2
  have ff := free_blk hrs
  go_wp2_with (fail)
  have hbk := blk_setCell (blk_setCell (blk_setCell hrs 0 (.slice none 0 0)) 1 (.int .u64 0)) 2 (.slice none 0 0)
  have hbz := ((HB1.out.setCell (p := ⟨w.heap.size, 0, none⟩) (Nat.le_refl _) (.slice none 0 0)).setCell (p := ⟨w.heap.size, 1, none⟩) (Nat.le_refl _) (.int .u64 0)).setCell (p := ⟨w.heap.size, 2, none⟩) (Nat.le_refl _) (.slice none 0 0)
  generalize ((W1.setCell ⟨w.heap.size, 0, none⟩ (.slice none 0 0)).setCell ⟨w.heap.size, 1, none⟩ (.int .u64 0)).setCell ⟨w.heap.size, 2, none⟩ (.slice none 0 0) = wz at *
  have d0 : wz.cell? ⟨w.heap.size, 0, none⟩ = some (.slice none 0 0) := cell_blk hbk 0
  have d1 : wz.cell? ⟨w.heap.size, 1, none⟩ = some (.int .u64 0) := cell_blk hbk 1
  have d2 : wz.cell? ⟨w.heap.size, 2, none⟩ = some (.slice none 0 0) := cell_blk hbk 2
  exact bodyPost_ret (v := .tuple #[.agg #[.slice none 0 0, .int .u64 0, .slice none 0 0], .int .i64 4]) (by simp [results, Tryd.results25, go_sem, d0, d1, d2]) rfl ⟨rfl, hbz⟩
set_option maxRecDepth 100000 in
set_option maxHeartbeats 8000000 in
theorem open_Open_one (t : List Int) (vt vp vl : Value) (w : World) (hT : Tab w) (ht : RowU w vt t) (hn : t.length = 2 ^ 0) :
    Calls Tryd.prog 25 #[vt, vp, vl] w fun e w' => e = .returned (.tuple #[.agg #[.slice none 0 0, .int .u64 0, .slice none 0 0], .int .i64 4]) ∧ Below w.heap.size w w' := by
  have CV := Lib.hid (fun X (hX : Below w.heap.size w X) => mle_Vars t 0 vt X (hT.below hX) (ht.go hX) hn (by decide))
  clear hT hn ht
  obtain ⟨W1, hW1, b1, s1, B1⟩ := one_blockO w #[.slice none 0 0, .int .u64 0, .slice none 0 0] 40
  have HB1 := Lib.hid B1; have Hb1 := Lib.hid b1
  clear b1 B1
  go_enter Tryd.func25, Tryd.ntmps25
  go_wp2_with (fail)
  with_reducible refine (CV.out W1 HB1.out).mono ?_
  rintro e w2 ⟨rfl, rfl⟩
  clear hW1 CV
  have hrs := Hb1.out
  have z0 : W1.cell? ⟨w.heap.size, 0, none⟩ = some (.slice none 0 0) := cell_blk hrs 0
  have z1 : W1.cell? ⟨w.heap.size, 1, none⟩ = some (.int .u64 0) := cell_blk hrs 1
  have z2 : W1.cell? ⟨w.heap.size, 2, none⟩ = some (.slice none 0 0) := cell_blk hrs 2
  have ff := free_blk hrs
  go_wp2_with (fail)
  have hbk := blk_setCell (blk_setCell (blk_setCell hrs 0 (.slice none 0 0)) 1 (.int .u64 0)) 2 (.slice none 0 0)
  have hbz := ((HB1.out.setCell (p := ⟨w.heap.size, 0, none⟩) (Nat.le_refl _) (.slice none 0 0)).setCell (p := ⟨w.heap.size, 1, none⟩) (Nat.le_refl _) (.int .u64 0)).setCell (p := ⟨w.heap.size, 2, none⟩) (Nat.le_refl _) (.slice none 0 0)
  generalize ((W1.setCell ⟨w.heap.size, 0, none⟩ (.slice none 0 0)).setCell ⟨w.heap.size, 1, none⟩ (.int .u64 0)).setCell ⟨w.heap.size, 2, none⟩ (.slice none 0 0) = wz at *
  have d0 : wz.cell? ⟨w.heap.size, 0, none⟩ = some (.slice none 0 0) := cell_blk hbk 0
  have d1 : wz.cell? ⟨w.heap.size, 1, none⟩ = some (.int .u64 0) := cell_blk hbk 1
  have d2 : wz.cell? ⟨w.heap.size, 2, none⟩ = some (.slice none 0 0) := cell_blk hbk 2
  exact bodyPost_ret (v := .tuple #[.agg #[.slice none 0 0, .int .u64 0, .slice none 0 0], .int .i64 4]) (by simp [results, Tryd.results25, go_sem, d0, d1, d2]) rfl ⟨rfl, hbz⟩
set_option maxRecDepth 100000 in
set_option maxHeartbeats 8000000 in
theorem open_Open_len (t pt : List Int) (m : Nat) (h7 : m ≤ 7) (htl : t.length = 2 ^ (m + 1)) (hpl : pt.length ≠ m + 1) (vt vp vl : Value) (w : World) (hT : Tab w) (ht : RowU w vt t) (hp : RowU w vp pt) :
    Calls Tryd.prog 25 #[vt, vp, vl] w fun e w' => e = .returned (.tuple #[.agg #[.slice none 0 0, .int .u64 0, .slice none 0 0], .int .i64 1]) ∧ Below w.heap.size w w' := by
  have CV := Lib.hid (fun X (hX : Below w.heap.size w X) => mle_Vars t (m + 1) vt X (hT.below hX) (ht.go hX) htl (by omega))
  obtain ⟨-, -, ap, cp, rfl, -⟩ := hp
  obtain ⟨M, hM⟩ : ∃ M : Nat, M = m + 1 := ⟨_, rfl⟩
  have hz0 : ((M : Int) == 0) = false := by rw [beq_eq_false_iff_ne]; omega
  have hz1 : ((pt.length : Int) != (M : Int)) = true := by rw [bne_iff_ne]; omega
  rw [← hM] at CV
  clear hT htl ht hM hpl
  obtain ⟨W1, hW1, b1, s1, B1⟩ := one_blockO w #[.slice none 0 0, .int .u64 0, .slice none 0 0] 40
  have HB1 := Lib.hid B1; have Hb1 := Lib.hid b1
  clear b1 B1
  go_enter Tryd.func25, Tryd.ntmps25
  go_wp2_with (fail)
  with_reducible refine (CV.out W1 HB1.out).mono ?_
  rintro e w2 ⟨rfl, rfl⟩
  clear hW1 CV
  have hrs := Hb1.out
  have z0 : W1.cell? ⟨w.heap.size, 0, none⟩ = some (.slice none 0 0) := cell_blk hrs 0
  have z1 : W1.cell? ⟨w.heap.size, 1, none⟩ = some (.int .u64 0) := cell_blk hrs 1
  have z2 : W1.cell? ⟨w.heap.size, 2, none⟩ = some (.slice none 0 0) := cell_blk hrs 2
  have ff := free_blk hrs
  go_wp2_with (fail)
  have hbk := blk_setCell (blk_setCell (blk_setCell hrs 0 (.slice none 0 0)) 1 (.int .u64 0)) 2 (.slice none 0 0)
  have hbz := ((HB1.out.setCell (p := ⟨w.heap.size, 0, none⟩) (Nat.le_refl _) (.slice none 0 0)).setCell (p := ⟨w.heap.size, 1, none⟩) (Nat.le_refl _) (.int .u64 0)).setCell (p := ⟨w.heap.size, 2, none⟩) (Nat.le_refl _) (.slice none 0 0)
  generalize ((W1.setCell ⟨w.heap.size, 0, none⟩ (.slice none 0 0)).setCell ⟨w.heap.size, 1, none⟩ (.int .u64 0)).setCell ⟨w.heap.size, 2, none⟩ (.slice none 0 0) = wz at *
  have d0 : wz.cell? ⟨w.heap.size, 0, none⟩ = some (.slice none 0 0) := cell_blk hbk 0
  have d1 : wz.cell? ⟨w.heap.size, 1, none⟩ = some (.int .u64 0) := cell_blk hbk 1
  have d2 : wz.cell? ⟨w.heap.size, 2, none⟩ = some (.slice none 0 0) := cell_blk hbk 2
  exact bodyPost_ret (v := .tuple #[.agg #[.slice none 0 0, .int .u64 0, .slice none 0 0], .int .i64 1]) (by simp [results, Tryd.results25, go_sem, d0, d1, d2]) rfl ⟨rfl, hbz⟩
set_option maxRecDepth 100000 in
set_option maxHeartbeats 8000000 in
theorem open_Open_wrong (t pt places : List Int) (m : Nat) (h7 : m ≤ 7) (htl : t.length = 2 ^ (m + 1)) (hpl : pt.length = m + 1) (hwr : wrongB places ((2 ^ m : Nat) : Int) = true) (vt vp vl : Value) (w : World) (hT : Tab w) (ht : RowU w vt t) (hp : RowU w vp pt) (hl : RowI w vl places) :
    Calls Tryd.prog 25 #[vt, vp, vl] w fun e w' => e = .returned (.tuple #[.agg #[.slice none 0 0, .int .u64 0, .slice none 0 0], .int .i64 1]) ∧ Below w.heap.size w w' := by
  have CV := Lib.hid (fun X (hX : Below w.heap.size w X) => mle_Vars t (m + 1) vt X (hT.below hX) (ht.go hX) htl (by omega))
  have CW := Lib.hid (fun X (hX : Below w.heap.size w X) => show Calls Tryd.prog 45 #[vl, .int .i64 ((2 ^ m : Nat) : Int)] X fun e w' => e = .returned (.bool true) ∧ Below X.heap.size X w' from by
    have := open_wrong places ((2 ^ m : Nat) : Int) vl X (hl.go hX)
    rwa [hwr] at this)
  have q2 := (pow_le8 (n := m) (by omega)).2
  obtain ⟨half, hh⟩ : ∃ half, half = 2 ^ m := ⟨_, rfl⟩
  obtain ⟨Ln, hLn⟩ : ∃ Ln, Ln = t.length := ⟨_, rfl⟩
  have hLh : Ln = 2 * half := by rw [hLn, htl, hh, Nat.pow_succ]; omega
  have HQ := Lib.hid (show wrap64 ((Ln : Int) / 2) = (half : Int) by
    rw [show (Ln : Int) / 2 = (half : Int) by omega]; unfold wrap64; rw [hh]; have := q2; omega)
  rw [← hh] at CW
  obtain ⟨M, hM⟩ : ∃ M : Nat, M = m + 1 := ⟨_, rfl⟩
  have hz0 : ((M : Int) == 0) = false := by rw [beq_eq_false_iff_ne]; omega
  have hz1 : ((M : Int) != (M : Int)) = false := by simp
  obtain ⟨-, -, at', ct, rfl, -⟩ := ht
  obtain ⟨-, -, ap, cp, rfl, -⟩ := hp
  rw [← hLn, ← hM] at CV
  rw [← hLn, hpl, ← hM]
  clear hT htl hM hpl hwr hl q2 hh hLn hLh
  obtain ⟨W1, hW1, b1, s1, B1⟩ := one_blockO w #[.slice none 0 0, .int .u64 0, .slice none 0 0] 40
  have HB1 := Lib.hid B1; have Hb1 := Lib.hid b1
  clear b1 B1
  go_enter Tryd.func25, Tryd.ntmps25
  go_wp2_with (fail)
  with_reducible refine (CV.out W1 HB1.out).mono ?_
  rintro e w2 ⟨rfl, rfl⟩
  clear hW1 CV
  go_wp2_with (fail)
  rw [HQ.out]
  with_reducible refine (CW.out W1 HB1.out).mono ?_
  rintro e w2 ⟨rfl, hb2⟩
  have HB2 := Lib.hid (HB1.out.trans (hb2.mono (show w.heap.size ≤ W1.heap.size by omega)))
  have hrs := (hb2.block w.heap.size (by omega)).trans Hb1.out
  clear hb2 CW HQ s1
  have z0 : w2.cell? ⟨w.heap.size, 0, none⟩ = some (.slice none 0 0) := cell_blk hrs 0
  have z1 : w2.cell? ⟨w.heap.size, 1, none⟩ = some (.int .u64 0) := cell_blk hrs 1
  have z2 : w2.cell? ⟨w.heap.size, 2, none⟩ = some (.slice none 0 0) := cell_blk hrs 2
  have ff := free_blk hrs
  go_wp2_with (fail)
  have hbk := blk_setCell (blk_setCell (blk_setCell hrs 0 (.slice none 0 0)) 1 (.int .u64 0)) 2 (.slice none 0 0)
  have hbz := ((HB2.out.setCell (p := ⟨w.heap.size, 0, none⟩) (Nat.le_refl _) (.slice none 0 0)).setCell (p := ⟨w.heap.size, 1, none⟩) (Nat.le_refl _) (.int .u64 0)).setCell (p := ⟨w.heap.size, 2, none⟩) (Nat.le_refl _) (.slice none 0 0)
  generalize ((w2.setCell ⟨w.heap.size, 0, none⟩ (.slice none 0 0)).setCell ⟨w.heap.size, 1, none⟩ (.int .u64 0)).setCell ⟨w.heap.size, 2, none⟩ (.slice none 0 0) = wz at *
  have d0 : wz.cell? ⟨w.heap.size, 0, none⟩ = some (.slice none 0 0) := cell_blk hbk 0
  have d1 : wz.cell? ⟨w.heap.size, 1, none⟩ = some (.int .u64 0) := cell_blk hbk 1
  have d2 : wz.cell? ⟨w.heap.size, 2, none⟩ = some (.slice none 0 0) := cell_blk hbk 2
  exact bodyPost_ret (v := .tuple #[.agg #[.slice none 0 0, .int .u64 0, .slice none 0 0], .int .i64 1]) (by simp [results, Tryd.results25, go_sem, d0, d1, d2]) rfl ⟨rfl, hbz⟩
end Go.Proofs.YtokggifjcbkmnaaDoor
