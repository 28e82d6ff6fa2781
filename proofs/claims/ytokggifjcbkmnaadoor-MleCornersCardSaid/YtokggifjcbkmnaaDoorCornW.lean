/- The walk of the closure of the law MleCorners, and of the law's first half. The table of bits lies as its initialiser lays it. -/
import Derived.Test.YtokggifjcbkmnaaDoorKeepM
import Derived.Test.YtokggifjcbkmnaaDoorClone
import Derived.Test.YtokggifjcbkmnaaDoorOpen
namespace Go.Proofs.YtokggifjcbkmnaaDoor
set_option maxRecDepth 100000
set_option linter.unusedVariables false
open Go.RowKit Tally
theorem lin_sum (f g e : Nat → F) (x : F) (m : Nat) : sumTo (fun b => btw (f b) (g b) x * e b) m = sumTo (fun b => btw (f b) (g b) 0 * e b) m + x * (sumTo (fun b => btw (f b) (g b) 1 * e b) m - sumTo (fun b => btw (f b) (g b) 0 * e b) m) := by
  induction m with
  | zero => simp only [sumTo]; rw [sub_self', mul_zero', add_zero']
  | succ m ih => simp only [sumTo]; rw [ih]; unfold btw; grind
theorem evalF_set (t p r : List F) (x : F) (h : t.length = 2 ^ (p.length + 1 + r.length)) : evalF t (p ++ x :: r) = evalF t (p ++ 0 :: r) + x * (evalF t (p ++ 1 :: r) - evalF t (p ++ 0 :: r)) := by
  have hT : (fixes t p).length = 2 ^ (r.length + 1) := fixes_length t p _ (by rw [h]; congr 1; omega)
  have e : ∀ y, evalF t (p ++ y :: r) = sumTo (fun b => atF (fixF (fixes t p) y) b * eqAt r b) (2 ^ r.length) := by
    intro y
    unfold evalF
    rw [fixes_append, fixes_cons]
    have hl : (fixF (fixes t p) y).length = 2 ^ r.length := by rw [fixF_length, hT, Nat.pow_succ]; omega
    have := eval_dot (fixF (fixes t p) y) r hl
    unfold evalF dotEq at this
    rw [this, hl]
  have hh : (fixes t p).length / 2 = 2 ^ r.length := by rw [hT, Nat.pow_succ]; omega
  rw [e, e, e]
  have e2 : ∀ y, sumTo (fun b => atF (fixF (fixes t p) y) b * eqAt r b) (2 ^ r.length) = sumTo (fun b => btw (atF (fixes t p) b) (atF (fixes t p) (b + 2 ^ r.length)) y * eqAt r b) (2 ^ r.length) := by
    intro y
    refine sumTo_congr fun k hk => ?_
    rw [fixF_at _ _ _ (by omega), hh]
  rw [e2, e2, e2]
  exact lin_sum (fun b => atF (fixes t p) b) (fun b => atF (fixes t p) (b + 2 ^ r.length)) (eqAt r) x _
theorem set_split (l : List F) (i : Nat) (x : F) (h : i < l.length) : l.set i x = l.take i ++ x :: l.drop (i + 1) := by
  rw [List.set_eq_take_append_cons_drop, if_pos h]
theorem straight (t q : List F) (i : Nat) (x : F) (hi : i < q.length) (h : t.length = 2 ^ q.length) : evalF t (q.set i x) = evalF t (q.set i 0) + x * (evalF t (q.set i 1) - evalF t (q.set i 0)) := by
  rw [set_split q i x hi, set_split q i 0 hi, set_split q i 1 hi]
  refine evalF_set t _ _ x ?_
  rw [h]; congr 1; simp; omega
theorem bitsF_at (b n i : Nat) (h : i < n) : atF (bitsF b n) i = if b / 2 ^ (n - 1 - i) % 2 = 1 then 1 else 0 := by
  induction n generalizing b with
  | zero => omega
  | succ n ih =>
    simp only [bitsF]
    by_cases e : i = n
    · subst e
      have hl : (bitsF (b / 2) i).length = i := bitsF_length _ _
      unfold atF
      rw [List.getElem?_append_right (by omega), hl]
      simp
    · have hl : (bitsF (b / 2) n).length = n := bitsF_length _ _
      have h1 : atF (bitsF (b / 2) n ++ [if b % 2 = 1 then 1 else 0]) i = atF (bitsF (b / 2) n) i := by
        unfold atF; rw [List.getElem?_append_left (by omega)]
      rw [h1, ih (b / 2) (by omega), Nat.div_div_eq_div_mul, Nat.mul_comm, ← Nat.pow_succ, show (n - 1 - i).succ = n + 1 - 1 - i by omega]
theorem mle_Eval_quiet (t p : List Int) (v v2 : Value) (w : World) (hT : Tab w) (hp : RowU w v t) (hp2 : RowU w v2 p) (hn : t.length = 2 ^ p.length) (h8 : p.length ≤ 8) :
    Calls Tryd.prog 12 #[v, v2] w fun e w' => e = .returned (.tuple #[.int .u64 (psi (evalF (t.map phi) (p.map phi))), .int .i64 0]) ∧ Below w.heap.size w w' := mle_Eval t p v v2 w hT hp hp2 hn h8
theorem map_set_phi (q : List Int) (i : Nat) (x : Int) : (q.set i x).map phi = (q.map phi).set i (phi x) := by rw [List.map_set]
set_option maxHeartbeats 2000000 in
theorem corn_value (x : Int) (hx : U64 x) (t q : List Int) (vt vq : Value) (i cq ci ct : Nat) (w : World) (hT : Tab w) (ht : RowU w vt t) (hq : RowU w vq q) (hn : t.length = 2 ^ q.length) (h8 : q.length ≤ 8) (hi : i < q.length)
    (h1 : w.cell? ⟨cq, 0, none⟩ = some vq) (h2 : w.cell? ⟨ci, 0, none⟩ = some (.int .i64 i)) (h3 : w.cell? ⟨ct, 0, none⟩ = some vt) (l1 : cq < w.heap.size) (l2 : ci < w.heap.size) (l3 : ct < w.heap.size) :
    Calls Tryd.prog 16 #[.int .u64 x, .pointer (some ⟨cq, 0, none⟩), .pointer (some ⟨ci, 0, none⟩), .pointer (some ⟨ct, 0, none⟩)] w
      fun e w' => e = .returned (.int .u64 (psi (evalF (t.map phi) ((q.map phi).set i (phi x))))) ∧ Below w.heap.size w w' := by
  have HT := Lib.hid hT
  have Ht := Lib.hid ht
  have Hq := Lib.hid hq
  have Hn := Lib.hid hn
  have hi2 : (i : Int) < (q.length : Int) := by omega
  clear hT ht hq hn
  go_enter Tryd.func16, Tryd.ntmps16
  go_wp2_with (fail)
  refine (clone_U q _ _ Hq.out (by omega) (by omega)).mono ?_
  rintro e w1 ⟨v1, rfl, hn1, hb1⟩
  obtain ⟨g, c1, rfl, hg1, hg2, _, hfr⟩ := hn1.shape (by omega)
  have hcell := hn1.cellAt i hi
  have hfi := hn1.freeAt i
  have h2w := (hb1.cell (p := ⟨ci, 0, none⟩) l2).trans h2
  have h3w := (hb1.cell (p := ⟨ct, 0, none⟩) l3).trans h3
  have Hset := Lib.hid (hn1.set i x hx)
  have hneq : g ≠ ct := by omega
  have hB := Lib.hid (hb1.setCell (by exact hg1) (.int .u64 x) (p := ⟨g, i, none⟩))
  clear hn1 hb1 h1 h2 h3 hfr
  go_wp2_with (fail)
  refine (mle_Eval t (q.set i x) _ _ _ (HT.out.below hB.out) (Ht.out.step hB.out) Hset.out.row (by rw [List.length_set]; exact Hn.out) (by rw [List.length_set]; exact h8)).mono ?_
  rintro e w2 ⟨rfl, hb2⟩
  rw [map_set_phi]
  have hB2 := Lib.hid (below_chain hB.out hb2)
  clear hb2
  go_wp2
  go_ret
  exact ⟨rfl, hB2.out⟩
end Go.Proofs.YtokggifjcbkmnaaDoor
