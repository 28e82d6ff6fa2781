/- The walk of the law MleSays: it returns true, whatever is handed in. The table of bits lies as its initialiser lays it. -/
import Derived.Test.YtaaaoljllpbplaaDoorRMle
namespace Go.Proofs.YtaaaoljllpbplaaDoor
set_option maxRecDepth 100000
set_option linter.unusedVariables false
open Go.RowKit Tally
theorem one_len {t : List Int} {k : Nat} (h : t.length = k) : ∀ j, j < [t].length → (atl [t] j).length = k := by
  intro j hj
  obtain rfl : j = 0 := by simp at hj; omega
  exact h
theorem total_eq (t : List Int) (n : Nat) (hn : t.length = 2 ^ n) : psi (claimF (fixed [t] []) (2 ^ n)) = psi (sumTo (atF (t.map phi)) t.length) := by
  rw [hn]; congr 1
  refine sumTo_congr fun k _ => ?_
  show (1 : F) * atF (fixes (t.map phi) ([].map phi)) k = _
  rw [one_mul']; rfl
set_option maxHeartbeats 2000000 in
theorem mleSays_no_no (w : World) (hT : Tab w) (v : Value) (t : List Int) (hp : RowU w v t) (hv : NilOk v) (v2 : Value) (p : List Int) (hp2 : RowU w v2 p) (x : Int) (hx : U64 x) (hn : NoTab t.length)  :
    Calls Tryd.prog 5 #[v, v2, .int .u64 x] w fun e w' => e = .returned (.bool true) ∧ Below w.heap.size w w' := by
  have HT := Lib.hid hT
  have Hp := Lib.hid hp
  have Hp2 := Lib.hid hp2
  have Hv := Lib.hid hv
  have Hn := Lib.hid hn
  obtain ⟨_, ht2, at1, ct, rfl, _⟩ := hp
  obtain ⟨_, hp2l, ap, cp, rfl, _⟩ := hp2
  clear hT hn hv
  go_enter Tryd.func5, Tryd.ntmps5
  go_wp2_with (fail)
  refine (ref_Vars_no _ _ _ Hp.out Hn.out).mono ?_
  rintro e w' ⟨rfl, rfl⟩
  have B0 := Lib.hid (Below.refl w.heap.size w)
  go_wp2_with (fail)
  refine (mle_Vars_no _ _ _ (HT.out.below B0.out) (Hp.out.step B0.out) Hn.out).mono ?_
  rintro e w' ⟨rfl, rfl⟩
  go_wp2_with (fail)
  refine (mle_Sum_no _ _ _ (HT.out.below B0.out) (Hp.out.step B0.out) Hn.out).mono ?_
  rintro e w' ⟨rfl, rfl⟩
  go_wp2_with (fail)
  refine (mle_Fix_no _ _ _ _ (HT.out.below B0.out) (Hp.out.step B0.out) Hn.out).mono ?_
  rintro e w' ⟨rfl, rfl⟩
  go_wp2_with (fail)
  refine (mle_Eval_no _ _ _ _ (HT.out.below B0.out) (Hp.out.step B0.out) Hn.out).mono ?_
  rintro e w' ⟨rfl, rfl⟩
  go_wp2_with (fail)
  refine (slices_Equal [] _ _ _ (NewU.nil 0 _).row (NewU.nil 0 _).row).mono ?_
  rintro e w7 ⟨rfl, hd⟩
  have B7 := Lib.hid (below_chain B0.out hd.below)
  clear hd
  go_wp2
  go_ret
  exact ⟨rfl, B7.out⟩
set_option maxHeartbeats 2000000 in
theorem mleSays_zero_eval (w : World) (hT : Tab w) (v : Value) (t : List Int) (hp : RowU w v t) (hv : NilOk v) (v2 : Value) (p : List Int) (hp2 : RowU w v2 p) (x : Int) (hx : U64 x) (hn : t.length = 2 ^ 0) (hq : p.length = 0) :
    Calls Tryd.prog 5 #[v, v2, .int .u64 x] w fun e w' => e = .returned (.bool true) ∧ Below w.heap.size w w' := by
  have HT := Lib.hid hT
  have Hp := Lib.hid hp
  have Hp2 := Lib.hid hp2
  have Hv := Lib.hid hv
  have Hn := Lib.hid hn
  obtain ⟨_, ht2, at1, ct, rfl, _⟩ := hp
  obtain ⟨_, hp2l, ap, cp, rfl, _⟩ := hp2
  have hqb : ((p.length : Int) == ((0 : Nat) : Int)) = true := by rw [hq]; simp
  have Hq := Lib.hid hq
  clear hT hn hv hq
  rw [show ((0 : Nat) : Int) = 0 from rfl] at hqb
  go_enter Tryd.func5, Tryd.ntmps5
  go_wp2_with (fail)
  refine (ref_Vars _ 0 _ _ Hp.out Hn.out (by omega)).mono ?_
  rintro e w' ⟨rfl, rfl⟩
  go_wp2_with (fail)
  refine (ref_Partial [t] 0 0 [] _ _ _ (RowUN.lit1 w _ _ w.heap.size Hp.out Hv.out rfl).rows (NewU.nil 0 _).row NilOk.none (by simp) (by simp) (one_len Hn.out) (by omega) (by simp)).mono ?_
  rintro e w1 ⟨rfl, hb⟩
  rw [total_eq t 0 Hn.out]
  have B1 := Lib.hid (below_chain (below_alloc w _) hb)
  clear hb
  go_wp2_with (fail)
  refine (ref_Eval t p _ _ _ (Hp.out.step B1.out) (Hp2.out.step B1.out)).mono ?_
  rintro e w3 ⟨rfl, hd⟩
  rw [← eval_dot (t.map phi) (p.map phi) (by simp [Hn.out, Hq.out])]
  have B3 := Lib.hid (below_chain B1.out hd.below)
  clear hd
  go_wp2_with (fail)
  refine (mle_Vars _ 0 _ _ (HT.out.below B3.out) (Hp.out.step B3.out) Hn.out (by omega)).mono ?_
  rintro e w' ⟨rfl, rfl⟩
  go_wp2_with (fail)
  refine (mle_Sum _ 0 _ _ (HT.out.below B3.out) (Hp.out.step B3.out) Hn.out (by omega)).mono ?_
  rintro e w' ⟨rfl, rfl⟩
  go_wp2_with (fail)
  refine (mle_Fix_one _ _ _ _ (HT.out.below B3.out) (Hp.out.step B3.out) Hn.out).mono ?_
  rintro e w' ⟨rfl, rfl⟩
  go_wp2_with (fail)
  refine (mle_Eval t p _ _ _ (HT.out.below B3.out) (Hp.out.step B3.out) (Hp2.out.step B3.out) (by rw [Hn.out, Hq.out]) (by rw [Hq.out]; omega)).mono ?_
  rintro e w6 ⟨rfl, hb⟩
  have B6 := Lib.hid (below_chain B3.out hb)
  clear hb
  go_wp2_with (fail)
  refine (slices_Equal [] _ _ _ (NewU.nil 0 _).row (NewU.nil 0 _).row).mono ?_
  rintro e w7 ⟨rfl, hd⟩
  have B7 := Lib.hid (below_chain B6.out hd.below)
  clear hd
  go_wp2
  go_ret
  exact ⟨rfl, B7.out⟩
set_option maxHeartbeats 2000000 in
theorem mleSays_zero_arg (w : World) (hT : Tab w) (v : Value) (t : List Int) (hp : RowU w v t) (hv : NilOk v) (v2 : Value) (p : List Int) (hp2 : RowU w v2 p) (x : Int) (hx : U64 x) (hn : t.length = 2 ^ 0) (hq : p.length ≠ 0) :
    Calls Tryd.prog 5 #[v, v2, .int .u64 x] w fun e w' => e = .returned (.bool true) ∧ Below w.heap.size w w' := by
  have HT := Lib.hid hT
  have Hp := Lib.hid hp
  have Hp2 := Lib.hid hp2
  have Hv := Lib.hid hv
  have Hn := Lib.hid hn
  obtain ⟨_, ht2, at1, ct, rfl, _⟩ := hp
  obtain ⟨_, hp2l, ap, cp, rfl, _⟩ := hp2
  have hqb : ((p.length : Int) == ((0 : Nat) : Int)) = false := by rw [beq_eq_false_iff_ne]; exact fun e => hq (Int.ofNat_inj.mp e)
  have Hq := Lib.hid hq
  clear hT hn hv hq
  rw [show ((0 : Nat) : Int) = 0 from rfl] at hqb
  go_enter Tryd.func5, Tryd.ntmps5
  go_wp2_with (fail)
  refine (ref_Vars _ 0 _ _ Hp.out Hn.out (by omega)).mono ?_
  rintro e w' ⟨rfl, rfl⟩
  go_wp2_with (fail)
  refine (ref_Partial [t] 0 0 [] _ _ _ (RowUN.lit1 w _ _ w.heap.size Hp.out Hv.out rfl).rows (NewU.nil 0 _).row NilOk.none (by simp) (by simp) (one_len Hn.out) (by omega) (by simp)).mono ?_
  rintro e w1 ⟨rfl, hb⟩
  rw [total_eq t 0 Hn.out]
  have B1 := Lib.hid (below_chain (below_alloc w _) hb)
  clear hb
  go_wp2_with (fail)
  refine (mle_Vars _ 0 _ _ (HT.out.below B1.out) (Hp.out.step B1.out) Hn.out (by omega)).mono ?_
  rintro e w' ⟨rfl, rfl⟩
  go_wp2_with (fail)
  refine (mle_Sum _ 0 _ _ (HT.out.below B1.out) (Hp.out.step B1.out) Hn.out (by omega)).mono ?_
  rintro e w' ⟨rfl, rfl⟩
  go_wp2_with (fail)
  refine (mle_Fix_one _ _ _ _ (HT.out.below B1.out) (Hp.out.step B1.out) Hn.out).mono ?_
  rintro e w' ⟨rfl, rfl⟩
  go_wp2_with (fail)
  refine (mle_Eval_arg t p 0 _ _ _ (HT.out.below B1.out) (Hp.out.step B1.out) (Hp2.out.step B1.out) Hn.out (by omega) Hq.out).mono ?_
  rintro e w' ⟨rfl, rfl⟩
  go_wp2_with (fail)
  refine (slices_Equal [] _ _ _ (NewU.nil 0 _).row (NewU.nil 0 _).row).mono ?_
  rintro e w7 ⟨rfl, hd⟩
  have B7 := Lib.hid (below_chain B1.out hd.below)
  clear hd
  go_wp2
  go_ret
  exact ⟨rfl, B7.out⟩
set_option maxHeartbeats 2000000 in
theorem mleSays_pos_eval (w : World) (hT : Tab w) (v : Value) (t : List Int) (hp : RowU w v t) (hv : NilOk v) (v2 : Value) (p : List Int) (hp2 : RowU w v2 p) (x : Int) (hx : U64 x) (m : Nat) (hn : t.length = 2 ^ (m + 1)) (h6 : m + 1 ≤ 6) (hq : p.length = (m + 1)) :
    Calls Tryd.prog 5 #[v, v2, .int .u64 x] w fun e w' => e = .returned (.bool true) ∧ Below w.heap.size w w' := by
  have HT := Lib.hid hT
  have Hp := Lib.hid hp
  have Hp2 := Lib.hid hp2
  have Hv := Lib.hid hv
  have Hn := Lib.hid hn
  obtain ⟨_, ht2, at1, ct, rfl, _⟩ := hp
  obtain ⟨_, hp2l, ap, cp, rfl, _⟩ := hp2
  have h60 : ¬ (6 : Int) < ((m + 1 : Nat) : Int) := by omega
  have h61 : ¬ ((m + 1 : Nat) : Int) < 0 := by omega
  have h62 : (0 : Int) < ((m + 1 : Nat) : Int) := by omega
  have hqb : ((p.length : Int) == (((m + 1) : Nat) : Int)) = true := by rw [hq]; simp
  have Hq := Lib.hid hq
  clear hT hn hv hq
  generalize hM : ((m + 1 : Nat) : Int) = M at *
  have HM := Lib.hid hM
  clear hM
  go_enter Tryd.func5, Tryd.ntmps5
  go_wp2_with (fail)
  refine (ref_Vars _ (m + 1) _ _ Hp.out Hn.out (by omega)).mono ?_
  rintro e w' ⟨rfl, rfl⟩
  rw [HM.out]
  go_wp2_with (fail)
  refine (ref_Partial [t] (m + 1) (m + 1) [] _ _ _ (RowUN.lit1 w _ _ w.heap.size Hp.out Hv.out rfl).rows (NewU.nil 0 _).row NilOk.none (by simp) (by simp) (one_len Hn.out) (by omega) (by simp)).mono ?_
  rintro e w1 ⟨rfl, hb⟩
  rw [total_eq t (m + 1) Hn.out]
  have B1 := Lib.hid (below_chain (below_alloc w _) hb)
  clear hb
  go_wp2_with (fail)
  refine (ref_Fix t m _ x _ (Hp.out.step B1.out) hx Hn.out (by omega)).mono ?_
  rintro e w2 ⟨vR, rfl, hnR, hb⟩
  have HR := Lib.hid hnR.row
  have B2 := Lib.hid (below_chain B1.out hb)
  clear hb hnR
  go_wp2_with (fail)
  refine (ref_Eval t p _ _ _ (Hp.out.step B2.out) (Hp2.out.step B2.out)).mono ?_
  rintro e w3 ⟨rfl, hd⟩
  rw [← eval_dot (t.map phi) (p.map phi) (by simp [Hn.out, Hq.out])]
  have B3 := Lib.hid (below_chain B2.out hd.below)
  have HR3 := Lib.hid (HR.out.step hd.below)
  clear hd
  go_wp2_with (fail)
  refine (mle_Vars _ (m + 1) _ _ (HT.out.below B3.out) (Hp.out.step B3.out) Hn.out (by omega)).mono ?_
  rintro e w' ⟨rfl, rfl⟩
  rw [HM.out]
  go_wp2_with (fail)
  refine (mle_Sum _ (m + 1) _ _ (HT.out.below B3.out) (Hp.out.step B3.out) Hn.out (by omega)).mono ?_
  rintro e w' ⟨rfl, rfl⟩
  go_wp2_with (fail)
  refine (mle_Fix t m _ x _ (HT.out.below B3.out) (Hp.out.step B3.out) hx Hn.out (by omega)).mono ?_
  rintro e w5 ⟨vP, rfl, hnP, hb⟩
  have HP5 := Lib.hid hnP.row
  have HR5 := Lib.hid (HR3.out.step hb)
  have B5 := Lib.hid (below_chain B3.out hb)
  clear hb hnP
  go_wp2_with (fail)
  refine (mle_Eval t p _ _ _ (HT.out.below B5.out) (Hp.out.step B5.out) (Hp2.out.step B5.out) (by rw [Hn.out, Hq.out]) (by rw [Hq.out]; omega)).mono ?_
  rintro e w6 ⟨rfl, hb⟩
  have B6 := Lib.hid (below_chain B5.out hb)
  have HP6 := Lib.hid (HP5.out.step hb)
  have HR6 := Lib.hid (HR5.out.step hb)
  clear hb
  go_wp2_with (fail)
  refine (slices_Equal _ _ _ _ HP6.out HR6.out).mono ?_
  rintro e w7 ⟨rfl, hd⟩
  have B7 := Lib.hid (below_chain B6.out hd.below)
  clear hd
  go_wp2
  go_ret
  exact ⟨rfl, B7.out⟩
set_option maxHeartbeats 2000000 in
theorem mleSays_pos_arg (w : World) (hT : Tab w) (v : Value) (t : List Int) (hp : RowU w v t) (hv : NilOk v) (v2 : Value) (p : List Int) (hp2 : RowU w v2 p) (x : Int) (hx : U64 x) (m : Nat) (hn : t.length = 2 ^ (m + 1)) (h6 : m + 1 ≤ 6) (hq : p.length ≠ (m + 1)) :
    Calls Tryd.prog 5 #[v, v2, .int .u64 x] w fun e w' => e = .returned (.bool true) ∧ Below w.heap.size w w' := by
  have HT := Lib.hid hT
  have Hp := Lib.hid hp
  have Hp2 := Lib.hid hp2
  have Hv := Lib.hid hv
  have Hn := Lib.hid hn
  obtain ⟨_, ht2, at1, ct, rfl, _⟩ := hp
  obtain ⟨_, hp2l, ap, cp, rfl, _⟩ := hp2
  have h60 : ¬ (6 : Int) < ((m + 1 : Nat) : Int) := by omega
  have h61 : ¬ ((m + 1 : Nat) : Int) < 0 := by omega
  have h62 : (0 : Int) < ((m + 1 : Nat) : Int) := by omega
  have hqb : ((p.length : Int) == (((m + 1) : Nat) : Int)) = false := by rw [beq_eq_false_iff_ne]; exact fun e => hq (Int.ofNat_inj.mp e)
  have Hq := Lib.hid hq
  clear hT hn hv hq
  generalize hM : ((m + 1 : Nat) : Int) = M at *
  have HM := Lib.hid hM
  clear hM
  go_enter Tryd.func5, Tryd.ntmps5
  go_wp2_with (fail)
  refine (ref_Vars _ (m + 1) _ _ Hp.out Hn.out (by omega)).mono ?_
  rintro e w' ⟨rfl, rfl⟩
  rw [HM.out]
  go_wp2_with (fail)
  refine (ref_Partial [t] (m + 1) (m + 1) [] _ _ _ (RowUN.lit1 w _ _ w.heap.size Hp.out Hv.out rfl).rows (NewU.nil 0 _).row NilOk.none (by simp) (by simp) (one_len Hn.out) (by omega) (by simp)).mono ?_
  rintro e w1 ⟨rfl, hb⟩
  rw [total_eq t (m + 1) Hn.out]
  have B1 := Lib.hid (below_chain (below_alloc w _) hb)
  clear hb
  go_wp2_with (fail)
  refine (ref_Fix t m _ x _ (Hp.out.step B1.out) hx Hn.out (by omega)).mono ?_
  rintro e w2 ⟨vR, rfl, hnR, hb⟩
  have HR := Lib.hid hnR.row
  have B2 := Lib.hid (below_chain B1.out hb)
  clear hb hnR
  go_wp2_with (fail)
  refine (mle_Vars _ (m + 1) _ _ (HT.out.below B2.out) (Hp.out.step B2.out) Hn.out (by omega)).mono ?_
  rintro e w' ⟨rfl, rfl⟩
  rw [HM.out]
  go_wp2_with (fail)
  refine (mle_Sum _ (m + 1) _ _ (HT.out.below B2.out) (Hp.out.step B2.out) Hn.out (by omega)).mono ?_
  rintro e w' ⟨rfl, rfl⟩
  go_wp2_with (fail)
  refine (mle_Fix t m _ x _ (HT.out.below B2.out) (Hp.out.step B2.out) hx Hn.out (by omega)).mono ?_
  rintro e w5 ⟨vP, rfl, hnP, hb⟩
  have HP5 := Lib.hid hnP.row
  have HR5 := Lib.hid (HR.out.step hb)
  have B5 := Lib.hid (below_chain B2.out hb)
  clear hb hnP
  go_wp2_with (fail)
  refine (mle_Eval_arg t p (m + 1) _ _ _ (HT.out.below B5.out) (Hp.out.step B5.out) (Hp2.out.step B5.out) Hn.out (by omega) Hq.out).mono ?_
  rintro e w' ⟨rfl, rfl⟩
  go_wp2_with (fail)
  refine (slices_Equal _ _ _ _ HP5.out HR5.out).mono ?_
  rintro e w7 ⟨rfl, hd⟩
  have B7 := Lib.hid (below_chain B5.out hd.below)
  clear hd
  go_wp2
  go_ret
  exact ⟨rfl, B7.out⟩
set_option maxHeartbeats 1000000 in
theorem mleSays_big (w : World) (v : Value) (t : List Int) (hp : RowU w v t) (v2 : Value) (x : Int) (n : Nat) (hn : t.length = 2 ^ n) (h8 : n ≤ 8) (h6 : 6 < n) :
    Calls Tryd.prog 5 #[v, v2, .int .u64 x] w fun e w' => e = .returned (.bool true) ∧ Below w.heap.size w w' := by
  have Hp := Lib.hid hp
  have Hn := Lib.hid hn
  have h6' : (6 : Int) < (n : Int) := by omega
  clear hp hn
  go_enter Tryd.func5, Tryd.ntmps5
  go_wp2_with (fail)
  refine (ref_Vars _ n _ _ Hp.out Hn.out h8).mono ?_
  rintro e w' ⟨rfl, rfl⟩
  go_wp2
  go_ret
  exact ⟨rfl, Below.refl _ _⟩
theorem tab_or' (n : Nat) : NoTab n ∨ ∃ k, k ≤ 8 ∧ n = 2 ^ k := by
  by_cases h : ∃ k, k ≤ 8 ∧ n = 2 ^ k
  · exact .inr h
  · exact .inl fun k hk e => h ⟨k, hk, e⟩
theorem mleSays_walk (w : World) (hT : Tab w) (v : Value) (t : List Int) (hp : RowU w v t) (hv : NilOk v) (v2 : Value) (p : List Int) (hp2 : RowU w v2 p) (x : Int) (hx : U64 x) :
    Calls Tryd.prog 5 #[v, v2, .int .u64 x] w fun e w' => e = .returned (.bool true) ∧ Below w.heap.size w w' := by
  rcases tab_or' t.length with hn | ⟨n, h8, hn⟩
  · exact mleSays_no_no w hT v t hp hv v2 p hp2 x hx hn
  · by_cases h6 : n ≤ 6
    · by_cases h0 : n = 0
      · subst h0
        by_cases hq : p.length = 0
        · exact mleSays_zero_eval w hT v t hp hv v2 p hp2 x hx hn hq
        · exact mleSays_zero_arg w hT v t hp hv v2 p hp2 x hx hn hq
      · obtain ⟨m, rfl⟩ : ∃ m, n = m + 1 := ⟨n - 1, by omega⟩
        by_cases hq : p.length = m + 1
        · exact mleSays_pos_eval w hT v t hp hv v2 p hp2 x hx m hn h6 hq
        · exact mleSays_pos_arg w hT v t hp hv v2 p hp2 x hx m hn h6 hq
    · exact mleSays_big w v t hp v2 x n hn h8 (by omega)
end Go.Proofs.YtaaaoljllpbplaaDoor
