/- The walk of the law MleEqs: it returns true, whatever is handed in. The table of bits lies as its initialiser lays it. -/
import Derived.Test.YtaaaoljllpbplaaDoorKeepM
namespace Go.Proofs.YtaaaoljllpbplaaDoor
set_option maxRecDepth 100000
open Go.RowKit Tally
theorem eqs10 : (eqs ([1, 0].map phi)).map psi = [0, 0, 1, 0] := by decide +kernel
theorem eq_10 (v : Value) (w : World) (hp : RowU w v [1, 0]) : Calls Tryd.prog 31 #[v] w fun e w' => ∃ v', e = .returned (.tuple #[v', .int .i64 0]) ∧ NewU w.heap.size w' v' [0, 0, 1, 0] ∧ Below w.heap.size w w' := by
  have := mle_Eq [1, 0] v w hp (by simp)
  rwa [eqs10] at this
/-- where the two sums stand -/
def ESum (l t : List Int) (k : Nat) (c d : Int) : Prop := c = psi (sumTo (atF (l.map phi)) k) ∧ d = psi (sumTo (fun j => atF (l.map phi) j * atF (t.map phi) j) k)
theorem esum_step {l t : List Int} {k : Nat} {c d : Int} (h1 : k < l.length) (h2 : k < t.length) (h : ESum l t k c d) :
    ESum l t (k + 1) (psi (phi c + phi (at0 l k))) (psi (phi d + phi (psi (phi (at0 l k) * phi (at0 t k))))) := by
  obtain ⟨rfl, rfl⟩ := h
  refine ⟨?_, ?_⟩
  · rw [phi_psi, sumTo, atF_map l k h1]
  · rw [phi_psi, phi_psi, sumTo, atF_map l k h1, atF_map t k h2]
theorem esum_end {q t l : List Int} {c d : Int} (hl : l = (eqs (q.map phi)).map psi) (ht : t.length = 2 ^ q.length) (h : ESum l t l.length c d) : c = 1 ∧ d = psi (evalF (t.map phi) (q.map phi)) := by
  subst hl
  obtain ⟨rfl, rfl⟩ := h
  rw [mapphi_psi, List.length_map, eqs_length, List.length_map]
  have e : ∀ k, k < 2 ^ q.length → atF (eqs (q.map phi)) k = eqAt (q.map phi) k := by
    intro k hk; unfold atF; rw [eqs_get _ k (by simpa using hk)]; rfl
  refine ⟨?_, ?_⟩
  · rw [sumTo_congr e, show 2 ^ q.length = 2 ^ (q.map phi).length by simp, sum_eqs]; exact psi_one
  · rw [eval_dot _ _ (by simpa using ht)]
    unfold dotEq
    rw [List.length_map, ht]
    congr 1
    refine sumTo_congr fun k hk => ?_
    rw [e k hk]; grind
set_option maxHeartbeats 2000000 in
theorem mleEqs_walk (w : World) (hT : Tab w) (v : Value) (a : List Int) (hp : RowU w v a) (v2 : Value) (p : List Int) (hp2 : RowU w v2 p) (k : Int) (hk : I64 k) (b : Int) (hb : I64 b) :
    Calls Tryd.prog 4 #[v, v2, .int .i64 k, .int .i64 b] w fun e w' => e = .returned (.bool true) ∧ Below w.heap.size w w' := by
  have HT := Lib.hid hT
  have Hp := Lib.hid hp
  have Hp2 := Lib.hid hp2
  have Hk := Lib.hid hk
  clear hT hp hp2 hk hb
  go_enter Tryd.func4, Tryd.ntmps4
  go_wp2_with (fail)
  refine (eq_10 _ _ (row2 w w.heap.size 1 0 U64.one U64.zero rfl)).mono ?_
  rintro e w1 ⟨v1, rfl, hn1, hb1⟩
  have Hn1 := Lib.hid hn1.row
  have Hb1 := Lib.hid (below_chain (below_alloc w _) hb1)
  clear hn1 hb1
  go_wp2_with (fail)
  refine (slices_Equal [0, 0, 1, 0] _ _ _ (Hn1.out.more _) (row4 w1 w1.heap.size 0 0 1 0 U64.zero U64.zero U64.one U64.zero rfl)).mono ?_
  rintro e w2 ⟨rfl, hd2⟩
  have Hb2 := Lib.hid (below_chain (below_chain Hb1.out (below_alloc w1 _)) hd2.below)
  clear hd2
  go_wp2_with (fail)
  refine (keep_table _ _ _ _ (Hp.out.step Hb2.out) Hk.out).mono ?_
  rintro e w3 ⟨rfl, hn3, hb3⟩
  obtain ⟨n, hn⟩ : ∃ n, n = (k % 5).toNat := ⟨_, rfl⟩
  rw [← hn] at hn3 ⊢
  have hn8 : n ≤ 8 := by omega
  clear hn
  obtain ⟨t, ht⟩ : ∃ t, t = padTo (2 ^ n) a := ⟨_, rfl⟩
  rw [← ht] at hn3
  have Ht := Lib.hid (show t.length = 2 ^ n by rw [ht, padTo_length])
  clear ht
  have Hn3 := Lib.hid hn3.row
  have Hb3 := Lib.hid (below_chain Hb2.out hb3)
  clear hn3 hb3
  obtain ⟨g1, g2⟩ := pow_le8 hn8
  generalize hN : 2 ^ n = N at *
  have HN := Lib.hid hN
  clear hN
  go_wp2_with (fail)
  refine (ref_Vars t n _ _ Hn3.out (by rw [Ht.out, HN.out]) hn8).mono ?_
  rintro e w' ⟨rfl, rfl⟩
  go_wp2_with (fail)
  refine (keep_point _ _ n _ (Hp2.out.step Hb3.out) (by omega)).mono ?_
  rintro e w4 ⟨rfl, hn4, hb4⟩
  obtain ⟨q, hq⟩ : ∃ q, q = padTo n p := ⟨_, rfl⟩
  rw [← hq] at hn4
  have Hq := Lib.hid (show q.length = n by rw [hq, padTo_length])
  clear hq
  have Hn4 := Lib.hid hn4.row
  have Hb4 := Lib.hid (below_chain Hb3.out hb4)
  have Ht4 := Lib.hid (Hn3.out.step hb4)
  clear hn4 hb4
  go_wp2_with (fail)
  refine (mle_Eq q _ _ Hn4.out (by rw [Hq.out]; exact hn8)).mono ?_
  rintro e w5 ⟨v5, rfl, hn5, hb5⟩
  obtain ⟨l, hl⟩ : ∃ l, l = (eqs (q.map phi)).map psi := ⟨_, rfl⟩
  rw [← hl] at hn5
  have hll : l.length = N := by rw [hl, List.length_map, eqs_length, List.length_map, Hq.out, HN.out]
  have Hl := Lib.hid hl
  clear hl
  have hrow := hn5.row
  have Hb5 := Lib.hid (below_chain Hb4.out hb5)
  have Ht5 := Lib.hid (Ht4.out.step hb5)
  have Hq5 := Lib.hid (Hn4.out.step hb5)
  clear hn5 hb5
  obtain ⟨hlu, hl2, ad, cap, rfl, hr⟩ := hrow
  have Hlu := Lib.hid hlu
  have Hr := Lib.hid hr
  clear hlu hr
  obtain ⟨htN, htlt, htr⟩ := Ht5.out.known
  have Ht1 := Lib.hid Ht5.out.1
  have Htr := Lib.hid htr
  subst htN
  clear htr
  have Hll := Lib.hid hll
  have hneq : ((l.length : Int) != (t.length : Int)) = false := by simp [hll]
  clear hll
  go_wp2
  go_loopw [15, 16, 55] (fun o d i wr => ∃ (j : Nat) (c1 c2 : Int), j ≤ l.length ∧ i = .int .i64 (j : Int) ∧ o = .int .u64 c1 ∧ d = .int .u64 c2 ∧ U64 c1 ∧ U64 c2 ∧ Hid (ESum l t j c1 c2) ∧ Hid (Drawn w5 wr)) (fun _ _ i _ => l.length - (intOf i).toNat)
  case atStart => exact ⟨0, 0, 0, by omega, rfl, rfl, rfl, U64.zero, U64.zero, ⟨psi_zero.symm, psi_zero.symm⟩, Drawn.refl _⟩
  case round =>
    obtain ⟨j, c1, c2, hj, rfl, rfl, rfl, uc1, uc2, HE, HD⟩ := hrel
    by_cases hz : j < l.length
    · have hz2 : j < t.length := by have := Hll.out; omega
      obtain ⟨b1, off, rfl, hblt, hcell⟩ := Hr.out (by omega)
      have hblt2 := htlt (by omega)
      have d1 := (HD.out.below.cell (p := ⟨b1, off + j, none⟩) hblt).trans (hcell j hz)
      have d2 := (HD.out.below.cell (p := ⟨w2.heap.size, j, none⟩) hblt2).trans (Htr.out j hz2)
      have hu1 := Hlu.out _ (at0_mem hz)
      have hu2 := Ht1.out _ (at0_mem hz2)
      have hz3 : (j : Int) < (l.length : Int) := by omega
      have hz4 : (j : Int) < (t.length : Int) := by omega
      clear hcell
      go_wp2_with (first | (go_at_call 28; (with_reducible refine (field_Add _ _ _ (by first | assumption | exact U64.psi _ | exact U64.zero | exact U64.one | exact U64.mk (by decide) (by decide)) (by first | assumption | exact U64.psi _ | exact U64.zero | exact U64.one | exact U64.mk (by decide) (by decide))).mono ?_); rintro e w' ⟨rfl, rfl⟩))
      go_quiet (first | (go_at_call 29; exact flip (field_Mul _ _ _ hu1 hu2)) | (go_at_call 28; exact flip (field_Add _ _ _ uc2 (U64.psi _))))
      go_wp2
      go_roundw
      case rel => exact ⟨j + 1, _, _, by omega, by go_num, rfl, rfl, U64.psi _, U64.psi _, esum_step hz hz2 HE.out, HD.out.more _⟩
      case measure => simp [intOf]; omega
    · obtain rfl : j = l.length := by omega
      obtain ⟨e1, e2⟩ := esum_end Hl.out (by rw [← Hll.out, Hq.out, HN.out]; exact Hll.out) HE.out
      have He2 := Lib.hid e2
      clear e2
      subst e1
      have HT6 := Lib.hid (HT.out.below (Hb5.out.trans (HD.out.below.mono Hb5.out.size)))
      have Hb6 := Lib.hid (Hb5.out.trans (HD.out.below.mono Hb5.out.size))
      have Ht6 := Lib.hid (Ht5.out.step HD.out.below)
      have Hq6 := Lib.hid (Hq5.out.step HD.out.below)
      go_wp2_with (fail)
      refine (mle_Eval t q _ _ _ HT6.out Ht6.out Hq6.out (by rw [Hq.out, HN.out]) (by rw [Hq.out]; exact hn8)).mono ?_
      rintro e w7 ⟨rfl, hb7⟩
      rw [← He2.out]
      go_wp2
      go_ret
      exact ⟨rfl, below_chain Hb6.out hb7⟩
end Go.Proofs.YtaaaoljllpbplaaDoor
