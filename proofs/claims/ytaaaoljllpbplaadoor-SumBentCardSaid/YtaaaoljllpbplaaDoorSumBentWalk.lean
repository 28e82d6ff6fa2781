/- The walk of the law SumBent: it returns true, whatever is handed in. The table of bits lies as its initialiser lays it. -/
import Derived.Test.YtaaaoljllpbplaaDoorSumBentM
namespace Go.Proofs.YtaaaoljllpbplaaDoor
set_option maxRecDepth 100000
set_option linter.unusedVariables false
open Go.RowKit Tally
set_option maxRecDepth 100000 in
set_option maxHeartbeats 4000000 in
theorem sumBent_walk (w : World) (hT : Tab w) (v : Value) (ll : List (List Int)) (hp : RowUU w v ll) (hcap : CapOk v) (k : Int) (hk : I64 k) (v2 : Value) (ds : List Int) (hp2 : RowU w v2 ds) (i : Int) (hi : I64 i) (y : Int) (hy : U64 y) :
    Calls Tryd.prog 13 #[v, .int .i64 k, v2, .int .i64 i, .int .u64 y] w fun e w' => e = .returned (.bool true) ∧ Below w.heap.size w w' := by
  have HT := Lib.hid hT
  have Hp := Lib.hid hp
  have Hp2 := Lib.hid hp2
  have Hk := Lib.hid hk
  have Hi := Lib.hid hi
  have Hcap := Lib.hid hcap
  clear hT hp hp2 hk hi hcap
  go_enter Tryd.func13, Tryd.ntmps13
  go_wp2_with (fail)
  refine (keep_two _ HT.out).mono ?_
  rintro e w1 ⟨rfl, hb1⟩
  have B1 := Lib.hid hb1
  clear hb1
  go_wp2_with (fail)
  refine (keep_facts ll _ k _ (Hp.out.below B1.out (Nat.le_refl _)) Hcap.out Hk.out).mono ?_
  rintro e w2 ⟨v2', rfl, hn2, hb2⟩
  obtain ⟨n, hn⟩ : ∃ n, n = (k % 5).toNat := ⟨_, rfl⟩
  rw [← hn] at hn2
  have hn4 : n ≤ 4 := by omega
  clear hn
  obtain ⟨T, hTT⟩ : ∃ T, T = factsI ll n := ⟨_, rfl⟩
  have hf : Facts T n := by rw [hTT]; exact factsI_facts ll n hn4
  rw [← hTT] at hn2
  clear hTT
  have HF := Lib.hid hf
  have hT1 := hf.2.1
  have hT3 := hf.2.2.1
  have HR2 := Lib.hid hn2.rows
  have B2 := Lib.hid (below_chain B1.out hb2)
  clear hn2 hb2 hf
  have hrr := HR2.out
  obtain ⟨_, ad, cap, rfl, hr⟩ := hrr
  obtain ⟨b, off, rfl, hblt, hcell⟩ := hr (by omega)
  have Hcell := Lib.hid hcell
  obtain ⟨u, hu, hru⟩ := hcell 0 (by omega)
  have Hru := Lib.hid hru
  have hu0 : w2.cell? ⟨b, off, none⟩ = some u := hu
  clear hr hcell hru
  have hT0 : (0 : Int) < (T.length : Int) := by omega
  go_wp2_with (fail)
  refine (ref_Vars (atl T 0) n _ _ Hru.out (HF.out.2.2.2 0 (by omega)) (by omega)).mono ?_
  rintro e w' ⟨rfl, rfl⟩
  go_wp2_with (fail)
  refine (keep_point ds _ n _ (Hp2.out.below B2.out (Nat.le_refl _)) (by omega)).mono ?_
  rintro e w3 ⟨rfl, hn3, hb3⟩
  obtain ⟨q, hq⟩ : ∃ q, q = padTo n ds := ⟨_, rfl⟩
  rw [← hq] at hn3
  have Hq := Lib.hid (show q.length = n by rw [hq, padTo_length])
  clear hq
  have Hd3 := Lib.hid hn3.row
  have B3 := Lib.hid (below_chain B2.out hb3)
  have HR3 := Lib.hid (HR2.out.below hb3 (Nat.le_refl _))
  have B23 := Lib.hid hb3
  clear hn3 hb3
  go_wp2_with (fail)
  refine (sum_Claim T n _ _ (HT.out.below B3.out) HR3.out HF.out).mono ?_
  rintro e w' ⟨rfl, rfl⟩
  generalize hC : psi (claimF (tabs T) (2 ^ n)) = C at *
  have HC := Lib.hid hC
  have huC : U64 C := by rw [← hC]; exact U64.psi _
  clear hC
  go_wp2_with (fail)
  refine (sum_ProveD T q n _ _ _ (HT.out.below B3.out) HR3.out Hd3.out HF.out Hq.out).mono ?_
  rintro e w4 ⟨v4, u4, rfl, hn4', hu4, hb4⟩
  have Hd4 := Lib.hid (Hd3.out.step hb4)
  have B34 := Lib.hid hb4
  have B4 := Lib.hid (B3.out.trans (hb4.mono B3.out.size))
  have hB3 := B3.out.size
  clear hu4 hb4
  have HG := Lib.hid (good_proves (ds := q) HF.out)
  have HPl := Lib.hid (provesI_length T q n)
  have HRl := Lib.hid (round_len (ds := q) HF.out)
  have HTo := Lib.hid (told_bent HF.out Hq.out)
  rw [HC.out] at HTo
  generalize hP : provesI T q n = P at *
  clear hP
  have HN := Lib.hid hn4'
  obtain ⟨a4, c4, e4⟩ := hn4'.toUU.isSlice
  subst e4
  clear hn4'
  have hPn : ((P.length : Int) != (n : Int)) = false := by rw [HPl.out]; simp
  by_cases hn0 : n = 0
  · have hn0' : ((n : Int) == 0) = true := by rw [hn0]; rfl
    go_wp2
    go_ret
    exact ⟨rfl, B4.out⟩
  have hn0' : ((n : Int) == 0) = false := by simp; omega
  go_wp2_with (fail)
  refine (field_Norm y _ hy).mono ?_
  rintro e w' ⟨rfl, rfl⟩
  by_cases hy0 : phi y = 0
  · have hyb : (psi (phi y) == 0) = true := by rw [hy0]; rfl
    go_wp2
    go_ret
    exact ⟨rfl, B4.out⟩
  have hyb : (psi (phi y) == 0) = false := by
    have := psi_neb hy0
    rwa [psi_zero] at this
  have Hy0 := Lib.hid hy0
  clear hy0
  generalize hPY : psi (phi y) = PY at *
  clear hPY
  go_wp2_with (fail)
  refine (ref_Rest i (2 * (n : Int)) _ Hi.out (by omega) (by omega)).mono ?_
  rintro e w' ⟨rfl, rfl⟩
  obtain ⟨r, hr⟩ : ∃ r : Nat, i % (2 * (n : Int)) = (r : Int) := ⟨(i % (2 * (n : Int))).toNat, by have := Int.emod_nonneg i (show (2 * (n : Int)) ≠ 0 by omega); omega⟩
  have hr2 : (r : Int) < 2 * (n : Int) := by rw [← hr]; exact Int.emod_lt_of_pos i (by omega)
  rw [hr]
  clear hr
  obtain ⟨j, hj⟩ : ∃ j, j = r / 2 := ⟨_, rfl⟩
  obtain ⟨b2, hb2⟩ : ∃ b2, b2 = r % 2 := ⟨_, rfl⟩
  have s1 : (r : Int).tdiv 2 = (j : Int) := by rw [Int.tdiv_eq_ediv_of_nonneg (by omega)]; omega
  have s2 : (r : Int).tmod 2 = (b2 : Int) := by rw [Int.tmod_eq_emod_of_nonneg (by omega)]; omega
  have s3 : IntKind.i64.wrap (j : Int) = (j : Int) := IntWalk.i64_in _ (by omega)
  have hjn : j < n := by omega
  have hb22 : b2 < 2 := by omega
  clear hj hb2
  have hjP : j < P.length := by rw [HPl.out]; exact hjn
  have hLl := HRl.out j hjn
  obtain ⟨a, c0, g, cg, ea, hca, hng, hBg, hbend⟩ := HN.out.bend j hjP (by omega)
  cases ea
  have Hbend := Lib.hid (hbend b2)
  have HLl := Lib.hid hLl
  have hbL : (b2 : Int) < ((atl P j).length : Int) := by omega
  have hb0 : (0 : Int) ≤ (b2 : Int) := by omega
  have hj0 : (0 : Int) ≤ (j : Int) := by omega
  have hjP' : (j : Int) < (P.length : Int) := by omega
  have ho := hng.cellAt b2 (by omega)
  have hfz := hng.freeAt b2
  have huo : U64 (at0 (atl P j) b2) := hng.1 _ (at0_mem (by omega))
  have HTj := Lib.hid (HTo.out j b2 hjn hb22 (phi y) Hy0.out)
  have HGj := Lib.hid (good_bent (b := b2) (x := psi (phi (at0 (atl P j) b2) + phi y)) hjP HG.out)
  clear hbend hng hLl hn0 hn0' hyb
  generalize hO : at0 (atl P j) b2 = O at *
  have HO := Lib.hid hO
  clear hO
  generalize hL : atl P j = L at *
  have HL := Lib.hid hL
  clear hL
  go_wp2
  refine wp_region_still_tail 19 (by kernel_rfl) (by kernel_rfl) ?_
  simp only [List.take_succ_cons, List.take_zero, List.drop_succ_cons, List.drop_zero]
  repeat (first | still_step | still_call (still_of (field_Add _ _ _ huo hy)))
  try refine wpStill_nil ?_
  change wpList _ _ _ _ _ (World.drew _)
  have B35 := Lib.hid (show Below w3.heap.size w3 (w4.setCell ⟨g, b2, none⟩ (.int .u64 (psi (phi O + phi y)))).drew from below_drewN (B34.out.setCell (by exact hBg) _) 1)
  have HV := Lib.hid ((Hbend.out (psi (phi O + phi y)) (U64.psi _)).below (below_dr _) (Nat.le_refl _))
  have Hd5 := Lib.hid (Hd3.out.step B35.out)
  have B5 := Lib.hid (B3.out.trans (B35.out.mono B3.out.size))
  go_wp2_with (fail)
  refine (sum_Verify C huC _ (P.set j (L.set b2 (psi (phi O + phi y)))) _ q _ HV.out Hd5.out (by rw [List.length_set, HPl.out, Hq.out]) HGj.out).mono ?_
  rintro e w5 ⟨rfl, hb5⟩
  rw [HTj.out]
  simp only [toldV, toldB, Option.isSome_none]
  have B6 := Lib.hid (below_chain B5.out hb5)
  clear hb5
  go_wp2
  go_ret
  exact ⟨rfl, B6.out⟩
end Go.Proofs.YtaaaoljllpbplaaDoor
