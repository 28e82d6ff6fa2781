/- The walk of the law SumComplete: it returns true, whatever is handed in. The table of bits lies as its initialiser lays it. -/
import Derived.Test.YtaaaoljllpbplaaDoorSumF
namespace Go.Proofs.YtaaaoljllpbplaaDoor
set_option maxRecDepth 100000
set_option linter.unusedVariables false
open Go.RowKit Tally
theorem phi_at0 (t : List Int) : phi (at0 t 0) = atF (t.map phi) 0 := by
  cases t with
  | nil => exact phi_zero
  | cons x t => rfl
theorem left_at (ll : List (List Int)) (ds : List Int) (j : Nat) (hj : j < ll.length) : at0 (leftI (fixesAll ll ds)) j = psi (evalF ((atl ll j).map phi) (ds.map phi)) := by
  have hl : j < (fixesAll ll ds).length := by rw [fixesAll_length]; exact hj
  have e : (tabs (fixesAll ll ds))[j]?.getD [] = (fixed ll ds)[j]?.getD [] := by rw [tabs_fixesAll]
  rw [tabs_at _ j hl] at e
  have e2 : (fixed ll ds)[j]?.getD [] = fixes ((atl ll j).map phi) (ds.map phi) := by simp [fixed, atl, hj]
  rw [e2] at e
  have e3 : at0 (leftI (fixesAll ll ds)) j = psi (phi (at0 (atl (fixesAll ll ds) j) 0)) := by simp [leftI, at0, atl, hl]
  rw [e3, phi_at0, e]; rfl
theorem trueC_zero (ll : List (List Int)) (ds : List Int) (n : Nat) : trueC ll ds n 0 = claimF (tabs ll) (2 ^ n) := by
  unfold trueC; rw [List.take_zero, Nat.sub_zero]; rfl
theorem told_all {ll : List (List Int)} {ds : List Int} {n : Nat} (h : Facts ll n) (hd : ds.length = n) : told (phi (psi (claimF (tabs ll) (2 ^ n)))) (phis (provesI ll ds n)) (ds.map phi) = some (endF ll ds) := by
  unfold told
  rw [phi_psi, List.length_map, provesI_length, ← trueC_zero ll ds n, told_right h hd n (Nat.le_refl _), trueC_end ll ds n hd]
theorem left_length (ll : List (List Int)) (ds : List Int) : (leftI (fixesAll ll ds)).length = ll.length := by simp [leftI, fixesAll_length]
theorem end_take (ll : List (List Int)) (ds : List Int) : prodAt ((fixed ll ds).take ll.length) 0 = endF ll ds := by
  unfold endF; rw [List.take_of_length_le (by simp [fixed])]
theorem left_step (ll : List (List Int)) (ds : List Int) (j : Nat) (hj : j < ll.length) : psi (phi (psi (prodAt ((fixed ll ds).take j) 0)) * phi (psi (evalF ((atl ll j).map phi) (ds.map phi)))) = psi (prodAt ((fixed ll ds).take (j + 1)) 0) := by
  rw [phi_psi, phi_psi, prod_step ll ds j 0 hj]; rfl
set_option maxRecDepth 100000 in
set_option maxHeartbeats 2000000 in
theorem sumComplete_walk (w : World) (hT : Tab w) (v : Value) (ll : List (List Int)) (hp : RowUU w v ll) (hcap : CapOk v) (k : Int) (hk : I64 k) (v2 : Value) (ds : List Int) (hp2 : RowU w v2 ds) :
    Calls Tryd.prog 14 #[v, .int .i64 k, v2] w fun e w' => e = .returned (.bool true) ∧ Below w.heap.size w w' := by
  have HT := Lib.hid hT
  have Hp := Lib.hid hp
  have Hp2 := Lib.hid hp2
  have Hk := Lib.hid hk
  have Hcap := Lib.hid hcap
  clear hT hp hp2 hk hcap
  go_enter Tryd.func14, Tryd.ntmps14
  go_wp2_with (fail)
  refine (keep_two _ HT.out).mono ?_
  rintro e w1 ⟨rfl, hb1⟩
  have B1 := Lib.hid hb1
  clear hb1
  go_wp2_with (fail)
  refine (keep_facts ll _ k _ (Hp.out.below B1.out (Nat.le_refl _)) Hcap.out Hk.out).mono ?_
  rintro e w2 ⟨v2', rfl, hn2, hb2⟩
  obtain ⟨n, hn⟩ : ∃ n, n = (k % 5).toNat := ⟨_, rfl⟩
  rw [← hn] at hn2
  have hn4 : n ≤ 4 := by omega
  clear hn
  obtain ⟨T, hTT⟩ : ∃ T, T = factsI ll n := ⟨_, rfl⟩
  have hf : Facts T n := by rw [hTT]; exact factsI_facts ll n hn4
  rw [← hTT] at hn2
  clear hTT
  have HF := Lib.hid hf
  have hT1 := hf.2.1
  have hT3 := hf.2.2.1
  have HR2 := Lib.hid hn2.rows
  have B2 := Lib.hid (below_chain B1.out hb2)
  clear hn2 hb2 hf
  have hrr := HR2.out
  obtain ⟨_, ad, cap, rfl, hr⟩ := hrr
  obtain ⟨b, off, rfl, hblt, hcell⟩ := hr (by omega)
  have Hcell := Lib.hid hcell
  obtain ⟨u, hu, hru⟩ := hcell 0 (by omega)
  have Hru := Lib.hid hru
  have hu0 : w2.cell? ⟨b, off, none⟩ = some u := hu
  clear hr hcell hru
  have hT0 : (0 : Int) < (T.length : Int) := by omega
  go_wp2_with (fail)
  refine (ref_Vars (atl T 0) n _ _ Hru.out (HF.out.2.2.2 0 (by omega)) (by omega)).mono ?_
  rintro e w' ⟨rfl, rfl⟩
  go_wp2_with (fail)
  refine (keep_point ds _ n _ (Hp2.out.below B2.out (Nat.le_refl _)) (by omega)).mono ?_
  rintro e w3 ⟨rfl, hn3, hb3⟩
  obtain ⟨q, hq⟩ : ∃ q, q = padTo n ds := ⟨_, rfl⟩
  rw [← hq] at hn3
  have Hq := Lib.hid (show q.length = n by rw [hq, padTo_length])
  clear hq
  have Hd3 := Lib.hid hn3.row
  have B3 := Lib.hid (below_chain B2.out hb3)
  have HR3 := Lib.hid (HR2.out.below hb3 (Nat.le_refl _))
  have B23 := Lib.hid hb3
  clear hn3 hb3
  go_wp2_with (fail)
  refine (sum_Claim T n _ _ (HT.out.below B3.out) HR3.out HF.out).mono ?_
  rintro e w' ⟨rfl, rfl⟩
  generalize hC : claimF (tabs T) (2 ^ n) = C at *
  have HC := Lib.hid hC
  clear hC
  go_wp2_with (fail)
  refine (sum_Prove T q n _ _ _ (HT.out.below B3.out) HR3.out Hd3.out HF.out Hq.out).mono ?_
  rintro e w4 ⟨v4, u4, rfl, hn4', hu4, hb4⟩
  have HR4 := Lib.hid hn4'.rows
  have HU4 := Lib.hid hu4.row
  have Hd4 := Lib.hid (Hd3.out.step hb4)
  have B4 := Lib.hid (B3.out.trans (hb4.mono B3.out.size))
  have B24 := Lib.hid (B23.out.trans (hb4.mono B23.out.size))
  clear hn4' hu4 hb4
  go_wp2_with (fail)
  refine (sum_Verify (psi C) (U64.psi _) _ (provesI T q n) _ q _ HR4.out Hd4.out (by rw [provesI_length, Hq.out]) (good_proves HF.out)).mono ?_
  rintro e w5 ⟨rfl, hb5⟩
  rw [← HC.out, told_all HF.out Hq.out]
  have B5 := Lib.hid (below_chain B4.out hb5)
  have B25 := Lib.hid (B24.out.trans (hb5.mono B24.out.size))
  have HU5 := Lib.hid (HU4.out.step hb5)
  have Hd5 := Lib.hid (Hd4.out.step hb5)
  clear hb5
  simp only [toldV, toldB, Option.isSome_some]
  generalize hE : endF T q = E at *
  have HE := Lib.hid hE
  clear hE
  have hll := left_length T q
  have HLa := Lib.hid (fun j => left_at T q j)
  have HLs := Lib.hid (fun j => left_step T q j)
  generalize hL : leftI (fixesAll T q) = L at *
  clear hL
  have HLl := Lib.hid hll
  have hneq : ((L.length : Int) != (T.length : Int)) = false := by rw [hll]; simp
  clear hll
  have hHU := HU5.out
  obtain ⟨hLu, _, adL, capL, rfl, hrL⟩ := hHU
  have HLu := Lib.hid hLu
  have HrL := Lib.hid hrL
  clear hLu hrL
  go_wp2
  go_loopw [17, 76] (fun o i wr => ∃ (j : Nat), j ≤ L.length ∧ i = .int .i64 (j : Int) ∧ o = .int .u64 (psi (prodAt ((fixed T q).take j) 0)) ∧ Hid (Below w5.heap.size w5 wr)) (fun _ i _ => L.length - (intOf i).toNat)
  case atStart => exact ⟨0, by omega, rfl, by rw [List.take_zero]; exact congrArg _ psi_one.symm, Below.refl _ _⟩
  case round =>
    obtain ⟨j, hj, rfl, rfl, HB⟩ := hrel
    by_cases hz : j < L.length
    · have hz2 : j < T.length := by have := HLl.out; omega
      obtain ⟨b1, off1, rfl, hblt1, hcell1⟩ := HrL.out (by omega)
      have d1 := (HB.out.cell (p := ⟨b1, off1 + j, none⟩) hblt1).trans (hcell1 j hz)
      obtain ⟨u, hu, hru⟩ := Hcell.out j hz2
      have B2r := Lib.hid (B25.out.trans (HB.out.mono B25.out.size))
      have Br := Lib.hid (B5.out.trans (HB.out.mono B5.out.size))
      have d2 := (B2r.out.cell (p := ⟨b, off + j, none⟩) hblt).trans hu
      have Hru2 := Lib.hid (hru.below B2r.out (Nat.le_refl _))
      have Hdr := Lib.hid (Hd5.out.step HB.out)
      have HTr := Lib.hid (HT.out.below Br.out)
      have hz3 : (j : Int) < (L.length : Int) := by omega
      have hz4 : (j : Int) < (T.length : Int) := by omega
      rw [HLa.out j hz2] at d1
      have Hs := Lib.hid (HLs.out j hz2)
      clear hcell1 hu hru
      go_wp2_with (fail)
      refine (mle_Eval (atl T j) q _ _ _ HTr.out Hru2.out Hdr.out (by rw [HF.out.2.2.2 j hz2, Hq.out]) (by rw [Hq.out]; omega)).mono ?_
      rintro e w7 ⟨rfl, hb7⟩
      have HB7 := Lib.hid (HB.out.trans (hb7.mono HB.out.size))
      clear hb7
      generalize hV : evalF ((atl T j).map phi) (q.map phi) = V at *
      clear hV
      go_wp2_with (fail)
      refine (field_Mul _ _ _ (U64.psi _) (U64.psi _)).mono ?_
      rintro e w' ⟨rfl, rfl⟩
      rw [Hs.out]
      go_wp2
      go_roundw
      case rel => exact ⟨j + 1, by omega, by go_num, rfl, HB7.out⟩
      case measure => simp [intOf]; omega
    · obtain rfl : j = L.length := by omega
      rw [HLl.out, end_take, HE.out]
      go_wp2
      go_ret
      exact ⟨rfl, B5.out.trans (HB.out.mono B5.out.size)⟩
end Go.Proofs.YtaaaoljllpbplaaDoor
