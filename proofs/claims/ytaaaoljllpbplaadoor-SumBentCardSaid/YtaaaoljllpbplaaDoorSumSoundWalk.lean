/- The walk of the law SumSound: it returns true, whatever is handed in. The table of bits lies as its initialiser lays it. -/
import Derived.Test.YtaaaoljllpbplaaDoorSumCompleteWalk
namespace Go.Proofs.YtaaaoljllpbplaaDoor
set_option maxRecDepth 100000
set_option linter.unusedVariables false
open Go.RowKit Tally
/-- what holds of one round, if all fits -/
theorem toldTo_succ {c y : F} {R : List (List F)} {D : List F} {k : Nat} (h : toldTo c R D (k + 1) = some y) :
    ∃ x, toldTo c R D k = some x ∧ atF (R[k]?.getD []) 0 + atF (R[k]?.getD []) 1 = x ∧ y = lag (R[k]?.getD []) (atF D k) := by
  simp only [toldTo] at h
  cases e : toldTo c R D k with
  | none => rw [e] at h; simp at h
  | some x =>
    rw [e] at h
    simp only [] at h
    split at h
    · rename_i h2
      exact ⟨x, rfl, h2, (Option.some.inj h).symm⟩
    · cases h
/-- a wrong claim that ends right: some round is wrong, and right at its draw -/
theorem wrong_round {T : List (List Int)} {d : List Int} {n : Nat} {R : List (List Int)} {c : F} (hf : Facts T n) (hd : d.length = n) (hR : R.length = n) (hg : good R) (h0 : c ≠ trueC T d n 0) :
    ∀ (k : Nat) (y : F), k ≤ n → toldTo c (phis R) (d.map phi) k = some y → y = trueC T d n k →
      ∃ i x : Nat, i < n ∧ x < 2 ∧ lag ((atl R i).map phi) (phi x) ≠ lag ((atl (provesI T d n) i).map phi) (phi x) ∧ lag ((atl R i).map phi) (phi (at0 d i)) = lag ((atl (provesI T d n) i).map phi) (phi (at0 d i))
  | 0, y, _, h, e => by
    exfalso
    have h' : some c = some y := h
    exact h0 ((Option.some.inj h').trans e)
  | k + 1, y, hk, h, e => by
    obtain ⟨x, hx, hs, hy⟩ := toldTo_succ h
    rw [phis_at R k (by omega)] at hs hy
    rw [atF_map d k (by omega)] at hy
    by_cases hxe : x = trueC T d n k
    · exact wrong_round hf hd hR hg h0 k x (by omega) hx hxe
    · obtain ⟨g1, g2, g3⟩ := hg k (by omega)
      have hl : lag ((atl R k).map phi) (phi (at0 d k)) = lag ((atl (provesI T d n) k).map phi) (phi (at0 d k)) := by
        rw [← hy, e, trueC_draw hf hd k (by omega)]
      have hP := trueC_sum hf hd k (by omega)
      have e0 : lag ((atl R k).map phi) 0 = atF ((atl R k).map phi) 0 := lag_zero _ (by rw [List.length_map]; omega) (by rw [List.length_map]; omega)
      have e1 : lag ((atl R k).map phi) 1 = atF ((atl R k).map phi) 1 := lag_one _ (by rw [List.length_map]; omega) (by rw [List.length_map]; omega)
      by_cases q0 : lag ((atl R k).map phi) 0 = lag ((atl (provesI T d n) k).map phi) 0
      · refine ⟨k, 1, by omega, by omega, fun q1 => hxe ?_, hl⟩
        have q1' : lag ((atl R k).map phi) 1 = lag ((atl (provesI T d n) k).map phi) 1 := q1
        rw [← hs, ← e0, ← e1, q0, q1', hP]
      · exact ⟨k, 0, by omega, by omega, fun q => q0 q, hl⟩
theorem psi_eqb {a b : F} (h : a = b) : (psi a == psi b) = true := by rw [h]; simp
theorem psi_neb {a b : F} (h : ¬ a = b) : (psi a == psi b) = false := by rw [beq_eq_false_iff_ne]; exact fun e => h (psi_inj e)
theorem psi_nbe {a b : F} (h : a = b) : (psi a != psi b) = false := by rw [h]; simp
theorem formE_ne {ll : List (List Int)} {ds : List Int} (h : ¬ (ll.length = ds.length ∧ good ll)) : (formE ll ds != 0) = true := by
  by_cases h1 : ll.length = ds.length
  · by_cases h2 : good ll
    · exact absurd ⟨h1, h2⟩ h
    · rw [formE_bad h1 h2]; rfl
  · rw [formE_arg h1]; rfl
set_option maxRecDepth 100000 in
set_option maxHeartbeats 4000000 in
theorem sumSound_walk (w : World) (hT : Tab w) (v : Value) (ll : List (List Int)) (hp : RowUU w v ll) (hcap : CapOk v) (k : Int) (hk : I64 k) (c : Int) (hc : U64 c) (v3 : Value) (R : List (List Int)) (hp3 : RowUU w v3 R) (v2 : Value) (ds : List Int) (hp2 : RowU w v2 ds) :
    Calls Tryd.prog 15 #[v, .int .i64 k, .int .u64 c, v3, v2] w fun e w' => e = .returned (.bool true) ∧ Below w.heap.size w w' := by
  have HT := Lib.hid hT
  have Hp := Lib.hid hp
  have Hp2 := Lib.hid hp2
  have Hp3 := Lib.hid hp3
  have Hk := Lib.hid hk
  have Hcap := Lib.hid hcap
  obtain ⟨hR63, adR, capR, rfl, hrR⟩ := hp3
  have HrR := Lib.hid hrR
  clear hT hp hp2 hk hcap hrR
  go_enter Tryd.func15, Tryd.ntmps15
  go_wp2_with (fail)
  refine (keep_two _ HT.out).mono ?_
  rintro e w1 ⟨rfl, hb1⟩
  have B1 := Lib.hid hb1
  clear hb1
  go_wp2_with (fail)
  refine (keep_facts ll _ k _ (Hp.out.below B1.out (Nat.le_refl _)) Hcap.out Hk.out).mono ?_
  rintro e w2 ⟨v2', rfl, hn2, hb2⟩
  obtain ⟨n, hn⟩ : ∃ n, n = (k % 5).toNat := ⟨_, rfl⟩
  rw [← hn] at hn2
  have hn4 : n ≤ 4 := by omega
  clear hn
  obtain ⟨T, hTT⟩ : ∃ T, T = factsI ll n := ⟨_, rfl⟩
  have hf : Facts T n := by rw [hTT]; exact factsI_facts ll n hn4
  rw [← hTT] at hn2
  clear hTT
  have HF := Lib.hid hf
  have hT1 := hf.2.1
  have hT3 := hf.2.2.1
  have HR2 := Lib.hid hn2.rows
  have B2 := Lib.hid (below_chain B1.out hb2)
  clear hn2 hb2 hf
  have hrr := HR2.out
  obtain ⟨_, ad, cap, rfl, hr⟩ := hrr
  obtain ⟨b, off, rfl, hblt, hcell⟩ := hr (by omega)
  have Hcell := Lib.hid hcell
  obtain ⟨u, hu, hru⟩ := hcell 0 (by omega)
  have Hru := Lib.hid hru
  have hu0 : w2.cell? ⟨b, off, none⟩ = some u := hu
  clear hr hcell hru
  have hT0 : (0 : Int) < (T.length : Int) := by omega
  go_wp2_with (fail)
  refine (ref_Vars (atl T 0) n _ _ Hru.out (HF.out.2.2.2 0 (by omega)) (by omega)).mono ?_
  rintro e w' ⟨rfl, rfl⟩
  go_wp2_with (fail)
  refine (keep_point ds _ n _ (Hp2.out.below B2.out (Nat.le_refl _)) (by omega)).mono ?_
  rintro e w3 ⟨rfl, hn3, hb3⟩
  obtain ⟨q, hq⟩ : ∃ q, q = padTo n ds := ⟨_, rfl⟩
  rw [← hq] at hn3
  have Hq := Lib.hid (show q.length = n by rw [hq, padTo_length])
  clear hq
  have Hd3 := Lib.hid hn3.row
  have B3 := Lib.hid (below_chain B2.out hb3)
  have HR3 := Lib.hid (HR2.out.below hb3 (Nat.le_refl _))
  have B23 := Lib.hid hb3
  have HV3 := Lib.hid (Hp3.out.below B3.out (Nat.le_refl _))
  clear hn3 hb3
  by_cases h8 : 8 < R.length
  · have h8i : (8 : Int) < (R.length : Int) := by omega
    go_wp2
    go_ret
    exact ⟨rfl, B3.out⟩
  have h8i : ¬ (8 : Int) < (R.length : Int) := by omega
  by_cases hgood : R.length = q.length ∧ good R
  · obtain ⟨hlen, hg⟩ := hgood
    have Hg := Lib.hid hg
    have HRn := Lib.hid (show R.length = n by rw [hlen, Hq.out])
    have Hlen := Lib.hid hlen
    clear hg hlen
    go_wp2_with (fail)
    refine (sum_Verify c hc _ R _ q _ HV3.out Hd3.out Hlen.out Hg.out).mono ?_
    rintro e w4 ⟨rfl, hb4⟩
    have B4 := Lib.hid (below_chain B3.out hb4)
    have B24 := Lib.hid (B23.out.trans (hb4.mono B23.out.size))
    have HR4 := Lib.hid (HR3.out.below hb4 (Nat.le_refl _))
    have Hd4 := Lib.hid (Hd3.out.step hb4)
    clear hb4
    cases ht : told (phi c) (phis R) (q.map phi) with
    | none =>
      clear ht
      simp only [toldV, toldB, Option.isSome_none]
      go_wp2_with (fail)
      refine (sum_Claim T n _ _ (HT.out.below B4.out) HR4.out HF.out).mono ?_
      rintro e w' ⟨rfl, rfl⟩
      go_wp2
      go_ret
      exact ⟨rfl, B4.out⟩
    | some y =>
      have Htold := Lib.hid ht
      clear ht
      simp only [toldV, toldB, Option.isSome_some]
      go_wp2_with (fail)
      refine (sum_Claim T n _ _ (HT.out.below B4.out) HR4.out HF.out).mono ?_
      rintro e w' ⟨rfl, rfl⟩
      go_wp2_with (fail)
      refine (field_Norm c _ hc).mono ?_
      rintro e w' ⟨rfl, rfl⟩
      by_cases hcc : claimF (tabs T) (2 ^ n) = phi c
      · have hcb := psi_eqb hcc
        clear hcc
        go_wp2
        go_ret
        exact ⟨rfl, B4.out⟩
      · have hcb := psi_neb hcc
        have Hne := Lib.hid (show phi c ≠ trueC T q n 0 from fun e => hcc (by rw [← trueC_zero T q n, ← e]))
        clear hcc
        generalize hC : psi (claimF (tabs T) (2 ^ n)) = C at *
        clear hC
        generalize hPC : psi (phi c) = PC at *
        clear hPC
        have HLs := Lib.hid (fun j => left_step T q j)
        go_wp2
        go_loopw [19, 79] (fun o i wr => ∃ (j : Nat), j ≤ T.length ∧ i = .int .i64 (j : Int) ∧ o = .int .u64 (psi (prodAt ((fixed T q).take j) 0)) ∧ Hid (Below w4.heap.size w4 wr)) (fun _ i _ => T.length - (intOf i).toNat)
        case atStart => exact ⟨0, by omega, rfl, by rw [List.take_zero]; exact congrArg _ psi_one.symm, Below.refl _ _⟩
        case round =>
          obtain ⟨j, hj, rfl, rfl, HB⟩ := hrel
          have B2r := Lib.hid (B24.out.trans (HB.out.mono B24.out.size))
          have Br := Lib.hid (B4.out.trans (HB.out.mono B4.out.size))
          have Hdr := Lib.hid (Hd4.out.step HB.out)
          have HTr := Lib.hid (HT.out.below Br.out)
          by_cases hz : j < T.length
          · obtain ⟨u, hu, hru⟩ := Hcell.out j hz
            have d2 := (B2r.out.cell (p := ⟨b, off + j, none⟩) hblt).trans hu
            have Hru2 := Lib.hid (hru.below B2r.out (Nat.le_refl _))
            have hz4 : (j : Int) < (T.length : Int) := by omega
            have Hs := Lib.hid (HLs.out j hz)
            clear hu hru
            go_wp2_with (fail)
            refine (mle_Eval (atl T j) q _ _ _ HTr.out Hru2.out Hdr.out (by rw [HF.out.2.2.2 j hz, Hq.out]) (by rw [Hq.out]; omega)).mono ?_
            rintro e w7 ⟨rfl, hb7⟩
            have HB7 := Lib.hid (HB.out.trans (hb7.mono HB.out.size))
            clear hb7
            generalize hV : evalF ((atl T j).map phi) (q.map phi) = V at *
            clear hV
            go_wp2_with (fail)
            refine (field_Mul _ _ _ (U64.psi _) (U64.psi _)).mono ?_
            rintro e w' ⟨rfl, rfl⟩
            rw [Hs.out]
            go_wp2
            go_roundw
            case rel => exact ⟨j + 1, by omega, by go_num, rfl, HB7.out⟩
            case measure => simp [intOf]; omega
          · obtain rfl : j = T.length := by omega
            rw [end_take]
            by_cases hend : endF T q = y
            · have hcb2 := psi_nbe hend
              obtain ⟨i0, x0, hi0, hx0, hw1, hw2⟩ := wrong_round HF.out Hq.out HRn.out Hg.out Hne.out n y (Nat.le_refl _) (by have := Htold.out; unfold told at this; rwa [List.length_map, HRn.out] at this) (by rw [trueC_end T q n Hq.out, hend])
              have Hw1 := Lib.hid hw1
              have Hw2 := Lib.hid hw2
              clear hend hw1 hw2
              generalize hEE : psi (endF T q) = EE at *
              clear hEE
              generalize hYY : psi y = YY at *
              clear hYY
              have HRr := Lib.hid (HR2.out.below B2r.out (Nat.le_refl _))
              go_wp2_with (fail)
              refine (sum_Prove T q n _ _ _ HTr.out HRr.out Hdr.out HF.out Hq.out).mono ?_
              rintro e w5 ⟨v4, u4, rfl, hn4', hu4, hb5⟩
              have B5 := Lib.hid (below_chain Br.out hb5)
              have Hd5 := Lib.hid (Hdr.out.step hb5)
              have HP := hn4'.rows
              have hPl := round_len (ds := q) HF.out
              have HPL := Lib.hid (provesI_length T q n)
              generalize hP : provesI T q n = P at *
              clear hP
              have HPl := Lib.hid hPl
              obtain ⟨_, adP, capP, rfl, hrP⟩ := HP
              have HrP := Lib.hid hrP
              have Hqu := Lib.hid Hd5.out
              obtain ⟨hqN, hqlt, hqr⟩ := Hd5.out.known
              have Hq1 := Lib.hid Hd5.out.1
              have Hqr := Lib.hid hqr
              clear hn4' hu4 hb5 hPl hrP hqr
              go_wp2
              go_loopw [105] (fun i wr2 => ∃ (j : Nat), j ≤ i0 ∧ i = .int .i64 (j : Int) ∧ Hid (Below w5.heap.size w5 wr2)) (fun i _ => R.length - (intOf i).toNat)
              case atStart => exact ⟨0, by omega, rfl, Below.refl _ _⟩
              case round =>
                rename_i wq
                obtain ⟨j, hj, rfl, HB2⟩ := hrel
                have hjR : j < R.length := by have := HRn.out; omega
                have hjP : j < P.length := by have := HPL.out; omega
                have hjq : j < q.length := by have := Hq.out; omega
                have hjR' : (j : Int) < (R.length : Int) := by omega
                have hjP' : (j : Int) < (P.length : Int) := by omega
                have hjn' : (j : Int) < (n : Int) := by omega
                obtain ⟨g1, g2, _⟩ := Hg.out j hjR
                have hPj := HPl.out j (by omega)
                have Hl1 := Lib.hid (show 1 ≤ (atl R j).length ∧ (atl R j).length ≤ 8 from ⟨by omega, g2⟩)
                have Hl2 := Lib.hid (show 1 ≤ (atl P j).length ∧ (atl P j).length ≤ 8 by rw [hPj]; omega)
                clear g1 g2 hPj
                obtain ⟨bR, offR, rfl, hbR, hcR⟩ := HrR.out (by omega)
                obtain ⟨bP, offP, rfl, hbP, hcP⟩ := HrP.out (by omega)
                obtain ⟨uR, huR, hruR⟩ := hcR j hjR
                obtain ⟨uP, huP, hruP⟩ := hcP j hjP
                have HcR := Lib.hid (show ∀ w', Below w5.heap.size w5 w' → w'.cell? ⟨bR, offR + j, none⟩ = some uR ∧ RowU w' uR (atl R j) from fun w' hw' => by
                  have hx := B5.out.trans (hw'.mono B5.out.size)
                  exact ⟨(hx.cell (p := ⟨bR, offR + j, none⟩) hbR).trans huR, hruR.below hx (Nat.le_refl _)⟩)
                have HcP := Lib.hid (show ∀ w', Below w5.heap.size w5 w' → w'.cell? ⟨bP, offP + j, none⟩ = some uP ∧ RowU w' uP (atl P j) from fun w' hw' => ⟨(hw'.cell (p := ⟨bP, offP + j, none⟩) hbP).trans huP, hruP.below hw' (Nat.le_refl _)⟩)
                have hqj := Hqr.out j hjq
                have Hcq := Lib.hid (show ∀ w', Below w5.heap.size w5 w' → w'.cell? ⟨w2.heap.size, j, none⟩ = some (.int .u64 (at0 q j)) from fun w' hw' => (hw'.cell (p := ⟨w2.heap.size, j, none⟩) (hqlt (by omega))).trans hqj)
                have huq := Hq1.out _ (at0_mem hjq)
                clear hcR hcP huR huP hruR hruP hqj
                generalize hQJ : at0 q j = qj at *
                have HQJ := Lib.hid hQJ
                clear hQJ
                go_wp2
                go_loopw [108] (fun i wr2 => ∃ (x : Nat), x ≤ 9 ∧ Hid (j = i0 → x ≤ x0) ∧ i = .int .u64 (x : Int) ∧ Hid (Below w5.heap.size w5 wr2)) (fun i _ => 9 - (intOf i).toNat)
                case atStart => exact ⟨0, by omega, fun _ => by omega, rfl, HB2.out⟩
                case round =>
                  rename_i wx
                  obtain ⟨x, hx, Hx, rfl, HB3⟩ := hrel
                  by_cases hx9 : x < 9
                  · have hx9' : (x : Int) < 9 := by omega
                    have hux : U64 (x : Int) := u64n x (by omega)
                    obtain ⟨c1, r1⟩ := HcR.out _ HB3.out
                    have Hr1 := Lib.hid r1
                    clear r1
                    go_wp2_with (fail)
                    refine (uni_At (atl R j) _ (x : Int) _ Hr1.out Hl1.out.1 Hl1.out.2 hux).mono ?_
                    rintro e wa ⟨rfl, hba⟩
                    have HBa := Lib.hid (HB3.out.trans (hba.mono HB3.out.size))
                    clear hba c1
                    obtain ⟨c2, r2⟩ := HcP.out _ HBa.out
                    have Hr2 := Lib.hid r2
                    clear r2
                    go_wp2_with (fail)
                    refine (uni_At (atl P j) _ (x : Int) _ Hr2.out Hl2.out.1 Hl2.out.2 hux).mono ?_
                    rintro e wb ⟨rfl, hbb⟩
                    have HBb := Lib.hid (HBa.out.trans (hbb.mono HBa.out.size))
                    clear hbb c2
                    by_cases huv : lag ((atl R j).map phi) (phi (x : Int)) = lag ((atl P j).map phi) (phi (x : Int))
                    · have hb := psi_eqb huv
                      have Huv := Lib.hid huv
                      clear huv
                      generalize hG1 : psi (lag ((atl R j).map phi) (phi (x : Int))) = G1 at *
                      generalize hG2 : psi (lag ((atl P j).map phi) (phi (x : Int))) = G2 at *
                      clear hG1 hG2
                      go_wp2
                      go_roundw
                      case rel =>
                        refine ⟨x + 1, by omega, fun e => ?_, by go_num, HBb.out⟩
                        have h1 := Hx.out e
                        rcases Nat.lt_or_ge x x0 with h2 | h2
                        · omega
                        · exfalso
                          have h3 : x = x0 := by omega
                          subst h3; subst e
                          exact Hw1.out Huv.out
                      case measure => simp [intOf]; omega
                    · have hb := psi_neb huv
                      clear huv
                      generalize hG1 : psi (lag ((atl R j).map phi) (phi (x : Int))) = G1 at *
                      generalize hG2 : psi (lag ((atl P j).map phi) (phi (x : Int))) = G2 at *
                      clear hG1 hG2
                      obtain ⟨c3, r3⟩ := HcR.out _ HBb.out
                      have Hr3 := Lib.hid r3
                      have c4 := Hcq.out _ HBb.out
                      clear r3
                      have hbRb : bR < wb.heap.size := by have := B5.out.size; have := HBb.out.size; omega
                      have hqb : w2.heap.size < wb.heap.size := by have := hqlt (by omega); have := HBb.out.size; omega
                      have hj0 : (0 : Int) ≤ (j : Int) := by omega
                      go_wp2
                      go_region_held3 (fun w' => Below wb.heap.size wb w' ∧ w'.cell? ⟨bR, offR + j, none⟩ = some uR ∧ w'.cell? ⟨w2.heap.size, j, none⟩ = some (.int .u64 qj))
                        (first
                          | exact ⟨below_dr _, c3, c4⟩
                          | exact ⟨by assumption, by assumption, by assumption⟩
                          | (go_split_ands; have hz := below_chain (a := wb) (by assumption) hbc; exact ⟨hz, (hz.cell (p := ⟨bR, offR + j, none⟩) hbRb).trans c3, (hz.cell (p := ⟨w2.heap.size, j, none⟩) hqb).trans c4⟩))
                        (first
                          | (go_at_call 63; go_split_ands; (with_reducible refine (uni_At (atl R j) _ qj _ (Hr3.out.step (by assumption)) Hl1.out.1 Hl1.out.2 huq).mono ?_); rintro e wc ⟨rfl, hbc⟩))
                      all_goals
                        go_split_ands
                        have HBc := Lib.hid (HBb.out.trans ((below_chain (a := wb) (by assumption) hbc).mono HBb.out.size))
                        clear hbc c3 c4
                        obtain ⟨c5, r5⟩ := HcP.out _ HBc.out
                        have Hr5 := Lib.hid r5
                        have c6 := Hcq.out _ HBc.out
                        have hbPc : bP < wc.heap.size := by have := HBc.out.size; omega
                        have hqc : w2.heap.size < wc.heap.size := by have := hqlt (by omega); have := HBc.out.size; omega
                        clear r5
                        go_wp2
                        go_region_held3 (fun w' => Below wc.heap.size wc w' ∧ w'.cell? ⟨bP, offP + j, none⟩ = some uP ∧ w'.cell? ⟨w2.heap.size, j, none⟩ = some (.int .u64 qj))
                          (first
                            | exact ⟨below_dr _, c5, c6⟩
                            | exact ⟨by assumption, by assumption, by assumption⟩
                            | (go_split_ands; have hz := below_chain (a := wc) (by assumption) hbd; exact ⟨hz, (hz.cell (p := ⟨bP, offP + j, none⟩) hbPc).trans c5, (hz.cell (p := ⟨w2.heap.size, j, none⟩) hqc).trans c6⟩))
                          (first
                            | (go_at_call 63; go_split_ands; (with_reducible refine (uni_At (atl P j) _ qj _ (Hr5.out.step (by assumption)) Hl2.out.1 Hl2.out.2 huq).mono ?_); rintro e wd ⟨rfl, hbd⟩))
                        all_goals
                          go_split_ands
                          have HBd := Lib.hid (HBc.out.trans ((below_chain (a := wc) (by assumption) hbd).mono HBc.out.size))
                          clear hbd c5 c6
                          by_cases hpq : lag ((atl R j).map phi) (phi qj) = lag ((atl P j).map phi) (phi qj)
                          · have hb2 := psi_eqb hpq
                            clear hpq
                            go_wp2
                            go_ret
                            exact ⟨rfl, B5.out.trans (HBd.out.mono B5.out.size)⟩
                          · have hb2 := psi_neb hpq
                            have hji : j < i0 := by
                              rcases Nat.lt_or_ge j i0 with h | h
                              · exact h
                              · exfalso
                                have h3 : j = i0 := by omega
                                subst h3
                                exact hpq (by rw [← HQJ.out]; exact Hw2.out)
                            clear hpq
                            go_wp2
                            go_roundw
                            case rel => exact ⟨j + 1, by omega, by go_num, HBd.out⟩
                            case measure => simp [intOf]; omega
                  · obtain rfl : x = 9 := by omega
                    have hji : j < i0 := by
                      rcases Nat.lt_or_ge j i0 with h | h
                      · exact h
                      · exfalso
                        have := Hx.out (by omega)
                        omega
                    go_wp2
                    go_roundw
                    case rel => exact ⟨j + 1, by omega, by go_num, HB3.out⟩
                    case measure => simp [intOf]; omega
            · have hcb2 : (psi (endF T q) != psi y) = true := psi_ne hend
              clear hend
              go_wp2
              go_ret
              exact ⟨rfl, Br.out⟩
  · have hE := formE_ne hgood
    clear hgood
    go_wp2_with (fail)
    refine (sum_Verify_no c _ R _ q _ HV3.out Hd3.out hE).mono ?_
    rintro e w' ⟨rfl, rfl⟩
    go_wp2_with (fail)
    refine (sum_Claim T n _ _ (HT.out.below B3.out) HR3.out HF.out).mono ?_
    rintro e w' ⟨rfl, rfl⟩
    go_wp2
    go_ret
    exact ⟨rfl, B3.out⟩
end Go.Proofs.YtaaaoljllpbplaaDoor
