/- The walk of the law TopOpened: it returns true, whatever is handed in. The table of bits lies as its initialiser lays it. -/
import Derived.Test.YtfgoidaldgfklaaDoorIntsW
import Derived.Test.YtfgoidaldgfklaaDoorOpenOpen
import Derived.Test.YtfgoidaldgfklaaDoorOpenLookW
import Derived.Test.YtfgoidaldgfklaaDoorTopS
import Derived.Test.YtfgoidaldgfklaaDoorOpenTells
namespace Go.Proofs.YtfgoidaldgfklaaDoor
set_option maxRecDepth 100000
set_option linter.unusedVariables false
open Go.RowKit Tally
theorem range_atO {n i : Nat} (h : i < n) : at0 ((List.range n).map fun (j : Nat) => (j : Int)) i = (i : Int) := by simp [at0, h]
set_option maxRecDepth 100000 in
set_option maxHeartbeats 16000000 in
theorem topOpened_walk (w : World) (hT : Tab w) (v : Value) (a : List Int) (ha : RowU w v a) (vp : Value) (p : List Int) (hp : RowU w vp p) (k : Int) (hk : I64 k) (vo : Value) (o : Oi) (ho : IsO w vo o) :
    Calls Tryd.prog 3 #[v, vp, .int .i64 k, vo] w fun e w' => e = .returned (.bool true) ∧ Below w.heap.size w w' := by
  have HT := Lib.hid hT; have Ha := Lib.hid ha; have Hp := Lib.hid hp; have Hk := Lib.hid hk; have HO := Lib.hid ho
  obtain ⟨ur, uk, rfl, uv, hr, hkk⟩ := ho
  have Hkk := Lib.hid hkk
  obtain ⟨-, -, a1, c1, rfl, -⟩ := hr
  obtain ⟨-, a2, c2, rfl, -⟩ := hkk
  obtain ⟨V, hV⟩ : ∃ V, V = o.value := ⟨_, rfl⟩
  obtain ⟨RL, hRL⟩ : ∃ RL, RL = o.roots.length := ⟨_, rfl⟩
  obtain ⟨KL, hKL⟩ : ∃ KL, KL = o.looks.length := ⟨_, rfl⟩
  rw [← hV] at uv
  rw [← hV, ← hRL, ← hKL] at HO ⊢
  rw [← hKL] at Hkk
  have HV := Lib.hid hV; have HRL := Lib.hid hRL; have HKL := Lib.hid hKL
  obtain ⟨m, hm⟩ : ∃ m : Nat, k % 3 = (m : Int) := ⟨(k % 3).toNat, by omega⟩
  have hm2 : m ≤ 2 := by omega
  clear hT ha hp hk hV hRL hKL
  go_enter Tryd.func3, Tryd.ntmps3
  go_wp2_with (fail)
  obtain ⟨W0, hW0, k0, k1, k2, B0, s0⟩ := copied3' w (.slice a1 RL c1) (.int .u64 V) (.slice a2 KL c2) 26
  rw [hW0]
  obtain ⟨ob, hob⟩ : ∃ ob, ob = w.heap.size := ⟨_, rfl⟩
  rw [← hob] at k0 k1 k2 s0 ⊢
  have KO := Lib.hid (show ∀ X, Below W0.heap.size W0 X → X.cell? ⟨ob, 0, none⟩ = some (.slice a1 RL c1) ∧ X.cell? ⟨ob, 1, none⟩ = some (.int .u64 V) ∧ X.cell? ⟨ob, 2, none⟩ = some (.slice a2 KL c2) from fun X hX => ⟨(hX.cell (p := ⟨ob, 0, none⟩) (show ob < _ by omega)).trans k0, (hX.cell (p := ⟨ob, 1, none⟩) (show ob < _ by omega)).trans k1, (hX.cell (p := ⟨ob, 2, none⟩) (show ob < _ by omega)).trans k2⟩)
  have H0 := Lib.hid B0
  clear hW0 k0 k1 k2 B0 s0 hob
  refine (top_said W0 (HT.out.below H0.out)).mono ?_
  rintro e w1 ⟨rfl, hb⟩
  have G1 := Lib.hid hb
  have H1 := Lib.hid (below_chain H0.out hb)
  clear hb
  go_wp2_with (fail)
  refine (ref_Rest k 3 _ Hk.out (by omega) (by omega)).mono ?_
  rintro e w' ⟨rfl, rfl⟩
  rw [hm]
  clear hm
  go_wp2_with (fail)
  obtain ⟨N, hN⟩ : ∃ N, N = 2 ^ (m + 1) := ⟨_, rfl⟩
  obtain ⟨h, hh⟩ : ∃ h, h = 2 ^ m := ⟨_, rfl⟩
  have hNh : N = 2 * h := by rw [hN, hh, Nat.pow_succ]; omega
  obtain ⟨hh1, hh4⟩ : 1 ≤ h ∧ h ≤ 4 := by
    rw [hh]
    have h3 := Nat.pow_le_pow_right (show 1 ≤ 2 by decide) hm2
    exact ⟨Nat.pow_pos (by decide), h3⟩
  have hwN : wrap64 (2 * 2 ^ m) = (N : Int) := by
    have e : (2 : Int) ^ m = ((2 ^ m : Nat) : Int) := by simp
    rw [e, ← hh, hNh]
    unfold wrap64; omega
  rw [hwN]
  obtain ⟨t, ht⟩ : ∃ t, t = padTo N a := ⟨_, rfl⟩
  obtain ⟨q, hq⟩ : ∃ q, q = padTo (m + 1) p := ⟨_, rfl⟩
  have Htl := Lib.hid (show t.length = 2 ^ (m + 1) by rw [ht, padTo_length, hN])
  have HtN := Lib.hid (show t.length = N by rw [ht, padTo_length])
  have Hql := Lib.hid (show q.length = m + 1 by rw [hq, padTo_length])
  have CT := Lib.hid (top_sized a v N w1 (Ha.out.step H1.out) (by omega))
  rw [← ht] at CT
  have Hh := Lib.hid hh
  have HNh := Lib.hid hNh
  clear hN hh hNh hwN ht
  refine CT.out.mono ?_
  rintro e w3 ⟨rfl, hn3, hb3⟩
  have G3 := Lib.hid (below_chain G1.out hb3)
  have H3 := Lib.hid (below_chain H1.out hb3)
  have Ht3 := Lib.hid hn3.row
  obtain ⟨vt, hvt⟩ : ∃ vt, vt = w1.heap.size := ⟨_, rfl⟩
  rw [← hvt] at Ht3 ⊢
  clear hn3 hb3 CT hvt
  go_wp2_with (fail)
  refine (ref_Vars t (m + 1) _ w3 Ht3.out Htl.out (by omega)).mono ?_
  rintro e w' ⟨rfl, rfl⟩
  have CP := Lib.hid (top_sized p vp (m + 1) w3 (Hp.out.step H3.out) (by omega))
  rw [← hq] at CP
  clear hq
  obtain ⟨M, hM⟩ : ∃ M : Nat, M = m + 1 := ⟨_, rfl⟩
  have HM := Lib.hid hM
  rw [← hM] at CP ⊢
  clear hM
  go_wp2_with (fail)
  refine CP.out.mono ?_
  rintro e w4 ⟨rfl, hn4, hb4⟩
  have G4 := Lib.hid (below_chain G3.out hb4)
  have H4 := Lib.hid (below_chain H3.out hb4)
  have Ht4 := Lib.hid (Ht3.out.step hb4)
  have Hq4 := Lib.hid hn4.row
  obtain ⟨vq, hvq⟩ : ∃ vq, vq = w3.heap.size := ⟨_, rfl⟩
  rw [← hvq] at Hq4 ⊢
  clear hn4 hb4 CP hvq
  obtain ⟨P, hP⟩ : ∃ P, P = (List.range h).map fun (j : Nat) => (j : Int) := ⟨_, rfl⟩
  have HPl := Lib.hid (show P.length = h by rw [hP]; simp)
  have HPa := Lib.hid (show ∀ i, i < h → at0 P i = (i : Int) from fun i hi => by rw [hP]; exact range_atO hi)
  clear hP
  have hquo : wrap64 ((N : Int) / 2) = (h : Int) := by have := HNh.out; rw [show (N : Int) / 2 = (h : Int) by omega]; unfold wrap64; omega
  have hquo2 : (N : Int) / 2 = (h : Int) := by have := HNh.out; omega
  go_wp2_with (fail)
  clear hquo hquo2
  go_loopw [12, 42] (fun lw iv wr => ∃ (j : Nat) (lv : Value), j ≤ h ∧ lv = lw ∧ iv = .int .i64 (j : Int) ∧ Hid (NewI w4.heap.size wr lv (P.take j)) ∧ Hid (Below w4.heap.size w4 wr)) (fun _ iv _ => h - (intOf iv).toNat)
  case atStart => exact ⟨0, _, Nat.zero_le _, rfl, rfl, NewI.nil _ _, Below.refl _ _⟩
  case round =>
    obtain ⟨j, lv, hj, rfl, rfl, HI, HB⟩ := hrel
    by_cases hz : j < h
    · have hj1 : (j : Int) < (h : Int) := by omega
      have HLs := Lib.hid (show P.take (j + 1) = P.take j ++ [(j : Int)] by rw [take_snoc' _ _ (by rw [HPl.out]; exact hz), HPa.out j hz])
      have iy : I64 (j : Int) := by unfold I64; omega
      have hcI : (P.take j).length + 1 ≤ 1000000 := by rw [List.length_take]; omega
      have hsz := HB.out.size
      go_wp2_with ((at_builtin; refine wpList_appI rfl _ _ rfl w4.heap.size lv _ rfl HI.out (j : Int) rfl iy hcI hsz ?_; intro v5 w5 hn5 hb5; have HI5 := Lib.hid hn5; have HB5 := Lib.hid (HB.out.trans hb5); clear hn5 hb5))
      rw [← HLs.out] at HI5
      go_roundw
      case rel => exact ⟨j + 1, v5, by omega, rfl, by go_num, HI5.out, HB5.out⟩
      case measure => simp [intOf]; omega
    · obtain rfl : j = h := by omega
      rw [List.take_of_length_le (by rw [HPl.out]; exact Nat.le_refl _)] at HI
      obtain ⟨wv, hwv⟩ : ∃ x : World, x = wr := ⟨_, rfl⟩
      subst hwv
      obtain ⟨h, rfl⟩ : ∃ x : Nat, x = j := ⟨_, rfl⟩
      have HL0 := Lib.hid HI.out.row
      have HBw := Lib.hid (below_chain H4.out HB.out)
      have GBw := Lib.hid (below_chain G4.out HB.out)
      have Ht5 := Lib.hid (Ht4.out.step HB.out)
      have Hq5 := Lib.hid (Hq4.out.step HB.out)
      have HwB : wrongB P ((2 ^ m : Nat) : Int) = false := by
        refine wrongB_of (by rw [HPl.out]; omega) fun i hi => ?_
        rw [HPl.out] at hi
        rw [HPa.out i hi, ← Hh.out]
        omega
      obtain ⟨rt, hrt⟩ : ∃ rt, rt = psi (rootF t (m + 1)) := ⟨_, rfl⟩
      obtain ⟨O, hO⟩ : ∃ O, O = openI t q P := ⟨_, rfl⟩
      have HOe := Lib.hid hO
      have Hurt := Lib.hid (show U64 rt by rw [hrt]; exact U64.psi _)
      have HOl := Lib.hid (show O.looks.length = h by rw [hO]; simp [openI, HPl.out])
      have CR := Lib.hid (fun v X (hX : Below w.heap.size w X) (hr : RowU X v t) => tree_Root t (m + 1) v X (HT.out.below hX) hr Htl.out (by omega))
      have CO := Lib.hid (fun v v2 v3 X (hX : Below w.heap.size w X) (hr : RowU X v t) (h2 : RowU X v2 q) (h3 : RowI X v3 P) => open_OpenS t q P m (by omega) Hql.out Htl.out HwB v v2 v3 X (HT.out.below hX) hr h2 h3)
      rw [← hrt] at CR; rw [← hO] at CO
      obtain ⟨ail, cil, rfl⟩ := HI.out.isSlice
      rw [HPl.out] at HL0 HI ⊢
      clear hrt hO HwB
      go_wp2_with (fail)
      refine (CR.out _ wv HBw.out Ht5.out).mono ?_
      rintro e w6 ⟨rfl, hb6⟩
      have H6 := Lib.hid (below_chain HBw.out hb6); have G6 := Lib.hid (below_chain GBw.out hb6); have Ht6 := Lib.hid (Ht5.out.step hb6); have Hq6 := Lib.hid (Hq5.out.step hb6); have HL6 := Lib.hid (HL0.out.go hb6)
      clear hb6 CR
      go_wp2_with (fail)
      refine (CO.out _ _ _ w6 H6.out Ht6.out Hq6.out HL6.out).mono ?_
      rintro e w7 ⟨vo, rfl, hF, hb7, -⟩
      have H7 := Lib.hid (below_chain H6.out hb7); have G7 := Lib.hid (below_chain G6.out hb7); have Ht7 := Lib.hid (Ht6.out.step hb7); have Hq7 := Lib.hid (Hq6.out.step hb7); have HL7 := Lib.hid (HL6.out.go hb7)
      obtain ⟨ur, uk, rfl, uw, hr, hkk⟩ := hF.now
      have HkR := Lib.hid hkk
      obtain ⟨-, -, a3, c3, rfl, -⟩ := hr
      obtain ⟨-, a4, c4, rfl, -⟩ := hkk
      clear hF hb7 CO
      rw [HOl.out] at HkR ⊢
      obtain ⟨U, hU⟩ : ∃ U, U = O.value := ⟨_, rfl⟩
      have HUe := Lib.hid hU
      obtain ⟨RR, hRR⟩ : ∃ RR, RR = O.roots.length := ⟨_, rfl⟩
      rw [← hU] at uw
      rw [← hU, ← hRR]
      clear hU hRR
      go_upto_region 14 with (fail)
      obtain ⟨W8, hW8, k0, k1, k2, B8, s8⟩ := copied3' w7 (.slice a3 RR c3) (.int .u64 U) (.slice a4 h c4) 26
      rw [hW8]
      obtain ⟨rb, hrb⟩ : ∃ rb, rb = w7.heap.size := ⟨_, rfl⟩
      rw [← hrb] at k0 k1 k2 s8 ⊢
      have H8 := Lib.hid (below_chain H7.out B8); have G8 := Lib.hid (below_chain G7.out B8); have Ht8 := Lib.hid (Ht7.out.step B8); have Hq8 := Lib.hid (Hq7.out.step B8); have HL8 := Lib.hid (HL7.out.go B8); have Hk8 := Lib.hid (HkR.out.go B8)
      have K8 := Lib.hid (show ∀ X, Below W8.heap.size W8 X → X.cell? ⟨rb, 1, none⟩ = some (.int .u64 U) ∧ X.cell? ⟨rb, 2, none⟩ = some (.slice a4 h c4) from fun X hX => ⟨(hX.cell (p := ⟨rb, 1, none⟩) (show rb < _ by omega)).trans k1, (hX.cell (p := ⟨rb, 2, none⟩) (show rb < _ by omega)).trans k2⟩)
      clear hW8 B8 s8 hrb k0 k1 k2
      obtain ⟨x0, x1, x2⟩ := KO.out W8 G8.out
      have HO8 := Lib.hid (show IsO W8 (.agg #[.slice a1 RL c1, .int .u64 V, .slice a2 KL c2]) o from IsO.go HO.out H8.out)
      by_cases hE : openE (m + 1) P o = 0
      case neg =>
        have CL := Lib.hid (open_Look_bad rt q P o _ _ _ W8 Hq8.out HL8.out HO8.out m (by omega) Hql.out (by simpa using hE))
        obtain ⟨E, hEE⟩ : ∃ E, E = openE (m + 1) P o := ⟨_, rfl⟩
        rw [← hEE] at CL hE
        have bE : (E != 0) = true := by simpa using hE
        clear hEE hE
        go_wp2_with (fail)
        refine CL.out.mono ?_
        rintro e w9 ⟨rfl, hb9⟩
        have H9 := Lib.hid (below_chain H8.out hb9)
        clear hb9 x0 x1 x2
        go_wp2_with (fail)
        go_quiet (fail)
        have H10 := Lib.hid (below_drewN H9.out nq)
        generalize w9.drewN nq = wn at *
        go_wp2_with (fail)
        go_ret
        exact ⟨rfl, H10.out⟩
      case pos =>
        have CL := Lib.hid (open_Look_ok rt Hurt.out q P o _ _ _ W8 (HT.out.below H8.out) Hq8.out HL8.out HO8.out m (by omega) Hql.out hE)
        have HE := Lib.hid hE
        clear hE
        obtain ⟨LB, hLB⟩ : ∃ LB, LB = lookB rt q P o := ⟨_, rfl⟩
        rw [← hLB] at CL
        have HLB := Lib.hid hLB
        clear hLB
        go_wp2_with (fail)
        refine CL.out.mono ?_
        rintro e w9 ⟨rfl, hb9⟩
        have H9 := Lib.hid (below_chain H8.out hb9)
        have G9 := Lib.hid (below_chain G8.out hb9)
        have H89 := Lib.hid hb9
        clear hb9 x0 x1 x2 CL
        cases LB
        case false =>
          go_wp2_with (fail)
          go_quiet (fail)
          have H10 := Lib.hid (below_drewN H9.out nq)
          generalize w9.drewN nq = wn at *
          go_wp2_with (fail)
          go_ret
          exact ⟨rfl, H10.out⟩
        case true =>
          obtain ⟨x0, x1, x2⟩ := KO.out w9 G9.out
          obtain ⟨y1, y2⟩ := K8.out w9 H89.out
          by_cases hVU : psi (phi V) = U
          case pos =>
            have bV : (psi (phi V) == U) = true := by rw [hVU]; simp
            clear hVU
            go_wp2_with (fail)
            go_quiet ((go_at_call 12; exact flip (field_Norm _ _ (by assumption))))
            have H10 := Lib.hid (below_drewN H9.out nq)
            generalize w9.drewN nq = wn at *
            go_wp2_with (fail)
            go_ret
            exact ⟨rfl, H10.out⟩
          case neg =>
            have bV : (psi (phi V) == U) = false := beq_false_of_ne hVU
            have HVU := Lib.hid hVU
            clear hVU
            go_upto_region 17 with (fail)
            go_quiet ((go_at_call 12; exact flip (field_Norm _ _ (by assumption))))
            have H10 := Lib.hid (below_drewN H9.out nq)
            have G10 := Lib.hid (below_drewN G9.out nq)
            have H810 := Lib.hid (below_drewN H89.out nq)
            generalize w9.drewN nq = wn at *
            clear x0 x1 x2 y1 y2 bV
            obtain ⟨-, hFO⟩ := openE_zero HE.out
            rw [HPl.out] at hFO
            have HFO := Lib.hid hFO
            have hol : o.looks.length = h := hFO.2.1
            have hKL : KL = h := by rw [HKL.out, hol]
            rw [hKL] at KO Hkk ⊢
            have HKOO := Lib.hid (show ∀ X, Below w.heap.size w X → IsO X (.agg #[.slice a1 RL c1, .int .u64 V, .slice a2 h c2]) o from fun X hX => by have := HO.out.go hX; rwa [hKL] at this)
            obtain ⟨-, b2', c2', e2, hrk⟩ := Hkk.out.go H10.out
            injection e2 with e2 ei1 ei2
            clear ei1 ei2
            subst e2
            rw [hol] at hrk
            obtain ⟨kb, ko, hka, hkb, hkc⟩ := hrk (by omega)
            subst hka
            have HKC := Lib.hid hkc
            obtain ⟨-, b4', c4', e4, hrk4⟩ := Hk8.out.go H810.out
            injection e4 with e4 ei1 ei2
            clear ei1 ei2
            subst e4
            rw [HOl.out] at hrk4
            obtain ⟨rkb, rko, hka, hrkb, hkc4⟩ := hrk4 (by omega)
            subst hka
            have HRC := Lib.hid hkc4
            obtain ⟨-, -, bt', ct', et, hrt⟩ := Ht8.out.step H810.out
            injection et with et ei1 ei2
            clear ei1 ei2
            subst et
            rw [HtN.out] at hrt
            obtain ⟨tb', to', hta, htb, htc⟩ := hrt (by have := HNh.out; omega)
            injection hta with hta
            injection hta with hta1 hta2 ei1
            clear ei1
            subst hta1
            subst hta2
            have HTC := Lib.hid (show ∀ j, j < N → wn.cell? ⟨vt, j, none⟩ = some (.int .u64 (at0 t j)) from fun j hj => by have := htc j hj; rwa [Nat.zero_add] at this)
            have HTU := Lib.hid (show ∀ j, j < N → U64 (at0 t j) from fun j hj => Ht8.out.1 _ (at0_mem (by rw [HtN.out]; exact hj)))
            obtain ⟨-, -, bl', cl', el, hrl⟩ := HL8.out.go H810.out
            injection el with el ei1 ei2
            clear ei1 ei2
            subst el
            rw [HPl.out] at hrl
            obtain ⟨pb, po, hpa, hpb, hpc⟩ := hrl (by omega)
            subst hpa
            have HPC := Lib.hid (show ∀ j, j < h → wn.cell? ⟨pb, po + j, none⟩ = some (.int .i64 (j : Int)) from fun j hj => by have := hpc j hj; rwa [HPa.out j hj] at this)
            have HAR := Lib.hid (show ∀ j, j < h → (atk O.looks j).pairs = (List.range M).map (pairOf t q j) from fun j hj => by
              have e : atk O.looks j = lookOf t q (at0 P j).toNat := by rw [HOe.out]; simp [atk, openI, at0, HPl.out, hj]
              rw [e, HPa.out j hj, Int.toNat_natCast]
              show (List.range q.length).map _ = _
              rw [Hql.out, HM.out])
            have hM1 : 1 ≤ M := by have := HM.out; omega
            have hM0 : (0 : Int) < (M : Int) := by omega
            have hN8 : N ≤ 8 := by have := HNh.out; omega
            have hM3 : M ≤ 3 := by have := HM.out; omega
            clear hrk hkc hrk4 hkc4 hrt htc hrl hpc hFO hol hKL
            have HQ1 := Lib.hid (show wrap64 ((N : Int) / 2) = (h : Int) by have := HNh.out; rw [show (N : Int) / 2 = (h : Int) by omega]; unfold wrap64; omega)
            have HQ2 := Lib.hid (show (N : Int) / 2 = (h : Int) by have := HNh.out; omega)
            obtain ⟨x0, x1, x2⟩ := KO.out wn G10.out
            go_wp2_with (fail)
            go_loopw [93] (fun iv wr => ∃ i : Nat, i ≤ h ∧ iv = .int .i64 (i : Int) ∧ Hid (Below wn.heap.size wn wr) ∧ Hid (∀ i', i' < i → ∀ s, s < 2 → psi (phi (sd (ata (atk o.looks i').pairs 0) s)) = psi (phi (at0 t (i' + s * h))))) (fun iv _ => h - (intOf iv).toNat)
            case atStart => exact ⟨0, by omega, rfl, Below.refl _ _, fun i' hi' => absurd hi' (by omega)⟩
            case round =>
              obtain ⟨i, hi, rfl, HBi, HEi⟩ := hrel
              by_cases hzi : i < h
              case pos =>
                have hi1 : (i : Int) < (h : Int) := by omega
                obtain ⟨u, u2, hu, hu2, hA, hBB⟩ := HKC.out i hzi
                have z1 := (HBi.out.cell (p := ⟨kb, ko + i * 2, none⟩) hkb).trans hu
                have z2 := (HBi.out.cell (p := ⟨kb, ko + i * 2 + 1, none⟩) hkb).trans hu2
                obtain ⟨-, au, cu, rfl, hA3⟩ := hA
                obtain ⟨-, aw, cw, rfl, -⟩ := hBB
                obtain ⟨LA, hLA⟩ : ∃ LA, LA = (atk o.looks i).pairs := ⟨_, rfl⟩
                obtain ⟨LB, hLB⟩ : ∃ LB, LB = (atk o.looks i).paths.length := ⟨_, rfl⟩
                have hll : LA.length = M := by rw [hLA, (HFO.out.2.2 i hzi).1]; exact HM.out.symm
                rw [← hLA] at z1 hA3
                rw [← hLB] at z2
                rw [hll] at z1 hA3
                have HLA := Lib.hid hLA
                obtain ⟨b3, off3, rfl, hb3, hc3⟩ := hA3 (by omega)
                have HC3 := Lib.hid (show (U64 (ata LA 0).1 ∧ U64 (ata LA 0).2) ∧ wn.cell? ⟨b3, off3, none⟩ = some (.int .u64 (ata LA 0).1) ∧ wn.cell? ⟨b3, off3 + 1, none⟩ = some (.int .u64 (ata LA 0).2) from by have := hc3 0 (by omega); simpa using this)
                clear hu hu2 hA3 hLA hLB hll hc3
                go_upto_region 22 with (fail)
                obtain ⟨X1, hX1, k0, -, B1, s1⟩ := copied2' wr (.slice (some ⟨b3, off3, none⟩) M cu) (.slice aw LB cw) 43
                rw [hX1]
                obtain ⟨xb, hxb⟩ : ∃ xb, xb = wr.heap.size := ⟨_, rfl⟩
                rw [← hxb] at k0 s1 ⊢
                have HBX := Lib.hid (below_chain HBi.out B1)
                have Hxb := Lib.hid (show ∀ X, Below X1.heap.size X1 X → X.cell? ⟨xb, 0, none⟩ = some (.slice (some ⟨b3, off3, none⟩) M cu) from fun X hX => (hX.cell (p := ⟨xb, 0, none⟩) (show xb < _ by omega)).trans k0)
                clear hX1 B1 s1 k0 hxb z1 z2
                go_wp2_with (fail)
                go_loopw [98] (fun sv wx => ∃ s : Nat, s ≤ 2 ∧ sv = .int .i64 (s : Int) ∧ Hid (Below X1.heap.size X1 wx) ∧ Hid (∀ s', s' < s → psi (phi (sd (ata LA 0) s')) = psi (phi (at0 t (i + s' * h))))) (fun sv _ => 2 - (intOf sv).toNat)
                case atStart => exact ⟨0, by omega, rfl, Below.refl _ _, fun s' hs' => absurd hs' (by omega)⟩
                case round =>
                  obtain ⟨s, hs, rfl, HBs, HEs⟩ := hrel
                  by_cases hzs : s < 2
                  case pos =>
                    have HBB := Lib.hid (below_chain HBX.out HBs.out)
                    have f0 := Hxb.out _ HBs.out
                    have e0 := (HBB.out.cell (p := ⟨pb, po + i, none⟩) hpb).trans (HPC.out i hzi)
                    have s01 : s = 0 ∨ s = 1 := by omega
                    clear hzs
                    rcases s01 with rfl | rfl
                    · obtain ⟨y, hy⟩ : ∃ y, y = (ata LA 0).1 := ⟨_, rfl⟩
                      obtain ⟨AT, hAT⟩ : ∃ AT, AT = i + 0 := ⟨_, rfl⟩
                      have hATN : AT < N := by have := HNh.out; omega
                      obtain ⟨T0, hT0⟩ : ∃ T0, T0 = at0 t AT := ⟨_, rfl⟩
                      have d0 := (HBB.out.cell (p := ⟨b3, off3, none⟩) hb3).trans HC3.out.2.1
                      have t0 := (HBB.out.cell (p := ⟨vt, AT, none⟩) htb).trans (HTC.out AT hATN)
                      have uy := HC3.out.1.1
                      have ut := HTU.out AT hATN
                      rw [← hy] at d0 uy
                      rw [← hT0] at t0 ut
                      have Hy := Lib.hid (show psi (phi (sd (ata LA 0) 0)) = psi (phi y) from by rw [hy]; rfl)
                      have Hw := Lib.hid (show psi (phi (at0 t (i + 0 * h))) = psi (phi T0) from by rw [hT0, hAT, Nat.zero_mul])
                      obtain rfl : AT = i := by omega
                      clear hy hT0 hAT
                      by_cases hN : psi (phi y) = psi (phi T0)
                      case pos =>
                        have bN : (psi (phi y) != psi (phi T0)) = false := by rw [hN]; simp
                        have HN := Lib.hid hN
                        clear hN
                        go_upto_region 26 with (fail)
                        go_quiet ((go_at_call 12; exact flip (field_Norm _ _ (by assumption))))
                        have HBn := Lib.hid (below_drewN HBs.out nq)
                        generalize wr.drewN nq = wz at *
                        go_wp2_with (fail)
                        go_roundw
                        case rel => exact ⟨1, by omega, by go_num, HBn.out, fun s' h' => by
                          by_cases hs' : s' = 0
                          · rw [hs', Hy.out, Hw.out, HN.out]
                          · exact HEs.out s' (by omega)⟩
                        case measure => simp [intOf]
                      case neg =>
                        have bN : (psi (phi y) != psi (phi T0)) = true := by simpa using hN
                        clear hN
                        go_upto_region 26 with (fail)
                        go_quiet ((go_at_call 12; exact flip (field_Norm _ _ (by assumption))))
                        have HBn := Lib.hid (below_chain H10.out (below_drewN HBB.out nq))
                        generalize wr.drewN nq = wz at *
                        go_wp2_with (fail)
                        go_ret
                        exact ⟨rfl, HBn.out⟩
                    · obtain ⟨y, hy⟩ : ∃ y, y = (ata LA 0).2 := ⟨_, rfl⟩
                      obtain ⟨AT, hAT⟩ : ∃ AT, AT = i + h := ⟨_, rfl⟩
                      have hATN : AT < N := by have := HNh.out; omega
                      obtain ⟨T0, hT0⟩ : ∃ T0, T0 = at0 t AT := ⟨_, rfl⟩
                      have d0 := (HBB.out.cell (p := ⟨b3, off3 + 1, none⟩) hb3).trans HC3.out.2.2
                      have t0 := (HBB.out.cell (p := ⟨vt, AT, none⟩) htb).trans (HTC.out AT hATN)
                      have uy := HC3.out.1.2
                      have ut := HTU.out AT hATN
                      rw [← hy] at d0 uy
                      rw [← hT0] at t0 ut
                      have Hy := Lib.hid (show psi (phi (sd (ata LA 0) 1)) = psi (phi y) from by rw [hy]; rfl)
                      have Hw := Lib.hid (show psi (phi (at0 t (i + 1 * h))) = psi (phi T0) from by rw [hT0, hAT, Nat.one_mul])
                      have hAI : (i : Int) + (h : Int) = (AT : Int) := by rw [hAT]; exact (Int.natCast_add i h).symm
                      have hquo2 := HQ2.out
                      clear hy hT0 hAT
                      by_cases hN : psi (phi y) = psi (phi T0)
                      case pos =>
                        have bN : (psi (phi y) != psi (phi T0)) = false := by rw [hN]; simp
                        have HN := Lib.hid hN
                        clear hN
                        go_upto_region 26 with (fail)
                        go_quiet ((go_at_call 12; exact flip (field_Norm _ _ (by assumption))))
                        have HBn := Lib.hid (below_drewN HBs.out nq)
                        generalize wr.drewN nq = wz at *
                        go_wp2_with (fail)
                        go_roundw
                        case rel => exact ⟨2, by omega, by go_num, HBn.out, fun s' h' => by
                          by_cases hs' : s' = 1
                          · rw [hs', Hy.out, Hw.out, HN.out]
                          · exact HEs.out s' (by omega)⟩
                        case measure => simp [intOf]
                      case neg =>
                        have bN : (psi (phi y) != psi (phi T0)) = true := by simpa using hN
                        clear hN
                        go_upto_region 26 with (fail)
                        go_quiet ((go_at_call 12; exact flip (field_Norm _ _ (by assumption))))
                        have HBn := Lib.hid (below_chain H10.out (below_drewN HBB.out nq))
                        generalize wr.drewN nq = wz at *
                        go_wp2_with (fail)
                        go_ret
                        exact ⟨rfl, HBn.out⟩
                  case neg =>
                    obtain rfl : s = 2 := by omega
                    have HBk := Lib.hid (below_chain HBX.out HBs.out)
                    go_wp2_with (fail)
                    go_roundw
                    case rel => exact ⟨i + 1, by omega, by go_num, HBk.out, fun i' h' s' hs' => by
                      by_cases hi' : i' = i
                      · rw [hi', ← HLA.out]; exact HEs.out s' hs'
                      · exact HEi.out i' (by omega) s' hs'⟩
                    case measure => simp [intOf]; omega
              case neg =>
                obtain rfl : i = h := by omega
                obtain ⟨h, rfl⟩ : ∃ x : Nat, x = i := ⟨_, rfl⟩
                obtain ⟨wl, rfl⟩ : ∃ x : World, x = wr := ⟨_, rfl⟩
                have HBl := HBi
                clear HBi
                go_wp2_with (fail)
                go_loopw [23] (fun jv wr => ∃ j : Nat, 1 ≤ j ∧ j ≤ M ∧ jv = .int .i64 (j : Int) ∧ Hid (Below wn.heap.size wn wr) ∧ Hid (∀ j', 1 ≤ j' → j' < j → ∀ i, i < h → ∀ s, s < 2 → psi (phi (sd (ata (atk o.looks i).pairs j') s)) ≠ sd (pairOf t q i j') s → tellsB o (m + 1) h j' (sd (ata (atk o.looks i).pairs j') s) s i = false)) (fun jv _ => M - (intOf jv).toNat)
                case atStart => exact ⟨1, Nat.le_refl _, by omega, rfl, HBl.out, fun j' h1 h2 => absurd h2 (by omega)⟩
                case round =>
                  obtain ⟨j, hj1, hjM, rfl, HBj, HEj⟩ := hrel
                  by_cases hzj : j < M
                  case neg =>
                    exfalso
                    obtain rfl : j = M := by omega
                    refine HVU.out ?_
                    rw [HV.out, HUe.out, HOe.out]
                    refine opened_value (root := rt) (m := h) (by rw [Hql.out]; exact Htl.out) (by rw [Hql.out]; omega) HLB.out.symm HPl.out (by rw [Hql.out, Nat.add_sub_cancel]; exact Hh.out) HPa.out HEi.out ?_
                    rw [Hql.out, ← HM.out]
                    intro j' h1 h2 i hi s hs hne
                    rw [HM.out]
                    exact HEj.out j' h1 h2 i hi s hs hne
                  case pos =>
                    have hjM1 : (j : Int) < (M : Int) := by omega
                    obtain ⟨x0, x1, x2⟩ := KO.out wr (below_chain G10.out HBj.out)
                    go_wp2_with (fail)
                    clear x0 x1 x2
                    go_loopw [134] (fun iv wr => ∃ i : Nat, i ≤ h ∧ iv = .int .i64 (i : Int) ∧ Hid (Below wn.heap.size wn wr) ∧ Hid (∀ i', i' < i → ∀ s, s < 2 → psi (phi (sd (ata (atk o.looks i').pairs j) s)) ≠ sd (pairOf t q i' j) s → tellsB o (m + 1) h j (sd (ata (atk o.looks i').pairs j) s) s i' = false)) (fun iv _ => h - (intOf iv).toNat)
                    case atStart => exact ⟨0, by omega, rfl, HBj.out, fun i' hi' => absurd hi' (by omega)⟩
                    case round =>
                      obtain ⟨i, hi, rfl, HBi, HEi2⟩ := hrel
                      by_cases hzi : i < h
                      case neg =>
                        obtain rfl : i = h := by omega
                        go_wp2_with (fail)
                        go_roundw
                        case rel => exact ⟨j + 1, by omega, by omega, by go_num, HBi.out, fun j' h1 h2 i' hi' s' hs' hne => by
                          by_cases hj' : j' = j
                          · rw [hj'] at hne ⊢; exact HEi2.out i' hi' s' hs' hne
                          · exact HEj.out j' h1 (by omega) i' hi' s' hs' hne⟩
                        case measure => simp [intOf]; omega
                      case pos =>
                        have hi1 : (i : Int) < (h : Int) := by omega
                        obtain ⟨u, u2, hu, hu2, hA, hBB⟩ := HKC.out i hzi
                        have z1 := (HBi.out.cell (p := ⟨kb, ko + i * 2, none⟩) hkb).trans hu
                        have z2 := (HBi.out.cell (p := ⟨kb, ko + i * 2 + 1, none⟩) hkb).trans hu2
                        obtain ⟨-, au, cu, rfl, hA3⟩ := hA
                        obtain ⟨-, aw, cw, rfl, -⟩ := hBB
                        obtain ⟨LA, hLA⟩ : ∃ LA, LA = (atk o.looks i).pairs := ⟨_, rfl⟩
                        obtain ⟨LB, hLB⟩ : ∃ LB, LB = (atk o.looks i).paths.length := ⟨_, rfl⟩
                        have hll : LA.length = M := by rw [hLA, (HFO.out.2.2 i hzi).1]; exact HM.out.symm
                        rw [← hLA] at z1 hA3
                        rw [← hLB] at z2
                        rw [hll] at z1 hA3
                        have HLA := Lib.hid hLA
                        obtain ⟨b3, off3, rfl, hb3, hc3⟩ := hA3 (by omega)
                        have HC3 := Lib.hid (hc3 j (by omega))
                        obtain ⟨ru, ru2, hru, -, hRA, -⟩ := HRC.out i hzi
                        obtain ⟨-, ra, rc, rfl, hRA3⟩ := hRA
                        rw [HAR.out i hzi] at hru hRA3
                        rw [show ((List.range M).map (pairOf t q i)).length = M by simp] at hru hRA3
                        obtain ⟨b5, off5, rfl, hb5, hc5⟩ := hRA3 (by omega)
                        have HC5 := Lib.hid (show (U64 (pairOf t q i j).1 ∧ U64 (pairOf t q i j).2) ∧ wn.cell? ⟨b5, off5 + j * 2, none⟩ = some (.int .u64 (pairOf t q i j).1) ∧ wn.cell? ⟨b5, off5 + j * 2 + 1, none⟩ = some (.int .u64 (pairOf t q i j).2) from by
                          have := hc5 j (by omega)
                          rwa [show ata ((List.range M).map (pairOf t q i)) j = pairOf t q i j by simp [ata, hzj]] at this)
                        have HRU := Lib.hid hru
                        clear hRA3 hc5 hru
                        clear hu hu2 hA3 hLA hLB hll hc3
                        go_upto_region 36 with (fail)
                        obtain ⟨X1, hX1, k0, -, B1, s1⟩ := copied2' wr (.slice (some ⟨b3, off3, none⟩) M cu) (.slice aw LB cw) 43
                        rw [hX1]
                        obtain ⟨xb, hxb⟩ : ∃ xb, xb = wr.heap.size := ⟨_, rfl⟩
                        rw [← hxb] at k0 s1 ⊢
                        have HBX := Lib.hid (below_chain HBi.out B1)
                        have Hxb := Lib.hid (show ∀ X, Below X1.heap.size X1 X → X.cell? ⟨xb, 0, none⟩ = some (.slice (some ⟨b3, off3, none⟩) M cu) from fun X hX => (hX.cell (p := ⟨xb, 0, none⟩) (show xb < _ by omega)).trans k0)
                        clear hX1 B1 s1 k0 hxb z1 z2
                        go_wp2_with (fail)
                        go_loopw [139] (fun sv wx => ∃ s : Nat, s ≤ 2 ∧ sv = .int .i64 (s : Int) ∧ Hid (Below X1.heap.size X1 wx) ∧ Hid (∀ s', s' < s → psi (phi (sd (ata LA j) s')) ≠ sd (pairOf t q i j) s' → tellsB o (m + 1) h j (sd (ata LA j) s') s' i = false)) (fun sv _ => 2 - (intOf sv).toNat)
                        case atStart => exact ⟨0, by omega, rfl, Below.refl _ _, fun s' hs' => absurd hs' (by omega)⟩
                        case round =>
                          obtain ⟨s, hs, rfl, HBs, HEs⟩ := hrel
                          by_cases hzs : s < 2
                          case neg =>
                            obtain rfl : s = 2 := by omega
                            have HBk := Lib.hid (below_chain HBX.out HBs.out)
                            go_wp2_with (fail)
                            go_roundw
                            case rel => exact ⟨i + 1, by omega, by go_num, HBk.out, fun i' h' s' hs' hne => by
                              by_cases hi' : i' = i
                              · rw [hi', ← HLA.out] at hne ⊢; exact HEs.out s' hs' hne
                              · exact HEi2.out i' (by omega) s' hs' hne⟩
                            case measure => simp [intOf]; omega
                          case pos =>
                            have HBB := Lib.hid (below_chain HBX.out HBs.out)
                            have f0 := Hxb.out _ HBs.out
                            obtain ⟨x0, x1, x2⟩ := KO.out wr (below_chain G10.out HBB.out)
                            have y2 := (K8.out wr (below_chain H810.out HBB.out)).2
                            have r0 := (HBB.out.cell (p := ⟨rkb, rko + i * 2, none⟩) hrkb).trans HRU.out
                            have s01 : s = 0 ∨ s = 1 := by omega
                            clear hzs
                            rcases s01 with rfl | rfl
                            · obtain ⟨y, hy⟩ : ∃ y, y = (ata LA j).1 := ⟨_, rfl⟩
                              obtain ⟨R0, hR0⟩ : ∃ R0, R0 = (pairOf t q i j).1 := ⟨_, rfl⟩
                              have d0 := (HBB.out.cell (p := ⟨b3, off3 + j * 2, none⟩) hb3).trans HC3.out.2.1
                              have d1 := (HBB.out.cell (p := ⟨b5, off5 + j * 2, none⟩) hb5).trans HC5.out.2.1
                              have uy := HC3.out.1.1
                              rw [← hy] at d0 uy
                              rw [← hR0] at d1
                              have Hy := Lib.hid (show sd (ata LA j) 0 = y from hy.symm)
                              have Hr0 := Lib.hid (show sd (pairOf t q i j) 0 = R0 from hR0.symm)
                              clear hy hR0
                              by_cases hN : psi (phi y) = R0
                              case pos =>
                                have bN : (psi (phi y) != R0) = false := by rw [hN]; simp
                                have HN := Lib.hid hN
                                clear hN
                                go_upto_region 39 with (fail)
                                go_quiet ((go_at_call 12; exact flip (field_Norm _ _ (by assumption))))
                                have HBn := Lib.hid (below_drewN HBs.out nq)
                                generalize wr.drewN nq = wz at *
                                go_wp2_with (fail)
                                go_roundw
                                case rel => exact ⟨1, by omega, by go_num, HBn.out, fun s' h' hne => by
                                  by_cases hs' : s' = 0
                                  · rw [hs', Hy.out, Hr0.out] at hne; exact absurd HN.out hne
                                  · exact HEs.out s' (by omega) hne⟩
                                case measure => simp [intOf]
                              case neg =>
                                have bN : (psi (phi y) != R0) = true := by simpa using hN
                                clear hN
                                obtain ⟨TB, hTB⟩ : ∃ TB, TB = tellsB o (m + 1) h j y 0 i := ⟨_, rfl⟩
                                have Hdr := Lib.hid (show Below w.heap.size w wr.drew from below_dw (below_chain H10.out HBB.out))
                                have HdL := Lib.hid (show Below W8.heap.size W8 wr.drew from below_dw (below_chain H810.out HBB.out))
                                have CTl := Lib.hid (show Calls Tryd.prog 13 #[.agg #[.slice a1 RL c1, .int .u64 V, .slice (some ⟨kb, ko, none⟩) h c2], .slice (some ⟨pb, po, none⟩) h cil, .int .i64 (j : Int), .int .u64 y, .int .i64 0, .int .i64 (i : Int)] wr.drew fun e w' => e = .returned (.bool TB) ∧ Below wr.drew.heap.size wr.drew w' from by
                                  obtain ⟨r, hr⟩ : ∃ r, m + 1 = j + r + 1 := ⟨m - j, by have := HM.out; omega⟩
                                  rw [hTB]
                                  exact top_tells0 o _ _ P (m + 1) h r j y i wr.drew (HKOO.out _ Hdr.out) HFO.out (by omega) (HL8.out.go HdL.out) HPl.out HPa.out hr (by omega) uy hzi)
                                have HTB := Lib.hid hTB
                                clear hTB
                                go_upto_region 39 with (fail)
                                refine wp_region_still_tail 33 (by kernel_rfl) (by kernel_rfl) ?_
                                simp only [List.take_succ_cons, List.take_zero, List.drop_succ_cons, List.drop_zero]
                                repeat (first | still_step | still_call (still_of (field_Norm _ _ uy)))
                                try refine wpStill_nil ?_
                                change wpList _ _ _ _ _ (World.drew _)
                                go_wp2_with (fail)
                                refine CTl.out.mono ?_
                                rintro e wt ⟨rfl, hbt⟩
                                have HBt := Lib.hid (below_chain (below_dw HBs.out) hbt)
                                have HBw2 := Lib.hid (below_chain Hdr.out hbt)
                                clear hbt
                                cases TB
                                case true =>
                                  go_wp2_with (fail)
                                  go_ret
                                  exact ⟨rfl, HBw2.out⟩
                                case false =>
                                  go_wp2_with (fail)
                                  go_roundw
                                  case rel => exact ⟨1, by omega, by go_num, HBt.out, fun s' h' hne => by
                                    by_cases hs' : s' = 0
                                    · rw [hs', Hy.out]; exact HTB.out.symm
                                    · exact HEs.out s' (by omega) hne⟩
                                  case measure => simp [intOf]
                            · obtain ⟨y, hy⟩ : ∃ y, y = (ata LA j).2 := ⟨_, rfl⟩
                              obtain ⟨R0, hR0⟩ : ∃ R0, R0 = (pairOf t q i j).2 := ⟨_, rfl⟩
                              have d0 := (HBB.out.cell (p := ⟨b3, off3 + j * 2 + 1, none⟩) hb3).trans HC3.out.2.2
                              have d1 := (HBB.out.cell (p := ⟨b5, off5 + j * 2 + 1, none⟩) hb5).trans HC5.out.2.2
                              have uy := HC3.out.1.2
                              rw [← hy] at d0 uy
                              rw [← hR0] at d1
                              have Hy := Lib.hid (show sd (ata LA j) 1 = y from hy.symm)
                              have Hr0 := Lib.hid (show sd (pairOf t q i j) 1 = R0 from hR0.symm)
                              clear hy hR0
                              by_cases hN : psi (phi y) = R0
                              case pos =>
                                have bN : (psi (phi y) != R0) = false := by rw [hN]; simp
                                have HN := Lib.hid hN
                                clear hN
                                go_upto_region 39 with (fail)
                                go_quiet ((go_at_call 12; exact flip (field_Norm _ _ (by assumption))))
                                have HBn := Lib.hid (below_drewN HBs.out nq)
                                generalize wr.drewN nq = wz at *
                                go_wp2_with (fail)
                                go_roundw
                                case rel => exact ⟨2, by omega, by go_num, HBn.out, fun s' h' hne => by
                                  by_cases hs' : s' = 1
                                  · rw [hs', Hy.out, Hr0.out] at hne; exact absurd HN.out hne
                                  · exact HEs.out s' (by omega) hne⟩
                                case measure => simp [intOf]
                              case neg =>
                                have bN : (psi (phi y) != R0) = true := by simpa using hN
                                clear hN
                                obtain ⟨TB, hTB⟩ : ∃ TB, TB = tellsB o (m + 1) h j y 1 i := ⟨_, rfl⟩
                                have Hdr := Lib.hid (show Below w.heap.size w wr.drew from below_dw (below_chain H10.out HBB.out))
                                have HdL := Lib.hid (show Below W8.heap.size W8 wr.drew from below_dw (below_chain H810.out HBB.out))
                                have CTl := Lib.hid (show Calls Tryd.prog 13 #[.agg #[.slice a1 RL c1, .int .u64 V, .slice (some ⟨kb, ko, none⟩) h c2], .slice (some ⟨pb, po, none⟩) h cil, .int .i64 (j : Int), .int .u64 y, .int .i64 1, .int .i64 (i : Int)] wr.drew fun e w' => e = .returned (.bool TB) ∧ Below wr.drew.heap.size wr.drew w' from by
                                  obtain ⟨r, hr⟩ : ∃ r, m + 1 = j + r + 1 := ⟨m - j, by have := HM.out; omega⟩
                                  rw [hTB]
                                  exact top_tells1 o _ _ P (m + 1) h r j y i wr.drew (HKOO.out _ Hdr.out) HFO.out (by omega) (HL8.out.go HdL.out) HPl.out HPa.out hr (by omega) uy hzi)
                                have HTB := Lib.hid hTB
                                clear hTB
                                go_upto_region 39 with (fail)
                                refine wp_region_still_tail 33 (by kernel_rfl) (by kernel_rfl) ?_
                                simp only [List.take_succ_cons, List.take_zero, List.drop_succ_cons, List.drop_zero]
                                repeat (first | still_step | still_call (still_of (field_Norm _ _ uy)))
                                try refine wpStill_nil ?_
                                change wpList _ _ _ _ _ (World.drew _)
                                go_wp2_with (fail)
                                refine CTl.out.mono ?_
                                rintro e wt ⟨rfl, hbt⟩
                                have HBt := Lib.hid (below_chain (below_dw HBs.out) hbt)
                                have HBw2 := Lib.hid (below_chain Hdr.out hbt)
                                clear hbt
                                cases TB
                                case true =>
                                  go_wp2_with (fail)
                                  go_ret
                                  exact ⟨rfl, HBw2.out⟩
                                case false =>
                                  go_wp2_with (fail)
                                  go_roundw
                                  case rel => exact ⟨2, by omega, by go_num, HBt.out, fun s' h' hne => by
                                    by_cases hs' : s' = 1
                                    · rw [hs', Hy.out]; exact HTB.out.symm
                                    · exact HEs.out s' (by omega) hne⟩
                                  case measure => simp [intOf]
end Go.Proofs.YtfgoidaldgfklaaDoor
