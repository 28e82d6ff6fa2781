/- The walk of the law OpenComplete: it returns true, whatever is handed in. The table of bits lies as its initialiser lays it. -/
import Derived.Test.YtokggifjcbkmnaaDoorIntsW
import Derived.Deep.DeepCutAuto
namespace Go.Proofs.YtokggifjcbkmnaaDoor
set_option maxRecDepth 100000
set_option linter.unusedVariables false
open Go.RowKit Tally
set_option maxRecDepth 100000 in
set_option maxHeartbeats 8000000 in
theorem openComplete_walk (w : World) (hT : Tab w) (v : Value) (a : List Int) (ha : RowU w v a) (vp : Value) (p : List Int) (hp : RowU w vp p) (k : Int) (hk : I64 k) (vl : Value) (places : List Int) (hl : RowI w vl places) (hc : CapOk vl) :
    Calls Tryd.prog 7 #[v, vp, .int .i64 k, vl] w fun e w' => e = .returned (.bool true) ∧ Below w.heap.size w w' := by
  have HT := Lib.hid hT; have Ha := Lib.hid ha; have Hp := Lib.hid hp; have Hl := Lib.hid hl; have Hk := Lib.hid hk
  obtain ⟨-, hll, al, cl, rfl, hlc⟩ := hl
  obtain ⟨hcap, hcap2⟩ := hc _ _ _ rfl
  have Hlc := Lib.hid hlc
  obtain ⟨m, hm⟩ : ∃ m : Nat, k % 4 = (m : Int) := ⟨(k % 4).toNat, by omega⟩
  have hm3 : m ≤ 3 := by omega
  clear hT ha hp hk hc hlc
  go_enter Tryd.func7, Tryd.ntmps7
  go_wp2_with (fail)
  refine (keep_opened _ HT.out).mono ?_
  rintro e w1 ⟨rfl, hb⟩
  have H1 := Lib.hid hb
  clear hb
  go_wp2_with (fail)
  refine (ref_Rest k 4 _ Hk.out (by omega) (by omega)).mono ?_
  rintro e w' ⟨rfl, rfl⟩
  rw [hm]
  clear hm
  have hsum : IntKind.i64.wrap (1 + (m : Int)) = ((m + 1 : Nat) : Int) := by rw [IntWalk.i64_in _ (by omega)]; omega
  go_wp2_with (fail)
  obtain ⟨N, hN⟩ : ∃ N, N = 2 ^ (m + 1) := ⟨_, rfl⟩
  obtain ⟨h, hh⟩ : ∃ h, h = 2 ^ m := ⟨_, rfl⟩
  have hNh : N = 2 * h := by rw [hN, hh, Nat.pow_succ]; omega
  obtain ⟨hh1, hh8⟩ : 1 ≤ h ∧ h ≤ 8 := by
    rw [hh]
    have h3 := Nat.pow_le_pow_right (show 1 ≤ 2 by decide) hm3
    exact ⟨Nat.pow_pos (by decide), h3⟩
  obtain ⟨t, ht⟩ : ∃ t, t = padTo N a := ⟨_, rfl⟩
  obtain ⟨q, hq⟩ : ∃ q, q = padTo (m + 1) p := ⟨_, rfl⟩
  have Htl := Lib.hid (show t.length = 2 ^ (m + 1) by rw [ht, padTo_length, hN])
  have Hql := Lib.hid (show q.length = m + 1 by rw [hq, padTo_length])
  have CT := keep_table a v ((m : Int) + 1) w1 (Ha.out.step H1.out) (by unfold I64; omega)
  rw [show (((m : Int) + 1) % 5).toNat = m + 1 by omega, ← hN, ← ht] at CT
  have Hh := Lib.hid hh
  have HNh := Lib.hid hNh
  clear hN hh hsum hNh
  refine CT.mono ?_
  rintro e w2 ⟨rfl, hn2, hb2⟩
  have H2 := Lib.hid (below_chain H1.out hb2)
  have Ht2 := Lib.hid hn2.row
  obtain ⟨vt, hvt⟩ : ∃ vt, vt = w1.heap.size := ⟨_, rfl⟩
  rw [← hvt] at Ht2 ⊢
  clear hn2 hb2 CT hvt ht
  go_wp2_with (fail)
  refine (ref_Vars t (m + 1) _ w2 Ht2.out Htl.out (by omega)).mono ?_
  rintro e w' ⟨rfl, rfl⟩
  have CP := keep_point p vp (m + 1) w2 (Hp.out.step H2.out) (by omega)
  rw [← hq] at CP
  clear hq
  obtain ⟨M, hM⟩ : ∃ M : Nat, M = m + 1 := ⟨_, rfl⟩
  have HM := Lib.hid hM
  rw [← hM] at CP ⊢
  clear hM
  go_wp2_with (fail)
  refine CP.mono ?_
  rintro e w3 ⟨rfl, hn3, hb3⟩
  have H3 := Lib.hid (below_chain H2.out hb3)
  have Ht3 := Lib.hid (Ht2.out.step hb3)
  have Hq3 := Lib.hid hn3.row
  obtain ⟨vq, hvq⟩ : ∃ vq, vq = w2.heap.size := ⟨_, rfl⟩
  rw [← hvq] at Hq3 ⊢
  clear hn3 hb3 CP hvq
  obtain ⟨c8, hc8⟩ : ∃ c8, c8 = min 8 places.length := ⟨_, rfl⟩
  have hc8l : c8 ≤ 8 := by omega
  have hc8p : c8 ≤ places.length := by omega
  have hc8c : c8 ≤ cl := by omega
  have Hc8 := Lib.hid hc8
  clear hc8
  go_upto_region 7 with (fail)
  go_cut [39, 40, 41] (fun x y z wx => x = .slice al c8 cl ∧ y = .int .i64 (c8 : Int) ∧ z = .int .i64 0 ∧ w3 = wx)
  case first =>
    by_cases h8 : (8 : Int) ≤ (places.length : Int)
    · have e8 := Lib.hid (show c8 = 8 by have := Hc8.out; omega)
      go_wp2_with (fail)
      go_meet
      case rel => exact ⟨by rw [e8.out], by rw [e8.out]; rfl, rfl, rfl⟩
    · have e8 := Lib.hid (show c8 = places.length by have := Hc8.out; omega)
      go_wp2_with (fail)
      go_meet
      case rel => exact ⟨by rw [e8.out], by rw [e8.out], rfl, rfl⟩
  case rest =>
    obtain ⟨rfl, rfl, rfl, rfl⟩ := hcut
    obtain ⟨LP, hLP⟩ : ∃ LP, LP = (List.range c8).map fun i => at0 places i % (h : Int) := ⟨_, rfl⟩
    have HLl := Lib.hid (show LP.length = c8 by rw [hLP]; simp)
    have HLa := Lib.hid (show ∀ i, i < c8 → at0 LP i = at0 places i % (h : Int) from fun i hi => by rw [hLP]; simp [at0, hi])
    clear hLP
    have hquo := Lib.hid (show wrap64 ((N : Int) / 2) = (h : Int) by have := HNh.out; rw [show (N : Int) / 2 = (h : Int) by omega]; unfold wrap64; omega)
    go_wp2_with (fail)
    go_loopw [12, 41] (fun lw iv wr => ∃ (j : Nat) (lv : Value), j ≤ c8 ∧ lv = lw ∧ iv = .int .i64 (j : Int) ∧ Hid (NewI w3.heap.size wr lv (LP.take j)) ∧ Hid (Below w3.heap.size w3 wr)) (fun _ iv _ => c8 - (intOf iv).toNat)
    case atStart => exact ⟨0, _, Nat.zero_le _, rfl, rfl, NewI.nil _ _, Below.refl _ _⟩
    case round =>
      obtain ⟨j, lv, hj, rfl, rfl, HI, HB⟩ := hrel
      have HBw := Lib.hid (show Below w.heap.size w wr from below_chain H3.out HB.out)
      by_cases hz : j < c8
      · have hj1 : (j : Int) < (c8 : Int) := by omega
        obtain ⟨bl, ol, har, hbl, hcl⟩ := Hlc.out (by omega)
        subst har
        obtain ⟨x, hx⟩ : ∃ x, x = at0 places j := ⟨_, rfl⟩
        have cx := (HBw.out.cell (p := ⟨bl, ol + j, none⟩) hbl).trans (hcl j (by omega))
        have ix : I64 x := by rw [hx]; exact Hl.out.1 _ (at0_mem (by omega))
        rw [← hx] at cx
        obtain ⟨y, hy⟩ : ∃ y, y = x % (h : Int) := ⟨_, rfl⟩
        have hy1 : 0 ≤ y ∧ y < (h : Int) := by rw [hy]; exact ⟨Int.emod_nonneg _ (by omega), Int.emod_lt_of_pos _ (by omega)⟩
        have HLs := Lib.hid (show LP.take (j + 1) = LP.take j ++ [y] by rw [take_snoc' _ _ (by rw [HLl.out]; exact hz), HLa.out j hz, hy, hx])
        have CR := Lib.hid (ref_Rest x (h : Int) wr ix (by omega) (by omega))
        rw [← hy] at CR
        have iy : I64 y := by unfold I64; omega
        have hcI : (LP.take j).length + 1 ≤ 1000000 := by rw [List.length_take]; omega
        have hsz := HB.out.size
        clear hx hy hcl
        go_wp2_with (first
          | (go_at_call 11; rw [hquo.out]; refine CR.out.mono ?_; rintro e wz ⟨rfl, rfl⟩)
          | (at_builtin; refine wpList_appI rfl _ _ rfl w3.heap.size lv _ rfl HI.out y rfl iy hcI hsz ?_; intro v4 w4 hn4 hb4; have HI4 := Lib.hid hn4; have HB4 := Lib.hid (HB.out.trans hb4); clear hn4 hb4))
        rw [← HLs.out] at HI4
        go_roundw
        case rel => exact ⟨j + 1, v4, by omega, rfl, by go_num, HI4.out, HB4.out⟩
        case measure => simp [intOf]; omega
      · obtain rfl : j = c8 := by omega
        rw [List.take_of_length_le (by rw [HLl.out]; exact Nat.le_refl _)] at HI
        obtain ⟨wv, hwv⟩ : ∃ x : World, x = wr := ⟨_, rfl⟩
        subst hwv
        have HL0 := Lib.hid HI.out.row
        have Ht4 := Lib.hid (Ht3.out.step HB.out)
        have Hq4 := Lib.hid (Hq3.out.step HB.out)
        have HwB : wrongB LP ((2 ^ m : Nat) : Int) = false := by
          refine wrongB_of (by rw [HLl.out]; omega) fun i hi => ?_
          rw [HLl.out] at hi
          rw [HLa.out i hi, ← Hh.out]
          exact ⟨Int.emod_nonneg _ (by omega), Int.emod_lt_of_pos _ (by omega)⟩
        obtain ⟨rt, hrt⟩ : ∃ rt, rt = psi (rootF t (m + 1)) := ⟨_, rfl⟩
        obtain ⟨O, hO⟩ : ∃ O, O = openI t q LP := ⟨_, rfl⟩
        obtain ⟨V, hV⟩ : ∃ V, V = O.value := ⟨_, rfl⟩
        have CR := Lib.hid (fun v X (hX : Below w.heap.size w X) (hr : RowU X v t) => tree_Root t (m + 1) v X (HT.out.below hX) hr Htl.out (by omega))
        have CO := Lib.hid (fun v v2 v3 X (hX : Below w.heap.size w X) (hr : RowU X v t) (h2 : RowU X v2 q) (h3 : RowI X v3 LP) => open_Open t q LP m (by omega) Hql.out Htl.out HwB v v2 v3 X (HT.out.below hX) hr h2 h3)
        have CE := Lib.hid (fun v v2 X (hX : Below w.heap.size w X) (hr : RowU X v t) (h2 : RowU X v2 q) => mle_Eval t q v v2 X (HT.out.below hX) hr h2 (by rw [Htl.out, Hql.out]) (by rw [Hql.out]; omega))
        have CL := Lib.hid (fun v2 v3 v4 X (hX : Below w.heap.size w X) (h2 : RowU X v2 q) (h3 : RowI X v3 LP) (h4 : IsO X v4 (openI t q LP)) => look_right t q LP m (by omega) Hql.out Htl.out HwB v2 v3 v4 X (HT.out.below hX) h2 h3 h4)
        have eV : psi (evalF (t.map phi) (q.map phi)) = V := by rw [hV, hO]; exact (open_value t q LP (by rw [Htl.out, Hql.out]) (by rw [Hql.out]; omega)).symm
        rw [← hrt] at CR CL; rw [← hO] at CO CL; rw [eV] at CE
        have HV := Lib.hid hV
        obtain ⟨ail, cil, rfl⟩ := HI.out.isSlice
        rw [HLl.out] at HL0 ⊢
        clear hrt hO hV eV HwB HI
        go_wp2_with (fail)
        refine (CR.out _ wv HBw.out Ht4.out).mono ?_
        rintro e w5 ⟨rfl, hb5⟩
        have H5 := Lib.hid (below_chain HBw.out hb5); have Ht5 := Lib.hid (Ht4.out.step hb5); have Hq5 := Lib.hid (Hq4.out.step hb5); have HL5 := Lib.hid (HL0.out.go hb5)
        clear hb5 CR
        go_wp2_with (fail)
        refine (CO.out _ _ _ w5 H5.out Ht5.out Hq5.out HL5.out).mono ?_
        rintro e w6 ⟨vo, rfl, hF, hb6⟩
        have H6 := Lib.hid (below_chain H5.out hb6); have Ht6 := Lib.hid (Ht5.out.step hb6); have Hq6 := Lib.hid (Hq5.out.step hb6); have HL6 := Lib.hid (HL5.out.go hb6)
        have HO6 := Lib.hid hF.now
        obtain ⟨ur, uk, rfl, uv, hr, hkk⟩ := hF.now
        rw [← HV.out] at HO6 uv ⊢
        obtain ⟨-, -, a1, c1, rfl, -⟩ := hr
        obtain ⟨-, a2, c2, rfl, -⟩ := hkk
        clear hF hb6 CO
        go_wp2_with (fail)
        obtain ⟨W7, hW7, k0, k1, k2, B7, s7⟩ := copied3' w6 (.slice a1 O.roots.length c1) (.int .u64 V) (.slice a2 O.looks.length c2) 40
        rw [hW7]
        have l7 : w6.heap.size < W7.heap.size := by omega
        have H7 := Lib.hid (below_chain H6.out B7); have Ht7 := Lib.hid (Ht6.out.step B7); have Hq7 := Lib.hid (Hq6.out.step B7); have HL7 := Lib.hid (HL6.out.go B7); have HO7 := Lib.hid (HO6.out.go B7)
        obtain ⟨nb, hnb⟩ : ∃ nb, nb = w6.heap.size := ⟨_, rfl⟩
        rw [← hnb] at k0 k1 k2 l7 ⊢
        clear hW7 B7 s7 hnb
        refine (CE.out _ _ W7 H7.out Ht7.out Hq7.out).mono ?_
        rintro e w8 ⟨rfl, hb8⟩
        have H8 := Lib.hid (below_chain H7.out hb8); have Ht8 := Lib.hid (Ht7.out.step hb8); have Hq8 := Lib.hid (Hq7.out.step hb8); have HL8 := Lib.hid (HL7.out.go hb8); have HO8 := Lib.hid (HO7.out.go hb8)
        have m0 := (hb8.cell (p := ⟨nb, 0, none⟩) l7).trans k0
        have m1 := (hb8.cell (p := ⟨nb, 1, none⟩) l7).trans k1
        have m2 := (hb8.cell (p := ⟨nb, 2, none⟩) l7).trans k2
        have l8 : nb < w8.heap.size := Nat.lt_of_lt_of_le l7 hb8.size
        clear hb8 k0 k1 k2 CE
        go_wp2_with (fail)
        refine (CL.out _ _ _ w8 H8.out Hq8.out HL8.out HO8.out).mono ?_
        rintro e w9 ⟨rfl, hb9⟩
        have n1 := (hb9.cell (p := ⟨nb, 1, none⟩) l8).trans m1
        have H9 := Lib.hid (below_chain H8.out hb9)
        clear hb9 m0 m1 m2 CL
        go_wp2_with (fail)
        go_ret
        exact ⟨by simp, H9.out⟩
end Go.Proofs.YtokggifjcbkmnaaDoor
