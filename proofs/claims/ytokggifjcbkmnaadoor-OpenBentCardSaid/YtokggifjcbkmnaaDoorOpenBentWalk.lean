/- The walk of the law OpenBent: it returns true, whatever is handed in. The table of bits lies as its initialiser lays it. -/
import Derived.Test.YtokggifjcbkmnaaDoorIntsW
import Derived.Deep.DeepCutAuto
import Derived.Deep.RegionHeld3
namespace Go.Proofs.YtokggifjcbkmnaaDoor
set_option maxRecDepth 100000
set_option linter.unusedVariables false
open Go.RowKit Tally
theorem add_subF (a b : F) : a + b - b = a := by grind
theorem below_dwT {a b : World} (h : Below a.heap.size a b) : Below a.heap.size a b.drew := h.trans ((below_dwO b).mono h.size)
theorem below_alT {a b : World} (h : Below a.heap.size a b) (o : Obj) : Below a.heap.size a (b.alloc o) := h.trans ((below_alloc b o).mono h.size)
set_option maxRecDepth 100000 in
set_option maxHeartbeats 8000000 in
theorem openBent_walk (w : World) (hT : Tab w) (v : Value) (a : List Int) (ha : RowU w v a) (vp : Value) (p : List Int) (hp : RowU w vp p) (k : Int) (hk : I64 k) (by' : Int) (hby : U64 by') :
    Calls Tryd.prog 6 #[v, vp, .int .i64 k, .int .u64 by'] w fun e w' => e = .returned (.bool true) ∧ Below w.heap.size w w' := by
  have HT := Lib.hid hT; have Ha := Lib.hid ha; have Hp := Lib.hid hp; have Hk := Lib.hid hk; have Hby := Lib.hid hby
  obtain ⟨m, hm⟩ : ∃ m : Nat, k % 3 = (m : Int) := ⟨(k % 3).toNat, by omega⟩
  have hm3 : m ≤ 2 := by omega
  clear hT ha hp hk hby
  go_enter Tryd.func6, Tryd.ntmps6
  go_wp2_with (fail)
  refine (keep_opened _ HT.out).mono ?_
  rintro e w1 ⟨rfl, hb⟩
  have H1 := Lib.hid hb
  clear hb
  go_wp2_with (fail)
  refine (ref_Rest k 3 _ Hk.out (by omega) (by omega)).mono ?_
  rintro e w' ⟨rfl, rfl⟩
  rw [hm]
  clear hm
  have hsum : IntKind.i64.wrap (1 + (m : Int)) = ((m + 1 : Nat) : Int) := by rw [IntWalk.i64_in _ (by omega)]; omega
  go_wp2_with (fail)
  obtain ⟨N, hN⟩ : ∃ N, N = 2 ^ (m + 1) := ⟨_, rfl⟩
  obtain ⟨h, hh⟩ : ∃ h, h = 2 ^ m := ⟨_, rfl⟩
  have hNh : N = 2 * h := by rw [hN, hh, Nat.pow_succ]; omega
  obtain ⟨hh1, hh8⟩ : 1 ≤ h ∧ h ≤ 8 := by
    rw [hh]
    have h3 := Nat.pow_le_pow_right (show 1 ≤ 2 by decide) hm3
    exact ⟨Nat.pow_pos (by decide), by omega⟩
  obtain ⟨t, ht⟩ : ∃ t, t = padTo N a := ⟨_, rfl⟩
  obtain ⟨q, hq⟩ : ∃ q, q = padTo (m + 1) p := ⟨_, rfl⟩
  have Htl := Lib.hid (show t.length = 2 ^ (m + 1) by rw [ht, padTo_length, hN])
  have Hql := Lib.hid (show q.length = m + 1 by rw [hq, padTo_length])
  have CT := keep_table a v ((m : Int) + 1) w1 (Ha.out.step H1.out) (by unfold I64; omega)
  rw [show (((m : Int) + 1) % 5).toNat = m + 1 by omega, ← hN, ← ht] at CT
  have Hh := Lib.hid hh
  have HNh := Lib.hid hNh
  clear hN hh hsum hNh
  refine CT.mono ?_
  rintro e w2 ⟨rfl, hn2, hb2⟩
  have H2 := Lib.hid (below_chain H1.out hb2)
  have Ht2 := Lib.hid hn2.row
  obtain ⟨vt, hvt⟩ : ∃ vt, vt = w1.heap.size := ⟨_, rfl⟩
  rw [← hvt] at Ht2 ⊢
  clear hn2 hb2 CT hvt ht
  go_wp2_with (fail)
  refine (ref_Vars t (m + 1) _ w2 Ht2.out Htl.out (by omega)).mono ?_
  rintro e w' ⟨rfl, rfl⟩
  have CP := keep_point p vp (m + 1) w2 (Hp.out.step H2.out) (by omega)
  rw [← hq] at CP
  clear hq
  obtain ⟨M, hM⟩ : ∃ M : Nat, M = m + 1 := ⟨_, rfl⟩
  have HM := Lib.hid hM
  rw [← hM] at CP ⊢
  clear hM
  go_wp2_with (fail)
  refine CP.mono ?_
  rintro e w3 ⟨rfl, hn3, hb3⟩
  have H3 := Lib.hid (below_chain H2.out hb3)
  have Ht3 := Lib.hid (Ht2.out.step hb3)
  have Hq3 := Lib.hid hn3.row
  obtain ⟨vq, hvq⟩ : ∃ vq, vq = w2.heap.size := ⟨_, rfl⟩
  rw [← hvq] at Hq3 ⊢
  clear hn3 hb3 CP hvq
  obtain ⟨LP, hLP⟩ : ∃ LP : List Int, LP = (List.range h).map fun i => ((i : Nat) : Int) := ⟨_, rfl⟩
  have HLl := Lib.hid (show LP.length = h by rw [hLP]; simp)
  have HLa := Lib.hid (show ∀ i, i < h → at0 LP i = (i : Int) from fun i hi => by rw [hLP]; simp [at0, hi])
  clear hLP
  have hquo := Lib.hid (show wrap64 ((N : Int) / 2) = (h : Int) by have := HNh.out; rw [show (N : Int) / 2 = (h : Int) by omega]; unfold wrap64; omega)
  go_wp2_with (fail)
  rw [hquo.out]
  go_loopw [12, 35] (fun lw iv wr => ∃ (j : Nat) (lv : Value), j ≤ h ∧ lv = lw ∧ iv = .int .i64 (j : Int) ∧ Hid (NewI w3.heap.size wr lv (LP.take j)) ∧ Hid (Below w3.heap.size w3 wr)) (fun _ iv _ => h - (intOf iv).toNat)
  case atStart => exact ⟨0, _, Nat.zero_le _, rfl, rfl, NewI.nil _ _, Below.refl _ _⟩
  case round =>
    obtain ⟨j, lv, hj, rfl, rfl, HI, HB⟩ := hrel
    have HBw := Lib.hid (show Below w.heap.size w wr from below_chain H3.out HB.out)
    by_cases hz : j < h
    · have hj1 : (j : Int) < (h : Int) := by omega
      have HLs := Lib.hid (show LP.take (j + 1) = LP.take j ++ [(j : Int)] by rw [take_snoc' _ _ (by rw [HLl.out]; exact hz), HLa.out j hz])
      have iy : I64 (j : Int) := by unfold I64; omega
      have hcI : (LP.take j).length + 1 ≤ 1000000 := by rw [List.length_take]; omega
      have hsz := HB.out.size
      go_wp2_with (at_builtin; refine wpList_appI rfl _ _ rfl w3.heap.size lv _ rfl HI.out (j : Int) rfl iy hcI hsz ?_; intro v4 w4 hn4 hb4; have HI4 := Lib.hid hn4; have HB4 := Lib.hid (HB.out.trans hb4); clear hn4 hb4)
      rw [← HLs.out] at HI4
      go_roundw
      case rel => exact ⟨j + 1, v4, by omega, rfl, by go_num, HI4.out, HB4.out⟩
      case measure => simp [intOf]; omega
    · obtain rfl : j = h := by omega
      rw [List.take_of_length_le (by rw [HLl.out]; exact Nat.le_refl _)] at HI
      obtain ⟨wv, hwv⟩ : ∃ x : World, x = wr := ⟨_, rfl⟩
      subst hwv
      have HL0 := Lib.hid HI.out.row
      have Ht4 := Lib.hid (Ht3.out.step HB.out)
      have Hq4 := Lib.hid (Hq3.out.step HB.out)
      have HwB : wrongB LP ((2 ^ m : Nat) : Int) = false := by
        refine wrongB_of (by rw [HLl.out]; omega) fun i hi => ?_
        rw [HLl.out] at hi
        rw [HLa.out i hi, ← Hh.out]
        omega
      obtain ⟨rt, hrt⟩ : ∃ rt, rt = psi (rootF t (m + 1)) := ⟨_, rfl⟩
      obtain ⟨O, hO⟩ : ∃ O, O = openI t q LP := ⟨_, rfl⟩
      obtain ⟨V, hV⟩ : ∃ V, V = O.value := ⟨_, rfl⟩
      obtain ⟨V2, hV2⟩ : ∃ V2, V2 = psi (phi V + phi by') := ⟨_, rfl⟩
      obtain ⟨LB, hLB⟩ : ∃ LB, LB = lookB rt q LP { O with value := V2 } := ⟨_, rfl⟩
      obtain ⟨P1, hP1⟩ : ∃ P1, P1 = psi (pairF (phi V) (phi 0)) := ⟨_, rfl⟩
      obtain ⟨nB, hnB⟩ : ∃ nB, nB = psi (phi by') := ⟨_, rfl⟩
      have CR := Lib.hid (fun v X (hX : Below w.heap.size w X) (hr : RowU X v t) => tree_Root t (m + 1) v X (HT.out.below hX) hr Htl.out (by omega))
      have CO := Lib.hid (fun v v2 v3 X (hX : Below w.heap.size w X) (hr : RowU X v t) (h2 : RowU X v2 q) (h3 : RowI X v3 LP) => open_Open t q LP m (by omega) Hql.out Htl.out HwB v v2 v3 X (HT.out.below hX) hr h2 h3)
      have CL := Lib.hid (fun v2 v3 v4 X (hX : Below w.heap.size w X) (h2 : RowU X v2 q) (h3 : RowI X v3 LP) (h4 : IsO X v4 { openI t q LP with value := V2 }) => look_opened t q LP V2 m (by omega) Hql.out HwB v2 v3 v4 X (HT.out.below hX) h2 h3 h4)
      have eV : psi (evalF (t.map phi) (q.map phi)) = V := by rw [hV, hO]; exact (open_value t q LP (by rw [Htl.out, Hql.out]) (by rw [Hql.out]; omega)).symm
      have eVn : psi (phi V) = V := by rw [← eV, phi_psi]
      have hlen : t.length = 2 ^ q.length := by rw [Htl.out, Hql.out]
      have hq1 : 1 ≤ q.length := by rw [Hql.out]; omega
      have rq : rt = psi (rootF t q.length) := by rw [hrt, Hql.out]
      have HZ := Lib.hid (show nB = 0 → LB = true from fun h0 => by
        have p0 : phi by' = 0 := by rw [← phi_psi (phi by'), ← hnB, h0]; rfl
        have e2 : V2 = O.value := by rw [hV2, p0, ← hV, add_zero', eVn]
        rw [hLB, rq, e2, hO]
        exact open_holds t q LP hlen hq1)
      have HBt := Lib.hid (show LB = true → psi (pairF (phi V2) (phi 0)) = P1 from fun h1 => by
        rw [hLB, rq, hO] at h1
        have := open_bent t q LP hlen hq1 V2 h1
        rw [hP1, hV, hO]
        exact congrArg psi this)
      have eS : psi (phi V2 - phi by') = V := by rw [hV2, phi_psi, add_subF, eVn]
      have uV : U64 V := by rw [← eV]; exact U64.psi _
      have uV2 : U64 V2 := by rw [hV2]; exact U64.psi _
      have z0 : U64 0 := u64n 0 (by decide)
      have CA := Lib.hid (fun X => field_Add V by' X uV Hby.out)
      have CS := Lib.hid (fun X => field_Sub V2 by' X uV2 Hby.out)
      have CN := Lib.hid (fun X => field_Norm by' X Hby.out)
      have CP := Lib.hid (fun X => sponge_Pair V 0 X uV z0)
      have CQ := Lib.hid (fun (h : LB = true) X => show Calls Tryd.prog 29 #[.int .u64 V2, .int .u64 0] X fun e w' => e = .returned (.int .u64 P1) ∧ Below X.heap.size X w' from by
        have := sponge_Pair V2 0 X uV2 z0
        rwa [HBt.out h] at this)
      rw [← hrt] at CR CL; rw [← hO] at CO CL; rw [← hLB] at CL; rw [← hV2] at CA; rw [eS] at CS; rw [← hnB] at CN; rw [← hP1] at CP
      have HV := Lib.hid hV
      obtain ⟨ail, cil, rfl⟩ := HI.out.isSlice
      rw [HLl.out] at HL0 ⊢
      clear hrt hO hV eV HwB HI hV2 hLB hP1 hnB eVn hlen hq1 rq eS
      go_wp2_with (fail)
      refine (CR.out _ wv HBw.out Ht4.out).mono ?_
      rintro e w5 ⟨rfl, hb5⟩
      have H5 := Lib.hid (below_chain HBw.out hb5); have Ht5 := Lib.hid (Ht4.out.step hb5); have Hq5 := Lib.hid (Hq4.out.step hb5); have HL5 := Lib.hid (HL0.out.go hb5)
      clear hb5 CR
      go_wp2_with (fail)
      refine (CO.out _ _ _ w5 H5.out Ht5.out Hq5.out HL5.out).mono ?_
      rintro e w6 ⟨vo, rfl, hF, hb6⟩
      have H6 := Lib.hid (below_chain H5.out hb6); have Hq6 := Lib.hid (Hq5.out.step hb6); have HL6 := Lib.hid (HL5.out.go hb6)
      obtain ⟨ur, uk, rfl, -, hr, hkk⟩ := hF.now
      have Hr6 := Lib.hid hr; have Hk6 := Lib.hid hkk
      rw [← HV.out]
      obtain ⟨-, -, a1, c1, rfl, -⟩ := hr
      obtain ⟨-, a2, c2, rfl, -⟩ := hkk
      clear hF hb6 CO
      obtain ⟨W7, hW7, b7, s7, B7⟩ := one_blockO w6 #[.slice a1 O.roots.length c1, .int .u64 V, .slice a2 O.looks.length c2] 40
      have k0 : W7.cell? ⟨w6.heap.size, 0, none⟩ = some _ := cell_blk b7 0
      have k1 : W7.cell? ⟨w6.heap.size, 1, none⟩ = some _ := cell_blk b7 1
      have k2 : W7.cell? ⟨w6.heap.size, 2, none⟩ = some _ := cell_blk b7 2
      have f7 := free_blk b7
      have Hb7 := Lib.hid b7; have HB7 := Lib.hid B7
      clear b7 s7 B7
      go_wp2_with (first | (go_at_call 18; refine (CA.out _).mono ?_; rintro e wz ⟨rfl, rfl⟩))
      have HB8 := Lib.hid (HB7.out.setCell (p := ⟨w6.heap.size, 1, none⟩) (Nat.le_refl _) (.int .u64 V2))
      have b8 := blk_setCell Hb7.out 1 (.int .u64 V2)
      obtain ⟨W8, hW8⟩ : ∃ W8, W8 = W7.setCell ⟨w6.heap.size, 1, none⟩ (.int .u64 V2) := ⟨_, rfl⟩
      rw [← hW8] at HB8 b8 ⊢
      obtain ⟨nb, hnb⟩ : ∃ nb, nb = w6.heap.size := ⟨_, rfl⟩
      rw [← hnb] at b8 ⊢
      have H8 := Lib.hid (below_chain H6.out HB8.out); have Hq8 := Lib.hid (Hq6.out.step HB8.out); have HL8 := Lib.hid (HL6.out.go HB8.out)
      have HO8 : Hid (IsO W8 (.agg #[.slice a1 O.roots.length c1, .int .u64 V2, .slice a2 O.looks.length c2]) { O with value := V2 }) := Lib.hid ⟨_, _, rfl, uV2, Hr6.out.go HB8.out, Hk6.out.go HB8.out⟩
      have l8 := blk_lt b8
      have Hb8 := Lib.hid b8
      clear hW8 hnb k0 k1 k2 f7 Hb7 HB7 b8 hW7 CA
      refine (CL.out _ _ _ W8 H8.out Hq8.out HL8.out HO8.out).mono ?_
      rintro e w9 ⟨rfl, hb9⟩
      have n1 : w9.cell? ⟨nb, 1, none⟩ = some (.int .u64 V2) := cell_blk ((hb9.block nb l8).trans Hb8.out) 1
      have l9 : nb < w9.heap.size := Nat.lt_of_lt_of_le l8 hb9.size
      have H9 := Lib.hid (below_chain H8.out hb9)
      clear hb9 CL l8
      by_cases hz : nB = 0
      · have hnb : (nB == 0) = true := by rw [beq_iff_eq]; exact hz
        rw [HZ.out hz]
        clear hz
        go_wp2_with (first | (go_at_call 13; refine (CN.out _).mono ?_; rintro e wz ⟨rfl, rfl⟩))
        go_ret
        exact ⟨rfl, H9.out⟩
      · have hnb : (nB == 0) = false := by rw [beq_eq_false_iff_ne]; exact hz
        clear hz
        have n1d : w9.drew.cell? ⟨nb, 1, none⟩ = some (.int .u64 V2) := n1
        have K9 := Lib.hid (show ∀ X, Below w9.heap.size w9 X → Below w9.heap.size w9 X ∧ X.cell? ⟨nb, 1, none⟩ = some (.int .u64 V2) from fun X hX => ⟨hX, (hX.cell (p := ⟨nb, 1, none⟩) l9).trans n1⟩)
        cases hLB : LB
        · clear CQ HBt HZ hLB
          go_wp2_with (first | (go_at_call 13; refine (CN.out _).mono ?_; rintro e wz ⟨rfl, rfl⟩) | (go_at_call 20; refine (CS.out _).mono ?_; rintro e wz ⟨rfl, rfl⟩))
          go_quiet (fail)
          go_wp2_with (fail)
          go_ret
          exact ⟨rfl, below_drewN H9.out nq⟩
        · have CQ' := Lib.hid (CQ.out hLB)
          clear CQ HBt HZ hLB
          go_wp2_with (first | (go_at_call 13; refine (CN.out _).mono ?_; rintro e wz ⟨rfl, rfl⟩) | (go_at_call 20; refine (CS.out _).mono ?_; rintro e wz ⟨rfl, rfl⟩))
          go_region_held3 (fun w' => Below w9.heap.size w9 w' ∧ w'.cell? ⟨nb, 1, none⟩ = some (.int .u64 V2))
            (first | (refine K9.out _ ?_; (repeat (first | assumption | (with_reducible exact Below.refl _ _) | (with_reducible refine below_dwT ?_) | (with_reducible refine below_alT ?_ _) | (with_reducible refine below_two ?_ (by assumption))))))
            (first | (go_at_call 29; (with_reducible refine (CP.out _).mono ?_); rintro e wv ⟨rfl, hbv⟩) | (go_at_call 29; (with_reducible refine (CQ'.out _).mono ?_); rintro e wv ⟨rfl, hbv⟩))
          all_goals
            go_wp2_with (fail)
            go_ret
            refine ⟨rfl, below_chain H9.out ?_⟩
            (repeat (first | assumption | (with_reducible exact Below.refl _ _) | (with_reducible refine below_dwT ?_) | (with_reducible refine below_alT ?_ _) | (with_reducible refine below_two ?_ (by assumption))))
end Go.Proofs.YtokggifjcbkmnaaDoor
