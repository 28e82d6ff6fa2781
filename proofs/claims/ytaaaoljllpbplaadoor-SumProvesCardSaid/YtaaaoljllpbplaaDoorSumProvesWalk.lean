/- The walks of the reference's Rounds, of the laws' same, and of the law SumProves: it returns true, whatever is handed in. The table of bits lies as its initialiser lays it. -/
import Derived.Test.YtaaaoljllpbplaaDoorSumP
namespace Go.Proofs.YtaaaoljllpbplaaDoor
set_option maxRecDepth 100000
set_option linter.unusedVariables false
open Go.RowKit Tally
set_option maxHeartbeats 1000000 in
theorem same_one (l : List Int) (v v2 : Value) (w : World) (hp : RowU w v l) (hp2 : RowU w v2 l) :
    Calls Tryd.prog 82 #[v, v2] w fun e w' => e = .returned (.bool true) ∧ Drawn w w' := by
  have Hp := Lib.hid hp
  have Hp2 := Lib.hid hp2
  clear hp hp2
  go_enter Tryd.func82, Tryd.ntmps82
  go_wp2_with (fail)
  refine (slices_Equal l _ _ _ Hp.out Hp2.out).mono ?_
  rintro e w1 ⟨rfl, hd⟩
  go_wp2
  go_ret
  exact ⟨rfl, hd⟩
theorem RowUU.drawn {w w' : World} {v : Value} {l : List (List Int)} (h : RowUU w v l) (hd : Drawn w w') : RowUU w' v l := h.below hd.below (Nat.le_refl _)
set_option maxHeartbeats 2000000 in
theorem eqFunc (ll : List (List Int)) (v v2 : Value) (w : World) (hp : RowUU w v ll) (hp2 : RowUU w v2 ll) :
    Calls Tryd.prog 81 #[v, v2, .func (.func 82) #[] #[]] w fun e w' => e = .returned (.bool true) ∧ Drawn w w' := by
  obtain ⟨h2, ad, cap, rfl, hr⟩ := hp
  obtain ⟨_, ad2, cap2, rfl, hr2⟩ := hp2
  have Hr := Lib.hid hr
  have Hr2 := Lib.hid hr2
  clear hr hr2
  go_enter Tryd.func81, Tryd.ntmps81
  go_wp2
  go_loopw [17] (fun i wr => ∃ k : Nat, k ≤ ll.length ∧ i = .int .i64 (k : Int) ∧ Drawn w wr) (fun i _ => ll.length - (intOf i).toNat)
  case atStart => exact ⟨0, by omega, rfl, Drawn.refl _⟩
  case round =>
    obtain ⟨k, hk, rfl, hd⟩ := hrel
    by_cases hz : k < ll.length
    · obtain ⟨b, off, rfl, hblt, hcell⟩ := Hr.out (by omega)
      obtain ⟨b2, off2, rfl, hblt2, hcell2⟩ := Hr2.out (by omega)
      obtain ⟨u, hu, hru⟩ := hcell k hz
      obtain ⟨u2, hu2, hru2⟩ := hcell2 k hz
      have c1 := (hd.below.cell (p := ⟨b, off + k, none⟩) hblt).trans hu
      have c2 := (hd.below.cell (p := ⟨b2, off2 + k, none⟩) hblt2).trans hu2
      have H1 := Lib.hid (hru.below hd.below (Nat.le_refl _))
      have H2 := Lib.hid (hru2.below hd.below (Nat.le_refl _))
      have hk1 : (k : Int) < (ll.length : Int) := by omega
      clear hcell hcell2 hru hru2 hu hu2
      go_wp2_with (fail)
      refine (same_one _ _ _ _ H1.out H2.out).mono ?_
      rintro e w1 ⟨rfl, hd1⟩
      have hdw := hd.trans hd1
      clear hd1
      go_wp2
      go_roundw
      case rel => exact ⟨k + 1, by omega, by go_num, hdw⟩
      case measure => simp [intOf]; omega
    · obtain rfl : k = ll.length := by omega
      go_wp2
      go_ret
      exact ⟨rfl, hd⟩
set_option maxHeartbeats 2000000 in
theorem law_same (ll : List (List Int)) (v v2 : Value) (w : World) (hp : RowUU w v ll) (hp2 : RowUU w v2 ll) :
    Calls Tryd.prog 49 #[v, v2] w fun e w' => e = .returned (.bool true) ∧ Drawn w w' := by
  have Hp := Lib.hid hp
  have Hp2 := Lib.hid hp2
  clear hp hp2
  go_enter Tryd.func49, Tryd.ntmps49
  go_wp2_with (fail)
  refine (eqFunc ll _ _ _ Hp.out Hp2.out).mono ?_
  rintro e w1 ⟨rfl, hd⟩
  go_wp2
  go_ret
  exact ⟨rfl, hd⟩
theorem round_elem (ll : List (List Int)) (ds : List Int) (i n x : Nat) : psi (claimF (tabs (fixAll (fixesAll ll (ds.take i)) (phi x))) (2 ^ (n - i - 1))) = psi (claimF (fixed ll ((ds.take i) ++ [(x : Int)])) (2 ^ (n - i - 1))) := by
  rw [← tabs_fixesAll]
  unfold fixesAll
  rw [List.foldl_append]; rfl
set_option maxHeartbeats 2000000 in
theorem ref_Rounds (ll : List (List Int)) (ds : List Int) (n : Nat) (v v2 : Value) (w : World) (hp : RowUU w v ll) (hp2 : RowU w v2 ds) (hcap : CapOk v2) (hf : Facts ll n) (hd : ds.length = n) :
    Calls Tryd.prog 47 #[v, v2] w fun e w' => ∃ v', e = .returned v' ∧ NewUU w.heap.size w' v' (provesI ll ds n) ∧ Below w.heap.size w w' := by
  have Hp := Lib.hid hp
  have Hp2 := Lib.hid hp2
  have Hf := Lib.hid hf
  have Hd := Lib.hid hd
  have hn8 := hf.1
  have hl3 := hf.2.2.1
  obtain ⟨h2, ad, cap, rfl, _⟩ := hp
  obtain ⟨_, h22, ad2, cap2, rfl, _⟩ := hp2
  have Hc := Lib.hid (hcap _ _ _ rfl)
  have hds8 : ds.length ≤ 8 := by omega
  clear hf hd hcap
  go_enter Tryd.func47, Tryd.ntmps47
  go_wp2
  go_loopw [5, 6] (fun o i wr => ∃ (k : Nat), k ≤ ds.length ∧ i = .int .i64 (k : Int) ∧ Hid (NewUU w.heap.size wr o ((provesI ll ds n).take k)) ∧ Hid (Below w.heap.size w wr)) (fun _ i _ => ds.length - (intOf i).toNat)
  case atStart => exact ⟨0, by omega, rfl, NewUU.nil _ _, Below.refl _ _⟩
  case round =>
    obtain ⟨k, hk, rfl, HO, HB⟩ := hrel
    by_cases hz : k < ds.length
    · have hkn : k < n := by have := Hd.out; omega
      have Hs := Lib.hid (provesI_take ll ds n k hkn)
      have Hkn := Lib.hid hkn
      have hk1 : (k : Int) < (ds.length : Int) := by omega
      have hkc : (k : Int) ≤ (cap2 : Int) := by have := Hc.out.1; omega
      obtain ⟨b, off, cc, ev, hsub⟩ := Hp2.out.sub (by omega)
      cases ev
      have Hsub := Lib.hid (hsub.take k)
      have Hlt := Lib.hid (show (ds.take k).length = k by simp; omega)
      have Hfl := Lib.hid (fixesAll_length ll (ds.take k))
      obtain ⟨R, hR⟩ : ∃ R, R = roundI (fixesAll ll (ds.take k)) (n - k - 1) := ⟨_, rfl⟩
      have HRl := Lib.hid (show R.length = ll.length + 1 by rw [hR, roundI_length, fixesAll_length])
      have HRs := Lib.hid (show ∀ j, j < ll.length + 1 → R.take (j + 1) = R.take j ++ [psi (claimF (fixed ll ((ds.take k) ++ [(j : Int)])) (2 ^ (n - k - 1)))] from fun j hj => by
        rw [hR, roundI_take _ _ j (by rw [fixesAll_length]; exact hj), round_elem])
      have HR := Lib.hid hR
      clear hkn hsub hR
      obtain ⟨w1, rfl⟩ : ∃ x : World, x = wr := ⟨_, rfl⟩
      go_wp2
      go_loopw [7, 8] (fun o i wr => ∃ (j : Nat), j ≤ ll.length + 1 ∧ i = .int .i64 (j : Int) ∧ Hid (NewU w1.heap.size wr o (R.take j)) ∧ Hid (Below w1.heap.size w1 wr)) (fun _ i _ => ll.length + 1 - (intOf i).toNat)
      case atStart => exact ⟨0, by omega, rfl, NewU.nil _ _, Below.refl _ _⟩
      case round =>
        obtain ⟨j, hj, rfl, HO2, HB2⟩ := hrel
        by_cases hzj : j < ll.length + 1
        · have hj1 : (j : Int) ≤ (ll.length : Int) := by omega
          have uj : U64 (j : Int) := ⟨by omega, by omega⟩
          have hwj : IntKind.u64.wrap (j : Int) = (j : Int) := by rw [IntKind.wrap_u64]; omega
          have Hs2 := Lib.hid (HRs.out j hzj)
          have hcapl : (R.take j).length + 1 ≤ 17592186043904 := by simp; omega
          have HBr := Lib.hid (HB.out.trans (HB2.out.mono HB.out.size))
          have Hsr := Lib.hid ((Hsub.out.below HBr.out (Nat.le_refl _)).row k cap2 Hlt.out (by omega))
          go_wp2_with (fail)
          refine (ref_joined [ds.take k, [(j : Int)]] _ _ (RowUN.lit2 (wr.alloc _) _ _ _ _ (wr.heap.size + 1) (Hsr.out.more _) (NilOk.some _ _ _) (row1 wr wr.heap.size (j : Int) uj rfl) (NilOk.some _ _ _) (by simp)) (by simp) (two_le (by rw [Hlt.out]; omega) (by simp))).mono ?_
          rintro e w3 ⟨v3, rfl, hn3, hb3⟩
          have e3 : [ds.take k, [(j : Int)]].flatten = ds.take k ++ [(j : Int)] := by simp
          rw [e3] at hn3
          have Hn3 := Lib.hid hn3.row
          have Hnil3 := Lib.hid hn3.nilOk
          have HB3 := Lib.hid (below_chain (below_chain (below_alloc wr _) (below_alloc _ _)) hb3)
          have Hl3 := Lib.hid (show (ds.take k ++ [(j : Int)]).length + (n - k - 1) = n by rw [List.length_append, Hlt.out]; have := Hkn.out; simp; omega)
          clear hb3 hn3 e3
          go_wp2_with (fail)
          refine (ref_Partial ll n (n - k - 1) (ds.take k ++ [(j : Int)]) _ _ _ (Hp.out.below (HBr.out.trans (HB3.out.mono HBr.out.size)) (Nat.le_refl _)) Hn3.out Hnil3.out Hf.out.2.1 Hf.out.2.2.1 Hf.out.part Hf.out.1 Hl3.out).mono ?_
          rintro e w4 ⟨rfl, hb4⟩
          have HO4 := Lib.hid (HO2.out.below (below_chain HB3.out hb4) (Nat.le_refl _))
          have HB4 := Lib.hid (HB2.out.trans ((below_chain HB3.out hb4).mono HB2.out.size))
          have hsz := HB4.out.size
          clear hb4
          go_wp2_with (at_builtin; refine wpList_appU rfl _ _ rfl w1.heap.size _ _ rfl HO4.out _ rfl (U64.psi _) hcapl hsz ?_; intro v5 w5 hn5 hb5; have Hn5 := Lib.hid hn5; clear hn5)
          go_roundw
          case rel => exact ⟨j + 1, by omega, by go_num, by rw [Hs2.out]; exact Hn5.out, HB4.out.trans hb5⟩
          case measure => simp [intOf]; omega
        · obtain rfl : j = ll.length + 1 := by omega
          have hj1 : ¬ ((ll.length + 1 : Nat) : Int) ≤ (ll.length : Int) := by omega
          rw [List.take_of_length_le (by rw [HRl.out]; exact Nat.le_refl _)] at HO2
          obtain ⟨a1, c1, e1⟩ := HO2.out.isSlice
          subst e1
          obtain ⟨ao, co, eo⟩ := HO.out.isSlice
          subst eo
          have HN1 := Lib.hid (HO2.out.mono HB.out.size)
          have hlo := Lib.hid (show ∀ g, (Value.slice ao ((provesI ll ds n).take k).length co).ownBlock = some g → (Value.slice a1 R.length c1).ownBlock ≠ some g from fun g h1 h2 => by
            have a2 := (HO.out.lt h1).2
            have a3 := (HO2.out.lt h2).1
            omega)
          have HO3 := Lib.hid (HO.out.below HB2.out (Nat.le_refl _))
          have HB3 := Lib.hid (HB.out.trans (HB2.out.mono HB.out.size))
          have hsz := HB3.out.size
          have hcapl : ((provesI ll ds n).take k).length + 1 ≤ 5864062014634 := by simp [provesI_length]; omega
          rw [← HR.out] at Hs
          generalize (provesI ll ds n).take k = TK at *
          generalize ((ll.length + 1 : Nat) : Int) = MM at *
          go_wp2_with (at_builtin; refine wpList_appUU rfl _ _ rfl w.heap.size (.slice ao TK.length co) _ rfl HO3.out _ _ HN1.out hlo.out rfl hcapl hsz ?_; intro v5 w5 hn5 hu5 hb5; have Hn5 := Lib.hid hn5; clear hn5 hu5)
          go_roundw
          case rel => exact ⟨k + 1, by omega, by go_num, by rw [Hs.out]; exact Hn5.out, HB3.out.trans hb5⟩
          case measure => simp [intOf]; omega
    · obtain rfl : k = ds.length := by omega
      rw [List.take_of_length_le (by rw [provesI_length]; exact Nat.le_of_eq Hd.out.symm)] at HO
      go_wp2
      go_ret
      exact ⟨_, rfl, HO.out, HB.out⟩
theorem left_elem (ll : List (List Int)) (ds : List Int) (n j : Nat) (hf : Facts ll n) (hd : ds.length = n) (hj : j < ll.length) : dotEq ((atl ll j).map phi) (ds.map phi) = phi (at0 (atl (fixesAll ll ds) j) 0) := by
  rw [← eval_dot _ _ (by rw [List.length_map, List.length_map, hf.2.2.2 j hj, hd])]
  have e : (tabs (fixesAll ll ds))[j]?.getD [] = (fixed ll ds)[j]?.getD [] := by rw [tabs_fixesAll]
  have hl : j < (fixesAll ll ds).length := by rw [fixesAll_length]; exact hj
  rw [tabs_at _ j hl] at e
  have e2 : (fixed ll ds)[j]?.getD [] = fixes ((atl ll j).map phi) (ds.map phi) := by simp [fixed, atl, hj]
  rw [e2] at e
  unfold evalF
  rw [← e]
  have hlen := (fixesAll_facts ds hf hd n (Nat.le_refl _)).2.2.2 j (by rw [fixesAll_length]; exact hj)
  rw [List.take_of_length_le (by omega), Nat.sub_self, Nat.pow_zero] at hlen
  exact atF_map _ 0 (by omega)
set_option maxHeartbeats 2000000 in
theorem sum_Prove_no (ll : List (List Int)) (v v2 : Value) (w : World) (hT : Tab w) (hp : RowUU w v ll) (hf : ∀ n, ¬ Facts ll n) :
    Calls Tryd.prog 48 #[v, v2] w fun e w' => e = .returned (.tuple #[.slice none 0 0, .slice none 0 0, .int .i64 4]) ∧ w = w' := by
  have HT := Lib.hid hT
  have Hp := Lib.hid hp
  have Hf := Lib.hid hf
  clear hT hp hf
  go_enter Tryd.func48, Tryd.ntmps48
  go_wp2_with (fail)
  refine (sum_Check_no ll _ _ HT.out Hp.out Hf.out).mono ?_
  rintro e w' ⟨rfl, rfl⟩
  go_wp2
  go_ret3
  exact ⟨rfl, rfl⟩
set_option maxHeartbeats 2000000 in
theorem sum_Prove_arg (ll : List (List Int)) (n : Nat) (ds : List Int) (v v2 : Value) (w : World) (hT : Tab w) (hp : RowUU w v ll) (hp2 : RowU w v2 ds) (hf : Facts ll n) (hd : ds.length ≠ n) :
    Calls Tryd.prog 48 #[v, v2] w fun e w' => e = .returned (.tuple #[.slice none 0 0, .slice none 0 0, .int .i64 1]) ∧ w = w' := by
  have HT := Lib.hid hT
  have Hp := Lib.hid hp
  have Hf := Lib.hid hf
  obtain ⟨_, h22, ad2, cap2, rfl, _⟩ := hp2
  have hq : ((ds.length : Int) != (n : Int)) = true := by rw [bne_iff_ne]; exact fun e => hd (Int.ofNat_inj.mp e)
  clear hT hp hf hd
  go_enter Tryd.func48, Tryd.ntmps48
  go_wp2_with (fail)
  refine (sum_Check ll n _ _ HT.out Hp.out Hf.out).mono ?_
  rintro e w' ⟨rfl, rfl⟩
  go_wp2
  go_ret3
  exact ⟨rfl, rfl⟩
set_option maxHeartbeats 2000000 in
theorem sumProves_no (w : World) (hT : Tab w) (v : Value) (ll : List (List Int)) (hp : RowUU w v ll) (v2 : Value) (hf : ∀ n, ¬ Facts ll n) :
    Calls Tryd.prog 9 #[v, v2] w fun e w' => e = .returned (.bool true) ∧ Below w.heap.size w w' := by
  have HT := Lib.hid hT
  have Hp := Lib.hid hp
  have Hf := Lib.hid hf
  clear hT hp hf
  go_enter Tryd.func9, Tryd.ntmps9
  go_wp2_with (fail)
  refine (ref_Factors_no ll _ _ Hp.out Hf.out).mono ?_
  rintro e w' ⟨rfl, rfl⟩
  go_wp2_with (fail)
  refine (sum_Prove_no ll _ _ _ HT.out Hp.out Hf.out).mono ?_
  rintro e w' ⟨rfl, rfl⟩
  go_wp2_with (fail)
  refine (law_same [] _ _ _ (NewUU.nil 0 _).rows (NewUU.nil 0 _).rows).mono ?_
  rintro e w6 ⟨rfl, hd6⟩
  have B6 := Lib.hid hd6.below
  clear hd6
  go_wp2_with (fail)
  refine (slices_Equal [] _ _ _ (NewU.nil 0 _).row (NewU.nil 0 _).row).mono ?_
  rintro e w7 ⟨rfl, hd⟩
  have B7 := Lib.hid (below_chain B6.out hd.below)
  clear hd
  go_wp2
  go_ret
  exact ⟨rfl, B7.out⟩
set_option maxHeartbeats 2000000 in
theorem sumProves_arg (w : World) (hT : Tab w) (v : Value) (ll : List (List Int)) (hp : RowUU w v ll) (v2 : Value) (ds : List Int) (hp2 : RowU w v2 ds) (n : Nat) (hf : Facts ll n) (h4 : n ≤ 4) (hd : ds.length ≠ n) :
    Calls Tryd.prog 9 #[v, v2] w fun e w' => e = .returned (.bool true) ∧ Below w.heap.size w w' := by
  have HT := Lib.hid hT
  have Hp := Lib.hid hp
  have Hp2 := Lib.hid hp2
  have Hf := Lib.hid hf
  have Hd := Lib.hid hd
  obtain ⟨_, h22, ad2, cap2, rfl, _⟩ := hp2
  have hq : ((ds.length : Int) != (n : Int)) = true := by rw [bne_iff_ne]; exact fun e => hd (Int.ofNat_inj.mp e)
  have h4' : ¬ (4 : Int) < (n : Int) := by omega
  clear hT hp hf hd
  go_enter Tryd.func9, Tryd.ntmps9
  go_wp2_with (fail)
  refine (ref_Factors ll n _ _ Hp.out Hf.out).mono ?_
  rintro e w' ⟨rfl, rfl⟩
  go_wp2_with (fail)
  refine (sum_Prove_arg ll n ds _ _ _ HT.out Hp.out Hp2.out Hf.out Hd.out).mono ?_
  rintro e w' ⟨rfl, rfl⟩
  go_wp2_with (fail)
  refine (law_same [] _ _ _ (NewUU.nil 0 _).rows (NewUU.nil 0 _).rows).mono ?_
  rintro e w6 ⟨rfl, hd6⟩
  have B6 := Lib.hid hd6.below
  clear hd6
  go_wp2_with (fail)
  refine (slices_Equal [] _ _ _ (NewU.nil 0 _).row (NewU.nil 0 _).row).mono ?_
  rintro e w7 ⟨rfl, hd⟩
  have B7 := Lib.hid (below_chain B6.out hd.below)
  clear hd
  go_wp2
  go_ret
  exact ⟨rfl, B7.out⟩
set_option maxHeartbeats 1000000 in
theorem sumProves_big (w : World) (v : Value) (ll : List (List Int)) (hp : RowUU w v ll) (v2 : Value) (n : Nat) (hf : Facts ll n) (h4 : 4 < n) :
    Calls Tryd.prog 9 #[v, v2] w fun e w' => e = .returned (.bool true) ∧ Below w.heap.size w w' := by
  have Hp := Lib.hid hp
  have Hf := Lib.hid hf
  have h4' : (4 : Int) < (n : Int) := by omega
  clear hp hf
  go_enter Tryd.func9, Tryd.ntmps9
  go_wp2_with (fail)
  refine (ref_Factors ll n _ _ Hp.out Hf.out).mono ?_
  rintro e w' ⟨rfl, rfl⟩
  go_wp2
  go_ret
  exact ⟨rfl, Below.refl _ _⟩
set_option maxHeartbeats 2000000 in
theorem sumProves_yes (w : World) (hT : Tab w) (v : Value) (ll : List (List Int)) (hp : RowUU w v ll) (v2 : Value) (ds : List Int) (hp2 : RowU w v2 ds) (hcap : CapOk v2) (n : Nat) (hf : Facts ll n) (h4 : n ≤ 4) (hd : ds.length = n) :
    Calls Tryd.prog 9 #[v, v2] w fun e w' => e = .returned (.bool true) ∧ Below w.heap.size w w' := by
  have HT := Lib.hid hT
  have Hp := Lib.hid hp
  have Hp2 := Lib.hid hp2
  have Hf := Lib.hid hf
  have Hd := Lib.hid hd
  have Hcap := Lib.hid hcap
  obtain ⟨h2, ad, cap, rfl, hr⟩ := hp
  have Hr := Lib.hid hr
  obtain ⟨_, h22, ad2, cap2, rfl, _⟩ := hp2
  have hq : ((ds.length : Int) != (n : Int)) = false := by rw [hd]; simp
  have h4' : ¬ (4 : Int) < (n : Int) := by omega
  have hl3 := hf.2.2.1
  have Hll := Lib.hid (show (leftI (fixesAll ll ds)).length = ll.length by simp [leftI, fixesAll_length])
  have HLs := Lib.hid (show ∀ j, j < ll.length → (leftI (fixesAll ll ds)).take (j + 1) = (leftI (fixesAll ll ds)).take j ++ [psi (dotEq ((atl ll j).map phi) (ds.map phi))] from fun j hj => by
    rw [leftI_take _ j (by rw [fixesAll_length]; exact hj), left_elem ll ds n j hf hd hj])
  clear hT hf hd hcap hr
  go_enter Tryd.func9, Tryd.ntmps9
  go_wp2_with (fail)
  refine (ref_Factors ll n _ _ Hp.out Hf.out).mono ?_
  rintro e w' ⟨rfl, rfl⟩
  go_wp2_with (fail)
  refine (ref_Rounds ll ds n _ _ _ Hp.out Hp2.out Hcap.out Hf.out Hd.out).mono ?_
  rintro e w1 ⟨v1, rfl, hn1, hb1⟩
  have HR1 := Lib.hid hn1.rows
  have B1 := Lib.hid hb1
  clear hn1 hb1
  go_wp2
  go_loopw [8, 23] (fun o i wr => ∃ (j : Nat), j ≤ ll.length ∧ i = .int .i64 (j : Int) ∧ Hid (NewU w1.heap.size wr o ((leftI (fixesAll ll ds)).take j)) ∧ Hid (Below w1.heap.size w1 wr)) (fun _ i _ => ll.length - (intOf i).toNat)
  case atStart => exact ⟨0, by omega, rfl, NewU.nil _ _, Below.refl _ _⟩
  case round =>
    obtain ⟨j, hj, rfl, HO, HB⟩ := hrel
    have HBr := Lib.hid (B1.out.trans (HB.out.mono B1.out.size))
    by_cases hz : j < ll.length
    · obtain ⟨b, off, rfl, hblt, hcell⟩ := Hr.out (by omega)
      obtain ⟨u, hu, hru⟩ := hcell j hz
      have hcw := (HBr.out.cell (p := ⟨b, off + j, none⟩) hblt).trans hu
      have Hru := Lib.hid (hru.below HBr.out (Nat.le_refl _))
      have Hs := Lib.hid (HLs.out j hz)
      have hcapl : ((leftI (fixesAll ll ds)).take j).length + 1 ≤ 17592186043904 := by simp; omega
      clear hcell hu hru
      go_wp2_with (fail)
      refine (ref_Eval (atl ll j) ds _ _ _ Hru.out (Hp2.out.below HBr.out (Nat.le_refl _))).mono ?_
      rintro e w4 ⟨rfl, hd4⟩
      have HO4 := Lib.hid (HO.out.below hd4.below (Nat.le_refl _))
      have HB4 := Lib.hid (HB.out.trans (hd4.below.mono HB.out.size))
      have hsz := HB4.out.size
      clear hd4
      go_wp2_with (at_builtin; refine wpList_appU rfl _ _ rfl w1.heap.size _ _ rfl HO4.out _ rfl (U64.psi _) hcapl hsz ?_; intro v5 w5 hn5 hb5; have Hn5 := Lib.hid hn5; clear hn5)
      go_roundw
      case rel => exact ⟨j + 1, by omega, by go_num, by rw [Hs.out]; exact Hn5.out, HB4.out.trans hb5⟩
      case measure => simp [intOf]; omega
    · obtain rfl : j = ll.length := by omega
      rw [List.take_of_length_le (by rw [Hll.out]; exact Nat.le_refl _)] at HO
      have HL := Lib.hid HO.out.row
      have HR2 := Lib.hid (HR1.out.below HB.out (Nat.le_refl _))
      go_wp2_with (fail)
      refine (sum_Prove ll ds n _ _ _ (HT.out.below HBr.out) (Hp.out.below HBr.out (Nat.le_refl _)) (Hp2.out.below HBr.out (Nat.le_refl _)) Hf.out Hd.out).mono ?_
      rintro e w5 ⟨v5, u5, rfl, hn5, hu5, hb5⟩
      have HP := Lib.hid hn5.rows
      have HU := Lib.hid hu5.row
      have HL5 := Lib.hid (HL.out.step hb5)
      have HR5 := Lib.hid (HR2.out.below hb5 (Nat.le_refl _))
      have B5 := Lib.hid (HBr.out.trans (hb5.mono HBr.out.size))
      clear hn5 hu5 hb5
      go_wp2_with (fail)
      refine (law_same _ _ _ _ HP.out HR5.out).mono ?_
      rintro e w6 ⟨rfl, hd6⟩
      have HU6 := Lib.hid (HU.out.step hd6.below)
      have HL6 := Lib.hid (HL5.out.step hd6.below)
      have B6 := Lib.hid (below_chain B5.out hd6.below)
      clear hd6
      go_wp2_with (fail)
      refine (slices_Equal _ _ _ _ HU6.out HL6.out).mono ?_
      rintro e w7 ⟨rfl, hd⟩
      have B7 := Lib.hid (below_chain B6.out hd.below)
      clear hd
      go_wp2
      go_ret
      exact ⟨rfl, B7.out⟩
theorem sumProves_walk (w : World) (hT : Tab w) (v : Value) (ll : List (List Int)) (hp : RowUU w v ll) (v2 : Value) (ds : List Int) (hp2 : RowU w v2 ds) (hcap : CapOk v2) :
    Calls Tryd.prog 9 #[v, v2] w fun e w' => e = .returned (.bool true) ∧ Below w.heap.size w w' := by
  by_cases h : ∃ n, Facts ll n
  · obtain ⟨n, hf⟩ := h
    by_cases h4 : n ≤ 4
    · by_cases hd : ds.length = n
      · exact sumProves_yes w hT v ll hp v2 ds hp2 hcap n hf h4 hd
      · exact sumProves_arg w hT v ll hp v2 ds hp2 n hf h4 hd
    · exact sumProves_big w v ll hp v2 n hf (by omega)
  · exact sumProves_no w hT v ll hp v2 (fun n hf => h ⟨n, hf⟩)
end Go.Proofs.YtaaaoljllpbplaaDoor
