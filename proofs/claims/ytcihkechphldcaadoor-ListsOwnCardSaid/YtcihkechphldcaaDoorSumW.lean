/- The walks of package sum: Check, claim, fix, round, Claim, Round; of the reference's Factors. The table of bits lies as its initialiser lays it. -/
import Derived.Test.YtcihkechphldcaaDoorRMle
namespace Go.Proofs.YtcihkechphldcaaDoor
set_option maxRecDepth 100000
set_option linter.unusedVariables false
open Go.RowKit Tally
/-- one to three tables of 2^n numbers -/
def Facts (ll : List (List Int)) (n : Nat) : Prop := n ≤ 8 ∧ 1 ≤ ll.length ∧ ll.length ≤ 3 ∧ ∀ j, j < ll.length → (atl ll j).length = 2 ^ n
theorem Facts.same {ll : List (List Int)} {n m : Nat} (h : Facts ll n) (k : Facts ll m) : n = m := by
  have a := h.2.2.2 0 (by have := h.2.1; omega)
  have b := k.2.2.2 0 (by have := h.2.1; omega)
  rw [a] at b
  exact (Nat.pow_right_inj (by decide : 1 < 2)).mp b
/-- what Check tells -/
def ChkE (ll : List (List Int)) (e : Ending) : Prop :=
  (∃ n : Nat, Facts ll n ∧ e = .returned (.tuple #[.int .i64 n, .int .i64 0])) ∨ ((∀ n, ¬ Facts ll n) ∧ e = .returned (.tuple #[.int .i64 0, .int .i64 4]))
theorem tab_or2 (n : Nat) : NoTab n ∨ ∃ k, k ≤ 8 ∧ n = 2 ^ k := by
  by_cases h : ∃ k, k ≤ 8 ∧ n = 2 ^ k
  · exact .inr h
  · exact .inl fun k hk e => h ⟨k, hk, e⟩
set_option maxHeartbeats 2000000 in
theorem sum_Check_any (ll : List (List Int)) (v : Value) (w : World) (hT : Tab w) (hp : RowUU w v ll) :
    Calls Tryd.prog 39 #[v] w fun e w' => ChkE ll e ∧ w = w' := by
  have HT := Lib.hid hT
  obtain ⟨h2, ad, cap, rfl, hr⟩ := hp
  have Hr := Lib.hid hr
  clear hT hr
  by_cases h1 : ll.length < 1
  · have Hno := Lib.hid (show ∀ n, ¬ Facts ll n from fun n h => by have := h.2.1; omega)
    go_enter Tryd.func39, Tryd.ntmps39
    go_wp2
    go_ret2
    exact ⟨Or.inr ⟨Hno.out, rfl⟩, rfl⟩
  · by_cases h3 : 3 < ll.length
    · have Hno := Lib.hid (show ∀ n, ¬ Facts ll n from fun n h => by have := h.2.2.1; omega)
      have h3' : (3 : Int) < (ll.length : Int) := by omega
      have h1' : ¬ (ll.length : Int) < 1 := by omega
      go_enter Tryd.func39, Tryd.ntmps39
      go_wp2
      go_ret2
      exact ⟨Or.inr ⟨Hno.out, rfl⟩, rfl⟩
    · have h3' : ¬ (3 : Int) < (ll.length : Int) := by omega
      have h1' : ¬ (ll.length : Int) < 1 := by omega
      have h10 : 1 ≤ ll.length := by omega
      obtain ⟨b, off, rfl, hblt, hcell⟩ := Hr.out (by omega)
      have Hcell := Lib.hid hcell
      clear hcell h1 Hr
      go_enter Tryd.func39, Tryd.ntmps39
      go_wp2
      go_loop [4, 21] (fun o i => ∃ (k v0 : Nat), k ≤ ll.length ∧ v0 ≤ 8 ∧ i = .int .i64 (k : Int) ∧ o = .int .i64 (v0 : Int) ∧ Hid (0 < k → (atl ll 0).length = 2 ^ v0)) (fun _ i => ll.length - (intOf i).toNat)
      case atStart => exact ⟨0, 0, by omega, by omega, rfl, rfl, fun h => absurd h (by omega)⟩
      case round =>
        obtain ⟨k, v0, hk, hv0, rfl, rfl, H0⟩ := hrel
        by_cases hz : k < ll.length
        · obtain ⟨u, hu, hru⟩ := Hcell.out k hz
          have Hru := Lib.hid hru
          have Hcase := Lib.hid (tab_or2 (atl ll k).length)
          clear hru
          rcases Hcase.out with hn | ⟨n, hn8, hn⟩
          · have Hn := Lib.hid hn
            have Hno := Lib.hid (show ∀ m, ¬ Facts ll m from fun m h => hn m h.1 (h.2.2.2 k hz))
            clear hn
            go_wp2_with (fail)
            refine (mle_Vars_no _ _ _ HT.out Hru.out Hn.out).mono ?_
            rintro e w' ⟨rfl, rfl⟩
            go_wp2
            go_ret2
            exact ⟨Or.inr ⟨Hno.out, rfl⟩, rfl⟩
          · have Hn := Lib.hid hn
            clear hn
            by_cases hk0 : k = 0
            · subst hk0
              rw [Nat.add_zero] at hu
              go_wp2_with (fail)
              refine (mle_Vars _ n _ _ HT.out Hru.out Hn.out hn8).mono ?_
              rintro e w' ⟨rfl, rfl⟩
              go_wp2
              go_round
              case rel => exact ⟨1, n, by omega, hn8, by go_num, rfl, fun _ => Hn.out⟩
              case measure => simp [intOf]; omega
            · have hk1 : ((k : Int) == 0) = false := beq_false_of_ne (by omega)
              go_wp2_with (fail)
              refine (mle_Vars _ n _ _ HT.out Hru.out Hn.out hn8).mono ?_
              rintro e w' ⟨rfl, rfl⟩
              go_wp2
              go_round
              case rel => exact ⟨k + 1, v0, by omega, hv0, by go_num, rfl, fun _ => H0.out (by omega)⟩
              case measure => simp [intOf]; omega
        · obtain rfl : k = ll.length := by omega
          have HV := Lib.hid (H0.out (by omega))
          have hw := pow_wrap8 hv0
          obtain ⟨q1, q2⟩ := pow_le8 hv0
          obtain ⟨N, hN⟩ : ∃ N, N = 2 ^ v0 := ⟨_, rfl⟩
          rw [← hN] at hw
          have HN := Lib.hid hN
          have Hw := Lib.hid hw
          clear hN hw q1 q2
          go_wp2
          go_loop [40] (fun i => ∃ (k : Nat), k ≤ ll.length ∧ i = .int .i64 (k : Int) ∧ Hid (∀ j, j < k → (atl ll j).length = N)) (fun i => ll.length - (intOf i).toNat)
          case atStart => exact ⟨0, by omega, rfl, fun j hj => absurd hj (by omega)⟩
          case round =>
            obtain ⟨k, hk, rfl, HK⟩ := hrel
            by_cases hz : k < ll.length
            · obtain ⟨u, hu, hru⟩ := Hcell.out k hz
              obtain ⟨_, hul, au, cu, rfl, _⟩ := hru
              by_cases hn : (atl ll k).length = N
              · have hb : (((atl ll k).length : Int) != wrap64 (2 ^ v0)) = false := by rw [Hw.out, hn]; simp
                have Hn := Lib.hid hn
                clear hn
                go_wp2
                go_round
                case rel => exact ⟨k + 1, by omega, by go_num, fun j hj => if e : j = k then by subst e; exact Hn.out else HK.out j (by omega)⟩
                case measure => simp [intOf]; omega
              · have hb : (((atl ll k).length : Int) != wrap64 (2 ^ v0)) = true := by rw [Hw.out, bne_iff_ne]; exact fun e => hn (Int.ofNat_inj.mp e)
                have Hno := Lib.hid (show ∀ m, ¬ Facts ll m from fun m h => by
                  have a := h.2.2.2 0 (by omega)
                  have b := h.2.2.2 k hz
                  rw [HV.out] at a
                  exact hn (by rw [b, ← a, HN.out]))
                clear hn
                go_wp2
                go_ret2
                exact ⟨Or.inr ⟨Hno.out, rfl⟩, rfl⟩
            · obtain rfl : k = ll.length := by omega
              have Hyes := Lib.hid (show Facts ll v0 from ⟨hv0, h10, by omega, fun j hj => by rw [HK.out j hj, HN.out]⟩)
              go_wp2
              go_ret2
              exact ⟨Or.inl ⟨v0, Hyes.out, rfl⟩, rfl⟩
theorem sum_Check (ll : List (List Int)) (n : Nat) (v : Value) (w : World) (hT : Tab w) (hp : RowUU w v ll) (hf : Facts ll n) :
    Calls Tryd.prog 39 #[v] w fun e w' => e = .returned (.tuple #[.int .i64 n, .int .i64 0]) ∧ w = w' :=
  (sum_Check_any ll v w hT hp).mono fun e w' ⟨h, k⟩ => by
    rcases h with ⟨m, hm, he⟩ | ⟨hno, _⟩
    · rw [hf.same hm]; exact ⟨he, k⟩
    · exact absurd hf (hno n)
theorem sum_Check_no (ll : List (List Int)) (v : Value) (w : World) (hT : Tab w) (hp : RowUU w v ll) (hf : ∀ n, ¬ Facts ll n) :
    Calls Tryd.prog 39 #[v] w fun e w' => e = .returned (.tuple #[.int .i64 0, .int .i64 4]) ∧ w = w' :=
  (sum_Check_any ll v w hT hp).mono fun e w' ⟨h, k⟩ => by
    rcases h with ⟨m, hm, _⟩ | ⟨_, he⟩
    · exact absurd hm (hf m)
    · exact ⟨he, k⟩
/-- the tables as numbers of the field -/
abbrev tabs (ll : List (List Int)) : List (List F) := ll.map (·.map phi)
theorem tabs_at (ll : List (List Int)) (j : Nat) (h : j < ll.length) : (tabs ll)[j]?.getD [] = (atl ll j).map phi := by simp [atl, h]
theorem claim_step (ll : List (List Int)) (j b : Nat) (hj : j < ll.length) (hb : b < (atl ll j).length) : prodAt ((tabs ll).take (j + 1)) b = prodAt ((tabs ll).take j) b * phi (at0 (atl ll j) b) := by
  rw [take_snoc _ j [] (by simpa using hj), prodAt_snoc, tabs_at ll j hj, atF_map _ b hb]
set_option maxHeartbeats 2000000 in
theorem sum_claim (ll : List (List Int)) (N : Nat) (v : Value) (w : World) (hp : RowUU w v ll) (h1 : 1 ≤ ll.length) (hn : ∀ j, j < ll.length → (atl ll j).length = N) (hN : N ≤ 256) :
    Calls Tryd.prog 61 #[v] w fun e w' => e = .returned (.int .u64 (psi (claimF (tabs ll) N))) ∧ w = w' := by
  have Hn := Lib.hid hn
  obtain ⟨h2, ad, cap, rfl, hr⟩ := hp
  obtain ⟨bl, off, rfl, hblt, hcell⟩ := hr (by omega)
  have Hcell := Lib.hid hcell
  obtain ⟨u0, hu0, hr0⟩ := hcell 0 (by omega)
  rw [Nat.add_zero] at hu0
  obtain ⟨_, _, a0, c0, rfl, _⟩ := hr0
  rw [Hn.out 0 (by omega)] at hu0
  have hl0 : (0 : Int) < (ll.length : Int) := by omega
  clear hn hcell hr
  go_enter Tryd.func61, Tryd.ntmps61
  go_wp2
  go_loop [3, 12] (fun o i => ∃ (b : Nat) (c : Int), b ≤ N ∧ i = .int .i64 (b : Int) ∧ o = .int .u64 c ∧ U64 c ∧ Hid (c = psi (sumTo (prodAt (tabs ll)) b))) (fun _ i => N - (intOf i).toNat)
  case atStart => exact ⟨0, 0, by omega, rfl, rfl, U64.zero, psi_zero.symm⟩
  case round =>
    obtain ⟨b, c, hb, rfl, rfl, uc, HC⟩ := hrel
    by_cases hz : b < N
    · have hz' : (b : Int) < (N : Int) := by omega
      go_wp2
      go_loop [5, 17] (fun o i => ∃ (j : Nat) (c2 : Int), j ≤ ll.length ∧ i = .int .i64 (j : Int) ∧ o = .int .u64 c2 ∧ U64 c2 ∧ Hid (c2 = psi (prodAt ((tabs ll).take j) b))) (fun _ i => ll.length - (intOf i).toNat)
      case atStart => exact ⟨0, 1, by omega, rfl, rfl, U64.one, psi_one.symm⟩
      case round =>
        obtain ⟨j, c2, hj, rfl, rfl, uc2, HC2⟩ := hrel
        by_cases hzj : j < ll.length
        · obtain ⟨u, hu, hru⟩ := Hcell.out j hzj
          have hjN := Hn.out j hzj
          have Hs := Lib.hid (claim_step ll j b hzj (by omega))
          have hu2 : U64 (at0 (atl ll j) b) := hru.1 _ (at0_mem (by omega))
          obtain ⟨_, _, aj, cj, rfl, hrj⟩ := hru
          rw [hjN] at hu hrj
          obtain ⟨b2, off2, rfl, _, hc2⟩ := hrj (by omega)
          have hcb := hc2 b hz
          clear hc2 hrj hjN
          go_wp2_with (first | (go_at_call 33; (with_reducible refine (field_Mul _ _ _ (by first | assumption | exact U64.psi _ | exact U64.zero | exact U64.one | exact U64.mk (by decide) (by decide)) (by first | assumption | exact U64.psi _ | exact U64.zero | exact U64.one | exact U64.mk (by decide) (by decide))).mono ?_); rintro e w' ⟨rfl, rfl⟩))
          go_round
          case rel => exact ⟨j + 1, _, by omega, by go_num, rfl, U64.psi _, by rw [HC2.out, phi_psi]; exact congrArg psi Hs.out.symm⟩
          case measure => simp [intOf]; omega
        · obtain rfl : j = ll.length := by omega
          have Hc2 := HC2
          rw [List.take_of_length_le (by simp)] at Hc2
          go_wp2_with (first | (go_at_call 38; (with_reducible refine (field_Add _ _ _ (by first | assumption | exact U64.psi _ | exact U64.zero | exact U64.one | exact U64.mk (by decide) (by decide)) (by first | assumption | exact U64.psi _ | exact U64.zero | exact U64.one | exact U64.mk (by decide) (by decide))).mono ?_); rintro e w' ⟨rfl, rfl⟩))
          go_round
          case rel => exact ⟨b + 1, _, by omega, by go_num, rfl, U64.psi _, by rw [HC.out, Hc2.out, phi_psi, phi_psi]; rfl⟩
          case measure => simp [intOf]; omega
    · obtain rfl : b = N := by omega
      go_wp2
      go_ret
      exact ⟨ret_u64 HC.out, rfl⟩
/-- all tables with the first variable at x -/
def fixAll (ll : List (List Int)) (x : F) : List (List Int) := ll.map fun t => (fixF (t.map phi) x).map psi
theorem fixAll_length (ll : List (List Int)) (x : F) : (fixAll ll x).length = ll.length := by simp [fixAll]
theorem fixAll_at (ll : List (List Int)) (x : F) (j : Nat) (h : j < ll.length) : atl (fixAll ll x) j = (fixF ((atl ll j).map phi) x).map psi := by simp [fixAll, atl, h]
theorem fixAll_take (ll : List (List Int)) (x : F) (j : Nat) (h : j < ll.length) : (fixAll ll x).take (j + 1) = (fixAll ll x).take j ++ [(fixF ((atl ll j).map phi) x).map psi] := by
  rw [take_snoc _ j [] (by simpa [fixAll] using h)]
  congr 2
  exact fixAll_at ll x j h
theorem fixAll_facts {ll : List (List Int)} {n : Nat} (x : F) (h : Facts ll (n + 1)) : Facts (fixAll ll x) n := by
  refine ⟨by have := h.1; omega, by rw [fixAll_length]; exact h.2.1, by rw [fixAll_length]; exact h.2.2.1, fun j hj => ?_⟩
  rw [fixAll_length] at hj
  rw [fixAll_at ll x j hj, List.length_map, fixF_length, List.length_map, h.2.2.2 j hj, Nat.pow_succ]; omega
set_option maxHeartbeats 2000000 in
theorem sum_fix (ll : List (List Int)) (n : Nat) (v : Value) (x : Int) (w : World) (hT : Tab w) (hp : RowUU w v ll) (hx : U64 x) (hf : Facts ll (n + 1)) :
    Calls Tryd.prog 41 #[v, .int .u64 x] w fun e w' => ∃ v', e = .returned v' ∧ NewUU w.heap.size w' v' (fixAll ll (phi x)) ∧ Below w.heap.size w w' := by
  have HT := Lib.hid hT
  have Hf := Lib.hid hf
  have hl3 := hf.2.2.1
  obtain ⟨h2, ad, cap, rfl, hr⟩ := hp
  obtain ⟨bl, off, rfl, hblt, hcell⟩ := hr (by have := hf.2.1; omega)
  have Hcell := Lib.hid hcell
  clear hT hcell hr hf
  go_enter Tryd.func41, Tryd.ntmps41
  go_wp2
  go_loopw [5, 12] (fun o i wr => ∃ (j : Nat), j ≤ ll.length ∧ i = .int .i64 (j : Int) ∧ Hid (NewUU w.heap.size wr o ((fixAll ll (phi x)).take j)) ∧ Hid (Below w.heap.size w wr)) (fun _ i _ => ll.length - (intOf i).toNat)
  case atStart => exact ⟨0, by omega, rfl, NewUU.nil _ _, Below.refl _ _⟩
  case round =>
    obtain ⟨j, hj, rfl, HO, HB⟩ := hrel
    by_cases hz : j < ll.length
    · obtain ⟨u, hu, hru⟩ := Hcell.out j hz
      have hcw := (HB.out.cell (p := ⟨bl, off + j, none⟩) hblt).trans hu
      have Hru := Lib.hid (hru.below HB.out (Nat.le_refl _))
      have Hlen := Lib.hid (Hf.out.2.2.2 j hz)
      have Hs := Lib.hid (fixAll_take ll (phi x) j hz)
      have h8 := Hf.out.1
      clear hru hu
      go_wp2_with (fail)
      refine (mle_Fix (atl ll j) n _ x _ (HT.out.below HB.out) Hru.out hx Hlen.out h8).mono ?_
      rintro e w1 ⟨v1, rfl, hn1, hb1⟩
      obtain ⟨a1, c1, ev⟩ := hn1.isSlice
      subst ev
      obtain ⟨ao, co, eo⟩ := HO.out.isSlice
      subst eo
      have Hn1 := Lib.hid (hn1.mono HB.out.size)
      have hlo := Lib.hid (show ∀ g, (Value.slice ao ((fixAll ll (phi x)).take j).length co).ownBlock = some g → (Value.slice a1 ((fixF ((atl ll j).map phi) (phi x)).map psi).length c1).ownBlock ≠ some g from fun g h1 h2 => by
        have a2 := (HO.out.lt h1).2
        have a3 := (hn1.lt h2).1
        omega)
      have HO1 := Lib.hid (HO.out.below hb1 (Nat.le_refl _))
      have HB1 := Lib.hid (HB.out.trans (hb1.mono HB.out.size))
      have hsz := HB1.out.size
      have hcap : ((fixAll ll (phi x)).take j).length + 1 ≤ 5864062014634 := by simp; omega
      clear hn1 hb1
      generalize hA : (fixF ((atl ll j).map phi) (phi x)).map psi = A at *
      generalize hTk : (fixAll ll (phi x)).take j = TK at *
      have HA := Lib.hid hA
      have HTk := Lib.hid hTk
      clear hA hTk
      go_wp2_with (at_builtin; refine wpList_appUU rfl _ _ rfl w.heap.size (.slice ao TK.length co) _ rfl HO1.out _ _ Hn1.out hlo.out rfl hcap hsz ?_; intro v5 w5 hn5 hu5 hb5; have Hn5 := Lib.hid hn5; clear hn5 hu5)
      go_roundw
      case rel => exact ⟨j + 1, by omega, by go_num, by rw [Hs.out]; exact Hn5.out, HB1.out.trans hb5⟩
      case measure => simp [intOf]; omega
    · obtain rfl : j = ll.length := by omega
      go_wp2
      go_ret
      exact ⟨_, rfl, by have := HO.out; rwa [List.take_of_length_le (by rw [fixAll_length]; exact Nat.le_refl _)] at this, HB.out⟩
/-- a round: at 0, 1, and so on -/
def roundI (ll : List (List Int)) (n : Nat) : List Int := (List.range (ll.length + 1)).map fun (k : Nat) => psi (claimF (tabs (fixAll ll (phi k))) (2 ^ n))
theorem roundI_length (ll : List (List Int)) (n : Nat) : (roundI ll n).length = ll.length + 1 := by simp [roundI]
theorem roundI_take (ll : List (List Int)) (n k : Nat) (h : k < ll.length + 1) : (roundI ll n).take (k + 1) = (roundI ll n).take k ++ [psi (claimF (tabs (fixAll ll (phi k))) (2 ^ n))] := by
  rw [take_snoc _ k 0 (by rw [roundI_length]; exact h)]
  congr 2
  simp [roundI, h]
set_option maxHeartbeats 2000000 in
theorem sum_round (ll : List (List Int)) (n : Nat) (v : Value) (w : World) (hT : Tab w) (hp : RowUU w v ll) (hf : Facts ll (n + 1)) :
    Calls Tryd.prog 40 #[v] w fun e w' => ∃ v', e = .returned v' ∧ NewU w.heap.size w' v' (roundI ll n) ∧ Below w.heap.size w w' := by
  have HT := Lib.hid hT
  have Hp := Lib.hid hp
  have Hf := Lib.hid hf
  have hl3 := hf.2.2.1
  obtain ⟨h2, ad, cap, rfl, hr⟩ := hp
  obtain ⟨q1, q2⟩ := pow_le8 (n := n) (by have := hf.1; omega)
  have Hq := Lib.hid q2
  clear hT hr hf q1 q2
  go_enter Tryd.func40, Tryd.ntmps40
  go_wp2
  go_loopw [3, 8] (fun o i wr => ∃ (j : Nat), j ≤ ll.length + 1 ∧ i = .int .i64 (j : Int) ∧ Hid (NewU w.heap.size wr o ((roundI ll n).take j)) ∧ Hid (Below w.heap.size w wr)) (fun _ i _ => ll.length + 1 - (intOf i).toNat)
  case atStart => exact ⟨0, by omega, rfl, NewU.nil _ _, Below.refl _ _⟩
  case round =>
    obtain ⟨j, hj, rfl, HO, HB⟩ := hrel
    by_cases hz : j < ll.length + 1
    · have hz' : (j : Int) < (ll.length : Int) + 1 := by omega
      have Hs := Lib.hid (roundI_take ll n j hz)
      have uj : U64 (j : Int) := ⟨by omega, by omega⟩
      have hwj : IntKind.u64.wrap (j : Int) = (j : Int) := by rw [IntKind.wrap_u64]; omega
      have hcap : ((roundI ll n).take j).length + 1 ≤ 17592186043904 := by simp; omega
      go_wp2_with (fail)
      refine (sum_fix ll n _ (j : Int) _ (HT.out.below HB.out) (Hp.out.below HB.out (Nat.le_refl _)) uj Hf.out).mono ?_
      rintro e w1 ⟨v1, rfl, hn1, hb1⟩
      have HN1 := Lib.hid hn1.rows
      have HO1 := Lib.hid (HO.out.below hb1 (Nat.le_refl _))
      have HB1 := Lib.hid (HB.out.trans (hb1.mono HB.out.size))
      have hsz := HB1.out.size
      have HF1 := Lib.hid (fixAll_facts (phi j) Hf.out)
      clear hn1 hb1
      go_wp2_with (fail)
      refine (sum_claim (fixAll ll (phi j)) (2 ^ n) _ _ HN1.out HF1.out.2.1 HF1.out.2.2.2 Hq.out).mono ?_
      rintro e w' ⟨rfl, rfl⟩
      go_wp2_with (at_builtin; refine wpList_appU rfl _ _ rfl w.heap.size _ _ rfl HO1.out _ rfl (U64.psi _) hcap hsz ?_; intro v4 w4 hn4 hb4; have Hn4 := Lib.hid hn4; clear hn4)
      go_roundw
      case rel => exact ⟨j + 1, by omega, by go_num, by rw [Hs.out]; exact Hn4.out, HB1.out.trans hb4⟩
      case measure => simp [intOf]; omega
    · obtain rfl : j = ll.length + 1 := by omega
      have hz' : ¬ ((ll.length + 1 : Nat) : Int) < (ll.length : Int) + 1 := by omega
      go_wp2
      go_ret
      exact ⟨_, rfl, by have := HO.out; rwa [List.take_of_length_le (by rw [roundI_length]; exact Nat.le_refl _)] at this, HB.out⟩
end Go.Proofs.YtcihkechphldcaaDoor
