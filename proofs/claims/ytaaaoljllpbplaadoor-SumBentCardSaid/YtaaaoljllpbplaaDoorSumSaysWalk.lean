/- The walk of the reference's Factors and of the law SumSays: it returns true, whatever is handed in. The table of bits lies as its initialiser lays it. -/
import Derived.Test.YtaaaoljllpbplaaDoorSumW
namespace Go.Proofs.YtaaaoljllpbplaaDoor
set_option maxRecDepth 100000
set_option linter.unusedVariables false
open Go.RowKit Tally
set_option maxHeartbeats 1000000 in
theorem ref_In_y (n lo hi : Int) (w : World) (h1 : lo ≤ n) (h2 : n ≤ hi) :
    Calls Tryd.prog 51 #[.int .i64 n, .int .i64 lo, .int .i64 hi] w fun e w' => e = .returned (.bool true) ∧ w = w' := by
  go_enter Tryd.func51, Tryd.ntmps51
  go_wp2
  go_ret
  exact ⟨rfl, rfl⟩
set_option maxHeartbeats 1000000 in
theorem ref_In_n (n lo hi : Int) (w : World) (h : n < lo ∨ hi < n) :
    Calls Tryd.prog 51 #[.int .i64 n, .int .i64 lo, .int .i64 hi] w fun e w' => e = .returned (.bool false) ∧ w = w' := by
  by_cases h1 : n < lo
  · clear h
    have hd : decide (lo ≤ n) = false := by simp; omega
    go_enter Tryd.func51, Tryd.ntmps51
    go_wp2
    go_ret
    exact ⟨rfl, rfl⟩
  · have h2 : decide (n ≤ hi) = false := by simp; omega
    have h3 : lo ≤ n := by omega
    clear h h1
    go_enter Tryd.func51, Tryd.ntmps51
    go_wp2
    go_ret
    exact ⟨rfl, rfl⟩
/-- the number of variables, or -1 -/
def VarsI (n : Nat) (m : Int) : Prop := (m = -1 ∧ NoTab n) ∨ ∃ k : Nat, k ≤ 8 ∧ n = 2 ^ k ∧ m = (k : Int)
theorem ref_Vars_any (l : List Int) (v : Value) (w : World) (hp : RowU w v l) (m : Int) (hm : VarsI l.length m) :
    Calls Tryd.prog 20 #[v] w fun e w' => e = .returned (.int .i64 m) ∧ w = w' := by
  rcases hm with ⟨rfl, h⟩ | ⟨k, h8, h, rfl⟩
  · exact ref_Vars_no l v w hp h
  · exact ref_Vars l k v w hp h h8
theorem varsI_ex (n : Nat) : ∃ m, VarsI n m ∧ -1 ≤ m ∧ m ≤ 8 := by
  rcases tab_or2 n with h | ⟨k, h8, h⟩
  · exact ⟨-1, .inl ⟨rfl, h⟩, by omega, by omega⟩
  · exact ⟨k, .inr ⟨k, h8, h, rfl⟩, by omega, by omega⟩
theorem varsI_len {n : Nat} {k : Nat} (h : VarsI n (k : Int)) : n = 2 ^ k ∧ k ≤ 8 := by
  rcases h with ⟨h, _⟩ | ⟨j, h8, h, e⟩
  · omega
  · obtain rfl : k = j := by omega
    exact ⟨h, h8⟩
/-- what Factors tells -/
def FacE (ll : List (List Int)) (e : Ending) : Prop :=
  (∃ n : Nat, Facts ll n ∧ e = .returned (.int .i64 n)) ∨ ((∀ n, ¬ Facts ll n) ∧ e = .returned (.int .i64 (-1)))
set_option maxHeartbeats 2000000 in
theorem ref_Factors_any (ll : List (List Int)) (v : Value) (w : World) (hp : RowUU w v ll) :
    Calls Tryd.prog 41 #[v] w fun e w' => FacE ll e ∧ w = w' := by
  obtain ⟨h2, ad, cap, rfl, hr⟩ := hp
  have Hr := Lib.hid hr
  clear hr
  by_cases hb : (ll.length : Int) < 1 ∨ (3 : Int) < (ll.length : Int)
  · have Hno := Lib.hid (show ∀ n, ¬ Facts ll n from fun n h => by have := h.2.1; have := h.2.2.1; omega)
    have Hb := Lib.hid hb
    clear hb
    go_enter Tryd.func41, Tryd.ntmps41
    go_wp2_with (fail)
    refine (ref_In_n _ _ _ _ Hb.out).mono ?_
    rintro e w' ⟨rfl, rfl⟩
    go_wp2
    go_ret
    exact ⟨Or.inr ⟨Hno.out, rfl⟩, rfl⟩
  · have h1 : 1 ≤ ll.length := by omega
    have h3 : ll.length ≤ 3 := by omega
    obtain ⟨b, off, rfl, hblt, hcell⟩ := Hr.out (by omega)
    have Hcell := Lib.hid hcell
    obtain ⟨u0, hu0, hr0⟩ := hcell 0 (by omega)
    rw [Nat.add_zero] at hu0
    have Hr0 := Lib.hid hr0
    obtain ⟨m, hm, hm1, hm8⟩ := varsI_ex (atl ll 0).length
    have Hm := Lib.hid hm
    have hl0 : (0 : Int) < (ll.length : Int) := by omega
    clear hcell Hr hb hr0 hm
    go_enter Tryd.func41, Tryd.ntmps41
    go_wp2_with (fail)
    refine (ref_In_y _ _ _ _ (by omega) (by omega)).mono ?_
    rintro e w' ⟨rfl, rfl⟩
    go_wp2_with (fail)
    refine (ref_Vars_any _ _ _ Hr0.out m Hm.out).mono ?_
    rintro e w' ⟨rfl, rfl⟩
    go_wp2
    go_loop [4] (fun i => ∃ (k : Nat), k ≤ ll.length ∧ i = .int .i64 (k : Int) ∧ Hid (∀ j, j < k → VarsI (atl ll j).length m)) (fun i => ll.length - (intOf i).toNat)
    case atStart => exact ⟨0, by omega, rfl, fun j hj => absurd hj (by omega)⟩
    case round =>
      obtain ⟨k, hk, rfl, HK⟩ := hrel
      by_cases hz : k < ll.length
      · obtain ⟨u, hu, hru⟩ := Hcell.out k hz
        have Hru := Lib.hid hru
        obtain ⟨q, hq, hq1, hq8⟩ := varsI_ex (atl ll k).length
        have Hq := Lib.hid hq
        clear hru hq
        by_cases e : q = m
        · subst e
          go_wp2_with (fail)
          refine (ref_Vars_any _ _ _ Hru.out q Hq.out).mono ?_
          rintro e w' ⟨rfl, rfl⟩
          go_wp2
          go_round
          case rel => exact ⟨k + 1, by omega, by go_num, fun j hj => if e : j = k then by subst e; exact Hq.out else HK.out j (by omega)⟩
          case measure => simp [intOf]; omega
        · have hne : (q != m) = true := by rw [bne_iff_ne]; exact e
          have Hno := Lib.hid (show ∀ n, ¬ Facts ll n from fun n h => by
            have a0 := h.2.2.2 0 (by omega)
            have ak := h.2.2.2 k hz
            apply e
            have : ∀ x : Int, VarsI (2 ^ n) x → x = (n : Int) := by
              intro x hx
              rcases hx with ⟨_, hno⟩ | ⟨j, _, hj, rfl⟩
              · exact absurd rfl (hno n h.1)
              · have := (Nat.pow_right_inj (by decide : 1 < 2)).mp hj
                omega
            rw [this q (by rw [← ak]; exact Hq.out), this m (by rw [← a0]; exact Hm.out)])
          clear e
          go_wp2_with (fail)
          refine (ref_Vars_any _ _ _ Hru.out q Hq.out).mono ?_
          rintro e w' ⟨rfl, rfl⟩
          go_wp2
          go_ret
          exact ⟨Or.inr ⟨Hno.out, rfl⟩, rfl⟩
      · obtain rfl : k = ll.length := by omega
        have HE := Lib.hid (show FacE ll (.returned (.int .i64 m)) from by
          by_cases hm0 : m = -1
          · refine Or.inr ⟨fun n h => ?_, by rw [hm0]⟩
            rcases Hm.out with ⟨_, hno⟩ | ⟨j, _, _, hj⟩
            · exact hno n h.1 (h.2.2.2 0 (by omega))
            · omega
          · obtain ⟨j, rfl⟩ : ∃ j : Nat, m = (j : Int) := ⟨m.toNat, by omega⟩
            exact Or.inl ⟨j, ⟨(varsI_len Hm.out).2, h1, h3, fun i hi => (varsI_len (HK.out i hi)).1⟩, rfl⟩)
        go_wp2
        go_ret
        exact ⟨HE.out, rfl⟩
theorem ref_Factors (ll : List (List Int)) (n : Nat) (v : Value) (w : World) (hp : RowUU w v ll) (hf : Facts ll n) :
    Calls Tryd.prog 41 #[v] w fun e w' => e = .returned (.int .i64 n) ∧ w = w' :=
  (ref_Factors_any ll v w hp).mono fun e w' ⟨h, k⟩ => by
    rcases h with ⟨m, hm, he⟩ | ⟨hno, _⟩
    · rw [hf.same hm]; exact ⟨he, k⟩
    · exact absurd hf (hno n)
theorem ref_Factors_no (ll : List (List Int)) (v : Value) (w : World) (hp : RowUU w v ll) (hf : ∀ n, ¬ Facts ll n) :
    Calls Tryd.prog 41 #[v] w fun e w' => e = .returned (.int .i64 (-1)) ∧ w = w' :=
  (ref_Factors_any ll v w hp).mono fun e w' ⟨h, k⟩ => by
    rcases h with ⟨m, hm, _⟩ | ⟨_, he⟩
    · exact absurd hm (hf m)
    · exact ⟨he, k⟩
theorem fixed_nil (ll : List (List Int)) : fixed ll [] = tabs ll := rfl
theorem fixed_one (ll : List (List Int)) (x : Int) : fixed ll [x] = tabs (fixAll ll (phi x)) := by
  unfold fixed tabs fixAll
  rw [List.map_map]
  refine List.map_congr_left fun t _ => ?_
  simp only [Function.comp, mapphi_psi]; rfl
theorem Facts.part {ll : List (List Int)} {n : Nat} (h : Facts ll n) : ∀ j, j < ll.length → (atl ll j).length = 2 ^ n := h.2.2.2
set_option maxHeartbeats 2000000 in
theorem sumSays_no (w : World) (hT : Tab w) (v : Value) (ll : List (List Int)) (hp : RowUU w v ll) (hf : ∀ n, ¬ Facts ll n) :
    Calls Tryd.prog 7 #[v] w fun e w' => e = .returned (.bool true) ∧ Below w.heap.size w w' := by
  have HT := Lib.hid hT
  have Hp := Lib.hid hp
  have Hf := Lib.hid hf
  clear hT hp hf
  go_enter Tryd.func7, Tryd.ntmps7
  go_wp2_with (fail)
  refine (ref_Factors_no ll _ _ Hp.out Hf.out).mono ?_
  rintro e w' ⟨rfl, rfl⟩
  go_wp2_with (fail)
  refine (sum_Check_no ll _ _ HT.out Hp.out Hf.out).mono ?_
  rintro e w' ⟨rfl, rfl⟩
  go_wp2_with (fail)
  refine (sum_Claim_no ll _ _ HT.out Hp.out Hf.out).mono ?_
  rintro e w' ⟨rfl, rfl⟩
  go_wp2_with (fail)
  refine (sum_Round_no ll _ _ HT.out Hp.out Hf.out).mono ?_
  rintro e w' ⟨rfl, rfl⟩
  go_wp2_with (fail)
  refine (slices_Equal [] _ _ _ (NewU.nil 0 _).row (NewU.nil 0 _).row).mono ?_
  rintro e w7 ⟨rfl, hd⟩
  have B7 := Lib.hid hd.below
  clear hd
  go_wp2
  go_ret
  exact ⟨rfl, B7.out⟩
set_option maxHeartbeats 2000000 in
theorem sumSays_zero (w : World) (hT : Tab w) (v : Value) (ll : List (List Int)) (hp : RowUU w v ll) (hf : Facts ll 0) :
    Calls Tryd.prog 7 #[v] w fun e w' => e = .returned (.bool true) ∧ Below w.heap.size w w' := by
  have HT := Lib.hid hT
  have Hp := Lib.hid hp
  have Hf := Lib.hid hf
  clear hT hp hf
  go_enter Tryd.func7, Tryd.ntmps7
  go_wp2_with (fail)
  refine (ref_Factors ll 0 _ _ Hp.out Hf.out).mono ?_
  rintro e w' ⟨rfl, rfl⟩
  go_wp2_with (fail)
  refine (ref_Partial ll 0 0 [] _ _ _ Hp.out (NewU.nil 0 _).row NilOk.none Hf.out.2.1 Hf.out.2.2.1 Hf.out.part (by decide) (by simp)).mono ?_
  rintro e w1 ⟨rfl, hb⟩
  rw [fixed_nil]
  have B1 := Lib.hid hb
  have Hp1 := Lib.hid (Hp.out.below hb (Nat.le_refl _))
  clear hb
  go_wp2_with (fail)
  refine (sum_Check ll 0 _ _ (HT.out.below B1.out) Hp1.out Hf.out).mono ?_
  rintro e w' ⟨rfl, rfl⟩
  go_wp2_with (fail)
  refine (sum_Claim ll 0 _ _ (HT.out.below B1.out) Hp1.out Hf.out).mono ?_
  rintro e w' ⟨rfl, rfl⟩
  go_wp2_with (fail)
  refine (sum_Round_zero ll _ _ (HT.out.below B1.out) Hp1.out Hf.out).mono ?_
  rintro e w' ⟨rfl, rfl⟩
  go_wp2_with (fail)
  refine (slices_Equal [] _ _ _ (NewU.nil 0 _).row (NewU.nil 0 _).row).mono ?_
  rintro e w7 ⟨rfl, hd⟩
  have B7 := Lib.hid (below_chain B1.out hd.below)
  clear hd
  go_wp2
  go_ret
  exact ⟨rfl, B7.out⟩
set_option maxHeartbeats 1000000 in
theorem sumSays_big (w : World) (v : Value) (ll : List (List Int)) (hp : RowUU w v ll) (n : Nat) (hf : Facts ll n) (h4 : 4 < n) :
    Calls Tryd.prog 7 #[v] w fun e w' => e = .returned (.bool true) ∧ Below w.heap.size w w' := by
  have Hp := Lib.hid hp
  have Hf := Lib.hid hf
  have h4' : (4 : Int) < (n : Int) := by omega
  clear hp hf
  go_enter Tryd.func7, Tryd.ntmps7
  go_wp2_with (fail)
  refine (ref_Factors ll n _ _ Hp.out Hf.out).mono ?_
  rintro e w' ⟨rfl, rfl⟩
  go_wp2
  go_ret
  exact ⟨rfl, Below.refl _ _⟩
set_option maxHeartbeats 2000000 in
theorem sumSays_pos (w : World) (hT : Tab w) (v : Value) (ll : List (List Int)) (hp : RowUU w v ll) (n : Nat) (hf : Facts ll (n + 1)) (h4 : n + 1 ≤ 4) :
    Calls Tryd.prog 7 #[v] w fun e w' => e = .returned (.bool true) ∧ Below w.heap.size w w' := by
  have HT := Lib.hid hT
  have Hp := Lib.hid hp
  have Hf := Lib.hid hf
  obtain ⟨h2, ad, cap, rfl, _⟩ := hp
  have hl3 := hf.2.2.1
  have h40 : ¬ (4 : Int) < ((n + 1 : Nat) : Int) := by omega
  have h41 : ¬ ((n + 1 : Nat) : Int) < 0 := by omega
  have h42 : (0 : Int) < ((n + 1 : Nat) : Int) := by omega
  clear hT hf
  generalize hM : ((n + 1 : Nat) : Int) = M at *
  have HM := Lib.hid hM
  clear hM
  go_enter Tryd.func7, Tryd.ntmps7
  go_wp2_with (fail)
  refine (ref_Factors ll (n + 1) _ _ Hp.out Hf.out).mono ?_
  rintro e w' ⟨rfl, rfl⟩
  rw [HM.out]
  go_wp2_with (fail)
  refine (ref_Partial ll (n + 1) (n + 1) [] _ _ _ Hp.out (NewU.nil 0 _).row NilOk.none Hf.out.2.1 Hf.out.2.2.1 Hf.out.part Hf.out.1 (by simp)).mono ?_
  rintro e w1 ⟨rfl, hb⟩
  rw [fixed_nil]
  have B1 := Lib.hid hb
  clear hb
  go_wp2
  go_loopw [8, 30] (fun o i wr => ∃ (j : Nat), j ≤ ll.length + 1 ∧ i = .int .i64 (j : Int) ∧ Hid (NewU w.heap.size wr o ((roundI ll n).take j)) ∧ Hid (Below w.heap.size w wr)) (fun _ i _ => ll.length + 1 - (intOf i).toNat)
  case atStart => exact ⟨0, by omega, rfl, NewU.nil _ _, B1.out⟩
  case round =>
    obtain ⟨j, hj, rfl, HO, HB⟩ := hrel
    by_cases hz : j < ll.length + 1
    · have hz' : (j : Int) < (ll.length : Int) + 1 := by omega
      have Hs := Lib.hid (roundI_take ll n j hz)
      have uj : U64 (j : Int) := ⟨by omega, by omega⟩
      have hwj : IntKind.u64.wrap (j : Int) = (j : Int) := by rw [IntKind.wrap_u64]; omega
      have hcap : ((roundI ll n).take j).length + 1 ≤ 17592186043904 := by simp; omega
      have hszr := HB.out.size
      go_wp2_with (fail)
      refine (ref_Partial ll (n + 1) n [(j : Int)] _ _ _ (Hp.out.below (HB.out.trans ((below_alloc wr _).mono HB.out.size)) (Nat.le_refl _)) (row1 wr wr.heap.size (j : Int) uj rfl) (NilOk.some _ _ _) Hf.out.2.1 Hf.out.2.2.1 Hf.out.part Hf.out.1 (by simp; omega)).mono ?_
      rintro e w2 ⟨rfl, hb⟩
      rw [fixed_one]
      have HO2 := Lib.hid (HO.out.below (below_chain (below_alloc wr _) hb) (Nat.le_refl _))
      have HB2 := Lib.hid (HB.out.trans ((below_chain (below_alloc wr _) hb).mono HB.out.size))
      have hsz := HB2.out.size
      clear hb
      go_wp2_with (at_builtin; refine wpList_appU rfl _ _ rfl w.heap.size _ _ rfl HO2.out _ rfl (U64.psi _) hcap hsz ?_; intro v4 w4 hn4 hb4; have Hn4 := Lib.hid hn4; clear hn4)
      go_roundw
      case rel => exact ⟨j + 1, by omega, by go_num, by rw [Hs.out]; exact Hn4.out, HB2.out.trans hb4⟩
      case measure => simp [intOf]; omega
    · obtain rfl : j = ll.length + 1 := by omega
      have hz' : ¬ ((ll.length + 1 : Nat) : Int) < (ll.length : Int) + 1 := by omega
      rw [List.take_of_length_le (by rw [roundI_length]; exact Nat.le_refl _)] at HO
      have HR := Lib.hid HO.out.row
      have Hpr := Lib.hid (Hp.out.below HB.out (Nat.le_refl _))
      go_wp2_with (fail)
      refine (sum_Check ll (n + 1) _ _ (HT.out.below HB.out) Hpr.out Hf.out).mono ?_
      rintro e w' ⟨rfl, rfl⟩
      rw [HM.out]
      go_wp2_with (fail)
      refine (sum_Claim ll (n + 1) _ _ (HT.out.below HB.out) Hpr.out Hf.out).mono ?_
      rintro e w' ⟨rfl, rfl⟩
      go_wp2_with (fail)
      refine (sum_Round ll n _ _ (HT.out.below HB.out) Hpr.out Hf.out).mono ?_
      rintro e w5 ⟨vP, rfl, hnP, hb⟩
      have HP5 := Lib.hid hnP.row
      have HR5 := Lib.hid (HR.out.step hb)
      have B5 := Lib.hid (HB.out.trans (hb.mono HB.out.size))
      clear hb hnP
      go_wp2_with (fail)
      refine (slices_Equal _ _ _ _ HP5.out HR5.out).mono ?_
      rintro e w7 ⟨rfl, hd⟩
      have B7 := Lib.hid (below_chain B5.out hd.below)
      clear hd
      go_wp2
      go_ret
      exact ⟨rfl, B7.out⟩
theorem sumSays_walk (w : World) (hT : Tab w) (v : Value) (ll : List (List Int)) (hp : RowUU w v ll) :
    Calls Tryd.prog 7 #[v] w fun e w' => e = .returned (.bool true) ∧ Below w.heap.size w w' := by
  by_cases h : ∃ n, Facts ll n
  · obtain ⟨n, hf⟩ := h
    by_cases h4 : n ≤ 4
    · by_cases h0 : n = 0
      · subst h0; exact sumSays_zero w hT v ll hp hf
      · obtain ⟨m, rfl⟩ : ∃ m, n = m + 1 := ⟨n - 1, by omega⟩
        exact sumSays_pos w hT v ll hp m hf h4
    · exact sumSays_big w v ll hp n hf (by omega)
  · exact sumSays_no w hT v ll hp (fun n hf => h ⟨n, hf⟩)
end Go.Proofs.YtaaaoljllpbplaaDoor
