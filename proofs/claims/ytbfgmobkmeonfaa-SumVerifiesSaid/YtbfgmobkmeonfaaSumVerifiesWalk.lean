/- The walk of the law SumVerifies: it returns true, whatever is handed in. -/
import Derived.Test.YtbfgmobkmeonfaaVerify
namespace Go.Proofs.Ytbfgmobkmeonfaa
open Go.RowKit Tally
/-- a round as it must be -/
def G1 (ll : List (List Int)) (j : Nat) : Prop := 2 ≤ (atl ll j).length ∧ (atl ll j).length ≤ 8 ∧ (atl ll j).length = (atl ll 0).length
set_option maxRecDepth 100000 in
set_option maxHeartbeats 1000000 in
theorem sumVerifies_walk (w : World) (c : Int) (hc : U64 c) (v : Value) (ll : List (List Int)) (hp : RowUU w v ll) (v2 : Value) (ds : List Int) (hp2 : RowU w v2 ds) :
    Calls Try.prog 13 #[.int .u64 c, v, v2] w fun e w' => e = .returned (.bool true) ∧ Below w.heap.size w w' := by
  have Hp := Lib.hid hp
  have Hp2 := Lib.hid hp2
  obtain ⟨h2, a, cap, rfl, hr⟩ := hp
  obtain ⟨_, h22, ad2, cap2, rfl, hr2⟩ := hp2
  have Hr := Lib.hid hr
  clear hr hr2
  by_cases h40 : (40 : Int) < (ll.length : Int)
  · go_enter Try.func13, Try.ntmps13
    go_wp2
    go_ret
    exact ⟨rfl, Below.refl _ _⟩
  · by_cases hl : ll.length = ds.length
    · have hqb : ((ll.length : Int) != (ds.length : Int)) = false := by simp [hl]
      have Hl := Lib.hid hl
      clear hl
      go_enter Try.func13, Try.ntmps13
      go_wp2
      go_loop [7, 25] (fun ee i => ∃ (k : Nat) (E : Int), k ≤ ll.length ∧ i = .int .i64 (k : Int) ∧ ee = .int .i64 E ∧ Hid ((E = 0 ∧ ∀ j, j < k → G1 ll j) ∨ (E = 4 ∧ ¬ good ll))) (fun _ i => ll.length - (intOf i).toNat)
      case atStart => exact ⟨0, 0, by omega, rfl, rfl, Or.inl ⟨rfl, fun j hj => absurd hj (by omega)⟩⟩
      case round =>
        obtain ⟨k, E, hk, rfl, rfl, HE⟩ := hrel
        by_cases hz : k < ll.length
        · -- a round
          obtain ⟨b, off, rfl, hblt, hcell⟩ := Hr.out (by omega)
          obtain ⟨u, hu, hrow⟩ := hcell k hz
          obtain ⟨u0, hu0, hrow0⟩ := hcell 0 (by omega)
          obtain ⟨_, hul, au, cu, rfl, _⟩ := hrow
          obtain ⟨_, hul0, au0, cu0, rfl, _⟩ := hrow0
          rw [Nat.add_zero] at hu0
          have h0l : (0 : Int) < (ll.length : Int) := by omega
          clear hcell
          rcases HE.out with ⟨rfl, hG⟩ | ⟨rfl, hB⟩
          · have HG := Lib.hid hG
            clear hG HE
            by_cases g1 : 2 ≤ (atl ll k).length
            · by_cases g2 : (atl ll k).length ≤ 8
              · by_cases g3 : (atl ll k).length = (atl ll 0).length
                · have hne : (((atl ll k).length : Int) != ((atl ll 0).length : Int)) = false := by simp [g3]
                  have Hk := Lib.hid (show G1 ll k from ⟨g1, g2, g3⟩)
                  clear g3
                  go_wp2
                  go_round
                  case rel => exact ⟨k + 1, 0, by omega, by go_num, rfl, Or.inl ⟨rfl, fun j hj => if e : j = k then by subst e; exact Hk.out else HG.out j (by omega)⟩⟩
                  case measure => simp [intOf]; omega
                · have hne : (((atl ll k).length : Int) != ((atl ll 0).length : Int)) = true := by simp; omega
                  have Hk := Lib.hid (show ¬ good ll from fun hg => g3 (hg k hz).2.2)
                  clear g3
                  go_wp2
                  go_round
                  case rel => exact ⟨k + 1, 4, by omega, by go_num, rfl, Or.inr ⟨rfl, Hk.out⟩⟩
                  case measure => simp [intOf]; omega
              · have Hk := Lib.hid (show ¬ good ll from fun hg => g2 (hg k hz).2.1)
                have g2' : (8 : Int) < ((atl ll k).length : Int) := by omega
                go_wp2
                go_round
                case rel => exact ⟨k + 1, 4, by omega, by go_num, rfl, Or.inr ⟨rfl, Hk.out⟩⟩
                case measure => simp [intOf]; omega
            · have Hk := Lib.hid (show ¬ good ll from fun hg => g1 (hg k hz).1)
              have g1' : ((atl ll k).length : Int) < 2 := by omega
              go_wp2
              go_round
              case rel => exact ⟨k + 1, 4, by omega, by go_num, rfl, Or.inr ⟨rfl, Hk.out⟩⟩
              case measure => simp [intOf]; omega
          · have HB := Lib.hid hB
            clear hB HE
            go_wp2
            go_round
            case rel => exact ⟨k + 1, 4, by omega, by go_num, rfl, Or.inr ⟨rfl, HB.out⟩⟩
            case measure => simp [intOf]; omega
        · obtain rfl : k = ll.length := by omega
          rcases HE.out with ⟨rfl, hG⟩ | ⟨rfl, hB⟩
          · have HG := Lib.hid (show good ll from hG)
            clear hG HE
            go_wp2_with (fail)
            refine (ref_Told _ hc _ _ _ _ _ Hp.out Hp2.out Hl.out HG.out).mono ?_
            rintro e w1 ⟨rfl, hd⟩
            go_wp2_with (fail)
            refine (sum_Verify _ hc _ _ _ _ _ (Hp.out.below hd.below (Nat.le_refl _)) (Hp2.out.below hd.below (Nat.le_refl _)) Hl.out HG.out).mono ?_
            rintro e w2 ⟨rfl, hb2⟩
            generalize told (phi c) (phis ll) (ds.map phi) = T
            go_wp2
            go_ret
            exact ⟨by simp, hd.below.trans (hb2.mono hd.below.size)⟩
          · have Hf := Lib.hid (formE_bad Hl.out hB)
            clear hB HE
            have hne : (formE ll ds != 0) = true := by rw [Hf.out]; rfl
            have hne2 : (formE ll ds == 4) = true := by rw [Hf.out]; rfl
            go_wp2_with (fail)
            refine (sum_Verify_no _ _ _ _ _ _ Hp.out Hp2.out hne).mono ?_
            rintro e w2 ⟨rfl, rfl⟩
            go_wp2
            go_ret
            exact ⟨rfl, Below.refl _ _⟩
    · have hqb : ((ll.length : Int) != (ds.length : Int)) = true := by simp; omega
      have Hf := Lib.hid (formE_arg hl)
      clear hl
      go_enter Try.func13, Try.ntmps13
      go_wp2
      go_loop [7, 25] (fun ee i => ∃ (k : Nat), k ≤ ll.length ∧ i = .int .i64 (k : Int) ∧ ee = .int .i64 1) (fun _ i => ll.length - (intOf i).toNat)
      case atStart => exact ⟨0, by omega, rfl, rfl⟩
      case round =>
        obtain ⟨k, hk, rfl, rfl⟩ := hrel
        by_cases hz : k < ll.length
        · -- a round
          obtain ⟨b, off, rfl, hblt, hcell⟩ := Hr.out (by omega)
          obtain ⟨u, hu, hrow⟩ := hcell k hz
          obtain ⟨u0, hu0, hrow0⟩ := hcell 0 (by omega)
          obtain ⟨_, hul, au, cu, rfl, _⟩ := hrow
          obtain ⟨_, hul0, au0, cu0, rfl, _⟩ := hrow0
          rw [Nat.add_zero] at hu0
          have h0l : (0 : Int) < (ll.length : Int) := by omega
          clear hcell
          go_wp2
          go_round
          case rel => exact ⟨k + 1, by omega, by go_num, rfl⟩
          case measure => simp [intOf]; omega
        · obtain rfl : k = ll.length := by omega
          have hne : (formE ll ds != 0) = true := by rw [Hf.out]; rfl
          have hne2 : (formE ll ds == 1) = true := by rw [Hf.out]; rfl
          go_wp2_with (fail)
          refine (sum_Verify_no _ _ _ _ _ _ Hp.out Hp2.out hne).mono ?_
          rintro e w2 ⟨rfl, rfl⟩
          go_wp2
          go_ret
          exact ⟨rfl, Below.refl _ _⟩
end Go.Proofs.Ytbfgmobkmeonfaa
