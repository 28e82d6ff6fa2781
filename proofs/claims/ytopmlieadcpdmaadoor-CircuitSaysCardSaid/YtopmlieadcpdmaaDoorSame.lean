/- The walks of the laws' same, at lists that are alike. No condition. -/
import Derived.Test.YtopmlieadcpdmaaDoorLists
import Derived.Test.YtopmlieadcpdmaaDoorFar
namespace Go.Proofs.YtopmlieadcpdmaaDoor
set_option maxRecDepth 100000
set_option linter.unusedVariables false
open Go.RowKit Tally
set_option maxHeartbeats 1000000 in
theorem same_one (l : List Int) (v v2 : Value) (w : World) (hp : RowU w v l) (hp2 : RowU w v2 l) :
    Calls Tryd.prog 30 #[v, v2] w fun e w' => e = .returned (.bool true) ∧ Drawn w w' := by
  have Hp := Lib.hid hp
  have Hp2 := Lib.hid hp2
  clear hp hp2
  go_enter Tryd.func30, Tryd.ntmps30
  go_wp2_with (fail)
  refine (slices_Equal l _ _ _ Hp.out Hp2.out).mono ?_
  rintro e w1 ⟨rfl, hd⟩
  go_wp2
  go_ret
  exact ⟨rfl, hd⟩
theorem RowUU.drawn {w w' : World} {v : Value} {l : List (List Int)} (h : RowUU w v l) (hd : Drawn w w') : RowUU w' v l := h.below hd.below (Nat.le_refl _)
set_option maxHeartbeats 2000000 in
theorem eqFunc (ll : List (List Int)) (v v2 : Value) (w : World) (hp : RowUU w v ll) (hp2 : RowUU w v2 ll) :
    Calls Tryd.prog 29 #[v, v2, .func (.func 30) #[] #[]] w fun e w' => e = .returned (.bool true) ∧ Drawn w w' := by
  obtain ⟨h2, ad, cap, rfl, hr⟩ := hp
  obtain ⟨_, ad2, cap2, rfl, hr2⟩ := hp2
  have Hr := Lib.hid hr
  have Hr2 := Lib.hid hr2
  clear hr hr2
  go_enter Tryd.func29, Tryd.ntmps29
  go_wp2
  go_loopw [17] (fun i wr => ∃ k : Nat, k ≤ ll.length ∧ i = .int .i64 (k : Int) ∧ Drawn w wr) (fun i _ => ll.length - (intOf i).toNat)
  case atStart => exact ⟨0, by omega, rfl, Drawn.refl _⟩
  case round =>
    obtain ⟨k, hk, rfl, hd⟩ := hrel
    by_cases hz : k < ll.length
    · obtain ⟨b, off, rfl, hblt, hcell⟩ := Hr.out (by omega)
      obtain ⟨b2, off2, rfl, hblt2, hcell2⟩ := Hr2.out (by omega)
      obtain ⟨u, hu, hru⟩ := hcell k hz
      obtain ⟨u2, hu2, hru2⟩ := hcell2 k hz
      have c1 := (hd.below.cell (p := ⟨b, off + k, none⟩) hblt).trans hu
      have c2 := (hd.below.cell (p := ⟨b2, off2 + k, none⟩) hblt2).trans hu2
      have H1 := Lib.hid (hru.below hd.below (Nat.le_refl _))
      have H2 := Lib.hid (hru2.below hd.below (Nat.le_refl _))
      have hk1 : (k : Int) < (ll.length : Int) := by omega
      clear hcell hcell2 hru hru2 hu hu2
      go_wp2_with (fail)
      refine (same_one _ _ _ _ H1.out H2.out).mono ?_
      rintro e w1 ⟨rfl, hd1⟩
      have hdw := hd.trans hd1
      clear hd1
      go_wp2
      go_roundw
      case rel => exact ⟨k + 1, by omega, by go_num, hdw⟩
      case measure => simp [intOf]; omega
    · obtain rfl : k = ll.length := by omega
      go_wp2
      go_ret
      exact ⟨rfl, hd⟩
set_option maxHeartbeats 2000000 in
theorem law_same (ll : List (List Int)) (v v2 : Value) (w : World) (hp : RowUU w v ll) (hp2 : RowUU w v2 ll) :
    Calls Tryd.prog 12 #[v, v2] w fun e w' => e = .returned (.bool true) ∧ Drawn w w' := by
  have Hp := Lib.hid hp
  have Hp2 := Lib.hid hp2
  clear hp hp2
  go_enter Tryd.func12, Tryd.ntmps12
  go_wp2_with (fail)
  refine (eqFunc ll _ _ _ Hp.out Hp2.out).mono ?_
  rintro e w1 ⟨rfl, hd⟩
  go_wp2
  go_ret
  exact ⟨rfl, hd⟩
end Go.Proofs.YtopmlieadcpdmaaDoor
