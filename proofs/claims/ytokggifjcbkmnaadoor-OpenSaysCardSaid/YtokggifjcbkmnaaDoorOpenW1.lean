/- The walks of open's wrong and form. No condition. -/
import Derived.Test.YtokggifjcbkmnaaDoorLookM
namespace Go.Proofs.YtokggifjcbkmnaaDoor
set_option maxRecDepth 100000
set_option linter.unusedVariables false
open Go.RowKit Tally
theorem ret_bool {a b : Bool} (h : a = b) : Ending.returned (.bool a) = .returned (.bool b) := by rw [h]
set_option maxHeartbeats 1000000 in
theorem wrong_1 (x half : Int) (b : Nat) (w : World) (h : w.cell? ⟨b, 0, none⟩ = some (.int .i64 half)) :
    Calls Tryd.prog 67 #[.int .i64 x, .pointer (some ⟨b, 0, none⟩)] w fun e w' => e = .returned (.bool (!decide (0 ≤ x ∧ x < half))) ∧ w = w' := by
  by_cases hx : x < 0
  · have hb : decide (x < 0) = true := decide_eq_true hx
    have hR : Hid (decide (0 ≤ x ∧ x < half) = false) := decide_eq_false (by omega)
    clear hx
    go_enter Tryd.func67, Tryd.ntmps67
    go_wp2
    go_ret
    exact ⟨ret_bool (by rw [hR.out]; rfl), rfl⟩
  · have hb : decide (x < 0) = false := decide_eq_false hx
    by_cases hy : half ≤ x
    · have hb2 : decide (half ≤ x) = true := decide_eq_true hy
      have hR : Hid (decide (0 ≤ x ∧ x < half) = false) := decide_eq_false (by omega)
      clear hx hy
      go_enter Tryd.func67, Tryd.ntmps67
      go_wp2
      go_ret
      exact ⟨ret_bool (by rw [hR.out]; rfl), rfl⟩
    · have hb2 : decide (half ≤ x) = false := decide_eq_false hy
      have hR : Hid (decide (0 ≤ x ∧ x < half) = true) := decide_eq_true (by omega)
      clear hx hy
      go_enter Tryd.func67, Tryd.ntmps67
      go_wp2
      go_ret
      exact ⟨ret_bool (by rw [hR.out]; rfl), rfl⟩
set_option maxHeartbeats 1000000 in
theorem wrong_index (places : List Int) (half : Int) (b : Nat) (v : Value) (w : World) (hp : RowI w v places) (h : w.cell? ⟨b, 0, none⟩ = some (.int .i64 half)) :
    Calls Tryd.prog 77 #[v, .func (.func 67) #[] #[.pointer (some ⟨b, 0, none⟩)]] w fun e w' => ∃ i : Int, e = .returned (.int .i64 i) ∧ Hid (decide (0 ≤ i) = !placesB places half places.length) ∧ w = w' := by
  have Hh := Lib.hid h
  obtain ⟨_, h2, ad, cap, rfl, hr⟩ := hp
  have Hr := Lib.hid hr
  clear hr h
  go_enter Tryd.func77, Tryd.ntmps77
  go_wp2
  go_loopw [8] (fun iv wr => ∃ k : Nat, k ≤ places.length ∧ iv = .int .i64 (k : Int) ∧ Hid (placesB places half k = true) ∧ w = wr) (fun iv _ => places.length - (intOf iv).toNat)
  case atStart => exact ⟨0, by omega, rfl, rfl, rfl⟩
  case round =>
    obtain ⟨k, hk, rfl, HP, rfl⟩ := hrel
    by_cases hz : k < places.length
    · obtain ⟨b2, off, rfl, hblt, hcell⟩ := Hr.out (by omega)
      have c1 := hcell k hz
      have hk1 : (k : Int) < (places.length : Int) := by omega
      clear hcell
      by_cases hin : 0 ≤ at0 places k ∧ at0 places k < half
      · have Hin := Lib.hid (show placesB places half (k + 1) = true by rw [placesB_succ, HP.out, decide_eq_true hin]; rfl)
        have hd : decide (0 ≤ at0 places k ∧ at0 places k < half) = true := decide_eq_true hin
        clear hin
        go_wp2_with (fail)
        refine (wrong_1 _ half b _ Hh.out).mono ?_
        rintro e w' ⟨rfl, rfl⟩
        rw [hd]
        go_wp2
        go_roundw
        case rel => exact ⟨k + 1, by omega, by go_num, Hin.out, by first | rfl | trivial⟩
        case measure => simp [intOf]; omega
      · have Hin := Lib.hid (placesB_false hz hin)
        have hd : decide (0 ≤ at0 places k ∧ at0 places k < half) = false := decide_eq_false hin
        clear hin
        go_wp2_with (fail)
        refine (wrong_1 _ half b _ Hh.out).mono ?_
        rintro e w' ⟨rfl, rfl⟩
        rw [hd]
        go_wp2
        go_ret
        exact ⟨k, rfl, show decide (0 ≤ (k : Int)) = !placesB places half places.length by rw [Hin.out]; simp, rfl⟩
    · obtain rfl : k = places.length := by omega
      go_wp2
      go_ret
      exact ⟨-1, rfl, show decide (0 ≤ (-1 : Int)) = !placesB places half places.length by rw [HP.out]; rfl, rfl⟩
set_option maxHeartbeats 1000000 in
theorem wrong_contains (places : List Int) (half : Int) (b : Nat) (v : Value) (w : World) (hp : RowI w v places) (h : w.cell? ⟨b, 0, none⟩ = some (.int .i64 half)) :
    Calls Tryd.prog 66 #[v, .func (.func 67) #[] #[.pointer (some ⟨b, 0, none⟩)]] w fun e w' => e = .returned (.bool (!placesB places half places.length)) ∧ w = w' := by
  have Hh := Lib.hid h; have Hp := Lib.hid hp
  obtain ⟨_, _, ad, cap, rfl, _⟩ := hp
  clear h
  go_enter Tryd.func66, Tryd.ntmps66
  go_wp2_with (fail)
  refine (wrong_index places half b _ _ Hp.out Hh.out).mono ?_
  rintro e w' ⟨i, rfl, Hi, rfl⟩
  go_wp2
  go_ret
  exact ⟨ret_bool Hi.out, rfl⟩
/-- may the places not be? -/
def wrongB (places : List Int) (half : Int) : Bool := decide (32 < places.length) || !placesB places half places.length
set_option maxHeartbeats 1000000 in
theorem open_wrong (places : List Int) (half : Int) (v : Value) (w : World) (hp : RowI w v places) :
    Calls Tryd.prog 45 #[v, .int .i64 half] w fun e w' => e = .returned (.bool (wrongB places half)) ∧ Below w.heap.size w w' := by
  have Hp := Lib.hid hp
  obtain ⟨_, _, ad, cap, rfl, _⟩ := hp
  by_cases hl : 32 < places.length
  · have hb : decide ((32 : Int) < (places.length : Int)) = true := decide_eq_true (by omega)
    have hR : Hid (wrongB places half = true) := by unfold wrongB; rw [decide_eq_true hl]; rfl
    clear hl
    go_enter Tryd.func45, Tryd.ntmps45
    go_wp2
    go_ret
    exact ⟨ret_bool hR.out.symm, (Below.refl _ _).alloc (Nat.le_refl _) _⟩
  · have hb : decide ((32 : Int) < (places.length : Int)) = false := decide_eq_false (by omega)
    have hR : Hid (wrongB places half = !placesB places half places.length) := by unfold wrongB; rw [decide_eq_false hl]; rfl
    clear hl
    go_enter Tryd.func45, Tryd.ntmps45
    obtain ⟨W1, hW, k0, B1, s1⟩ := copied1' w (.int .i64 half) 3
    have Hk := Lib.hid k0
    go_wp2_with (fail)
    refine (wrong_contains places half w.heap.size _ W1 (Hp.out.go B1) Hk.out).mono ?_
    rintro e w' ⟨rfl, rfl⟩
    go_wp2
    go_ret
    exact ⟨ret_bool hR.out.symm, B1⟩
end Go.Proofs.YtokggifjcbkmnaaDoor
