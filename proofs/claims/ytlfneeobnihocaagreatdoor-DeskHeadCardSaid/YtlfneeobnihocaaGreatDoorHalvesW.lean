/- Several texts in one: DecM, FmtW, NumDW, NumsW, HalvesW. What each says, and its conditions, stands at its head. -/
import Derived.Test.YtlfneeobnihocaaGreatDoorNumbW
import Derived.Lib.ItoaNum
import Derived.Test.YtlfneeobnihocaaGreatDoorShelf
import Derived.Test.YtlfneeobnihocaaGreatDoorPcs
import Derived.Test.YtlfneeobnihocaaGreatDoorFar
import Derived.Lib.AppendIntMem
import Derived.Lib.SmallJoins
import Derived.Test.YtlfneeobnihocaaGreatDoorPiecesW
import Derived.Shelf.SlicesE.Index
/- Numerals: which words are numbers of less than 2^63, and what they tell. No condition. -/
namespace Go.Proofs.YtlfneeobnihocaaGreatDoor
set_option maxRecDepth 100000
set_option linter.unusedVariables false
open Go.RowKit Tally
/-- a digit's value -/
def dgt (b : UInt8) : Nat := b.toNat - 48
/-- what a word of digits tells -/
def valD (l : List UInt8) : Nat := l.foldl (fun n c => 10 * n + dgt c) 0
theorem valD_snoc (l : List UInt8) (c : UInt8) : valD (l ++ [c]) = 10 * valD l + dgt c := by simp [valD]
/-- is a word a number? -/
def okB (l : List UInt8) : Bool := decide (l ≠ []) && !(decide (l[0]? = some 48) && decide (1 < l.length)) && decide (l.length ≤ 19) && l.all digB && decide (valD l < 9223372036854775808)
theorem dgt_lt {c : UInt8} (h : digB c = true) : dgt c < 10 := by
  have := of_decide_eq_true h; unfold dgt; omega
theorem dgt_ofNat (k : Nat) (h : k < 10) : dgt (UInt8.ofNat (48 + k)) = k ∧ digB (UInt8.ofNat (48 + k)) = true := by
  match k, h with
  | 0, _ => decide
  | 1, _ => decide
  | 2, _ => decide
  | 3, _ => decide
  | 4, _ => decide
  | 5, _ => decide
  | 6, _ => decide
  | 7, _ => decide
  | 8, _ => decide
  | 9, _ => decide
theorem ofNat_dgt {c : UInt8} (h : digB c = true) : UInt8.ofNat (48 + dgt c) = c := by
  have h := of_decide_eq_true h
  unfold dgt
  apply UInt8.toNat_inj.mp
  rw [UInt8.toNat_ofNat']
  have := c.toNat_lt
  omega
theorem decDigits_step (u : Nat) (h : ¬ u < 10) : Lib.decDigits u = Lib.decDigits (u / 10) ++ [UInt8.ofNat (48 + u % 10)] := by
  rw [Lib.decDigits, dif_neg h]
/-- a numeral tells its number -/
theorem dec_val (u : Nat) : valD (Lib.decDigits u) = u ∧ (Lib.decDigits u).all digB = true ∧ Lib.decDigits u ≠ [] ∧ ((Lib.decDigits u)[0]? = some 48 → u = 0) := by
  induction u using Nat.strongRecOn with
  | ind u ih =>
    by_cases h : u < 10
    · rw [Lib.decDigits_one h]
      have := dgt_ofNat u h
      refine ⟨by show 10 * 0 + dgt _ = u; rw [this.1]; omega, by show (digB (UInt8.ofNat (48 + u)) && true) = true; rw [this.2]; rfl, by simp, fun e => ?_⟩
      have e' : UInt8.ofNat (48 + u) = 48 := by simpa using e
      have h2 := this.1
      rw [e'] at h2
      exact h2.symm
    · obtain ⟨h1, h2, h3, h4⟩ := ih (u / 10) (by omega)
      rw [decDigits_step u h]
      have hd := dgt_ofNat (u % 10) (Nat.mod_lt _ (by decide))
      refine ⟨by rw [valD_snoc, h1, hd.1]; omega, by rw [List.all_append, h2]; show (true && (digB (UInt8.ofNat (48 + u % 10)) && true)) = true; rw [hd.2]; rfl, by simp, fun e => ?_⟩
      have hl : 0 < (Lib.decDigits (u / 10)).length := List.length_pos_iff.mpr h3
      rw [List.getElem?_append_left hl] at e
      have := h4 e
      omega
/-- a word of digits, without a nought ahead, is a numeral -/
theorem val_dec : ∀ (n : Nat) (l : List UInt8), l.length = n → l.all digB = true → l ≠ [] → (l[0]? = some 48 → l.length = 1) → Lib.decDigits (valD l) = l := by
  intro n
  induction n with
  | zero => intro l hl _ h _; exact absurd (List.eq_nil_of_length_eq_zero hl) h
  | succ n ih =>
    intro l hl hd hne h0
    obtain ⟨m, c, rfl⟩ : ∃ m c, l = m ++ [c] := by
      refine ⟨l.dropLast, l.getLast hne, (List.dropLast_concat_getLast hne).symm⟩
    rw [List.all_append] at hd
    have hm : m.all digB = true := by simp only [Bool.and_eq_true] at hd; exact hd.1
    have hc : digB c = true := by simp only [Bool.and_eq_true] at hd; simpa using hd.2
    rw [valD_snoc]
    have hc10 := dgt_lt hc
    by_cases hmn : m = []
    · subst hmn
      show Lib.decDigits (10 * 0 + dgt c) = [c]
      rw [show 10 * 0 + dgt c = dgt c by omega, Lib.decDigits_one hc10, ofNat_dgt hc]
    · have hm1 : 0 < m.length := List.length_pos_iff.mpr hmn
      have h0' : m[0]? ≠ some 48 := fun e => by
        have := h0 (by rw [List.getElem?_append_left hm1]; exact e)
        rw [List.length_append, List.length_singleton] at this; omega
      have ihm := ih m (by rw [List.length_append, List.length_singleton] at hl; omega) hm hmn (fun e => absurd e h0')
      have hv : valD m ≠ 0 := fun e => by
        rw [e] at ihm
        rw [← ihm, Lib.decDigits_one (by decide)] at h0'
        exact h0' rfl
      rw [decDigits_step _ (by omega), show (10 * valD m + dgt c) / 10 = valD m by omega, show (10 * valD m + dgt c) % 10 = dgt c by omega, ihm, ofNat_dgt hc]
theorem valD_lt : ∀ (n : Nat) (l : List UInt8), l.length = n → l.all digB = true → valD l < 10 ^ n := by
  intro n
  induction n with
  | zero => intro l hl _; rw [List.eq_nil_of_length_eq_zero hl]; decide
  | succ n ih =>
    intro l hl hd
    have hne : l ≠ [] := fun e => by rw [e] at hl; cases hl
    obtain ⟨m, c, rfl⟩ : ∃ m c, l = m ++ [c] := ⟨l.dropLast, l.getLast hne, (List.dropLast_concat_getLast hne).symm⟩
    rw [List.all_append] at hd
    have hm : m.all digB = true := by simp only [Bool.and_eq_true] at hd; exact hd.1
    have hc : digB c = true := by simp only [Bool.and_eq_true] at hd; simpa using hd.2
    have := ih m (by rw [List.length_append, List.length_singleton] at hl; omega) hm
    have := dgt_lt hc
    rw [valD_snoc, Nat.pow_succ]; omega
theorem okB_iff (l : List UInt8) : okB l = true ↔ l ≠ [] ∧ ¬ (l[0]? = some 48 ∧ 1 < l.length) ∧ l.length ≤ 19 ∧ l.all digB = true ∧ valD l < 9223372036854775808 := by
  simp only [okB, Bool.and_eq_true, Bool.not_eq_true', Bool.and_eq_false_iff, decide_eq_true_eq, decide_eq_false_iff_not]
  constructor
  · rintro ⟨⟨⟨⟨h1, h2⟩, h3⟩, h4⟩, h5⟩
    exact ⟨h1, fun h => h2.elim (fun k => k h.1) (fun k => k h.2), h3, h4, h5⟩
  · rintro ⟨h1, h2, h3, h4, h5⟩
    refine ⟨⟨⟨⟨h1, ?_⟩, h3⟩, h4⟩, h5⟩
    by_cases h : l[0]? = some 48
    · exact .inr fun k => h2 ⟨h, k⟩
    · exact .inl h
/-- what the reference reckons: it wraps -/
def valW (l : List UInt8) : Int := l.foldl (fun n c => IntKind.u64.wrap (IntKind.u64.wrap (IntKind.u64.wrap (n * 10) + (c.toNat : Int)) - 48)) 0
theorem valW_snoc (l : List UInt8) (c : UInt8) : valW (l ++ [c]) = IntKind.u64.wrap (IntKind.u64.wrap (IntKind.u64.wrap (valW l * 10) + (c.toNat : Int)) - 48) := by simp [valW]
theorem wrap_u64_mod (x : Int) : IntKind.u64.wrap x = x % 18446744073709551616 := IntKind.wrap_u64 x
theorem valW_digits : ∀ (n : Nat) (l : List UInt8), l.length = n → l.all digB = true → valW l = (valD l : Int) % 18446744073709551616 := by
  intro n
  induction n with
  | zero => intro l hl _; rw [List.eq_nil_of_length_eq_zero hl]; decide
  | succ n ih =>
    intro l hl hd
    have hne : l ≠ [] := fun e => by rw [e] at hl; cases hl
    obtain ⟨m, c, rfl⟩ : ∃ m c, l = m ++ [c] := ⟨l.dropLast, l.getLast hne, (List.dropLast_concat_getLast hne).symm⟩
    rw [List.all_append] at hd
    have hm : m.all digB = true := by simp only [Bool.and_eq_true] at hd; exact hd.1
    have hc : digB c = true := by simp only [Bool.and_eq_true] at hd; simpa using hd.2
    have hc' := of_decide_eq_true hc
    rw [valD_snoc, valW_snoc, ih m (by rw [List.length_append, List.length_singleton] at hl; omega) hm, wrap_u64_mod, wrap_u64_mod, wrap_u64_mod]
    unfold dgt
    omega
theorem valW_range : ∀ (l : List UInt8), U64 (valW l) := by
  intro l
  by_cases hne : l = []
  · subst hne; exact U64.zero
  · obtain ⟨m, c, rfl⟩ : ∃ m c, l = m ++ [c] := ⟨l.dropLast, l.getLast hne, (List.dropLast_concat_getLast hne).symm⟩
    rw [valW_snoc, wrap_u64_mod]
    exact ⟨by omega, by omega⟩
theorem nDigits_le : ∀ (n k : Nat), k < 10 ^ (n + 1) → Lib.nDigits k ≤ n + 1
  | 0, k, h => by rw [Lib.nDigits_small (by simpa using h)]; omega
  | n + 1, k, h => by
    by_cases h10 : k < 10
    · rw [Lib.nDigits_small h10]; omega
    · rw [Lib.nDigits_big h10]
      have := nDigits_le n (k / 10) (by rw [Nat.pow_succ] at h; omega)
      omega
/-- the reference's test is the same: the numeral of what is reckoned is the word again, and it is less than 2^63 -/
theorem ok_ref (l : List UInt8) : okB l = true ↔ Lib.decDigits (valW (l.take 20)).toNat = l ∧ valW (l.take 20) ≤ 9223372036854775807 := by
  rw [okB_iff]
  constructor
  · rintro ⟨h1, h2, h3, h4, h5⟩
    rw [List.take_of_length_le (by omega), valW_digits _ l rfl h4]
    have e : ((valD l : Int) % 18446744073709551616) = (valD l : Int) := by omega
    rw [e, Int.toNat_natCast]
    refine ⟨val_dec _ l rfl h4 h1 fun e => ?_, by omega⟩
    rcases Nat.lt_or_ge 1 l.length with h | h
    · exact absurd ⟨e, h⟩ h2
    · have := List.length_pos_iff.mpr h1; omega
  · rintro ⟨h1, h2⟩
    obtain ⟨k, hk⟩ : ∃ k : Nat, valW (l.take 20) = (k : Int) := ⟨(valW (l.take 20)).toNat, by have := (valW_range (l.take 20)).1; omega⟩
    rw [hk] at h1 h2
    rw [Int.toNat_natCast] at h1
    have hd := dec_val k
    rw [h1] at hd
    obtain ⟨d1, d2, d3, d4⟩ := hd
    have hl : l.length ≤ 19 := by
      rw [← h1, Lib.decDigits_length]
      by_cases h10 : k < 10
      · rw [Lib.nDigits_small h10]; omega
      · rcases Nat.lt_or_ge 19 (Lib.nDigits k) with h | h
        · have := nDigits_le 18 k (by omega)
          omega
        · exact h
    refine ⟨d3, fun ⟨e, h⟩ => ?_, hl, d2, by omega⟩
    have := d4 e
    subst this
    rw [← h1, Lib.decDigits_one (by decide)] at h
    exact absurd h (by decide)
theorem ok_val (l : List UInt8) (h : okB l = true) : valW (l.take 20) = (valD l : Int) := by
  obtain ⟨h1, h2, h3, h4, h5⟩ := (okB_iff l).mp h
  rw [List.take_of_length_le (by omega), valW_digits _ l rfl h4]
  omega
theorem ok_u64 (l : List UInt8) (h : okB l = true) : U64 (valD l : Int) := by
  obtain ⟨h1, h2, h3, h4, h5⟩ := (okB_iff l).mp h
  exact ⟨by omega, by omega⟩
end Go.Proofs.YtlfneeobnihocaaGreatDoor

/- The walks of strconv.FormatUint at base 10 and of strconv.Itoa: a number's numeral. The table of powers of ten lies as its initialiser lays it. -/
namespace Go.Proofs.YtlfneeobnihocaaGreatDoor
set_option maxRecDepth 100000
set_option linter.unusedVariables false
open Go.RowKit Tally Go.Sort
/-- the table of powers of ten -/
def Ten (w : World) : Prop := Lib.TabIs Tryz.prog w "internal/strconv.uint64pow10" .u64 Lib.pow10Tab
theorem gTen : Tryz.prog.globalNamed "internal/strconv.uint64pow10" = some 3 := by kernel_rfl
theorem Ten.go {w w' : World} (h : Ten w) (hb : Below w.heap.size w w') : Ten w' := Go.Joins.tab_stays gTen h hb (Nat.le_refl _)
/-- a number's numeral -/
def decL (n : Int) : List UInt8 := Lib.decDigits n.toNat
theorem at24 : Tryz.prog.arrayLen 165 = 24 := by kernel_rfl
theorem el24 : Tryz.prog.elem 165 = 5 := by kernel_rfl
set_option maxRecDepth 100000 in
set_option maxHeartbeats 2000000 in
theorem i_FormatUint (u : Nat) (w : World) (hu64 : u < 18446744073709551616) (htab : Ten w) :
    Calls Tryz.prog 95 #[.int .u64 u, .int .i64 10] w fun e w' => e = .returned (.string (mkB (Lib.decDigits u))) ∧ Below w.heap.size w w' := by
  by_cases hs : u < 100
  · go_enter Tryz.func95, Tryz.ntmps95
    go_wp2_with (go_at_call 134; refine (Tryz.internal_strconv_small u hs _).mono ?_; rintro e w' ⟨rfl, rfl⟩)
    go_ret
    exact ⟨rfl, Below.refl _ _⟩
  · have hu1 : 1 ≤ u := by omega
    have hnd20 : Lib.nDigits u ≤ 20 := by have := Lib.numDigits_eq u hu1 hu64; split at this <;> omega
    have hsl1 : ∀ W, (Instr.sliceAt 165 (.pointer (some ⟨w.heap.size, 0, none⟩)) none (some (.int .i64 (Lib.nDigits u : Int))) none).run Tryz.prog W = .ok (.slice (some ⟨w.heap.size, 0, none⟩) (Lib.nDigits u) 24) W := fun W => by
      rw [run_sliceAt_array_h W 165 ⟨w.heap.size, 0, none⟩ Tryz.underlying165 .i64 (Lib.nDigits u : Int) (by omega) (by rw [at24]; omega)]
      rw [el24, at24]
      go_simp
    have hH0 := Lib.holds_zero0 w 165 (Lib.nDigits u) (by omega)
    have hfmt := Tryz.internal_strconv_formatBase10 w.heap.size 0 24 u (Array.replicate (Lib.nDigits u) 0) (w.alloc (.cells Lib.zeros24 165)) hH0 (by rw [Array.size_replicate]; exact Lib.lt_pow_nDigits u) hu64 (by rw [Array.size_replicate]; omega)
    rw [Array.size_replicate] at hfmt
    have HH0 := Lib.hid hH0
    clear hH0
    go_enter Tryz.func95, Tryz.ntmps95
    go_wp2_with (first
      | (go_at_call 135; refine (Tryz.internal_strconv_numDigits u hu1 hu64 _ (Lib.tabIs_alloc htab _)).mono ?_; rintro e w' ⟨rfl, rfl⟩))
    refine hfmt.mono ?_
    rintro e w' ⟨rfl, k, v', dk, rfl, hF⟩
    have hcv : (convert 33 9 (.slice (some ⟨w.heap.size, 0, none⟩) (Lib.nDigits u) 24)).run Tryz.prog ((putRow (fun (b : UInt8) => Value.int .u8 (b.toNat : Int)) (w.alloc (.cells Lib.zeros24 165)) w.heap.size 0 dk).drewN k) = .ok (.string ⟨(Lib.decDigits u).toArray⟩) ((putRow (fun (b : UInt8) => Value.int .u8 (b.toNat : Int)) (w.alloc (.cells Lib.zeros24 165)) w.heap.size 0 dk).drewN k) := by
      have h := run_convert_bytes_back (P := Tryz.prog) ((putRow (fun (b : UInt8) => Value.int .u8 (b.toNat : Int)) (w.alloc (.cells Lib.zeros24 165)) w.heap.size 0 dk).drewN k) 33 9 5 ⟨w.heap.size, 0, none⟩ 24 (Lib.decDigits u) Tryz.underlying33 Tryz.underlying5 Tryz.underlying9 (fun j hj => by
        rw [Lib.row_is_numeral hF j hj, Lib.add_plain, World.cell?_drewN]
        exact cell?_putRow (fun (b : UInt8) => Value.int .u8 (b.toNat : Int)) _ w.heap.size 0 _ dk HH0.out (by rw [hF.size, Array.size_replicate]) j (by rw [hF.size]; rw [Lib.decDigits_length] at hj; exact hj))
      rw [Lib.decDigits_length] at h
      exact h
    go_wp2
    go_ret
    obtain ⟨os, eo⟩ := Lib.fin_at w (.cells Lib.zeros24 165) dk k 0
    refine ⟨rfl, ?_⟩
    have hb := Lib.below_grow w.heap.size w (Nat.le_refl _) k os
    rw [← eo] at hb
    exact hb
theorem s_FormatUint (n : Int) (w : World) (hn : U64 n) (htab : Ten w) :
    Calls Tryz.prog 61 #[.int .u64 n, .int .i64 10] w fun e w' => e = .returned (.string (mkB (decL n))) ∧ Below w.heap.size w w' := by
  obtain ⟨u, rfl⟩ : ∃ u : Nat, n = (u : Int) := ⟨n.toNat, by have := hn.1; omega⟩
  have hu : u < 18446744073709551616 := by have := hn.2; omega
  go_enter Tryz.func61, Tryz.ntmps61
  go_wp2_with (go_at_call 95; refine (i_FormatUint u w hu htab).mono ?_; rintro e w' ⟨rfl, hb⟩)
  go_ret
  exact ⟨rfl, hb⟩
theorem s_Itoa (n : Int) (w : World) (h0 : 0 ≤ n) (h1 : n ≤ 9223372036854775807) (htab : Ten w) :
    Calls Tryz.prog 39 #[.int .i64 n] w fun e w' => e = .returned (.string (mkB (decL n))) ∧ Below w.heap.size w w' := by
  obtain ⟨u, rfl⟩ : ∃ u : Nat, n = (u : Int) := ⟨n.toNat, by omega⟩
  refine (Tryz.strconv_Itoa (u : Int) (by omega) h1 w htab).mono ?_
  rintro e w' ⟨rfl, k, os, rfl⟩
  exact ⟨by rw [Lib.itoa_nonneg]; rfl, Lib.below_grow w.heap.size w (Nat.le_refl _) k os⟩
/-- small numbers want no table -/
theorem s_Itoa_small (n : Int) (w : World) (h0 : 0 ≤ n) (h1 : n < 100) :
    Calls Tryz.prog 39 #[.int .i64 n] w fun e w' => e = .returned (.string (mkB (decL n))) ∧ w = w' := by
  obtain ⟨u, rfl⟩ : ∃ u : Nat, n = (u : Int) := ⟨n.toNat, by omega⟩
  refine (Tryz.strconv_Itoa_small u (by omega) w).mono ?_
  rintro e w' ⟨rfl, rfl⟩
  exact ⟨rfl, rfl⟩
/-- the text of an error -/
def errL (e : Int) : List UInt8 := [101, 114, 114, 111, 114, 32] ++ decL e
theorem mkB_append (a b : List UInt8) : mkB a ++ mkB b = mkB (a ++ b) := by
  apply ByteArray.ext
  simp [mkB, ByteArray.data_append]
theorem mkB_size (a : List UInt8) : (mkB a).size = a.length := rfl
theorem decL_len (n : Int) (h1 : n ≤ 18446744073709551615) : (decL n).length ≤ 20 := by
  unfold decL
  rw [Lib.decDigits_length]
  by_cases h : n.toNat < 10
  · rw [Lib.nDigits_small h]; omega
  · have := Lib.numDigits_eq n.toNat (by omega) (by omega); split at this <;> omega
theorem cat_string (a : Array UInt8) (l : List UInt8) : (⟨a⟩ : ByteArray) ++ mkB l = mkB (a.toList ++ l) := by
  apply ByteArray.ext
  simp [mkB, ByteArray.data_append]
set_option maxHeartbeats 1000000 in
theorem desk_failed (n : Int) (w : World) (h0 : 0 ≤ n) (h1 : n < 100) :
    Calls Tryz.prog 29 #[.int .i64 n] w fun e w' => e = .returned (.string (mkB (errL n))) ∧ w = w' := by
  have hl := decL_len n (by omega)
  have hs : ¬ (9223372036854775807 < 6 + (decL n).length) := by omega
  go_enter Tryz.func29, Tryz.ntmps29
  go_wp2_with (go_at_call 39; refine (s_Itoa_small n _ h0 h1).mono ?_; rintro e w' ⟨rfl, rfl⟩)
  go_ret
  exact ⟨by rw [cat_string]; rfl, rfl⟩
set_option maxHeartbeats 1000000 in
theorem ref_wrong (n : Int) (w : World) (h0 : 0 ≤ n) (h1 : n < 100) :
    Calls Tryz.prog 18 #[.int .i64 n] w fun e w' => e = .returned (.string (mkB (errL n))) ∧ w = w' := by
  have hl := decL_len n (by omega)
  have hs : ¬ (9223372036854775807 < 6 + (decL n).length) := by omega
  go_enter Tryz.func18, Tryz.ntmps18
  go_wp2_with (go_at_call 39; refine (s_Itoa_small n _ h0 h1).mono ?_; rintro e w' ⟨rfl, rfl⟩)
  go_ret
  exact ⟨by rw [cat_string]; rfl, rfl⟩
/-- the text of a number or an error -/
def toldL (n e : Int) : List UInt8 := if e = 0 then decL n else errL e
set_option maxHeartbeats 1000000 in
theorem desk_told (n e : Int) (w : World) (hn : U64 n) (h0 : 0 ≤ e) (h1 : e < 100) (htab : Ten w) :
    Calls Tryz.prog 33 #[.int .u64 n, .int .i64 e] w fun e' w' => e' = .returned (.string (mkB (toldL n e))) ∧ Below w.heap.size w w' := by
  by_cases he : e = 0
  · subst he
    go_enter Tryz.func33, Tryz.ntmps33
    go_wp2_with (go_at_call 61; refine (s_FormatUint n _ hn htab).mono ?_; rintro e w' ⟨rfl, hb⟩)
    go_ret
    exact ⟨rfl, hb⟩
  · have he' : (e != 0) = true := bne_iff_ne.mpr he
    go_enter Tryz.func33, Tryz.ntmps33
    go_wp2_with (go_at_call 29; refine (desk_failed e _ h0 h1).mono ?_; rintro e w' ⟨rfl, rfl⟩)
    go_ret
    exact ⟨by show Ending.returned (.string (mkB (errL e))) = _; rw [toldL, if_neg he], Below.refl _ _⟩
end Go.Proofs.YtlfneeobnihocaaGreatDoor

/- The walks of the desk's number and numbers, and of the reference's. The table of powers of ten lies as its initialiser lays it. -/
namespace Go.Proofs.YtlfneeobnihocaaGreatDoor
set_option maxRecDepth 100000
set_option linter.unusedVariables false
open Go.RowKit Tally
/-- what is answered of a word -/
def NumPost (l : List UInt8) (e : Ending) : Prop := ∃ v, e = .returned (.tuple #[.int .u64 v, .bool (okB l)]) ∧ U64 v ∧ (okB l = true → v = (valD l : Int))
theorem numd_no {l : List UInt8} (h : okB l = false) {v : Int} (hv : U64 v) : NumPost l (.returned (.tuple #[.int .u64 v, .bool false])) := ⟨v, by rw [h], hv, fun e => by rw [h] at e; cases e⟩
theorem numd_yes {l : List UInt8} (h : okB l = true) : NumPost l (.returned (.tuple #[.int .u64 (valD l : Int), .bool true])) := ⟨_, by rw [h], ok_u64 l h, fun _ => rfl⟩
theorem okB_no {l : List UInt8} (h : ¬ (l ≠ [] ∧ ¬ (l[0]? = some 48 ∧ 1 < l.length) ∧ l.length ≤ 19 ∧ l.all digB = true ∧ valD l < 9223372036854775808)) : okB l = false := by
  cases hb : okB l with
  | false => rfl
  | true => exact absurd ((okB_iff l).mp hb) h
theorem bytes_at (s : ByteArray) (k : Nat) (hk : k < s.size) : s.data.toList[k]? = some s[k] := by
  have hk' : k < s.data.toList.length := by simpa using hk
  rw [List.getElem?_eq_getElem hk']; rfl
set_option maxRecDepth 100000 in
set_option maxHeartbeats 4000000 in
theorem desk_number (s : ByteArray) (w : World) (hs : s.size ≤ 1000000) :
    Calls Tryz.prog 67 #[.string s] w fun e w' => NumPost s.data.toList e ∧ w = w' := by
  have hlen : s.data.toList.length = s.size := by rw [Array.length_toList]; rfl
  by_cases h0 : s.size = 0
  · obtain rfl : s = ⟨#[]⟩ := by
      apply ByteArray.ext; exact Array.eq_empty_of_size_eq_zero h0
    go_enter Tryz.func67, Tryz.ntmps67
    go_wp2
    exact bodyPost_ret (v := .tuple #[.int .u64 0, .bool false]) (by simp [results, Tryz.results67, go_sem]) rfl ⟨numd_no (okB_no fun h => h.1 rfl) U64.zero, rfl⟩
  · have h0' : 0 < s.size := by omega
    obtain ⟨c, hc⟩ : ∃ c, c = s[0] := ⟨_, rfl⟩
    have e0 := hc.symm
    have hat0 := bytes_at s 0 h0'
    rw [e0] at hat0
    by_cases hB : c = 48 ∧ 1 < s.size
    · have hno := Lib.hid (numd_no (okB_no (l := s.data.toList) fun h => h.2.1 ⟨by rw [hat0, hB.1], by rw [hlen]; exact hB.2⟩) U64.zero)
      obtain ⟨rfl, h1⟩ := hB
      have h1' : (1 : Int) < (s.size : Int) := by omega
      clear hat0 hc
      go_enter Tryz.func67, Tryz.ntmps67
      go_wp2
      all_goals
        exact bodyPost_ret (v := .tuple #[.int .u64 0, .bool false]) (by simp [results, Tryz.results67, go_sem]) rfl ⟨hno.out, rfl⟩
    · by_cases hC : 19 < s.size
      · have hno := Lib.hid (numd_no (okB_no (l := s.data.toList) fun h => by have := h.2.2.1; omega) U64.zero)
        have hC' : (19 : Int) < (s.size : Int) := by omega
        clear hat0 hc
        go_enter Tryz.func67, Tryz.ntmps67
        go_wp2
        all_goals
          exact bodyPost_ret (v := .tuple #[.int .u64 0, .bool false]) (by simp [results, Tryz.results67, go_sem]) rfl ⟨hno.out, rfl⟩
      · have hC' : ¬ (19 : Int) < (s.size : Int) := by omega
        obtain ⟨l, hl⟩ : ∃ l, l = s.data.toList := ⟨_, rfl⟩
        have Hne := Lib.hid (show l ≠ [] from fun e => by rw [hl] at e; rw [e] at hlen; simp at hlen; omega)
        have HB := Lib.hid (show ¬ (l[0]? = some 48 ∧ 1 < l.length) from fun h => hB ⟨by have h1 := h.1; rw [hl, hat0] at h1; exact Option.some.inj h1, by have h2 := h.2; rw [hl, hlen] at h2; exact h2⟩)
        have HL := Lib.hid (show l.length = s.size by rw [hl, hlen])
        have HT := Lib.hid (fun k (hk : k < s.size) => show l.take (k + 1) = l.take k ++ [s[k]] by rw [hl]; exact take_bytes s k hk)
        rw [← hl]
        have hq : (c.toNat : Int) = 48 → ¬ (1 : Int) < (s.size : Int) := fun e h => hB ⟨UInt8.toNat_inj.mp (by simpa using (show c.toNat = 48 by omega)), by omega⟩
        have hl0 := hl
        clear hat0 hc hl hlen hB hC
        have hemp : ¬ s.toList = [] := by rw [ByteArray.toList_eq]; intro e; exact Hne.out (by rw [hl0]; exact e)
        have hemp2 : s.toList.isEmpty = false := by
          cases h : s.toList with
          | nil => exact absurd h hemp
          | cons _ _ => rfl
        clear hl0
        have key : ((c.toNat : Int) == 48) = true ∧ ¬ (1 : Int) < (s.size : Int) ∨ ((c.toNat : Int) == 48) = false := by
          by_cases h48 : (c.toNat : Int) = 48
          · exact .inl ⟨by rw [h48]; rfl, hq h48⟩
          · exact .inr (beq_false_of_ne h48)
        clear hq
        go_enter Tryz.func67, Tryz.ntmps67
        rcases key with ⟨h48', h1'⟩ | h48'
        all_goals
          go_wp2_with (fail)
          clear h48' e0 hemp hemp2
          try clear h1'
          go_loopw [4, 25] (fun n i wr => ∃ k : Nat, k ≤ s.size ∧ i = .int .i64 (k : Int) ∧ n = .int .u64 (valD (l.take k) : Int) ∧ Hid ((l.take k).all digB = true) ∧ wr = w) (fun _ i _ => s.size - (intOf i).toNat)
          case atStart => exact ⟨0, Nat.zero_le _, rfl, rfl, rfl, rfl⟩
          case round =>
            obtain ⟨k, hk, rfl, rfl, HD, rfl⟩ := hrel
            by_cases hz : k < s.size
            · have hz1 : (k : Int) < (s.size : Int) := by omega
              obtain ⟨b, hb⟩ : ∃ b, b = s[k] := ⟨_, rfl⟩
              have HTk := Lib.hid (HT.out k hz)
              rw [← hb] at HTk
              have e0 := hb.symm
              have Hmem := Lib.hid (show b ∈ l from by
                have h1 : b ∈ l.take (k + 1) := by rw [HTk.out]; simp
                exact List.mem_of_mem_take h1)
              clear hb
              by_cases hdg : digB b = true
              · have hd2 := of_decide_eq_true hdg
                have hlt := valD_lt k (l.take k) (by rw [List.length_take, HL.out]; omega) HD.out
                have hp10 : 10 ^ k ≤ 10 ^ 18 := Nat.pow_le_pow_right (by decide) (by omega)
                obtain ⟨V, hV⟩ : ∃ V, V = valD (l.take k) := ⟨_, rfl⟩
                have hV2 : V < 10 ^ 18 := by omega
                have HV2 := Lib.hid (show valD (l.take (k + 1)) = 10 * V + (b.toNat - 48) by rw [HTk.out, valD_snoc, hV]; rfl)
                have HD2 := Lib.hid (show (l.take (k + 1)).all digB = true by rw [HTk.out, List.all_append, HD.out]; show (true && (digB b && true)) = true; rw [hdg]; rfl)
                rw [← hV]
                obtain ⟨d1, d2⟩ := hd2
                have hw1 : IntKind.u64.wrap (10 * (V : Int)) = 10 * (V : Int) := by rw [IntKind.wrap_u64]; omega
                have hw2 := u8_sub d1 d2
                have hw3 : IntKind.u64.wrap ((b.toNat : Int) - 48) = (b.toNat : Int) - 48 := by rw [IntKind.wrap_u64]; omega
                have hw4 : IntKind.u64.wrap (10 * (V : Int) + ((b.toNat : Int) - 48)) = 10 * (V : Int) + ((b.toNat : Int) - 48) := by rw [IntKind.wrap_u64]; omega
                clear hdg hlt hp10 hV
                go_wp2
                go_roundw
                case rel => exact ⟨k + 1, by omega, by go_num, by rw [HV2.out]; congr 1; omega, HD2.out, by first | rfl | trivial⟩
                case measure => simp [intOf]; omega
              · have Hno := Lib.hid (numd_no (okB_no (l := l) fun h => hdg (List.all_eq_true.mp h.2.2.2.1 b Hmem.out)) U64.zero)
                have hd3 : (b.toNat : Int) < 48 ∨ 57 < (b.toNat : Int) := by
                  rcases three b with h | ⟨h1, h2⟩
                  · exact h
                  · exact absurd (dig_yes h1 h2) hdg
                clear hdg Hmem HTk
                rcases hd3 with hd3 | hd3
                · go_wp2
                  exact bodyPost_ret (v := .tuple #[.int .u64 0, .bool false]) (by simp [results, Tryz.results67, go_sem]) rfl ⟨Hno.out, rfl⟩
                · have hd4 : ¬ (b.toNat : Int) < 48 := by omega
                  go_wp2
                  exact bodyPost_ret (v := .tuple #[.int .u64 0, .bool false]) (by simp [results, Tryz.results67, go_sem]) rfl ⟨Hno.out, rfl⟩
            · obtain rfl : k = s.size := by omega
              rw [List.take_of_length_le (by rw [HL.out]; exact Nat.le_refl _)] at HD ⊢
              obtain ⟨V, hV⟩ : ∃ V, V = valD l := ⟨_, rfl⟩
              have hVlt := valD_lt _ l HL.out HD.out
              have hp10 : 10 ^ s.size ≤ 10 ^ 19 := Nat.pow_le_pow_right (by decide) (by omega)
              have hVu : U64 (V : Int) := ⟨by omega, by omega⟩
              have HV := Lib.hid hV
              rw [← hV]
              clear hVlt hp10 hV
              by_cases hbig : V < 9223372036854775808
              · have hb' : (V : Int) < 9223372036854775808 := by omega
                have Hyes := Lib.hid (numd_yes ((okB_iff l).mpr ⟨Hne.out, HB.out, by rw [HL.out]; omega, HD.out, by rw [← HV.out]; exact hbig⟩))
                rw [← HV.out] at Hyes
                clear hbig
                go_wp2
                exact bodyPost_ret (v := .tuple #[.int .u64 V, .bool true]) (by simp [results, Tryz.results67, go_sem]) rfl ⟨Hyes.out, rfl⟩
              · have hb' : ¬ (V : Int) < 9223372036854775808 := by omega
                have Hno := Lib.hid (numd_no (okB_no (l := l) fun h => hbig (by rw [HV.out]; exact h.2.2.2.2)) hVu)
                clear hbig
                go_wp2
                exact bodyPost_ret (v := .tuple #[.int .u64 V, .bool false]) (by simp [results, Tryz.results67, go_sem]) rfl ⟨Hno.out, rfl⟩
end Go.Proofs.YtlfneeobnihocaaGreatDoor

/- The walks of the desk's numbers and halves, and of the reference's number and numbers. The table of powers of ten lies as its initialiser lays it. -/
namespace Go.Proofs.YtlfneeobnihocaaGreatDoor
set_option maxRecDepth 100000
set_option linter.unusedVariables false
open Go.RowKit Tally
/-- the numbers of words -/
def valsD (ws : List (List UInt8)) : List Int := ws.map fun x => (valD x : Int)
def NumsPost (B : Nat) (ws : List (List UInt8)) (e : Ending) (w' : World) : Prop := ∃ v, e = .returned (.tuple #[v, .bool (ws.all okB)]) ∧ (ws.all okB = true → NewU B w' v (valsD ws)) ∧ ∃ a n c, v = .slice a n c
theorem all_take {ws : List (List UInt8)} {k : Nat} (hk : k < ws.length) : (ws.take (k + 1)).all okB = ((ws.take k).all okB && okB (ats ws k)) := by
  rw [List.take_succ_eq_append_getElem hk, List.all_append]
  show ((ws.take k).all okB && (okB ws[k] && true)) = _
  rw [Bool.and_true, ats, List.getElem?_eq_getElem hk]; rfl
theorem vals_take {ws : List (List UInt8)} {k : Nat} (hk : k < ws.length) : valsD (ws.take (k + 1)) = valsD (ws.take k) ++ [(valD (ats ws k) : Int)] := by
  rw [List.take_succ_eq_append_getElem hk, valsD, List.map_append, ats, List.getElem?_eq_getElem hk]; rfl
theorem all_no {ws : List (List UInt8)} {k : Nat} (hk : k < ws.length) (h : okB (ats ws k) = false) : ws.all okB = false := by
  rw [List.all_eq_false]
  refine ⟨ws[k], List.getElem_mem hk, ?_⟩
  rw [ats, List.getElem?_eq_getElem hk] at h
  rw [show okB ws[k] = false from h]; simp
theorem ats_mem {ws : List (List UInt8)} {k : Nat} (hk : k < ws.length) : ats ws k ∈ ws := by
  rw [ats, List.getElem?_eq_getElem hk]; exact List.getElem_mem hk
set_option maxHeartbeats 4000000 in
theorem desk_numbers (ws : List (List UInt8)) (v : Value) (w : World) (h : RowS w v ws) (hl : ws.length ≤ 100000) (hsz : ∀ x ∈ ws, x.length ≤ 1000000) :
    Calls Tryz.prog 37 #[v] w fun e w' => NumsPost w.heap.size ws e w' ∧ Below w.heap.size w w' := by
  have Hsz := Lib.hid hsz
  obtain ⟨-, a, c, rfl, hc1, hc2, hr⟩ := h
  have Hr := Lib.hid hr
  clear hr hsz
  go_enter Tryz.func37, Tryz.ntmps37
  go_wp2_with (fail)
  go_loopw [4, 11] (fun lv i wr => ∃ k : Nat, k ≤ ws.length ∧ i = .int .i64 (k : Int) ∧ Hid ((ws.take k).all okB = true) ∧ Hid (NewU w.heap.size wr lv (valsD (ws.take k))) ∧ Hid (Below w.heap.size w wr)) (fun _ i _ => ws.length - (intOf i).toNat)
  case atStart => exact ⟨0, Nat.zero_le _, rfl, rfl, NewU.nil _ _, Below.refl _ _⟩
  case round =>
    obtain ⟨k, hk, rfl, HD, HN, HB⟩ := hrel
    by_cases hz : k < ws.length
    · have hz' : (k : Int) < (ws.length : Int) := by omega
      obtain ⟨b, off, rfl, hb, -, hcell⟩ := Hr.out (by omega)
      have cx := (HB.out.cell (p := ⟨b, off + k, none⟩) hb).trans (hcell k hz)
      have Hno := Lib.hid (fun e => all_no (ws := ws) hz e)
      have Hat := Lib.hid (all_take hz)
      have Hvt := Lib.hid (vals_take hz)
      have hx1 := Hsz.out _ (ats_mem hz)
      have hcap : (valsD (ws.take k)).length + 1 ≤ 17592186043904 := by rw [valsD, List.length_map, List.length_take]; omega
      obtain ⟨x, hx⟩ : ∃ x, x = ats ws k := ⟨_, rfl⟩
      rw [← hx] at cx Hno Hat Hvt hx1
      clear hcell hx
      obtain ⟨an, nn, rfl⟩ := HN.out.isSlice
      go_wp2_with (fail)
      refine (desk_number (mkB x) wr (by rw [mkB_size]; exact hx1)).mono ?_
      rintro e w1 ⟨⟨y, rfl, hy, hv⟩, rfl⟩
      have hxl : (mkB x).data.toList = x := List.toList_toArray
      rw [hxl] at hv ⊢
      cases hok : okB x with
      | false =>
        have Hall := Lib.hid (Hno.out hok)
        clear Hno hok hv
        go_wp2_with (fail)
        exact bodyPost_ret (v := .tuple #[.slice none 0 0, .bool false]) (by simp [results, Tryz.results37, go_sem]) rfl ⟨⟨_, by rw [Hall.out], fun e => by rw [Hall.out] at e; (first | cases e | exact absurd e (by simp)), _, _, _, rfl⟩, HB.out⟩
      | true =>
        have hy2 := hv hok
        have Hat2 := Lib.hid (show (ws.take (k + 1)).all okB = true by rw [Hat.out, HD.out, hok]; rfl)
        subst hy2
        have hsz := HB.out.size
        clear Hno hok hv Hat
        go_wp2_with (at_builtin; refine wpList_appU rfl _ _ rfl w.heap.size _ _ rfl HN.out _ rfl hy hcap hsz ?_; intro v2 w2 hn2 hb2; have Hn2 := Lib.hid hn2; have Hb2 := Lib.hid (HB.out.trans hb2); clear hn2 hb2)
        go_roundw
        case rel => exact ⟨k + 1, by omega, by go_num, Hat2.out, by rw [Hvt.out]; exact Hn2.out, Hb2.out⟩
        case measure => simp [intOf]; omega
    · obtain rfl : k = ws.length := by omega
      rw [List.take_of_length_le (Nat.le_refl _)] at HD HN
      obtain ⟨an, nn, rfl⟩ := HN.out.isSlice
      go_wp2_with (fail)
      exact bodyPost_ret (v := .tuple #[.slice an (valsD ws).length nn, .bool true]) (by simp [results, Tryz.results37, go_sem]) rfl ⟨⟨_, by rw [HD.out], fun _ => HN.out, _, _, _, rfl⟩, HB.out⟩
end Go.Proofs.YtlfneeobnihocaaGreatDoor

/- The walk of the desk's halves: numbers ahead of the first /, and behind it. No condition. -/
namespace Go.Proofs.YtlfneeobnihocaaGreatDoor
set_option maxRecDepth 100000
set_option linter.unusedVariables false
open Go.RowKit Tally
/-- the place of the first / -/
def slashD (ws : List (List UInt8)) : Nat := ws.findIdx fun x => x == [47]
def halfB (ws : List (List UInt8)) : Bool := decide (slashD ws < ws.length) && ((ws.take (slashD ws)).all okB && (ws.drop (slashD ws + 1)).all okB)
theorem toList_mkB (l : List UInt8) : (mkB l).toList = l := by rw [ByteArray.toList_eq]
theorem index_slash (ws : List (List UInt8)) (b off c : Nat) (w : World) (hl : ws.length ≤ 100000) (hc : ∀ j, j < ws.length → w.cell? ⟨b, off + j, none⟩ = some (.string (mkB (ats ws j)))) :
    Calls Tryz.prog 40 #[.slice (some ⟨b, off, none⟩) ws.length c, .string (mkB [47])] w fun e w' => e = .returned (.int .i64 (if slashD ws < ws.length then (slashD ws : Int) else -1)) ∧ w = w' := by
  have e1 : ∀ j, j < ws.length → (ws.map mkB)[j]! = mkB (ats ws j) := fun j hj => by
    rw [getElem!_pos _ _ (by simpa using hj), List.getElem_map, ats, List.getElem?_eq_getElem hj]; rfl
  have hI := Tryz.slices_Index Value.string (fun x y => x.toList == y.toList) (Go.Proofs.EqlAt.string Tryz.prog 9) b off ws.length c (ws.map mkB) (mkB [47]) w (by simp) (by omega) (fun j hj => by
    rw [e1 j (by simpa using hj)]; exact hc j (by simpa using hj))
  refine hI.mono ?_
  rintro e w' ⟨rfl, rfl⟩
  refine ⟨?_, rfl⟩
  congr 2
  by_cases hf : slashD ws < ws.length
  · rw [if_pos hf]
    refine Lib.idxBy_hit _ _ _ (slashD ws) _ hf (by simp) ?_ fun j hj => ?_
    · rw [e1 _ hf, toList_mkB, toList_mkB]
      have h := List.findIdx_getElem (w := hf) (p := fun x : List UInt8 => x == [47]) (xs := ws)
      rw [ats, List.getElem?_eq_getElem hf]
      have h9 : (ws[slashD ws] == [47]) = true := h
      have h2 : ws[slashD ws] = [47] := eq_of_beq h9
      show ([47] == ws[slashD ws]) = true
      rw [h2]; rfl
    · rw [e1 _ (by omega), toList_mkB, toList_mkB]
      have h := List.not_of_lt_findIdx (p := fun x : List UInt8 => x == [47]) (xs := ws) hj
      have hjl : j < ws.length := by omega
      rw [ats, List.getElem?_eq_getElem hjl]
      show ([47] == ws[j]) = false
      have h2 : ¬ ws[j] = [47] := fun e => by
        have h9 : (ws[j] == [47]) = false := h
        rw [e] at h9; exact absurd h9 (by decide)
      exact beq_false_of_ne fun e => h2 e.symm
  · rw [if_neg hf]
    refine Lib.idxBy_miss _ _ _ _ fun j hj => ?_
    rw [e1 _ hj, toList_mkB, toList_mkB, ats, List.getElem?_eq_getElem hj]
    have hnf : slashD ws = ws.length := Nat.le_antisymm List.findIdx_le_length (by omega)
    have h := List.findIdx_eq_length.mp hnf ws[j] (List.getElem_mem hj)
    show ([47] == ws[j]) = false
    have h2 : ¬ ws[j] = [47] := fun e => by rw [e] at h; exact absurd h (by decide)
    exact beq_false_of_ne fun e => h2 e.symm
theorem RowS.front {w : World} {a : Option Addr} {cap : Nat} {ws : List (List UInt8)} (h : RowS w (.slice a ws.length cap) ws) (k : Nat) (hk : k ≤ ws.length) : RowS w (.slice a k cap) (ws.take k) := by
  obtain ⟨h1, a', cap', e, hc1, hc2, h3⟩ := h
  cases e
  have hl : (ws.take k).length = k := by rw [List.length_take]; omega
  refine ⟨by omega, a, cap, by rw [hl], by omega, hc2, fun h0 => ?_⟩
  obtain ⟨b, off, rfl, hb, hcs, hcell⟩ := h3 (by omega)
  refine ⟨b, off, rfl, hb, hcs, fun j hj => ?_⟩
  rw [hcell j (by omega), ats, ats, List.getElem?_take, if_pos (by omega)]
theorem RowS.back {w : World} {b off cap : Nat} {ws : List (List UInt8)} (h : RowS w (.slice (some ⟨b, off, none⟩) ws.length cap) ws) (k : Nat) (hk : k ≤ ws.length) : RowS w (.slice (some ⟨b, off + k, none⟩) (ws.length - k) (cap - k)) (ws.drop k) := by
  obtain ⟨h1, a', cap', e, hc1, hc2, h3⟩ := h
  cases e
  have hl : (ws.drop k).length = ws.length - k := List.length_drop
  refine ⟨by omega, _, _, by rw [hl], by omega, by omega, fun h0 => ?_⟩
  obtain ⟨b', off', e, hb, hcs, hcell⟩ := h3 (by omega)
  cases e
  refine ⟨b, off + k, rfl, hb, hcs, fun j hj => ?_⟩
  rw [Nat.add_assoc, hcell (k + j) (by omega), ats, ats, List.getElem?_drop]
theorem RowS.none0 {w : World} {a : Option Addr} {cap : Nat} (h : cap ≤ 9223372036854775807) : RowS w (.slice a 0 cap) [] := ⟨by simp, a, cap, rfl, by simp, h, fun h => absurd h (by simp)⟩
/-- what halves answers -/
def HalfPost (B : Nat) (ws : List (List UInt8)) (e : Ending) (w' : World) : Prop := ∃ v1 v2, e = .returned (.tuple #[v1, v2, .bool (halfB ws)]) ∧ (halfB ws = true → NewU B w' v1 (valsD (ws.take (slashD ws))) ∧ NewU B w' v2 (valsD (ws.drop (slashD ws + 1)))) ∧ (∃ a n c, v1 = .slice a n c) ∧ ∃ a n c, v2 = .slice a n c
theorem half_no {ws : List (List UInt8)} (h : halfB ws = false) (B : Nat) (w' : World) : HalfPost B ws (.returned (.tuple #[.slice none 0 0, .slice none 0 0, .bool false])) w' :=
  ⟨_, _, by rw [h], fun e => absurd (h.symm.trans e) (by decide), ⟨_, _, _, rfl⟩, _, _, _, rfl⟩
set_option maxHeartbeats 4000000 in
theorem desk_halves (ws : List (List UInt8)) (v : Value) (w : World) (h : RowS w v ws) (hl : ws.length ≤ 100000) (hsz : ∀ x ∈ ws, x.length ≤ 1000000) :
    Calls Tryz.prog 32 #[v] w fun e w' => HalfPost w.heap.size ws e w' ∧ Below w.heap.size w w' := by
  have H := Lib.hid h; have Hsz := Lib.hid hsz
  obtain ⟨-, a, cap, rfl, hc1, hc2, hr⟩ := h
  clear hsz
  by_cases h0 : ws = []
  · subst h0
    have Hno := Lib.hid (show halfB [] = false from rfl)
    clear hr H
    go_enter Tryz.func32, Tryz.ntmps32
    go_wp2_with (go_at_call 40; refine (Tryz.slices_Index_empty (α := Nat) _ _ _ _).mono ?_; rintro e w' ⟨rfl, rfl⟩)
    exact bodyPost_ret (v := .tuple #[.slice none 0 0, .slice none 0 0, .bool false]) (by simp [results, Tryz.results32, go_sem]) rfl ⟨half_no Hno.out _ _, Below.refl _ _⟩
  · have hl0 : 0 < ws.length := List.length_pos_iff.mpr h0
    obtain ⟨b, off, rfl, hb, -, hcell⟩ := hr hl0
    have CI := Lib.hid (index_slash ws b off cap w hl hcell)
    clear hr hcell h0
    by_cases hf : slashD ws < ws.length
    · rw [if_pos hf] at CI
      obtain ⟨k, hk⟩ : ∃ k, k = slashD ws := ⟨_, rfl⟩
      have Hk := Lib.hid hk
      rw [← hk] at CI hf
      clear hk
      have H1 := Lib.hid (H.out.front k (by omega))
      have H2 := Lib.hid (H.out.back (k + 1) (by omega))
      have C1 := Lib.hid (fun X (hX : Below w.heap.size w X) => desk_numbers (ws.take k) (.slice (some ⟨b, off, none⟩) k cap) X (H1.out.go hX) (by rw [List.length_take]; omega) (fun x hx => Hsz.out x (List.mem_of_mem_take hx)))
      have hkc : (k : Int) ≤ (cap : Int) := by omega
      have hk1 : (k : Int) + 1 ≤ (ws.length : Int) := by omega
      have hw1 : IntKind.i64.wrap ((k : Int) + 1) = (k : Int) + 1 := IntWalk.i64_in _ (by omega)
      have hk1c : (k : Int) + 1 ≤ (cap : Int) := by omega
      have hnn : ((k : Int) + 1).toNat = k + 1 := by omega
      go_enter Tryz.func32, Tryz.ntmps32
      go_wp2_with (fail)
      refine CI.out.mono ?_
      rintro e w' ⟨rfl, rfl⟩
      go_wp2_with (fail)
      refine (C1.out w (Below.refl _ _)).mono ?_
      rintro e w1 ⟨⟨v1, rfl, hn1, a1, m1, c1, rfl⟩, hb1⟩
      have HN1 := Lib.hid hn1; have HB1 := Lib.hid hb1
      clear hn1 hb1 CI C1
      go_wp2_with (fail)
      all_goals
        have HR2 := Lib.hid (H2.out.go HB1.out)
        have C2 := Lib.hid (fun vv (hv : RowS w1 vv (ws.drop (k + 1))) => desk_numbers (ws.drop (k + 1)) vv w1 hv (by rw [List.length_drop]; omega) (fun x hx => Hsz.out x (List.mem_of_mem_drop hx)))
        refine (C2.out _ (by first | exact HR2.out | (rw [List.drop_eq_nil_of_le (show ws.length ≤ k + 1 by omega), show ws.length - (k + 1) = 0 by omega]; exact RowS.none0 (by omega)))).mono ?_
        rintro e w2 ⟨⟨v2, rfl, hn2, a2, m2, c2, rfl⟩, hb2⟩
        have HB2 := Lib.hid (below_two HB1.out hb2)
        have HN2 := Lib.hid (show halfB ws = true → NewU w.heap.size w2 (.slice a1 m1 c1) (valsD (ws.take k)) ∧ NewU w.heap.size w2 (.slice a2 m2 c2) (valsD (ws.drop (k + 1))) from fun e => by
          unfold halfB at e
          rw [← Hk.out] at e
          simp only [Bool.and_eq_true] at e
          exact ⟨(HN1.out e.2.1).below hb2 (Nat.le_refl _), (hn2 e.2.2).mono HB1.out.size⟩)
        have Hhalf := Lib.hid (show halfB ws = ((ws.take k).all okB && (ws.drop (k + 1)).all okB) by unfold halfB; rw [← Hk.out, decide_eq_true hf]; rfl)
        clear hn2 hb2 C2 HR2 HN1 HB1 H1 H2 H Hsz
        obtain ⟨b1, hb1⟩ : ∃ b1, b1 = (ws.take k).all okB := ⟨_, rfl⟩
        obtain ⟨b2, hb2⟩ : ∃ b2, b2 = (ws.drop (k + 1)).all okB := ⟨_, rfl⟩
        rw [← hb1, ← hb2] at Hhalf
        rw [← hb2]
        simp only [← hb1]
        clear hb1 hb2
        have hpost := Lib.hid (show HalfPost w.heap.size ws (.returned (.tuple #[.slice a1 m1 c1, .slice a2 m2 c2, .bool (b1 && b2)])) w2 from ⟨_, _, by rw [Hhalf.out], by rw [← Hk.out]; exact HN2.out, ⟨_, _, _, rfl⟩, _, _, _, rfl⟩)
        cases b1 with
        | false =>
          go_wp2_with (fail)
          exact bodyPost_ret (v := .tuple #[.slice a1 m1 c1, .slice a2 m2 c2, .bool false]) (by simp [results, Tryz.results32, go_sem]) rfl ⟨hpost.out, HB2.out⟩
        | true =>
          go_wp2_with (fail)
          exact bodyPost_ret (v := .tuple #[.slice a1 m1 c1, .slice a2 m2 c2, .bool b2]) (by simp [results, Tryz.results32, go_sem]) rfl ⟨hpost.out, HB2.out⟩
    · rw [if_neg hf] at CI
      have Hno := Lib.hid (show halfB ws = false by unfold halfB; rw [decide_eq_false hf]; rfl)
      clear hf
      go_enter Tryz.func32, Tryz.ntmps32
      go_wp2_with (fail)
      refine CI.out.mono ?_
      rintro e w' ⟨rfl, rfl⟩
      go_wp2_with (fail)
      exact bodyPost_ret (v := .tuple #[.slice none 0 0, .slice none 0 0, .bool false]) (by simp [results, Tryz.results32, go_sem]) rfl ⟨half_no Hno.out _ _, Below.refl _ _⟩
end Go.Proofs.YtlfneeobnihocaaGreatDoor
