/- The walks of the reference's number, numbers and said. The table of powers of ten lies as its initialiser lays it. -/
import Derived.Test.YtlfneeobnihocaaGreatDoorDeskR
namespace Go.Proofs.YtlfneeobnihocaaGreatDoor
set_option maxRecDepth 100000
set_option linter.unusedVariables false
open Go.RowKit Tally
theorem numr_yes {l : Bs} {V : Int} (hok : okB l = true ↔ Lib.decDigits V.toNat = l ∧ V ≤ 9223372036854775807) (hval : okB l = true → V = (valD l : Int)) (hU : U64 V) (hd : decL V = l) :
  NumPost l (.returned (.tuple #[.int .u64 V, .bool (decide (V ≤ 9223372036854775807))])) := by
 have h : okB l = decide (V ≤ 9223372036854775807) := by
  rw [Bool.eq_iff_iff, hok, decide_eq_true_iff]
  exact ⟨fun h => h.2, fun h => ⟨hd, h⟩⟩
 exact ⟨V, by rw [h], hU, hval⟩
theorem numr_no {l : Bs} {V : Int} (hok : okB l = true ↔ Lib.decDigits V.toNat = l ∧ V ≤ 9223372036854775807) (hU : U64 V) (hd : ¬ decL V = l) :
  NumPost l (.returned (.tuple #[.int .u64 V, .bool false])) := by
 have h : okB l = false := by
  cases hb : okB l with
  | false => rfl
  | true => exact absurd (hok.mp hb).1 hd
 exact numd_no h hU
set_option maxHeartbeats 4000000 in
theorem ref_number (s : ByteArray) (w : World) (hs : s.size ≤ 1000000) (hT : Ten w) :
  Calls Tryz.prog 75 #[.string s] w fun e w' => NumPost s.data.toList e ∧ Below w.heap.size w w' := by
 have HT := zH hT
 obtain ⟨l, hl⟩ : ∃ l, l = s.data.toList := ⟨_, rfl⟩
 have hlen : l.length = s.size := by rw [hl, Array.length_toList]; rfl
 have HL := zH hlen
 have Hk := zH (fun k (hk : k < s.size) => show l.take (k + 1) = l.take k ++ [s[k]] by rw [hl]; exact take_bytes s k hk)
 have Hls := zH (show s = mkB l by rw [hl])
 rw [← hl]
 clear hl hlen hT
 go_enter Tryz.func75, Tryz.ntmps75
 go_wp2_with (fail)
 go_loopw [4, 5] (fun n i wr => ∃ k : Nat, k ≤ s.size ∧ k ≤ 20 ∧ i = .int .i64 (k : Int) ∧ n = .int .u64 (valW (l.take k)) ∧ wr = w) (fun _ i _ => s.size - (intOf i).toNat)
 case atStart => exact ⟨0, Nat.zero_le _, Nat.zero_le _, rfl, rfl, rfl⟩
 case round =>
  obtain ⟨k, hk, hk2, rfl, rfl, rfl⟩ := hrel
  have hWU := valW_range (l.take k)
  by_cases hz : k < s.size ∧ k < 20
  ·obtain ⟨hz, h20⟩ := hz
   have hz1 : (k : Int) < (s.size : Int) := by omega
   have h20' : (k : Int) < 20 := by omega
   obtain ⟨b, hb⟩ : ∃ b, b = s[k] := ⟨_, rfl⟩
   have HTk := zH (Hk.out k hz)
   rw [← hb] at HTk
   have e0 := hb.symm
   clear hb
   obtain ⟨V, hV⟩ : ∃ V, V = valW (l.take k) := ⟨_, rfl⟩
   have HV := zH (show valW (l.take (k + 1)) = IntKind.u64.wrap (IntKind.u64.wrap (IntKind.u64.wrap (V * 10) + (b.toNat : Int)) - 48) by rw [HTk.out, valW_snoc, hV])
   rw [← hV] at hWU ⊢
   have hwb : IntKind.u64.wrap (b.toNat : Int) = (b.toNat : Int) := by have := b.toNat_lt; rw [IntKind.wrap_u64]; omega
   clear hV
   go_wp2
   go_roundw
   case rel => exact ⟨k + 1, by omega, by omega, by go_num, by rw [HV.out], by first | rfl | trivial⟩
   case measure => simp [intOf]; omega
  ·have key : ¬ (k : Int) < (s.size : Int) ∨ (k : Int) < (s.size : Int) ∧ ¬ (k : Int) < 20 := by omega
   have hE : l.take k = l.take 20 := by
    by_cases h : k = 20
    ·rw [h]
    ·rw [List.take_of_length_le (by rw [HL.out]; omega), List.take_of_length_le (by rw [HL.out]; omega)]
   rw [hE] at hWU ⊢
   have HF := zH (s_FormatUint _ wr hWU HT.out)
   have Hok := zH (ok_ref l)
   have Hval := zH (ok_val l)
   obtain ⟨V, hV⟩ : ∃ V, V = valW (l.take 20) := ⟨_, rfl⟩
   rw [← hV] at hWU HF Hok Hval ⊢
   have HU := zH hWU
   clear hV hE hz Hk
   rcases key with h1 | ⟨h1, h2⟩
   all_goals
    go_wp2_with (fail)
    refine HF.out.mono ?_
    rintro e w1 ⟨rfl, hb⟩
    have HB := zH hb
    clear hb HF
    have hsl : s.toList = l := by rw [ByteArray.toList_eq, Hls.out]
    go_wp2
    all_goals
     rename_i hD
     first
      | exact bodyPost_ret (v := .tuple #[.int .u64 V, .bool (decide (V ≤ 9223372036854775807))]) (by simp [results, Tryz.results75, go_sem]) rfl ⟨numr_yes Hok.out Hval.out HU.out hD, HB.out⟩
      | exact bodyPost_ret (v := .tuple #[.int .u64 V, .bool false]) (by simp [results, Tryz.results75, go_sem]) rfl ⟨numr_no Hok.out HU.out hD, HB.out⟩
set_option maxHeartbeats 4000000 in
theorem ref_numbers (ws : List Bs) (v : Value) (w : World) (hT : Ten w) (h : RowS w v ws) (hl : ws.length ≤ 100000) (hsz : ∀ x ∈ ws, x.length ≤ 1000000) :
  Calls Tryz.prog 41 #[v] w fun e w' => NumsPost w.heap.size ws e w' ∧ Below w.heap.size w w' := by
 have Hsz := zH hsz
 have HT := zH hT
 obtain ⟨-, a, c, rfl, hc1, hc2, hr⟩ := h
 have Hr := zH hr
 clear hr hsz hT
 go_enter Tryz.func41, Tryz.ntmps41
 go_wp2_with (fail)
 go_loopw [4, 5] (fun lv i wr => ∃ k : Nat, k ≤ ws.length ∧ i = .int .i64 (k : Int) ∧ Hid ((ws.take k).all okB = true) ∧ Hid (NewU w.heap.size wr lv (valsD (ws.take k))) ∧ Hid (Below w.heap.size w wr)) (fun _ i _ => ws.length - (intOf i).toNat)
 case atStart => exact ⟨0, Nat.zero_le _, rfl, rfl, NewU.nil _ _, Below.refl _ _⟩
 case round =>
  obtain ⟨k, hk, rfl, HD, HN, HB⟩ := hrel
  by_cases hz : k < ws.length
  ·have hz' : (k : Int) < (ws.length : Int) := by omega
   obtain ⟨b, off, rfl, hb, -, hcell⟩ := Hr.out (by omega)
   have cx := (HB.out.cell (p := ⟨b, off + k, none⟩) hb).trans (hcell k hz)
   have Hno := zH (fun e => all_no (ws := ws) hz e)
   have Hat := zH (all_take hz)
   have Hvt := zH (vals_take hz)
   have hx1 := Hsz.out _ (ats_mem hz)
   have hcap : (valsD (ws.take k)).length + 1 ≤ 17592186043904 := by rw [valsD, List.length_map, List.length_take]; omega
   obtain ⟨x, hx⟩ : ∃ x, x = ats ws k := ⟨_, rfl⟩
   rw [← hx] at cx Hno Hat Hvt hx1
   clear hcell hx
   obtain ⟨an, nn, rfl⟩ := HN.out.isSlice
   have CN := zH (ref_number (mkB x) wr (by rw [mkB_size]; exact hx1) (HT.out.go HB.out))
   go_wp2_with (fail)
   refine CN.out.mono ?_
   rintro e w1 ⟨⟨y, rfl, hy, hv⟩, hb1⟩
   have HB1 := zH (below_two HB.out hb1)
   have HN1 := zH (HN.out.below hb1 (Nat.le_refl _))
   clear hb1 CN
   have hxl : (mkB x).data.toList = x := List.toList_toArray
   try rw [hxl] at hv
   cases hok : okB x with
   | false =>
    have Hall := zH (Hno.out hok)
    clear Hno hok hv
    go_wp2_with (fail)
    exact bodyPost_ret (v := .tuple #[.slice none 0 0, .bool false]) (by simp [results, Tryz.results41, go_sem]) rfl ⟨⟨_, by rw [Hall.out], fun e => by rw [Hall.out] at e; (first | cases e | exact absurd e (by simp)), _, _, _, rfl⟩, HB1.out⟩
   | true =>
    have hy2 := hv hok
    have Hat2 := zH (show (ws.take (k + 1)).all okB = true by rw [Hat.out, HD.out, hok]; rfl)
    subst hy2
    have hsz := HB1.out.size
    clear Hno hok hv Hat
    go_wp2_with (at_builtin; refine wpList_appU rfl _ _ rfl w.heap.size _ _ rfl HN1.out _ rfl hy hcap hsz ?_; intro v2 w2 hn2 hb2; have Hn2 := zH hn2; have Hb2 := zH (HB1.out.trans hb2); clear hn2 hb2)
    go_roundw
    case rel => exact ⟨k + 1, by omega, by go_num, Hat2.out, by rw [Hvt.out]; exact Hn2.out, Hb2.out⟩
    case measure => simp [intOf]; omega
  ·obtain rfl : k = ws.length := by omega
   rw [List.take_of_length_le (Nat.le_refl _)] at HD HN
   obtain ⟨an, nn, rfl⟩ := HN.out.isSlice
   go_wp2_with (fail)
   exact bodyPost_ret (v := .tuple #[.slice an (valsD ws).length nn, .bool true]) (by simp [results, Tryz.results41, go_sem]) rfl ⟨⟨_, by rw [HD.out], fun _ => HN.out, _, _, _, rfl⟩, HB.out⟩
theorem joinD_take (O : List Int) (k : Nat) (hk : k < O.length) : joinD ((O.take (k + 1)).map decL) = if k = 0 then decL (at0 O 0) else joinD ((O.take k).map decL) ++ 32 :: decL (at0 O k) := by
 rw [List.take_succ_eq_append_getElem hk, List.map_append]
 have ek : O[k] = at0 O k := by simp [at0, hk]
 rw [ek]
 by_cases h0 : k = 0
 ·subst h0; rw [if_pos rfl, List.take_zero]; show joinD [decL (at0 O 0)] = _; rw [joinD_cons]; simp [Lib.joinTail]
 ·rw [if_neg h0]
  cases O with
  | nil => simp at hk
  | cons a r =>
   obtain ⟨j, rfl⟩ : ∃ j, k = j + 1 := ⟨k - 1, by omega⟩
   rw [List.take_succ_cons, List.map_cons]
   exact joinD_snoc _ _ _
set_option maxHeartbeats 4000000 in
theorem ref_said (O : List Int) (v : Value) (w : World) (hT : Ten w) (h : RowU w v O) (hl : O.length ≤ 1000) :
  Calls Tryz.prog 42 #[v] w fun e w' => e = .returned (.string (mkB (joinD (O.map decL)))) ∧ Below w.heap.size w w' := by
 have HT := zH hT
 have HU := zH h.1
 have Hat := zH (fun j => @RowU.at _ _ _ h j)
 obtain ⟨-, -, ad, cap, rfl, hr⟩ := h
 have Hr := zH hr
 clear hr hT
 obtain ⟨N, hN⟩ : ∃ N, N = O.length := ⟨_, rfl⟩
 have HN := zH hN
 rw [← hN] at hl ⊢
 clear hN
 go_enter Tryz.func42, Tryz.ntmps42
 go_wp2_with (fail)
 go_loopw [3, 4] (fun o i wr => ∃ k : Nat, k ≤ N ∧ i = .int .i64 (k : Int) ∧ o = .string (mkB (joinD ((O.take k).map decL))) ∧ Hid (Below w.heap.size w wr)) (fun _ i _ => N - (intOf i).toNat)
 case atStart => exact ⟨0, Nat.zero_le _, rfl, rfl, Below.refl _ _⟩
 case round =>
  obtain ⟨k, hk, rfl, rfl, HB⟩ := hrel
  by_cases hz : k < N
  ·have hz' : (k : Int) < (N : Int) := by omega
   obtain ⟨b, off, rfl, hb, hcell⟩ := Hr.out (by rw [← HN.out]; omega)
   have cx := (HB.out.cell (p := ⟨b, off + k, none⟩) hb).trans (hcell k (by rw [← HN.out]; exact hz))
   have hxu := Hat.out k (by rw [← HN.out]; exact hz)
   have Hstep := zH (joinD_take O k (by rw [← HN.out]; exact hz))
   have hTl := joinD_len 20 ((O.take k).map decL) (fun x hx => by
    obtain ⟨y, hy, rfl⟩ := List.mem_map.mp hx
    exact decL_len y (by have := (HU.out y (List.mem_of_mem_take hy)).2; omega))
   rw [List.length_map, List.length_take] at hTl
   obtain ⟨x, hx⟩ : ∃ x, x = at0 O k := ⟨_, rfl⟩
   have HX := zH hx
   rw [← hx] at cx hxu
   have hDl := decL_len x (by have := hxu.2; omega)
   have CF := zH (s_FormatUint x wr hxu (HT.out.go HB.out))
   obtain ⟨J, hJ⟩ : ∃ J, J = joinD ((O.take k).map decL) := ⟨_, rfl⟩
   have HJ := zH hJ
   rw [← hJ] at hTl ⊢
   obtain ⟨T, hT⟩ : ∃ T, T = mkB J := ⟨_, rfl⟩
   have HTT := zH hT
   have hTs : T.size ≤ 22000 := by
    rw [hT, mkB_size]
    have : min k O.length * (20 + 1) ≤ 1000 * 21 := Nat.mul_le_mul_right _ (by have := HN.out; omega)
    omega
   rw [← hT]
   obtain ⟨D, hD⟩ : ∃ D, D = mkB (decL x) := ⟨_, rfl⟩
   have HD := zH hD
   have hDs : D.size ≤ 20 := by rw [hD, mkB_size]; exact hDl
   rw [← hD] at CF
   clear hx hJ hT hD hcell hTl hDl
   have i1 : ¬ (9223372036854775807 < T.size + 1) := by omega
   have i2 : ¬ (9223372036854775807 < T.size + 1 + D.size) := by omega
   have i3 : ¬ (9223372036854775807 < T.size + D.size) := by omega
   by_cases h0 : k = 0
   ·have h0' : ¬ 0 < (k : Int) := by omega
    have H0 := zH h0
    clear h0
    go_wp2_with (fail)
    refine CF.out.mono ?_
    rintro e w1 ⟨rfl, hb1⟩
    have HB1 := zH (below_two HB.out hb1)
    clear hb1 CF
    go_wp2
    go_roundw
    case rel => exact ⟨k + 1, by omega, by go_num, by rw [Hstep.out, if_pos H0.out, HTT.out, HJ.out, HD.out, HX.out, H0.out, List.take_zero, mkB_append]; rfl, HB1.out⟩
    case measure => simp [intOf]; omega
   ·have h0' : 0 < (k : Int) := by omega
    go_wp2_with (fail)
    refine CF.out.mono ?_
    rintro e w1 ⟨rfl, hb1⟩
    have HB1 := zH (below_two HB.out hb1)
    clear hb1 CF
    go_wp2
    go_roundw
    case rel => exact ⟨k + 1, by omega, by go_num, by rw [Hstep.out, if_neg h0, HTT.out, HJ.out, HD.out, HX.out]; congr 1; apply ByteArray.ext; simp [mkB, ByteArray.data_append], HB1.out⟩
    case measure => simp [intOf]; omega
  ·obtain rfl : k = N := by omega
   rw [List.take_of_length_le (by rw [HN.out]; exact Nat.le_refl _)]
   obtain ⟨T, hT⟩ : ∃ T, T = mkB (joinD (O.map decL)) := ⟨_, rfl⟩
   rw [← hT]
   go_wp2
   go_ret
   exact ⟨by rw [← hT]; rfl, HB.out⟩
end Go.Proofs.YtlfneeobnihocaaGreatDoor
