/- The walk of the law DeskCounts: it returns true, for each text of at most 2^32 - 16 bytes. The tables lie as their initialisers lay them. -/
import Derived.Test.YtlfneeobnihocaaGreatDoorDeskR
namespace Go.Proofs.YtlfneeobnihocaaGreatDoor
set_option maxRecDepth 100000
set_option linter.unusedVariables false
open Go.RowKit Tally
/-- has a line an answer? -/
def saysL (l : Bs) : Bool := match wordsL l with
  | [] => false
  | v :: _ => decide (v.head? ≠ some 35)
theorem lineA_no {r : Bs × Bs} {l : Bs} (h : saysL l = false) : lineA r l = r := by
  unfold saysL at h
  unfold lineA
  split
  · rfl
  · rename_i v ws e
    rw [e] at h
    have h' : v.head? = some 35 := by
      have := of_decide_eq_false h
      exact Decidable.not_not.mp this
    rw [if_pos h']
theorem lineA_yes {r : Bs × Bs} {l : Bs} (h : saysL l = true) : ∃ x t, lineA r l = (r.1 ++ x ++ [10], t) := by
  unfold saysL at h
  unfold lineA
  split
  · rename_i e; rw [e] at h; cases h
  · rename_i v ws e
    rw [e] at h
    rw [if_neg (of_decide_eq_true h)]
    exact ⟨_, _, rfl⟩
theorem runA_counts : ∀ (n : Nat) (ls : List Bs), ls.length = n → (ls.filter saysL).length ≤ (runA ls).1.count 10 ∧ ((runA ls).1 = [] ∨ ∃ x, (runA ls).1 = x ++ [10]) := by
  intro n
  induction n with
  | zero => intro ls hl; rw [List.eq_nil_of_length_eq_zero hl]; exact ⟨by simp [runA], .inl rfl⟩
  | succ n ih =>
    intro ls hl
    have hne : ls ≠ [] := fun e => by rw [e] at hl; cases hl
    obtain ⟨m, c, rfl⟩ : ∃ m c, ls = m ++ [c] := ⟨ls.dropLast, ls.getLast hne, (List.dropLast_concat_getLast hne).symm⟩
    obtain ⟨h1, h2⟩ := ih m (by rw [List.length_append, List.length_singleton] at hl; omega)
    rw [runA_snoc, List.filter_append, List.length_append]
    cases hc : saysL c with
    | false =>
      rw [lineA_no hc]
      refine ⟨?_, h2⟩
      simp [hc]; exact h1
    | true =>
      obtain ⟨x, t, e⟩ := lineA_yes (r := runA m) hc
      rw [e]
      refine ⟨?_, .inr ⟨_, rfl⟩⟩
      show _ ≤ ((runA m).1 ++ x ++ [10]).count 10
      rw [List.count_append, List.count_append]
      simp [hc]
      omega
theorem doA_text (t v : Bs) (ws : List Bs) (ht : t.length ≤ 4096) : (doA t v ws).2.length ≤ 4096 := by
  unfold doA
  split
  · split
    · exact ht
    · split
      · exact ht
      · simp only [List.length_append, List.length_singleton]; omega
  · split
    · split
      · simp
      · exact ht
    · split
      · split
        · exact ht
        · exact ht
      · split
        · split
          · exact ht
          · exact ht
        · split
          · split
            · exact ht
            · exact ht
          · split
            · exact ht
            · exact ht
theorem runA_len : ∀ (n : Nat) (ls : List Bs), ls.length = n → (runA ls).2.length ≤ 4096 ∧ (runA ls).1.length ≤ n * 801 := by
  intro n
  induction n with
  | zero => intro ls hl; rw [List.eq_nil_of_length_eq_zero hl]; exact ⟨by simp [runA], by simp [runA]⟩
  | succ n ih =>
    intro ls hl
    have hne : ls ≠ [] := fun e => by rw [e] at hl; cases hl
    obtain ⟨m, c, rfl⟩ : ∃ m c, ls = m ++ [c] := ⟨ls.dropLast, ls.getLast hne, (List.dropLast_concat_getLast hne).symm⟩
    obtain ⟨h1, h2⟩ := ih m (by rw [List.length_append, List.length_singleton] at hl; omega)
    rw [runA_snoc]
    unfold lineA
    split
    · exact ⟨h1, by omega⟩
    · rename_i v ws e
      split
      · exact ⟨h1, by omega⟩
      · refine ⟨doA_text _ _ _ h1, ?_⟩
        have := doA_len (runA m).2 v ws h1
        show ((runA m).1 ++ (doA (runA m).2 v ws).1 ++ [10]).length ≤ _
        simp only [List.length_append, List.length_singleton]; omega
theorem read_nil : parseR [] = (emptyC, 1, 3) := by
  unfold parseR
  rw [if_neg (by decide)]
  rfl
/-- the desk's answer to three lines -/
theorem desk_three : deskA [35, 10, 10, 115, 104, 111, 119] = [101, 114, 114, 111, 114, 32, 51, 32, 49, 10] := by
  have e : linesL [35, 10, 10, 115, 104, 111, 119] = [[35], [], [115, 104, 111, 119]] := by decide
  unfold deskA
  rw [e, if_neg (by decide)]
  show (lineA (lineA (lineA ([], []) [35]) []) [115, 104, 111, 119]).1 = _
  have w1 : wordsL [35] = [[35]] := by decide
  have w2 : wordsL [] = [] := by decide
  have w3 : wordsL [115, 104, 111, 119] = [[115, 104, 111, 119]] := by decide
  have l1 : lineA ([], []) [35] = ([], []) := by unfold lineA; rw [w1]; rfl
  have l2 : lineA ([], []) [] = ([], []) := by unfold lineA; rw [w2]
  rw [l1, l2]
  have d : doA [] [115, 104, 111, 119] [] = (netA [] showA, []) := by
    unfold doA
    rw [if_neg (by decide), if_neg (by decide), if_pos (by decide), if_pos rfl]
  have na : netA [] showA = [101, 114, 114, 111, 114, 32, 51, 32, 49] := by
    unfold netA
    rw [read_nil, if_neg (by decide)]
    show errL 3 ++ 32 :: decL 1 = _
    unfold errL decL
    rw [show (3 : Int).toNat = 3 from rfl, show (1 : Int).toNat = 1 from rfl, Lib.decDigits_one (by decide), Lib.decDigits_one (by decide)]
    decide
  unfold lineA
  rw [w3]
  show (if _ then _ else _ : Bs × Bs).1 = _
  rw [if_neg (by decide)]
  show [] ++ (doA [] [115, 104, 111, 119] []).1 ++ [10] = _
  rw [d, na]
  rfl
theorem says_nil {l : Bs} (h : wordsL l = []) : saysL l = false := by unfold saysL; rw [h]
theorem says_cons {l v : Bs} {ws : List Bs} (h : wordsL l = v :: ws) : saysL l = decide (v.head? ≠ some 35) := by unfold saysL; rw [h]
theorem words_ne {l v : Bs} (h : v ∈ wordsL l) : v ≠ [] := by
  have h2 := (List.mem_filter.mp h).2
  intro e
  rw [e] at h2
  exact absurd h2 (by decide)
theorem linesL_len_le (l : Bs) : ∀ j, j < (linesL l).length → (ats (linesL l) j).length ≤ l.length := by
  intro j hj
  have hm : ats (linesL l) j ∈ pcs 10 l := by
    have h := ats_mem hj
    unfold linesL at h ⊢
    split at h
    · rename_i hc
      rw [if_pos hc]
      exact List.dropLast_subset _ h
    · rename_i hc
      rw [if_neg hc]
      exact h
  exact pcs_mem_len 10 l _ hm
set_option maxRecDepth 100000 in
set_option maxHeartbeats 8000000 in
theorem deskCounts_walk (s : ByteArray) (w : World) (hs : s.size < 4294967281) (hT : Tab w) (hTn : Ten w) :
    Calls Tryz.prog 4 #[.string s] w fun e w' => e = .returned (.bool true) ∧ Below w.heap.size w w' := by
  have HT := Lib.hid hT; have HTn := Lib.hid hTn
  have C3 := Lib.hid (desk_Run ⟨#[35, 10, 10, 115, 104, 111, 119]⟩ w (by decide) hT hTn)
  have e3 : deskA (⟨#[35, 10, 10, 115, 104, 111, 119]⟩ : ByteArray).data.toList = [101, 114, 114, 111, 114, 32, 51, 32, 49, 10] := desk_three
  rw [e3] at C3
  obtain ⟨l, hl⟩ : ∃ l, l = s.data.toList := ⟨_, rfl⟩
  have hsl : l.length = s.size := by rw [hl, Array.length_toList]; rfl
  have CR := Lib.hid (fun X (hX : Below w.heap.size w X) => desk_Run s X hs (HT.out.below hX) (HTn.out.go hX))
  rw [← hl] at CR
  have CT := Lib.hid (fun X (h : s.size ≤ 65536) => ref_TextLines s X h)
  rw [← hl] at CT
  obtain ⟨OUT, hOUT⟩ : ∃ OUT, OUT = deskA l := ⟨_, rfl⟩
  have HOUT := Lib.hid hOUT
  rw [← hOUT] at CR
  have Hsl := Lib.hid hsl
  have HLlen := Lib.hid (linesL_len_le l)
  obtain ⟨LS, hLS⟩ : ∃ LS, LS = linesL l := ⟨_, rfl⟩
  have HLS := Lib.hid hLS
  rw [← hLS] at CT HLlen
  clear hT hTn e3 hl hsl hOUT hLS
  go_enter Tryz.func4, Tryz.ntmps4
  go_wp2_with (fail)
  refine C3.out.mono ?_
  rintro e w1 ⟨rfl, hb⟩
  have HB1 := Lib.hid hb
  clear hb C3
  go_wp2_with (fail)
  refine (CR.out w1 HB1.out).mono ?_
  rintro e w2 ⟨rfl, hb⟩
  have HB2 := Lib.hid (below_two HB1.out hb)
  clear hb CR
  by_cases hbig : 65536 < l.length
  · have HO := Lib.hid (show OUT = [101, 114, 114, 111, 114, 32, 50, 10] by rw [HOUT.out, deskA, if_pos (.inl hbig)])
    have h1 : 65536 < (s.size : Int) := by have := Hsl.out; omega
    rw [HO.out]
    clear hbig
    go_wp2
    go_ret
    exact ⟨rfl, HB2.out⟩
  · have h1 : ¬ 65536 < (s.size : Int) := by have := Hsl.out; omega
    have hs2 : s.size ≤ 65536 := by have := Hsl.out; omega
    have Hl65 := Lib.hid (show l.length ≤ 65536 by omega)
    go_wp2_with (fail)
    refine (CT.out w2 hs2).mono ?_
    rintro e w3 ⟨v3, rfl, hr3, hb⟩
    have HB3 := Lib.hid (below_two HB2.out hb)
    obtain ⟨hLM, a3, c3, rfl, -⟩ := hr3
    clear hb
    obtain ⟨N, hN⟩ : ∃ N, N = LS.length := ⟨_, rfl⟩
    have HN := Lib.hid hN
    rw [← hN] at hLM HLlen ⊢
    clear hN
    by_cases hN2 : 200 < N
    · have HO := Lib.hid (show OUT = [101, 114, 114, 111, 114, 32, 50, 10] by rw [HOUT.out, deskA, if_pos (.inr (by rw [← HLS.out, ← HN.out]; exact hN2))])
      have h2 : 200 < (N : Int) := by omega
      rw [HO.out]
      clear hbig hN2
      go_wp2
      go_ret
      exact ⟨rfl, HB3.out⟩
    · have HO := Lib.hid (show OUT = (runA LS).1 by rw [HOUT.out, deskA, if_neg (by rw [← HLS.out, ← HN.out]; intro h; rcases h with h | h; exact hbig h; exact hN2 h), ← HLS.out])
      have h2 : ¬ 200 < (N : Int) := by omega
      clear hbig hN2
      go_wp2_with (fail)
      refine (CT.out w3 hs2).mono ?_
      rintro e w4 ⟨v4, rfl, hr4, hb⟩
      have HB4 := Lib.hid (below_two HB3.out hb)
      have HR4 := Lib.hid hr4
      obtain ⟨-, a4, c4, rfl, -⟩ := hr4
      clear hb
      rw [← HN.out] at HR4 ⊢
      go_wp2_with (fail)
      go_loopw [4, 26] (fun nv iv wr => ∃ k : Nat, k ≤ N ∧ iv = .int .i64 (k : Int) ∧ nv = .int .i64 (((LS.take k).filter saysL).length : Int) ∧ Hid (Below w4.heap.size w4 wr)) (fun _ iv _ => N - (intOf iv).toNat)
      case atStart => exact ⟨0, Nat.zero_le _, rfl, rfl, Below.refl _ _⟩
      case round =>
        obtain ⟨k, hk, rfl, rfl, HB⟩ := hrel
        by_cases hz : k < N
        · have hz' : (k : Int) < (N : Int) := by omega
          have hRow := HR4.out.go HB.out
          obtain ⟨-, a9, c9, e9, -, -, h9⟩ := hRow
          cases e9
          obtain ⟨b9, o9, e9, hb9, -, hc9⟩ := h9 (by rw [← HN.out]; omega)
          subst e9
          have cj := hc9 k (by rw [← HN.out]; exact hz)
          have hPl := HLlen.out k hz
          have Htk := Lib.hid (ats_take_snoc (ls := LS) (k := k) (by rw [← HN.out]; exact hz))
          obtain ⟨P, hP⟩ : ∃ P, P = ats LS k := ⟨_, rfl⟩
          rw [← hP] at cj hPl Htk
          have HFl := Lib.hid (show ((LS.take k).filter saysL).length ≤ LS.length from Nat.le_trans (List.length_filter_le _ _) (by rw [List.length_take]; omega))
          have Hcnt := Lib.hid (show ((LS.take (k + 1)).filter saysL).length = ((LS.take k).filter saysL).length + (if saysL P then 1 else 0) by
            rw [Htk.out, List.filter_append, List.length_append]
            cases hsp : saysL P with
            | true => simp [hsp]
            | false => simp [hsp])
          have HLW := Lib.hid (fun X => ref_LineWords P X (by have := Hl65.out; omega))
          obtain ⟨FN, hFN⟩ : ∃ FN, FN = ((LS.take k).filter saysL).length := ⟨_, rfl⟩
          rw [← hFN] at HFl Hcnt ⊢
          have hFN1 := HFl.out
          obtain ⟨WL, hWL⟩ : ∃ WL, WL = wordsL P := ⟨_, rfl⟩
          have HWL := Lib.hid hWL
          rw [← hWL] at HLW
          clear h9 hc9 hP hPl hFN hWL
          go_wp2_with (fail)
          refine (HLW.out _).mono ?_
          rintro e w5 ⟨v5, rfl, hn5, hb5⟩
          have HB5 := Lib.hid (below_two HB.out hb5)
          have HN5 := Lib.hid hn5
          clear hb5 hn5 HLW cj
          cases WL with
          | nil =>
            have Hno := Lib.hid (show ((LS.take (k + 1)).filter saysL).length = FN by rw [Hcnt.out, says_nil HWL.out.symm]; rfl)
            obtain ⟨ao, co, rfl⟩ := HN5.out.isSlice
            go_wp2
            go_roundw
            case rel => exact ⟨k + 1, by omega, by go_num, by rw [Hno.out], HB5.out⟩
            case measure => simp [intOf]; omega
          | cons v ws =>
            have hv := words_ne (l := P) (v := v) (by rw [← HWL.out]; exact List.mem_cons_self ..)
            obtain ⟨c0, vr, hvc⟩ : ∃ c0 vr, v = c0 :: vr := by
              cases v with
              | nil => exact absurd rfl hv
              | cons c r => exact ⟨c, r, rfl⟩
            obtain ⟨gw, cw, rfl, hgB, hgl⟩ := HN5.out.at_head (by simp)
            have cv := HN5.out.cellAt rfl 0 (by simp)
            have ev : ats (v :: ws) 0 = v := rfl
            rw [ev] at cv
            have hlw : (v :: ws).length = ws.length + 1 := rfl
            have hw63 := HN5.out.1
            rw [hlw] at HN5 hw63 ⊢
            have h0v : 0 < (mkB v).size := by rw [mkB_size, hvc]; simp
            have e0 : (mkB v)[0]'h0v = c0 := by subst hvc; rfl
            have Hvc := Lib.hid hvc
            have hp1 : 0 < (ws.length : Int) + 1 := by omega
            clear ev hlw hvc hv
            by_cases h35 : c0 = 35
            · have Hno := Lib.hid (show ((LS.take (k + 1)).filter saysL).length = FN by rw [Hcnt.out, says_cons HWL.out.symm, Hvc.out, h35]; rfl)
              have hq1 : ((c0.toNat : Int) == 35) = true := by rw [h35]; rfl
              have hq2 : ((c0.toNat : Int) != 35) = false := by rw [h35]; rfl
              clear h35
              go_wp2
              go_roundw
              case rel => exact ⟨k + 1, by omega, by go_num, by rw [Hno.out], HB5.out⟩
              case measure => simp [intOf]; omega
            · have hne35 : ¬ (c0.toNat : Int) = 35 := fun e => h35 (UInt8.toNat_inj.mp (by have : c0.toNat = 35 := by omega
                                                                                           rw [this]; rfl))
              have hq1 : ((c0.toNat : Int) == 35) = false := beq_false_of_ne hne35
              have hq2 : ((c0.toNat : Int) != 35) = true := bne_iff_ne.mpr hne35
              have Hyes := Lib.hid (show ((LS.take (k + 1)).filter saysL).length = FN + 1 by
                rw [Hcnt.out, says_cons HWL.out.symm, Hvc.out, decide_eq_true (show (c0 :: vr).head? ≠ some 35 from fun e => h35 (Option.some.inj e))]; rfl)
              clear h35 hne35
              go_wp2
              go_roundw
              case rel => exact ⟨k + 1, by omega, by go_num, by rw [Hyes.out]; go_num, HB5.out⟩
              case measure => simp [intOf]; omega
        · obtain rfl : k = N := by omega
          obtain ⟨h8, h9⟩ := runA_counts _ LS rfl
          rw [← HO.out] at h8 h9
          rw [List.take_of_length_le (by rw [← HN.out]; exact Nat.le_refl _)]
          obtain ⟨FN, hFN⟩ : ∃ FN, FN = (LS.filter saysL).length := ⟨_, rfl⟩
          rw [← hFN] at h8 ⊢
          obtain ⟨wv, hwv⟩ : ∃ x : World, x = wr := ⟨_, rfl⟩
          subst hwv
          have HBz := Lib.hid (below_two HB4.out HB.out)
          have CC := Lib.hid (Tryz.strings_Count_one (mkB OUT) 10 wv)
          have hcc : Lib.countByte (mkB OUT).data.toList 10 = OUT.count 10 := by rw [mkB_data]; rfl
          rw [hcc] at CC
          obtain ⟨CN, hCN⟩ : ∃ CN, CN = OUT.count 10 := ⟨_, rfl⟩
          rw [← hCN] at CC h8
          have hge : (FN : Int) ≤ (CN : Int) := by omega
          clear hcc hCN h8 hFN
          go_wp2_with (fail)
          refine CC.out.mono ?_
          rintro e w6 ⟨rfl, rfl⟩
          rcases h9 with h9 | ⟨x, h9⟩
          · rw [h9]
            go_wp2
            go_ret
            exact ⟨rfl, HBz.out⟩
          · have hx63 : x.length + 1 ≤ 1000000 := by
              have h := (runA_len _ LS rfl).2
              rw [← HO.out, h9, List.length_append, List.length_singleton] at h
              have := HN.out
              omega
            have hne1 : ¬ (x ++ [10] : Bs) = [] := by simp
            have hne2 : (x ++ [10] : Bs).isEmpty = false := by simp
            subst h9
            have hwM : IntKind.i64.wrap ((x.length : Int) + 1 - 1) = (x.length : Int) := by rw [show (x.length : Int) + 1 - 1 = (x.length : Int) by omega]; exact IntWalk.i64_in _ (by omega)
            have hM63 : (x.length : Int) + 1 - 1 = (x.length : Int) := by omega
            have hlt : x.length < (mkB (x ++ [10])).size := by rw [mkB_size, List.length_append]; simp
            have e0 : (mkB (x ++ [10]))[x.length]'hlt = 10 := by
              show (x ++ [10]).toArray[x.length]'_ = 10
              simp
            go_wp2
            go_ret
            exact ⟨rfl, HBz.out⟩
end Go.Proofs.YtlfneeobnihocaaGreatDoor
