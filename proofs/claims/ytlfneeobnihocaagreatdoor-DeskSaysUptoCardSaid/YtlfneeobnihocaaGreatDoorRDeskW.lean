/- Several texts in one: RDeskW, DeskSaysWalk. What each says, and its conditions, stands at its head. -/
import Derived.Test.YtlfneeobnihocaaGreatDoorRAnsW
/- The walk of the reference's Desk: of a text of at most 1100000 bytes. The tables lie as their initialisers lay them. -/
namespace Go.Proofs.YtlfneeobnihocaaGreatDoor
set_option maxRecDepth 100000
set_option linter.unusedVariables false
open Go.RowKit Tally
theorem ref_answer (v : Bs) (t : Bs) (ws : List Bs) (vw : Value) (w : World) (hT : Ten w) (ht : t.length ≤ 4096) (hw : RowS w vw ws) (hl : ws.length ≤ 100000) (hsz : ∀ x ∈ ws, x.length ≤ 1000000) (h1 : v = vCircuit → ws = []) (h2 : v = vClear → ws ≠ []) :
  Calls Tryz.prog 19 #[.string (mkB t), .string (mkB v), vw] w fun e w' => e = .returned (.string (mkB (doA t v ws).1)) ∧ Below w.heap.size w w' := by
 by_cases ha : v = vAdd
 ·subst ha; exact ref_ans_add t ws vw w hT ht hw hl hsz
 by_cases hb : v = vSub
 ·subst hb; exact ref_ans_sub t ws vw w hT ht hw hl hsz
 by_cases hc : v = vMul
 ·subst hc; exact ref_ans_mul t ws vw w hT ht hw hl hsz
 by_cases hd : v = vPow
 ·subst hd; exact ref_ans_pow t ws vw w hT ht hw hl hsz
 by_cases h9 : v = vInv
 ·subst h9; exact ref_ans_inv t ws vw w hT ht hw hl hsz
 by_cases h8 : v = vRun
 ·subst h8; exact ref_ans_run t ws vw w hT ht hw hl hsz
 by_cases h7 : v = vRoot
 ·subst h7; exact ref_ans_root t ws vw w hT ht hw hl hsz
 by_cases h6 : v = vSum
 ·subst h6; exact ref_ans_sum t ws vw w hT ht hw hl hsz
 by_cases h5 : v = vProve
 ·subst h5; exact ref_ans_prove t ws vw w hT ht hw hl hsz
 by_cases h4 : v = vEval
 ·subst h4; exact ref_ans_eval t ws vw w hT ht hw hl hsz
 by_cases h3 : v = vShow
 ·subst h3; exact ref_ans_show t ws vw w hT ht hw hl hsz
 exact ref_ans_other v t ws vw w hT ht hw hl hsz h1 h2 h3 h4 h5 h6 h7 h8 h9 ha hb hc hd
theorem doA_same (t v : Bs) (ws : List Bs) (h1 : v = vCircuit → ws = []) (h2 : v = vClear → ws ≠ []) : (doA t v ws).2 = t := by
 unfold doA
 by_cases e1 : v = vCircuit
 ·rw [if_pos e1, if_pos (h1 e1)]
 ·rw [if_neg e1]
  by_cases e2 : v = vClear
  ·rw [if_pos e2, if_neg (h2 e2)]
  ·rw [if_neg e2]
   split
   ·split <;> rfl
   ·split
    ·split <;> rfl
    ·split
     ·split <;> rfl
     ·split <;> rfl
theorem doA_text' (t v : Bs) (ws : List Bs) (ht : t.length ≤ 4096) : (doA t v ws).2.length ≤ 4096 := by
 by_cases e1 : v = vCircuit
 ·unfold doA
  rw [if_pos e1]
  split
  ·exact ht
  ·split
   ·exact ht
   ·simp only [List.length_append, List.length_singleton]; omega
 ·by_cases e2 : v = vClear
  ·unfold doA
   rw [if_neg e1, if_pos e2]
   split
   ·simp
   ·exact ht
  ·rw [doA_same t v ws (fun h => absurd h e1) (fun h => absurd h e2)]; exact ht
theorem runA_len' : ∀ (n : Nat) (ls : List Bs), ls.length = n → (runA ls).2.length ≤ 4096 ∧ (runA ls).1.length ≤ n * 801 := by
 intro n
 induction n with
 | zero => intro ls hl; rw [List.eq_nil_of_length_eq_zero hl]; exact ⟨by simp [runA], by simp [runA]⟩
 | succ n ih =>
  intro ls hl
  have hne : ls ≠ [] := fun e => by rw [e] at hl; cases hl
  obtain ⟨m, c, rfl⟩ : ∃ m c, ls = m ++ [c] := ⟨ls.dropLast, ls.getLast hne, (List.dropLast_concat_getLast hne).symm⟩
  obtain ⟨h1, h2⟩ := ih m (by rw [List.length_append, List.length_singleton] at hl; omega)
  rw [runA_snoc]
  unfold lineA
  split
  ·exact ⟨h1, by omega⟩
  ·rename_i v ws e
   split
   ·exact ⟨h1, by omega⟩
   ·refine ⟨doA_text' _ _ _ h1, ?_⟩
    have := doA_len (runA m).2 v ws h1
    show ((runA m).1 ++ (doA (runA m).2 v ws).1 ++ [10]).length ≤ _
    simp only [List.length_append, List.length_singleton]; omega
theorem words_facts (P : Bs) : (wordsL P).length ≤ P.length + 1 ∧ ∀ x ∈ wordsL P, x ≠ [] ∧ x.length ≤ P.length := by
 refine ⟨Nat.le_trans (List.length_filter_le _ _) (pcs_len_le 32 P), fun x hx => ?_⟩
 have h := List.mem_filter.mp hx
 refine ⟨fun e => ?_, pcs_mem_len 32 P x h.1⟩
 have h2 := h.2
 rw [e] at h2
 exact absurd h2 (by decide)
theorem lines_len (l : Bs) : ∀ j, j < (linesL l).length → (ats (linesL l) j).length ≤ l.length := by
 intro j hj
 have hm : ats (linesL l) j ∈ pcs 10 l := by
  have h := ats_mem hj
  unfold linesL at h ⊢
  split at h
  ·rename_i hc
   rw [if_pos hc]
   exact List.dropLast_subset _ h
  ·rename_i hc
   rw [if_neg hc]
   exact h
 exact pcs_mem_len 10 l _ hm
theorem joinW_len (ws : List Bs) (h : ∀ x ∈ ws, x.length ≤ 65536) (hl : ws.length ≤ 65537) (j : Nat) : (joinD (ws.take j)).length ≤ 4295098369 := by
 have h1 := joinD_len 65536 (ws.take j) (fun x hx => h x (List.take_subset j ws hx))
 have h2 : (ws.take j).length * (65536 + 1) ≤ 65537 * (65536 + 1) := Nat.mul_le_mul_right _ (by rw [List.length_take]; omega)
 exact Nat.le_trans h1 h2
theorem joinW_take (ws : List Bs) (k : Nat) (hk : k < ws.length) : joinD (ws.take (k + 1)) = if k = 0 then ats ws 0 else joinD (ws.take k) ++ 32 :: ats ws k := by
 rw [List.take_succ_eq_append_getElem hk]
 have ek : ws[k] = ats ws k := by simp [ats, hk]
 rw [ek]
 by_cases h0 : k = 0
 ·subst h0; rw [if_pos rfl, List.take_zero]; exact joinD_one _
 ·rw [if_neg h0]
  cases ws with
  | nil => simp at hk
  | cons a r =>
   obtain ⟨j, rfl⟩ : ∃ j, k = j + 1 := ⟨k - 1, by omega⟩
   rw [List.take_succ_cons]
   exact joinD_snoc _ _ _
set_option maxHeartbeats 16000000 in
theorem ref_Desk (s : ByteArray) (w : World) (hs : s.size ≤ 1100000) (hTn : Ten w) :
  Calls Tryz.prog 7 #[.string s] w fun e w' => e = .returned (.string (mkB (deskA s.data.toList))) ∧ Below w.heap.size w w' := by
 have HTn := zH hTn
 have CT := zH (ref_TextLines s w hs)
 obtain ⟨l, hl⟩ : ∃ l, l = s.data.toList := ⟨_, rfl⟩
 rw [← hl] at CT ⊢
 have hsl : l.length = s.size := by rw [hl, Array.length_toList]; rfl
 obtain ⟨RA, hRA⟩ : ∃ RA, RA = deskA l := ⟨_, rfl⟩
 have HLlen := zH (lines_len l)
 obtain ⟨LS, hLS⟩ : ∃ LS, LS = linesL l := ⟨_, rfl⟩
 rw [← hLS] at CT HLlen
 obtain ⟨N, hN⟩ : ∃ N, N = LS.length := ⟨_, rfl⟩
 have HRA := zH (show RA = if 65536 < l.length ∨ 200 < N then [101, 114, 114, 111, 114, 32, 50, 10] else (runA LS).1 by rw [hRA, deskA, ← hLS, ← hN])
 rw [← hRA]
 have HN := zH hN
 have Hsl := zH hsl
 clear hTn hl hRA hLS hN hsl
 go_enter Tryz.func7, Tryz.ntmps7
 go_wp2_with (fail)
 refine CT.out.mono ?_
 rintro e w1 ⟨v1, rfl, hr1, hb⟩
 have HB1 := zH hb
 have HR1 := zH hr1
 obtain ⟨hLM, a1, c1, rfl, -⟩ := hr1
 rw [← HN.out] at hLM HR1 HLlen ⊢
 clear hb CT
 by_cases hbig : 65536 < l.length ∨ 200 < N
 ·have HR3 := zH (show RA = [101, 114, 114, 111, 114, 32, 50, 10] by rw [HRA.out, if_pos hbig])
  have key2 : 65536 < (s.size : Int) ∨ ¬ 65536 < (s.size : Int) ∧ 200 < (N : Int) := by
   have := Hsl.out
   rcases hbig with h | h
   ·exact .inl (by omega)
   ·by_cases h2 : 65536 < s.size
    ·exact .inl (by omega)
    ·exact .inr ⟨by omega, by omega⟩
  clear hbig
  rcases key2 with h1 | ⟨h1, h2⟩
  ·go_wp2
   go_ret
   exact ⟨by rw [HR3.out]; rfl, HB1.out⟩
  ·go_wp2
   go_ret
   exact ⟨by rw [HR3.out]; rfl, HB1.out⟩
 ·have HR3 := zH (show RA = (runA LS).1 by rw [HRA.out, if_neg hbig])
  have hl1 : l.length ≤ 65536 := by omega
  have hN2 : N ≤ 200 := by omega
  have h1 : ¬ 65536 < (s.size : Int) := by have := Hsl.out; omega
  have h2 : ¬ 200 < (N : Int) := by omega
  have HL1 := zH hl1
  clear hbig HRA hl1 Hsl
  go_wp2_with (fail)
  go_loopw [4, 5, 6] (fun tv ov iv wr => ∃ k : Nat, k ≤ N ∧ iv = .int .i64 (k : Int) ∧ tv = .string (mkB (runA (LS.take k)).2) ∧ ov = .string (mkB (runA (LS.take k)).1) ∧ Hid (Below w1.heap.size w1 wr)) (fun _ _ iv _ => N - (intOf iv).toNat)
  case atStart => exact ⟨0, Nat.zero_le _, rfl, rfl, rfl, Below.refl _ _⟩
  case round =>
   obtain ⟨k, hk, rfl, rfl, rfl, HB⟩ := hrel
   have hlens := runA_len' _ (LS.take k) rfl
   obtain ⟨T, hTe⟩ : ∃ T, T = (runA (LS.take k)).2 := ⟨_, rfl⟩
   obtain ⟨O, hOe⟩ : ∃ O, O = (runA (LS.take k)).1 := ⟨_, rfl⟩
   have HTe := zH hTe
   have HOe := zH hOe
   rw [← hTe, ← hOe] at hlens ⊢
   have hT4 := hlens.1
   have hO4 : O.length ≤ 160200 := by
    have h2 := hlens.2
    rw [List.length_take] at h2
    have : min k LS.length * 801 ≤ 200 * 801 := Nat.mul_le_mul_right _ (by omega)
    omega
   clear hlens hTe hOe
   by_cases hz : k < N
   ·have hz' : (k : Int) < (N : Int) := by omega
    have hRow := HR1.out.go HB.out
    obtain ⟨-, a9, c9, e9, -, -, h9⟩ := hRow
    rw [← HN.out] at e9
    cases e9
    obtain ⟨b9, o9, e9, hb9, -, hc9⟩ := h9 (by rw [← HN.out]; omega)
    subst e9
    have cj := hc9 k (by rw [← HN.out]; exact hz)
    have hPl := HLlen.out k hz
    have Htk := zH (ats_take_snoc (ls := LS) (k := k) (by rw [← HN.out]; exact hz))
    obtain ⟨P, hP⟩ : ∃ P, P = ats LS k := ⟨_, rfl⟩
    have HP := zH hP
    rw [← hP] at cj hPl Htk
    have HLW := zH (fun X => ref_LineWords P X (by have := HL1.out; omega))
    obtain ⟨hw1, hw2⟩ := words_facts P
    have Hne := zH hw2
    have hPlen : P.length ≤ 65536 := by have := HL1.out; omega
    obtain ⟨WL, hWL⟩ : ∃ WL, WL = wordsL P := ⟨_, rfl⟩
    have HWLe := zH hWL
    rw [← hWL] at HLW Hne hw1
    clear h9 hc9 hP hWL hw2 hPl
    go_wp2_with (fail)
    refine (HLW.out _).mono ?_
    rintro e w5 ⟨v5, rfl, hn5, hb5⟩
    have HB5 := zH (below_two HB.out hb5)
    have HS5 := zH hn5
    clear hb5 hn5 HLW cj
    cases WL with
    | nil =>
     have Hskip := zH (show runA (LS.take (k + 1)) = runA (LS.take k) by rw [Htk.out, runA_snoc, lineA, ← HWLe.out])
     obtain ⟨ao, co, rfl⟩ := HS5.out.isSlice
     go_wp2
     go_roundw
     case rel => exact ⟨k + 1, by omega, by go_num, by rw [Hskip.out, ← HTe.out], by rw [Hskip.out, ← HOe.out], HB5.out⟩
     case measure => simp [intOf]; omega
    | cons v ws =>
     have hv := Hne.out v (List.mem_cons_self ..)
     obtain ⟨c0, vr, hvc⟩ : ∃ c0 vr, v = c0 :: vr := by
      cases v with
      | nil => exact absurd rfl hv.1
      | cons c r => exact ⟨c, r, rfl⟩
     obtain ⟨gw, cw, rfl, hgB, hgl⟩ := HS5.out.at_head (by simp)
     have cv := HS5.out.cellAt rfl 0 (by simp)
     have ev : ats (v :: ws) 0 = v := rfl
     rw [ev] at cv
     have hlw : (v :: ws).length = ws.length + 1 := rfl
     rw [hlw] at HS5 hw1 ⊢
     have h0v : 0 < (mkB v).size := by rw [mkB_size, hvc]; simp
     have e0 : (mkB v)[0]'h0v = c0 := by subst hvc; rfl
     have Hvc := zH hvc
     have hp1 : 0 < (ws.length : Int) + 1 := by omega
     clear ev hlw hvc hv
     by_cases h35 : c0 = 35
     ·have Hskip := zH (show runA (LS.take (k + 1)) = runA (LS.take k) by rw [Htk.out, runA_snoc, lineA, ← HWLe.out, Hvc.out, h35]; rfl)
      have hq1 : ((c0.toNat : Int) == 35) = true := by rw [h35]; rfl
      clear h35
      go_wp2
      go_roundw
      case rel => exact ⟨k + 1, by omega, by go_num, by rw [Hskip.out, ← HTe.out], by rw [Hskip.out, ← HOe.out], HB5.out⟩
      case measure => simp [intOf]; omega
     ·have hne35 : ¬ (c0.toNat : Int) = 35 := fun e => h35 (UInt8.toNat_inj.mp (by have : c0.toNat = 35 := by omega
                                                                                   rw [this]; rfl))
      have hq1 : ((c0.toNat : Int) == 35) = false := beq_false_of_ne hne35
      have Hrun := zH (show runA (LS.take (k + 1)) = (O ++ (doA T v ws).1 ++ [10], (doA T v ws).2) by
       rw [Htk.out, runA_snoc, lineA, ← HWLe.out, HTe.out, HOe.out]
       show (if v.head? = some 35 then _ else _) = _
       rw [if_neg (by rw [Hvc.out]; intro e; exact h35 (Option.some.inj e))])
      clear h35 hne35
      by_cases hcirc : v = vCircuit ∧ ws ≠ []
      ·obtain ⟨hc1, hc2⟩ := hcirc
       have hk0 : (v == [99, 105, 114, 99, 117, 105, 116]) = true := vb_yes hc1
       have hk1 : 1 < (ws.length : Int) + 1 := by have := List.length_pos_iff.mpr hc2; omega
       have HC1 := zH hc1
       have HC2 := zH hc2
       have HJl := zH (fun j => joinW_len ws (fun x hx => Nat.le_trans (Hne.out x (List.mem_cons_of_mem _ hx)).2 hPlen) (by omega) j)
       have HWl := zH (fun j (hj : j < ws.length) => show (ats ws j).length ≤ 65536 from by
        have := (Hne.out (ats ws j) (List.mem_cons_of_mem _ (ats_mem hj))).2; omega)
       clear hc1 hc2
       go_wp2_with (fail)
       go_loopw [8, 9] (fun xv kv w8 => ∃ j : Nat, j ≤ ws.length ∧ kv = .int .i64 ((j : Int) + 1) ∧ xv = .string (mkB (joinD (ws.take j))) ∧ Hid (w8 = w5)) (fun _ kv _ => ws.length + 1 - (intOf kv).toNat)
       case atStart => exact ⟨0, Nat.zero_le _, rfl, by rw [List.take_zero]; rfl, rfl⟩
       case round =>
        obtain ⟨j, hj, rfl, rfl, hw8⟩ := hrel
        have hw8 := hw8.out
        subst hw8
        have hjl := HJl.out j
        by_cases hz2 : j < ws.length
        ·have hz2' : (j : Int) + 1 < (ws.length : Int) + 1 := by omega
         have cj := HS5.out.cellAt rfl (j + 1) (by simp; omega)
         have ej : ats (v :: ws) (j + 1) = ats ws j := by simp [ats]
         rw [ej] at cj
         have hjw := HWl.out j hz2
         have HN1 := zH (joinW_take ws j hz2)
         have Hj0 := zH (fun (e : j = 0) => show joinD (ws.take j) = [] by rw [e, List.take_zero]; rfl)
         obtain ⟨X, hX⟩ : ∃ X, X = joinD (ws.take j) := ⟨_, rfl⟩
         obtain ⟨Y, hY⟩ : ∃ Y, Y = ats ws j := ⟨_, rfl⟩
         rw [← hX] at hjl HN1 Hj0 ⊢
         rw [← hY] at hjw cj HN1
         have HY := zH hY
         have hs3 : ¬ (9223372036854775807 < X.length + Y.length) := by omega
         clear hX hY ej
         by_cases hj0 : j = 0
         ·have hg : ¬ 1 < (j : Int) + 1 := by omega
          have HN2 := zH (show joinD (ws.take (j + 1)) = X ++ Y by rw [HN1.out, if_pos hj0, Hj0.out hj0, HY.out, hj0]; rfl)
          have eX := zH (mkB_append X Y)
          clear hj0
          go_wp2
          go_roundw
          case rel => exact ⟨j + 1, by omega, by go_num, by rw [HN2.out, ← eX.out], trivial⟩
          case measure => simp [intOf]; omega
         ·have hg : 1 < (j : Int) + 1 := by omega
          have HN2 := zH (show joinD (ws.take (j + 1)) = X ++ 32 :: Y by rw [HN1.out, if_neg hj0])
          have eX := zH (show mkB X ++ ⟨#[32]⟩ ++ mkB Y = mkB (X ++ 32 :: Y) from by
           apply ByteArray.ext; simp [mkB, ByteArray.data_append])
          have hs4 : ¬ (9223372036854775807 < X.length + 1) := by omega
          have hs5 : ¬ (9223372036854775807 < X.length + 1 + Y.length) := by omega
          clear hj0
          go_wp2
          go_roundw
          case rel => exact ⟨j + 1, by omega, by go_num, by rw [HN2.out, ← eX.out], trivial⟩
          case measure => simp [intOf]; omega
        ·have hz2' : ¬ (j : Int) + 1 < (ws.length : Int) + 1 := by omega
         have ej : ws.take j = ws := List.take_of_length_le (by omega)
         rw [ej] at hjl ⊢
         obtain ⟨X, hX⟩ : ∃ X, X = joinD ws := ⟨_, rfl⟩
         have HX := zH hX
         rw [← hX] at hjl ⊢
         have hw7 : IntKind.i64.wrap ((T.length : Int) + (X.length : Int)) = (T.length : Int) + (X.length : Int) := IntWalk.i64_in _ (by omega)
         have hw6 : IntKind.i64.wrap ((T.length : Int) + (X.length : Int) + 1) = (T.length : Int) + (X.length : Int) + 1 := IntWalk.i64_in _ (by omega)
         clear hX ej hz2
         by_cases hbig : 4096 < T.length + X.length + 1
         ·have hg : 4096 < (T.length : Int) + (X.length : Int) + 1 := by omega
          have Hd2 := zH (show runA (LS.take (k + 1)) = (O ++ errL 2 ++ [10], T) by rw [Hrun.out, doA, if_pos HC1.out, if_neg HC2.out, if_pos (by rw [← HX.out]; exact hbig)])
          obtain ⟨E, hE⟩ : ∃ E, E = errL 2 := ⟨_, rfl⟩
          have hEl : E.length ≤ 26 := by rw [hE]; exact errL_len 2 (by decide) (by decide)
          have CE := zH (fun X => ref_wrong 2 X (by decide) (by decide))
          rw [← hE] at Hd2 CE
          have eO := zH (show mkB O ++ (mkB E ++ ⟨#[10]⟩) = mkB (O ++ E ++ [10]) from by
           apply ByteArray.ext; simp [mkB, ByteArray.data_append])
          have hs4 : ¬ (9223372036854775807 < E.length + 1) := by omega
          have hs5 : ¬ (9223372036854775807 < O.length + (E.length + 1)) := by omega
          clear hE hbig hEl
          go_wp2_with (go_at_call 18; refine (CE.out _).mono ?_; rintro e w' ⟨rfl, rfl⟩)
          go_roundw
          case rel => exact ⟨k + 1, by omega, by go_num, by rw [Hd2.out], by rw [Hd2.out, ← eO.out], HB5.out⟩
          case measure => simp [intOf]; omega
         ·have hg : ¬ 4096 < (T.length : Int) + (X.length : Int) + 1 := by omega
          have Hd2 := zH (show runA (LS.take (k + 1)) = (O ++ okL ++ [10], T ++ X ++ [10]) by rw [Hrun.out, doA, if_pos HC1.out, if_neg HC2.out, if_neg (by rw [← HX.out]; exact hbig), ← HX.out])
          have eO := zH (show mkB O ++ ⟨#[111, 107, 10]⟩ = mkB (O ++ okL ++ [10]) from by
           apply ByteArray.ext; simp [mkB, ByteArray.data_append, okL])
          have eT := zH (show mkB T ++ (mkB X ++ ⟨#[10]⟩) = mkB (T ++ X ++ [10]) from by
           apply ByteArray.ext; simp [mkB, ByteArray.data_append])
          have hs3 : ¬ (9223372036854775807 < O.length + 3) := by omega
          have hs4 : ¬ (9223372036854775807 < X.length + 1) := by omega
          have hs5 : ¬ (9223372036854775807 < T.length + (X.length + 1)) := by omega
          clear hbig
          go_wp2
          go_roundw
          case rel => exact ⟨k + 1, by omega, by go_num, by rw [Hd2.out, ← eT.out], by rw [Hd2.out, ← eO.out], HB5.out⟩
          case measure => simp [intOf]; omega
      ·by_cases hclr : v = vClear ∧ ws = []
       ·obtain ⟨hc1, hc2⟩ := hclr
        have hk0 : (v == [99, 105, 114, 99, 117, 105, 116]) = false := vb_no (by rw [hc1]; decide)
        have hk1 : (v == [99, 108, 101, 97, 114]) = true := vb_yes hc1
        subst hc2
        have Hd2 := zH (show runA (LS.take (k + 1)) = (O ++ okL ++ [10], []) by rw [Hrun.out, doA, if_neg (by rw [hc1]; decide), if_pos hc1, if_pos rfl])
        have eO := zH (show mkB O ++ ⟨#[111, 107, 10]⟩ = mkB (O ++ okL ++ [10]) from by
         apply ByteArray.ext; simp [mkB, ByteArray.data_append, okL])
        have hsO : ¬ (9223372036854775807 < O.length + 3) := by omega
        clear hc1 hcirc
        go_wp2
        go_roundw
        case rel => exact ⟨k + 1, by omega, by go_num, by rw [Hd2.out], by rw [Hd2.out, ← eO.out], HB5.out⟩
        case measure => simp [intOf]; omega
       ·have h1 : v = vCircuit → ws = [] := fun h => Classical.byContradiction fun h2 => hcirc ⟨h, h2⟩
        have h2 : v = vClear → ws ≠ [] := fun h h2 => hclr ⟨h, h2⟩
        have three : ((v == [99, 105, 114, 99, 117, 105, 116]) = true ∧ ¬ 1 < (ws.length : Int) + 1 ∧ (v == [99, 108, 101, 97, 114]) = false) ∨ ((v == [99, 105, 114, 99, 117, 105, 116]) = false ∧ (v == [99, 108, 101, 97, 114]) = true ∧ ((ws.length : Int) + 1 == 1) = false) ∨ ((v == [99, 105, 114, 99, 117, 105, 116]) = false ∧ (v == [99, 108, 101, 97, 114]) = false) := by
         by_cases e1 : v = vCircuit
         ·refine .inl ⟨vb_yes e1, ?_, vb_no (by rw [e1]; decide)⟩
          rw [h1 e1]; simp
         ·by_cases e2 : v = vClear
          ·refine .inr (.inl ⟨vb_no e1, vb_yes e2, beq_false_of_ne ?_⟩)
           have := List.length_pos_iff.mpr (h2 e2)
           omega
          ·exact .inr (.inr ⟨vb_no e1, vb_no e2⟩)
        have Hh1 := zH h1
        have Hh2 := zH h2
        clear h1 h2 hcirc hclr
        rcases three with ⟨k0, k1, k2⟩ | ⟨k0, k1, k2⟩ | ⟨k0, k1⟩
        all_goals
         go_upto_region 10 with fail
         have h1 := Hh1.out
         have h2 := Hh2.out
         obtain ⟨r, hr⟩ : ∃ r, r = (doA T v ws).1 := ⟨_, rfl⟩
         have Hd3 := zH (show runA (LS.take (k + 1)) = (O ++ r ++ [10], T) by rw [Hrun.out, doA_same T v ws h1 h2, hr])
         have hr8 := doA_len T v ws hT4
         rw [← hr] at hr8
         have CD := zH (fun vv (hvv : RowS w5.drew vv ws) => show Calls Tryz.prog 19 #[.string (mkB T), .string (mkB v), vv] w5.drew fun e w' => e = .returned (.string (mkB r)) ∧ Below w5.drew.heap.size w5.drew w' from by
          rw [hr]
          exact ref_answer v T ws vv w5.drew (HTn.out.go (below_dw (below_two HB1.out HB5.out))) hT4 hvv (by omega) (fun x hx => by have := (Hne.out x (List.mem_cons_of_mem _ hx)).2; omega) h1 h2)
         have HW5 := zH (show RowS w5 (.slice (some ⟨gw, 0, none⟩) (v :: ws).length cw) (v :: ws) from HS5.out.row)
         have HRW := zH (show RowS w5.drew (.slice (some ⟨gw, 1, none⟩) ws.length (cw - 1)) ws from by
          have h := (HW5.out.back 1 (by simp)).go (below_drw w5)
          rw [Nat.zero_add] at h
          exact h)
         have hcw := HW5.out.2
         obtain ⟨a8, c8, e8, hcw1, hcw2, -⟩ := hcw
         cases e8
         have Hcw1 := zH (show ws.length + 1 ≤ cw from hcw1)
         have HRI := zH (show RowS w5.drew (.slice (if cw = 1 then some ⟨gw, 0, none⟩ else some ⟨gw, 1, none⟩) ws.length (cw - 1)) ws from by
          split
          ·rename_i h1
           have hw0 : ws = [] := List.eq_nil_of_length_eq_zero (by have := Hcw1.out; omega)
           subst hw0
           exact RowS.none0 (by omega)
          ·exact HRW.out)
         have eO := zH (show mkB O ++ (mkB r ++ ⟨#[10]⟩) = mkB (O ++ r ++ [10]) from by
          apply ByteArray.ext; simp [mkB, ByteArray.data_append])
         have Hs4 := zH (show ¬ (9223372036854775807 < r.length + 1) by omega)
         have Hs5 := zH (show ¬ (9223372036854775807 < O.length + (r.length + 1)) by omega)
         have Hn63 := zH (show (ws.length : Int) + 1 ≤ 9223372036854775807 by omega)
         clear h1 h2 hr hr8 hcw1 hcw2
         have hs4 := Hs4.out
         have hs5 := Hs5.out
         have hn63 := Hn63.out
         have hcw1 := Hcw1.out
         have hlow1 : (1 : Int) ≤ (ws.length : Int) + 1 := by omega
         go_region_law (go_simp; go_at_call 19; (with_reducible refine (CD.out _ HRI.out).mono ?_); rintro e w8 ⟨rfl, hb8⟩; have HB8 := zH hb8; clear hb8)
         all_goals
          have HBz := zH (show Below w1.heap.size w1 w8 from HB5.out.trans ((below_drw w5).trans (HB8.out.mono (by exact Nat.le_refl _)) |>.mono HB5.out.size))
          go_wp2_with (fail)
          go_roundw
          case rel => exact ⟨k + 1, by omega, by go_num, by rw [Hd3.out], by rw [Hd3.out, ← eO.out], HBz.out⟩
          case measure => simp [intOf]; omega
   ·obtain rfl : k = N := by omega
    rw [List.take_of_length_le (by rw [← HN.out]; exact Nat.le_refl _)] at HOe
    go_wp2
    go_ret
    exact ⟨by rw [HR3.out, HOe.out]; rfl, below_two HB1.out HB.out⟩
end Go.Proofs.YtlfneeobnihocaaGreatDoor
/- The walk of tallylaw.DeskSays: of a text of at most 1048576 bytes the desk says what its reference says. The tables lie as their initialisers lay them. -/
namespace Go.Proofs.YtlfneeobnihocaaGreatDoor
set_option maxRecDepth 100000
set_option linter.unusedVariables false
open Go.RowKit Tally
set_option maxHeartbeats 4000000 in
theorem deskSays_walk (s : ByteArray) (w : World) (hs : s.size ≤ 1048576) (hT : Tab w) (hTn : Ten w) :
  Calls Tryz.prog 3 #[.string s] w fun e w' => e = .returned (.bool true) ∧ Below w.heap.size w w' := by
 have C1 := zH (desk_Run s w (by omega) hT hTn)
 have C2 := zH (fun (w1 : World) (hb : Below w.heap.size w w1) => ref_Desk s w1 (by omega) (hTn.go hb))
 obtain ⟨R, hR⟩ : ∃ R, R = mkB (deskA s.data.toList) := ⟨_, rfl⟩
 rw [← hR] at C1 C2
 clear hT hTn hR
 go_enter Tryz.func3, Tryz.ntmps3
 go_wp2_with (fail)
 refine C1.out.mono ?_
 rintro e w1 ⟨rfl, hb⟩
 have HB1 := zH hb
 clear hb C1
 go_wp2_with (fail)
 refine (C2.out w1 HB1.out).mono ?_
 rintro e w2 ⟨rfl, hb⟩
 have HB2 := zH (below_two HB1.out hb)
 clear hb C2
 go_wp2
 go_ret
 exact ⟨rfl, HB2.out⟩
end Go.Proofs.YtlfneeobnihocaaGreatDoor
