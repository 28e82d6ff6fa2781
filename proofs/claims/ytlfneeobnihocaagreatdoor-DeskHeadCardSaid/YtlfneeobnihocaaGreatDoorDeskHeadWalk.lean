/- The walk of the law DeskHead: it returns true, for two texts of at most 2^47 bytes each. The tables lie as their initialisers lay them. -/
import Derived.Test.YtlfneeobnihocaaGreatDoorDeskR
namespace Go.Proofs.YtlfneeobnihocaaGreatDoor
set_option maxRecDepth 100000
set_option linter.unusedVariables false
open Go.RowKit Tally
/-- a small circuit of one layer of one gate -/
def oneC : Ci := ⟨1, [⟨0, [⟨true, 0, 1⟩]⟩]⟩
theorem one_check : checkC oneC = 0 := by decide
theorem one_outs : (valF oneC ([3, 4].map phi) oneC.layers.length).map psi = [12] := by decide +kernel
theorem one_good : verB oneC [3, 4] [12] (proveI oneC [3, 4] (fiatD oneC [3, 4] [12])) (drawnI oneC [3, 4] [12] (proveI oneC [3, 4] (fiatD oneC [3, 4] [12]))) = true := by
  rw [drawn_prove]
  have hg := good_of_check one_check
  have h : verB oneC [3, 4] ((valF oneC ([3, 4].map phi) oneC.layers.length).map psi) (proveI oneC [3, 4] (fiatD oneC [3, 4] [12])) (fiatD oneC [3, 4] [12]) = true := by
    rw [verB_prove hg [3, 4] [3, 4] _ _ rfl (fiatD_length _ _ _), if_pos (by rw [mapphi_psi]), beq_self_eq_true]
  rwa [one_outs] at h
set_option maxRecDepth 100000 in
theorem one_bad : verB oneC [3, 4] [13] (proveI oneC [3, 4] (fiatD oneC [3, 4] [12])) (drawnI oneC [3, 4] [13] (proveI oneC [3, 4] (fiatD oneC [3, 4] [12]))) = false := by decide +kernel
def oneL : Bs := [105, 110, 112, 117, 116, 115, 32, 49, 10, 108, 97, 121, 101, 114, 32, 48, 10, 109, 117, 108, 32, 48, 32, 49, 10]
theorem one_text : (circB oneC).data.toList = oneL := by
  rw [circB_list]
  have d0 : numL 0 = [48] := by unfold numL; rw [Lib.decDigits_one (by decide)]; rfl
  have d1 : numL 1 = [49] := by unfold numL; rw [Lib.decDigits_one (by decide)]; rfl
  simp [unl, linesOf, bodyLines, layLines, oneC, lnI, lnL, lnG, wordL, d0, d1, inputsL, layerL, mulL, oneL]
theorem one_read : parseR oneL = (oneC, 0, 0) := by rw [← one_text]; exact back_print one_check
/-- what the small circuit's lines ask -/
def askL : Bs := [99, 105, 114, 99, 117, 105, 116, 32, 105, 110, 112, 117, 116, 115, 32, 49, 10, 99, 105, 114, 99, 117, 105, 116, 32, 108, 97, 121, 101, 114, 32, 48, 10, 99, 105, 114, 99, 117, 105, 116, 32, 109, 117, 108, 32, 48, 32, 49, 10, 114, 117, 110, 32, 51, 32, 52, 10, 112, 114, 111, 118, 101, 32, 51, 32, 52, 32, 47, 32, 49, 50, 10, 112, 114, 111, 118, 101, 32, 51, 32, 52, 32, 47, 32, 49, 51, 10]
def saidL : Bs := [111, 107, 10, 111, 107, 10, 111, 107, 10, 49, 50, 10, 104, 111, 108, 100, 115, 10, 102, 97, 105, 108, 115, 10]
/-- a line of words -/
theorem lineA_ans {r : Bs × Bs} {l v : Bs} {ws : List Bs} {x t : Bs} (h : wordsL l = v :: ws) (h2 : ¬ v.head? = some 35) (h3 : doA r.2 v ws = (x, t)) : lineA r l = (r.1 ++ x ++ [10], t) := by
  unfold lineA
  rw [h]
  show (if _ then _ else _ : Bs × Bs) = _
  rw [if_neg h2, h3]
theorem doA_circuit (t : Bs) (ws : List Bs) (h1 : ws ≠ []) (h2 : ¬ 4096 < t.length + (joinD ws).length + 1) : doA t vCircuit ws = (okL, t ++ joinD ws ++ [10]) := by
  unfold doA
  rw [if_pos rfl, if_neg h1, if_neg h2]
theorem dec12 : decL 12 = [49, 50] := by
  unfold decL
  rw [show (12 : Int).toNat = 12 from rfl, Lib.decDigits_two (by decide) (by decide)]; rfl
theorem outs12 : outsI oneC [3, 4] = [12] := one_outs
theorem doA_run : doA oneL vRun [[51], [52]] = ([49, 50], oneL) := by
  unfold doA
  rw [if_neg (by decide), if_neg (by decide), if_neg (by decide), if_neg (by decide), if_neg (by decide), if_pos (by decide)]
  congr 1
  unfold listA
  rw [if_neg (by decide), if_neg (by decide), if_pos rfl]
  unfold netA
  rw [one_read, if_pos rfl]
  show ranA oneC [3, 4] = _
  unfold ranA
  rw [if_pos (by decide), outs12]
  show joinD [decL 12] = _
  rw [dec12]
  rfl
theorem doA_prove (n : Bs) (x : Int) (hn : okB n = true) (hx : (valD n : Int) = x) : doA oneL vProve [[51], [52], [47], n] = (if verB oneC [3, 4] [x] (proveI oneC [3, 4] (fiatD oneC [3, 4] [12])) (drawnI oneC [3, 4] [x] (proveI oneC [3, 4] (fiatD oneC [3, 4] [12]))) then holdsL else failsL, oneL) := by
  have hs : slashD [[51], [52], [47], n] = 2 := by unfold slashD; simp [List.findIdx_cons]
  have hh : halfB [[51], [52], [47], n] = true := by
    unfold halfB
    rw [hs]
    have a1 : okB [51] = true := by decide
    have a2 : okB [52] = true := by decide
    simp [hn, a1, a2]
  have e1 : valsD ([[51], [52], [47], n].take 2) = [3, 4] := by unfold valsD; rfl
  have e2 : valsD ([[51], [52], [47], n].drop (2 + 1)) = [x] := by unfold valsD; show [(valD n : Int)] = _; rw [hx]
  unfold doA
  rw [if_neg (by decide), if_neg (by decide), if_neg (by decide), if_neg (by decide), if_pos rfl, if_pos hh, hs, e1, e2]
  have key : netA oneL (fun c => provA c [3, 4] [x]) = (if verB oneC [3, 4] [x] (proveI oneC [3, 4] (fiatD oneC [3, 4] [12])) (drawnI oneC [3, 4] [x] (proveI oneC [3, 4] (fiatD oneC [3, 4] [12]))) then holdsL else failsL) := by
    unfold netA
    rw [one_read, if_pos rfl]
    show provA oneC [3, 4] [x] = _
    unfold provA
    rw [if_pos (by decide), if_pos (by show 1 = 2 ^ (belowLog oneC oneC.layers.length).toNat; decide), outs12]
  rw [key]
set_option maxRecDepth 100000 in
theorem desk_ask : deskA askL = saidL := by
  have e : linesL askL = [[99, 105, 114, 99, 117, 105, 116, 32, 105, 110, 112, 117, 116, 115, 32, 49], [99, 105, 114, 99, 117, 105, 116, 32, 108, 97, 121, 101, 114, 32, 48], [99, 105, 114, 99, 117, 105, 116, 32, 109, 117, 108, 32, 48, 32, 49], [114, 117, 110, 32, 51, 32, 52], [112, 114, 111, 118, 101, 32, 51, 32, 52, 32, 47, 32, 49, 50], [112, 114, 111, 118, 101, 32, 51, 32, 52, 32, 47, 32, 49, 51]] := by decide +kernel
  unfold deskA
  rw [e, if_neg (by decide)]
  unfold runA
  simp only [List.foldl_cons, List.foldl_nil]
  have w1 : wordsL [99, 105, 114, 99, 117, 105, 116, 32, 105, 110, 112, 117, 116, 115, 32, 49] = [vCircuit, [105, 110, 112, 117, 116, 115], [49]] := by decide +kernel
  have w2 : wordsL [99, 105, 114, 99, 117, 105, 116, 32, 108, 97, 121, 101, 114, 32, 48] = [vCircuit, [108, 97, 121, 101, 114], [48]] := by decide +kernel
  have w3 : wordsL [99, 105, 114, 99, 117, 105, 116, 32, 109, 117, 108, 32, 48, 32, 49] = [vCircuit, [109, 117, 108], [48], [49]] := by decide +kernel
  have w4 : wordsL [114, 117, 110, 32, 51, 32, 52] = [vRun, [51], [52]] := by decide +kernel
  have w5 : wordsL [112, 114, 111, 118, 101, 32, 51, 32, 52, 32, 47, 32, 49, 50] = [vProve, [51], [52], [47], [49, 50]] := by decide +kernel
  have w6 : wordsL [112, 114, 111, 118, 101, 32, 51, 32, 52, 32, 47, 32, 49, 51] = [vProve, [51], [52], [47], [49, 51]] := by decide +kernel
  rw [lineA_ans w1 (by decide) (doA_circuit [] _ (by simp) (by decide))]
  rw [lineA_ans w2 (by decide) (doA_circuit _ _ (by simp) (by decide))]
  rw [lineA_ans w3 (by decide) (doA_circuit _ _ (by simp) (by decide))]
  rw [show [] ++ joinD [[105, 110, 112, 117, 116, 115], [49]] ++ [10] ++ joinD [[108, 97, 121, 101, 114], [48]] ++ [10] ++ joinD [[109, 117, 108], [48], [49]] ++ [10] = oneL by decide]
  rw [lineA_ans (r := (_, oneL)) w4 (by decide) doA_run]
  rw [lineA_ans (r := (_, oneL)) w5 (by decide) (doA_prove [49, 50] 12 (by decide) (by decide))]
  rw [lineA_ans (r := (_, oneL)) w6 (by decide) (doA_prove [49, 51] 13 (by decide) (by decide))]
  rw [one_good, one_bad]
  rfl
theorem pcs_app (t m : Bs) : pcs 10 (t ++ 10 :: m) = pcs 10 t ++ pcs 10 m := by
  induction t with
  | nil =>
    show pcs 10 (10 :: m) = pcs 10 [] ++ _
    have h := pcs_sep 10 [] m (by simp)
    exact h
  | cons b t ih =>
    by_cases hb : b = 10
    · subst hb
      have h1 := pcs_sep 10 [] (t ++ 10 :: m) (by simp)
      have h2 := pcs_sep 10 [] t (by simp)
      rw [List.nil_append] at h1 h2
      rw [List.cons_append, h1, h2, ih]; rfl
    · obtain ⟨p, ps, e⟩ := pcs_head 10 t
      rw [e] at ih
      rw [List.cons_append, pcs_cons 10 b _ hb (show pcs 10 (t ++ 10 :: m) = p :: (ps ++ pcs 10 m) by rw [ih]; rfl), pcs_cons 10 b _ hb e]; rfl
theorem linesL_pre (t m : Bs) : ∃ r, linesL (t ++ 10 :: m) = linesL t ++ r := by
  have h1 : ∃ r, linesL (t ++ 10 :: m) = pcs 10 t ++ r := by
    unfold linesL
    split
    · rw [pcs_app, List.dropLast_append_of_ne_nil (pcs_ne 10 m)]
      exact ⟨_, rfl⟩
    · rw [pcs_app]
      exact ⟨_, rfl⟩
  have h2 : ∃ r, pcs 10 t = linesL t ++ r := by
    unfold linesL
    split
    · exact ⟨[(pcs 10 t).getLast (pcs_ne 10 t)], (List.dropLast_concat_getLast _).symm⟩
    · exact ⟨[], (List.append_nil _).symm⟩
  obtain ⟨r1, h1⟩ := h1
  obtain ⟨r2, h2⟩ := h2
  exact ⟨r2 ++ r1, by rw [h1, h2, List.append_assoc]⟩
theorem lineA_pre (r : Bs × Bs) (l : Bs) : ∃ x, (lineA r l).1 = r.1 ++ x := by
  unfold lineA
  split
  · exact ⟨[], (List.append_nil _).symm⟩
  · split
    · exact ⟨[], (List.append_nil _).symm⟩
    · exact ⟨_, List.append_assoc _ _ _⟩
theorem foldA_pre (b : List Bs) : ∀ r : Bs × Bs, ∃ x, (b.foldl lineA r).1 = r.1 ++ x := by
  induction b with
  | nil => exact fun r => ⟨[], (List.append_nil _).symm⟩
  | cons l b ih =>
    intro r
    obtain ⟨x, e⟩ := ih (lineA r l)
    obtain ⟨y, e2⟩ := lineA_pre r l
    exact ⟨y ++ x, by rw [List.foldl_cons, e, e2, List.append_assoc]⟩
/-- what is told of a text begins what is told of more -/
theorem deskA_pre (t m : Bs) (h1 : (t ++ 10 :: m).length ≤ 65536) (h2 : (linesL (t ++ 10 :: m)).length ≤ 200) : Lib.hasPrefix (deskA (t ++ 10 :: m)) (deskA t) = true := by
  obtain ⟨r, e⟩ := linesL_pre t m
  have h3 : (linesL t).length ≤ 200 := by rw [e, List.length_append] at h2; omega
  have h4 : t.length ≤ 65536 := by rw [List.length_append] at h1; omega
  unfold deskA
  rw [if_neg (by omega), if_neg (by omega), e]
  obtain ⟨x, ex⟩ := foldA_pre r (runA (linesL t))
  have ex2 : (runA (linesL t ++ r)).1 = (runA (linesL t)).1 ++ x := by
    rw [← ex]; unfold runA; rw [List.foldl_append]
  rw [ex2]
  unfold Lib.hasPrefix
  rw [List.isPrefixOf_iff_prefix]
  exact ⟨x, rfl⟩
set_option maxRecDepth 100000 in
set_option maxHeartbeats 8000000 in
theorem deskHead_walk (t m : ByteArray) (w : World) (ht : t.size < 140737488355328) (hm : m.size < 140737488355328) (hT : Tab w) (hTn : Ten w) :
    Calls Tryz.prog 5 #[.string t, .string m] w fun e w' => e = .returned (.bool true) ∧ Below w.heap.size w w' := by
  obtain ⟨AL, hAL⟩ : ∃ AL : ByteArray, AL = t ++ ⟨#[10]⟩ ++ m := ⟨_, rfl⟩
  have HAL := Lib.hid hAL
  have hsz : AL.size = t.size + 1 + m.size := by rw [hAL, ByteArray.size_append, ByteArray.size_append]; rfl
  have hal : AL.data.toList = t.data.toList ++ 10 :: m.data.toList := by rw [hAL]; simp
  have C0 := Lib.hid (desk_Run (mkB askL) w (by decide) hT hTn)
  have e0 : deskA (mkB askL).data.toList = saidL := by rw [mkB_data]; exact desk_ask
  rw [e0] at C0
  unfold askL saidL at C0
  have HT := Lib.hid hT; have HTn := Lib.hid hTn
  have CA := Lib.hid (fun (h : AL.size ≤ 65536) X (hX : Below w.heap.size w X) => desk_Run AL X (by omega) (HT.out.below hX) (HTn.out.go hX))
  have CB := Lib.hid (fun (h : AL.size ≤ 65536) X (hX : Below w.heap.size w X) => desk_Run t X (by omega) (HT.out.below hX) (HTn.out.go hX))
  have CT := Lib.hid (fun X (h : AL.size ≤ 65536) => ref_TextLines AL X (by omega))
  have HP := Lib.hid (show AL.size ≤ 65536 → (linesL AL.data.toList).length ≤ 200 → Lib.hasPrefix (deskA AL.data.toList) (deskA t.data.toList) = true from fun h1 h2 => by
    have h3 : AL.data.toList.length = AL.size := by rw [Array.length_toList]; rfl
    rw [← h3] at h1
    rw [hal] at h1 h2 ⊢
    exact deskA_pre _ _ h1 h2)
  obtain ⟨DA, hDA⟩ : ∃ DA, DA = deskA AL.data.toList := ⟨_, rfl⟩
  obtain ⟨DB, hDB⟩ : ∃ DB, DB = deskA t.data.toList := ⟨_, rfl⟩
  obtain ⟨LS, hLS⟩ : ∃ LS, LS = linesL AL.data.toList := ⟨_, rfl⟩
  rw [← hDA] at CA HP
  rw [← hDB] at CB HP
  rw [← hLS] at CT HP
  clear hT hTn e0 hAL hal hDA hDB hLS
  go_enter Tryz.func5, Tryz.ntmps5
  have hne : ((mkB [111, 107, 10, 111, 107, 10, 111, 107, 10, 49, 50, 10, 104, 111, 108, 100, 115, 10, 102, 97, 105, 108, 115, 10]) != ⟨#[111, 107, 10, 111, 107, 10, 111, 107, 10, 49, 50, 10, 104, 111, 108, 100, 115, 10, 102, 97, 105, 108, 115, 10]⟩) = false := by decide
  go_wp2_with (fail)
  refine C0.out.mono ?_
  rintro e w1 ⟨rfl, hb⟩
  have HB1 := Lib.hid hb
  clear hb C0
  go_upto_region 3 with (fail)
  clear hne
  go_cut [5] (fun x wx => x = .string AL ∧ w1 = wx)
  case first =>
    go_wp2
    go_meet
    case rel => exact ⟨by rw [HAL.out], rfl⟩
  case rest =>
    obtain ⟨rfl, rfl⟩ := hcut
    by_cases hbig : 65536 < (AL.size : Int)
    · go_wp2
      go_ret
      exact ⟨rfl, HB1.out⟩
    · have hA65 : AL.size ≤ 65536 := by omega
      have CT1 := Lib.hid (CT.out w1 hA65)
      have HP1 := Lib.hid (HP.out hA65)
      have CA1 := Lib.hid (CA.out hA65)
      have CB1 := Lib.hid (CB.out hA65)
      clear HP CT CA CB
      go_wp2_with (fail)
      refine CT1.out.mono ?_
      rintro e w2 ⟨v2, rfl, hr2, hb⟩
      have HB2 := Lib.hid (below_two HB1.out hb)
      obtain ⟨hLM, a2, c2, rfl, -⟩ := hr2
      clear hb CT1
      obtain ⟨N, hN⟩ : ∃ N, N = LS.length := ⟨_, rfl⟩
      rw [← hN] at hLM HP1 ⊢
      clear hN
      by_cases hN2 : 200 < (N : Int)
      · go_wp2
        go_ret
        exact ⟨rfl, HB2.out⟩
      · have HP2 := Lib.hid (HP1.out (by omega))
        clear HP1
        go_wp2_with (fail)
        refine (CA1.out w2 HB2.out).mono ?_
        rintro e w3 ⟨rfl, hb⟩
        have HB3 := Lib.hid (below_two HB2.out hb)
        clear hb CA1
        go_wp2_with (fail)
        refine (CB1.out w3 HB3.out).mono ?_
        rintro e w4 ⟨rfl, hb⟩
        have HB4 := Lib.hid (below_two HB3.out hb)
        clear hb CB1
        have CP := Lib.hid (Tryz.strings_HasPrefix (mkB DA) (mkB DB) w4)
        rw [mkB_data, mkB_data, HP2.out] at CP
        go_wp2_with (fail)
        refine CP.out.mono ?_
        rintro e w5 ⟨rfl, rfl⟩
        go_wp2
        go_ret
        exact ⟨rfl, HB4.out⟩
end Go.Proofs.YtlfneeobnihocaaGreatDoor
