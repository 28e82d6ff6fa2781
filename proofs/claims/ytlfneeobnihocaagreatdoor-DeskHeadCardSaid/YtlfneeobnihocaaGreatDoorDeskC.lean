/- Several texts in one: DeskB, DeskC. What each says, and its conditions, stands at its head. -/
import Derived.Test.YtlfneeobnihocaaGreatDoorNetW
/- The walks of the desk's two, listed, more and do. The tables lie as their initialisers lay them. -/
namespace Go.Proofs.YtlfneeobnihocaaGreatDoor
set_option maxRecDepth 100000
set_option linter.unusedVariables false
open Go.RowKit Tally
theorem vb_no {v k : Bs} (h : v ≠ k) : (v == k) = false := beq_false_of_ne h
theorem vb_yes {v k : Bs} (h : v = k) : (v == k) = true := beq_iff_eq.mpr h

set_option maxHeartbeats 4000000 in
theorem desk_two (v : Bs) (a b : Int) (w : World) (hT : Ten w) (ha : U64 a) (hb : U64 b) :
    Calls Tryz.prog 73 #[.string (mkB v), .int .u64 a, .int .u64 b] w fun e w' => e = .returned (.tuple #[.string (mkB ((twoA v a b).getD [])), .bool (twoA v a b).isSome]) ∧ Below w.heap.size w w' := by
  have HT := Lib.hid hT
  obtain ⟨RA, hRA⟩ : ∃ RA, RA = twoA v a b := ⟨_, rfl⟩
  have HRA := Lib.hid hRA
  rw [← hRA]
  clear hT hRA
  by_cases h0 : v = vAdd
  · have HR2 := Lib.hid (show RA = some (decL (psi (phi a + phi b))) by rw [HRA.out, twoA, if_pos h0])
    have k0 : (v == [97, 100, 100]) = true := vb_yes h0
    clear h0
    obtain ⟨RN, hRN⟩ : ∃ RN, RN = psi (phi a + phi b) := ⟨_, rfl⟩
    have hu : U64 RN := by rw [hRN]; exact U64.psi _
    rw [← hRN] at HR2
    have hF := Lib.hid (field_Add a b w ha hb)
    rw [← hRN] at hF
    clear hRN
    go_enter Tryz.func73, Tryz.ntmps73
    go_wp2_with (fail)
    refine hF.out.mono ?_
    rintro e w' ⟨rfl, rfl⟩
    go_wp2_with (fail)
    refine (desk_told RN 0 w hu (by decide) (by decide) HT.out).mono ?_
    rintro e w' ⟨rfl, hb'⟩
    have HB := Lib.hid hb'
    clear hb'
    go_wp2_with (fail)
    exact bodyPost_ret (v := .tuple #[.string (mkB (toldL RN 0)), .bool true]) (by simp [results, Tryz.results73, go_sem]) rfl ⟨by rw [HR2.out]; rfl, HB.out⟩
  · skip
    by_cases h1 : v = vSub
    · have HR2 := Lib.hid (show RA = some (decL (psi (phi a - phi b))) by rw [HRA.out, twoA, if_neg h0, if_pos h1])
      have k0 : (v == [97, 100, 100]) = false := vb_no h0
      have k1 : (v == [115, 117, 98]) = true := vb_yes h1
      clear h0 h1
      obtain ⟨RN, hRN⟩ : ∃ RN, RN = psi (phi a - phi b) := ⟨_, rfl⟩
      have hu : U64 RN := by rw [hRN]; exact U64.psi _
      rw [← hRN] at HR2
      have hF := Lib.hid (field_Sub a b w ha hb)
      rw [← hRN] at hF
      clear hRN
      go_enter Tryz.func73, Tryz.ntmps73
      go_wp2_with (fail)
      refine hF.out.mono ?_
      rintro e w' ⟨rfl, rfl⟩
      go_wp2_with (fail)
      refine (desk_told RN 0 w hu (by decide) (by decide) HT.out).mono ?_
      rintro e w' ⟨rfl, hb'⟩
      have HB := Lib.hid hb'
      clear hb'
      go_wp2_with (fail)
      exact bodyPost_ret (v := .tuple #[.string (mkB (toldL RN 0)), .bool true]) (by simp [results, Tryz.results73, go_sem]) rfl ⟨by rw [HR2.out]; rfl, HB.out⟩
    · skip
      by_cases h2 : v = vMul
      · have HR2 := Lib.hid (show RA = some (decL (psi (phi a * phi b))) by rw [HRA.out, twoA, if_neg h0, if_neg h1, if_pos h2])
        have k0 : (v == [97, 100, 100]) = false := vb_no h0
        have k1 : (v == [115, 117, 98]) = false := vb_no h1
        have k2 : (v == [109, 117, 108]) = true := vb_yes h2
        clear h0 h1 h2
        obtain ⟨RN, hRN⟩ : ∃ RN, RN = psi (phi a * phi b) := ⟨_, rfl⟩
        have hu : U64 RN := by rw [hRN]; exact U64.psi _
        rw [← hRN] at HR2
        have hF := Lib.hid (field_Mul a b w ha hb)
        rw [← hRN] at hF
        clear hRN
        go_enter Tryz.func73, Tryz.ntmps73
        go_wp2_with (fail)
        refine hF.out.mono ?_
        rintro e w' ⟨rfl, rfl⟩
        go_wp2_with (fail)
        refine (desk_told RN 0 w hu (by decide) (by decide) HT.out).mono ?_
        rintro e w' ⟨rfl, hb'⟩
        have HB := Lib.hid hb'
        clear hb'
        go_wp2_with (fail)
        exact bodyPost_ret (v := .tuple #[.string (mkB (toldL RN 0)), .bool true]) (by simp [results, Tryz.results73, go_sem]) rfl ⟨by rw [HR2.out]; rfl, HB.out⟩
      · skip
        by_cases h3 : v = vPow
        · have HR2 := Lib.hid (show RA = some (decL (psi (phi a ^ b.toNat))) by rw [HRA.out, twoA, if_neg h0, if_neg h1, if_neg h2, if_pos h3])
          have k0 : (v == [97, 100, 100]) = false := vb_no h0
          have k1 : (v == [115, 117, 98]) = false := vb_no h1
          have k2 : (v == [109, 117, 108]) = false := vb_no h2
          have k3 : (v == [112, 111, 119]) = true := vb_yes h3
          clear h0 h1 h2 h3
          obtain ⟨RN, hRN⟩ : ∃ RN, RN = psi (phi a ^ b.toNat) := ⟨_, rfl⟩
          have hu : U64 RN := by rw [hRN]; exact U64.psi _
          rw [← hRN] at HR2
          have hF := Lib.hid (field_Pow a b w ha hb)
          rw [← hRN] at hF
          clear hRN
          go_enter Tryz.func73, Tryz.ntmps73
          go_wp2_with (fail)
          refine hF.out.mono ?_
          rintro e w' ⟨rfl, rfl⟩
          go_wp2_with (fail)
          refine (desk_told RN 0 w hu (by decide) (by decide) HT.out).mono ?_
          rintro e w' ⟨rfl, hb'⟩
          have HB := Lib.hid hb'
          clear hb'
          go_wp2_with (fail)
          exact bodyPost_ret (v := .tuple #[.string (mkB (toldL RN 0)), .bool true]) (by simp [results, Tryz.results73, go_sem]) rfl ⟨by rw [HR2.out]; rfl, HB.out⟩
        · skip
          have HR2 := Lib.hid (show RA = none by rw [HRA.out, twoA, if_neg h0, if_neg h1, if_neg h2, if_neg h3])
          have k0 := vb_no h0
          have k1 := vb_no h1
          have k2 := vb_no h2
          have k3 := vb_no h3
          have k4 : (v == [97, 100, 100]) = false := k0
          have k5 : (v == [115, 117, 98]) = false := k1
          have k6 : (v == [109, 117, 108]) = false := k2
          have k7 : (v == [112, 111, 119]) = false := k3
          clear h0 h1 h2 h3 k0 k1 k2 k3
          go_enter Tryz.func73, Tryz.ntmps73
          go_wp2
          exact bodyPost_ret (v := .tuple #[.string ⟨#[]⟩, .bool false]) (by simp [results, Tryz.results73, go_sem]) rfl ⟨by rw [HR2.out]; rfl, Below.refl _ _⟩
theorem isTab_of {n k : Nat} (h8 : k ≤ 8) (h : n = 2 ^ k) : IsTab n ∧ n.log2 = k := by
  subst h
  have e : (2 ^ k).log2 = k := Nat.log2_two_pow
  exact ⟨⟨by rw [e]; exact h8, by rw [e]⟩, e⟩
theorem noTab_of {n : Nat} (h : ¬ IsTab n) : NoTab n := fun k h8 e => h (isTab_of h8 e).1
/-- an answer of two numbers is told so -/
def Tells (RA : Bs) (e : Ending) : Prop := ∃ x er, e = .returned (.tuple #[.int .u64 x, .int .i64 er]) ∧ U64 x ∧ 0 ≤ er ∧ er < 100 ∧ toldL x er = RA
theorem tells_num {x : Int} (hx : U64 x) : Tells (decL x) (.returned (.tuple #[.int .u64 x, .int .i64 0])) := ⟨x, 0, rfl, hx, by decide, by decide, rfl⟩
theorem tells_err {er : Int} (h0 : 0 < er) (h1 : er < 100) : Tells (errL er) (.returned (.tuple #[.int .u64 0, .int .i64 er])) := ⟨0, er, rfl, U64.zero, by omega, h1, by unfold toldL; rw [if_neg (by omega)]⟩
theorem t_Sum (n : List Int) (v : Value) (w : World) (hT : Tab w) (hn : RowU w v n) : Calls Tryz.prog 68 #[v] w fun e w' => Tells (sumA n) e ∧ Below w.heap.size w w' := by
  by_cases h : IsTab n.length
  · refine (mle_Sum n _ v w hT hn h.2 h.1).mono ?_
    rintro e w' ⟨rfl, rfl⟩
    exact ⟨by rw [sumA, if_pos h]; exact tells_num (U64.psi _), Below.refl _ _⟩
  · refine (mle_Sum_no n v w hT hn (noTab_of h)).mono ?_
    rintro e w' ⟨rfl, rfl⟩
    exact ⟨by rw [sumA, if_neg h]; exact tells_err (by decide) (by decide), Below.refl _ _⟩
theorem t_Root (n : List Int) (v : Value) (w : World) (hT : Tab w) (hn : RowU w v n) : Calls Tryz.prog 69 #[v] w fun e w' => Tells (rootA n) e ∧ Below w.heap.size w w' := by
  by_cases h : IsTab n.length
  · refine (tree_Root n _ v w hT hn h.2 h.1).mono ?_
    rintro e w' ⟨rfl, hb⟩
    exact ⟨by rw [rootA, if_pos h]; exact tells_num (U64.psi _), hb⟩
  · refine (tree_Root_no n v w hT hn (noTab_of h)).mono ?_
    rintro e w' ⟨rfl, rfl⟩
    exact ⟨by rw [rootA, if_neg h]; exact tells_err (by decide) (by decide), Below.refl _ _⟩
theorem t_Eval (a b : List Int) (v v2 : Value) (w : World) (hT : Tab w) (ha : RowU w v a) (hb : RowU w v2 b) : Calls Tryz.prog 34 #[v, v2] w fun e w' => Tells (evalA a b) e ∧ Below w.heap.size w w' := by
  by_cases h : IsTab a.length
  · by_cases h2 : b.length = a.length.log2
    · refine (mle_Eval a b v v2 w hT ha hb (by rw [h2]; exact h.2) (by rw [h2]; exact h.1)).mono ?_
      rintro e w' ⟨rfl, hb⟩
      exact ⟨by rw [evalA, if_pos h, if_pos h2]; exact tells_num (U64.psi _), hb⟩
    · refine (mle_Eval_arg a b _ v v2 w hT ha hb h.2 h.1 h2).mono ?_
      rintro e w' ⟨rfl, rfl⟩
      exact ⟨by rw [evalA, if_pos h, if_neg h2]; exact tells_err (by decide) (by decide), Below.refl _ _⟩
  · refine (mle_Eval_no a v v2 w hT ha (noTab_of h)).mono ?_
    rintro e w' ⟨rfl, rfl⟩
    exact ⟨by rw [evalA, if_neg h]; exact tells_err (by decide) (by decide), Below.refl _ _⟩
theorem t_Inv (x : Int) (w : World) (hx : U64 x) : Calls Tryz.prog 72 #[.int .u64 x] w fun e w' => Tells (invA x) e ∧ Below w.heap.size w w' := by
  by_cases h : phi x = 0
  · refine (field_Inv_zero x w hx h).mono ?_
    rintro e w' ⟨rfl, rfl⟩
    exact ⟨by rw [invA, if_pos h]; exact tells_err (by decide) (by decide), Below.refl _ _⟩
  · refine (field_Inv x w hx h).mono ?_
    rintro e w' ⟨rfl, rfl⟩
    exact ⟨by rw [invA, if_neg h]; exact tells_num (U64.psi _), Below.refl _ _⟩

set_option maxHeartbeats 8000000 in
theorem desk_listed (db : Nat) (t v : Bs) (vn : Value) (n : List Int) (w : World) (hT : Tab w) (hTn : Ten w) (ht : t.length ≤ 4096) (hd : w.cell? ⟨db, 0, none⟩ = some (.string (mkB t))) (hn : RowU w vn n) :
    Calls Tryz.prog 38 #[.pointer (some ⟨db, 0, none⟩), .string (mkB v), vn] w fun e w' => e = .returned (.string (mkB (listA t v n))) ∧ Below w.heap.size w w' := by
  have HT := Lib.hid hT; have HTn := Lib.hid hTn; have Hd := Lib.hid hd; have Hn := Lib.hid hn
  obtain ⟨RA, hRA⟩ : ∃ RA, RA = listA t v n := ⟨_, rfl⟩
  have HRA := Lib.hid hRA
  rw [← hRA]
  obtain ⟨hun, -, an, cn, rfl, hrow⟩ := hn
  have Hun := Lib.hid hun; have Hrow := Lib.hid hrow
  obtain ⟨nl, hnl⟩ : ∃ nl, nl = n.length := ⟨_, rfl⟩
  have Hnl := Lib.hid hnl
  rw [← hnl] at Hn ⊢
  obtain ⟨W1, hW1, kb, B1, s1⟩ := copied1' w (.slice an nl cn) 53
  obtain ⟨nb, hnb⟩ : ∃ nb, nb = w.heap.size := ⟨_, rfl⟩
  rw [← hnb] at kb s1
  have HB1 := Lib.hid B1
  have hnb1 : nb < W1.heap.size := by omega
  have hdl := blk_of hd
  have Hn1 := Lib.hid (Hn.out.go B1)
  have Hd1 := Lib.hid ((B1.cell (p := ⟨db, 0, none⟩) hdl).trans hd)
  have HnbE := Lib.hid hnb
  have hW1b : w.alloc (.cells #[.slice an nl cn] 53) = W1 := hW1
  have HW1 := Lib.hid hW1b
  clear hT hTn hd hRA hun hrow hnl B1 s1 hnb hdl hW1 hW1b
  by_cases h0 : v = vSum
  · have HR2 := Lib.hid (show RA = sumA n by rw [HRA.out, listA, if_pos h0])
    have k0 : (v == [115, 117, 109]) = true := vb_yes h0
    clear h0
    go_enter Tryz.func38, Tryz.ntmps38
    go_upto_region 1 with fail
    rw [HW1.out, ← HnbE.out]
    go_wp2_with (fail)
    refine (t_Sum n _ W1 (HT.out.below HB1.out) Hn1.out).mono ?_
    rintro e w2 ⟨⟨x, er, rfl, hx, he0, he1, htl⟩, hb⟩
    have HB2 := Lib.hid (below_two HB1.out hb)
    have HR3 := Lib.hid (show RA = toldL x er by rw [HR2.out, htl])
    clear hb htl
    go_wp2_with (fail)
    refine (desk_told x er w2 hx he0 he1 (HTn.out.go HB2.out)).mono ?_
    rintro e w3 ⟨rfl, hb⟩
    have HB3 := Lib.hid (below_two HB2.out hb)
    clear hb kb
    go_wp2
    go_ret
    exact ⟨by rw [HR3.out]; rfl, HB3.out⟩
  · skip
    by_cases h1 : v = vRoot
    · have HR2 := Lib.hid (show RA = rootA n by rw [HRA.out, listA, if_neg h0, if_pos h1])
      have k0 : (v == [115, 117, 109]) = false := vb_no h0
      have k1 : (v == [114, 111, 111, 116]) = true := vb_yes h1
      clear h0 h1
      go_enter Tryz.func38, Tryz.ntmps38
      go_upto_region 1 with fail
      rw [HW1.out, ← HnbE.out]
      go_wp2_with (fail)
      refine (t_Root n _ W1 (HT.out.below HB1.out) Hn1.out).mono ?_
      rintro e w2 ⟨⟨x, er, rfl, hx, he0, he1, htl⟩, hb⟩
      have HB2 := Lib.hid (below_two HB1.out hb)
      have HR3 := Lib.hid (show RA = toldL x er by rw [HR2.out, htl])
      clear hb htl
      go_wp2_with (fail)
      refine (desk_told x er w2 hx he0 he1 (HTn.out.go HB2.out)).mono ?_
      rintro e w3 ⟨rfl, hb⟩
      have HB3 := Lib.hid (below_two HB2.out hb)
      clear hb kb
      go_wp2
      go_ret
      exact ⟨by rw [HR3.out]; rfl, HB3.out⟩
    · skip
      by_cases h2 : v = vRun
      · have HR2 := Lib.hid (show RA = netA t fun c => ranA c n by rw [HRA.out, listA, if_neg h0, if_neg h1, if_pos h2])
        have k0 : (v == [115, 117, 109]) = false := vb_no h0
        have k1 : (v == [114, 111, 111, 116]) = false := vb_no h1
        have k2 : (v == [114, 117, 110]) = true := vb_yes h2
        clear h0 h1 h2
        go_enter Tryz.func38, Tryz.ntmps38
        go_upto_region 1 with fail
        rw [HW1.out, ← HnbE.out]
        go_wp2_with (fail)
        refine (desk_netted_run db t nb _ n W1 (HTn.out.go HB1.out) ht Hd1.out (HTn.out.go HB1.out) kb Hn1.out).mono ?_
        rintro e w3 ⟨rfl, hb⟩
        have HB3 := Lib.hid (below_two HB1.out hb)
        clear hb kb
        go_wp2
        go_ret
        exact ⟨by rw [HR2.out]; rfl, HB3.out⟩
      · skip
        by_cases h3 : v = vInv
        · by_cases hl1 : nl = 1
          · have HR2 := Lib.hid (show RA = invA (at0 n 0) by rw [HRA.out, listA, if_neg h0, if_neg h1, if_neg h2, if_pos ⟨h3, by rw [← Hnl.out]; exact hl1⟩])
            subst hl1
            have k0 : (v == [115, 117, 109]) = false := vb_no h0
            have k1 : (v == [114, 111, 111, 116]) = false := vb_no h1
            have k2 : (v == [114, 117, 110]) = false := vb_no h2
            have k3 : (v == [105, 110, 118]) = true := vb_yes h3
            clear h0 h1 h2 h3
            go_enter Tryz.func38, Tryz.ntmps38
            go_upto_region 1 with fail
            rw [HW1.out, ← HnbE.out]
            obtain ⟨b, off, rfl, hbl, hcell⟩ := Hrow.out (by rw [← Hnl.out]; decide)
            have c0 := hcell 0 (by rw [← Hnl.out]; decide)
            rw [Nat.add_zero] at c0
            have u0 := Hun.out _ (at0_mem (l := n) (j := 0) (by rw [← Hnl.out]; decide))
            obtain ⟨y0, hy0⟩ : ∃ y, y = at0 n 0 := ⟨_, rfl⟩
            rw [← hy0] at c0 u0 HR2
            have c0' := (HB1.out.cell (p := ⟨b, off, none⟩) hbl).trans c0
            clear hcell hy0 hbl c0
            go_wp2_with (fail)
            refine (t_Inv y0 W1 u0).mono ?_
            rintro e w2 ⟨⟨x, er, rfl, hx, he0, he1, htl⟩, hb⟩
            have HB2 := Lib.hid (below_two HB1.out hb)
            have HR3 := Lib.hid (show RA = toldL x er by rw [HR2.out, htl])
            clear hb htl
            go_wp2_with (fail)
            refine (desk_told x er w2 hx he0 he1 (HTn.out.go HB2.out)).mono ?_
            rintro e w3 ⟨rfl, hb⟩
            have HB3 := Lib.hid (below_two HB2.out hb)
            clear hb kb
            go_wp2
            go_ret
            exact ⟨by rw [HR3.out]; rfl, HB3.out⟩
          · have hl1' : ((nl : Int) == 1) = false := beq_false_of_ne (by omega)
            by_cases hl2 : nl = 2
            · have HR2 := Lib.hid (show RA = (twoA v (at0 n 0) (at0 n 1)).getD (errL 3) by rw [HRA.out, listA, if_neg h0, if_neg h1, if_neg h2, if_neg (fun h => hl1 (by rw [Hnl.out]; exact h.2)), if_pos (by rw [← Hnl.out]; exact hl2)])
              subst hl2
              have k0 : (v == [115, 117, 109]) = false := vb_no h0
              have k1 : (v == [114, 111, 111, 116]) = false := vb_no h1
              have k2 : (v == [114, 117, 110]) = false := vb_no h2
              have k3 : (v == [105, 110, 118]) = true := vb_yes h3
              clear h0 h1 h2 h3
              try clear hl1
              go_enter Tryz.func38, Tryz.ntmps38
              go_upto_region 1 with fail
              rw [HW1.out, ← HnbE.out]
              obtain ⟨b, off, rfl, hbl, hcell⟩ := Hrow.out (by rw [← Hnl.out]; decide)
              have c0 := hcell 0 (by rw [← Hnl.out]; decide)
              have c1 := hcell 1 (by rw [← Hnl.out]; decide)
              rw [Nat.add_zero] at c0
              have u0 := Hun.out _ (at0_mem (l := n) (j := 0) (by rw [← Hnl.out]; decide))
              have u1 := Hun.out _ (at0_mem (l := n) (j := 1) (by rw [← Hnl.out]; decide))
              obtain ⟨y0, hy0⟩ : ∃ y, y = at0 n 0 := ⟨_, rfl⟩
              obtain ⟨y1, hy1⟩ : ∃ y, y = at0 n 1 := ⟨_, rfl⟩
              rw [← hy0] at c0 u0 HR2
              rw [← hy1] at c1 u1 HR2
              have K9 := Lib.hid (show ∀ X, Below W1.heap.size W1 X → Below W1.heap.size W1 X ∧ X.cell? ⟨nb, 0, none⟩ = some (.slice (some ⟨b, off, none⟩) 2 cn) ∧ X.cell? ⟨b, off, none⟩ = some (.int .u64 y0) ∧ X.cell? ⟨b, off + 1, none⟩ = some (.int .u64 y1) from fun X hX => ⟨hX, (hX.cell (p := ⟨nb, 0, none⟩) hnb1).trans kb, ((HB1.out.trans (hX.mono HB1.out.size)).cell (p := ⟨b, off, none⟩) hbl).trans c0, ((HB1.out.trans (hX.mono HB1.out.size)).cell (p := ⟨b, off + 1, none⟩) hbl).trans c1⟩)
              have CT := Lib.hid (fun X (hX : Below W1.heap.size W1 X) => desk_two v y0 y1 X (HTn.out.go (below_two HB1.out hX)) u0 u1)
              clear hcell hy0 hy1 hbl
              obtain ⟨TA, hTA⟩ : ∃ TA, TA = twoA v y0 y1 := ⟨_, rfl⟩
              rw [← hTA] at CT HR2
              clear hTA
              go_upto_region 12 with fail
              obtain ⟨c0', c0'', c1', c2'⟩ := K9.out W1 (Below.refl _ _)
              go_region_held3 (fun w' => Below W1.heap.size W1 w' ∧ w'.cell? ⟨nb, 0, none⟩ = some (.slice (some ⟨b, off, none⟩) 2 cn) ∧ w'.cell? ⟨b, off, none⟩ = some (.int .u64 y0) ∧ w'.cell? ⟨b, off + 1, none⟩ = some (.int .u64 y1))
                (first | (refine K9.out _ ?_; (repeat (first | assumption | (with_reducible exact Below.refl _ _) | (with_reducible refine below_dw ?_) | (with_reducible refine below_al' ?_) | (with_reducible refine below_two ?_ (by assumption)))); done))
                (first | (go_at_call 73; go_split_ands; (with_reducible refine (CT.out _ (by assumption)).mono ?_); rintro e w2 ⟨rfl, hb2⟩))
              have HB2 := Lib.hid (below_two HB1.out (show Below W1.heap.size W1 w2 by (repeat (first | assumption | (with_reducible exact Below.refl _ _) | (with_reducible refine below_dw ?_) | (with_reducible refine below_al' ?_) | (with_reducible refine below_two ?_ (by assumption))))))
              cases TA with
              | some sa =>
                go_wp2
                go_ret
                exact ⟨by rw [HR2.out]; rfl, HB2.out⟩
              | none =>
                go_wp2_with (go_at_call 29; refine (desk_failed 3 _ (by decide) (by decide)).mono ?_; rintro e w' ⟨rfl, rfl⟩)
                go_ret
                exact ⟨by rw [HR2.out]; rfl, HB2.out⟩
            · have HR2 := Lib.hid (show RA = errL 3 by rw [HRA.out, listA, if_neg h0, if_neg h1, if_neg h2, if_neg (fun h => hl1 (by rw [Hnl.out]; exact h.2)), if_neg (by rw [← Hnl.out]; exact hl2)])
              have hl2' : ((nl : Int) == 2) = false := beq_false_of_ne (by omega)
              have k0 : (v == [115, 117, 109]) = false := vb_no h0
              have k1 : (v == [114, 111, 111, 116]) = false := vb_no h1
              have k2 : (v == [114, 117, 110]) = false := vb_no h2
              have k3 : (v == [105, 110, 118]) = true := vb_yes h3
              clear hl2 h0 h1 h2 h3
              try clear hl1
              go_enter Tryz.func38, Tryz.ntmps38
              go_upto_region 1 with fail
              rw [HW1.out, ← HnbE.out]
              go_wp2_with (go_at_call 29; refine (desk_failed 3 _ (by decide) (by decide)).mono ?_; rintro e w' ⟨rfl, rfl⟩)
              go_ret
              exact ⟨by rw [HR2.out]; rfl, HB1.out⟩
        · skip
          by_cases hl2 : nl = 2
          · have HR2 := Lib.hid (show RA = (twoA v (at0 n 0) (at0 n 1)).getD (errL 3) by rw [HRA.out, listA, if_neg h0, if_neg h1, if_neg h2, if_neg (fun h => h3 h.1), if_pos (by rw [← Hnl.out]; exact hl2)])
            subst hl2
            have k0 : (v == [115, 117, 109]) = false := vb_no h0
            have k1 : (v == [114, 111, 111, 116]) = false := vb_no h1
            have k2 : (v == [114, 117, 110]) = false := vb_no h2
            have k3 : (v == [105, 110, 118]) = false := vb_no h3
            clear h0 h1 h2 h3
            try clear hl1
            go_enter Tryz.func38, Tryz.ntmps38
            go_upto_region 1 with fail
            rw [HW1.out, ← HnbE.out]
            obtain ⟨b, off, rfl, hbl, hcell⟩ := Hrow.out (by rw [← Hnl.out]; decide)
            have c0 := hcell 0 (by rw [← Hnl.out]; decide)
            have c1 := hcell 1 (by rw [← Hnl.out]; decide)
            rw [Nat.add_zero] at c0
            have u0 := Hun.out _ (at0_mem (l := n) (j := 0) (by rw [← Hnl.out]; decide))
            have u1 := Hun.out _ (at0_mem (l := n) (j := 1) (by rw [← Hnl.out]; decide))
            obtain ⟨y0, hy0⟩ : ∃ y, y = at0 n 0 := ⟨_, rfl⟩
            obtain ⟨y1, hy1⟩ : ∃ y, y = at0 n 1 := ⟨_, rfl⟩
            rw [← hy0] at c0 u0 HR2
            rw [← hy1] at c1 u1 HR2
            have K9 := Lib.hid (show ∀ X, Below W1.heap.size W1 X → Below W1.heap.size W1 X ∧ X.cell? ⟨nb, 0, none⟩ = some (.slice (some ⟨b, off, none⟩) 2 cn) ∧ X.cell? ⟨b, off, none⟩ = some (.int .u64 y0) ∧ X.cell? ⟨b, off + 1, none⟩ = some (.int .u64 y1) from fun X hX => ⟨hX, (hX.cell (p := ⟨nb, 0, none⟩) hnb1).trans kb, ((HB1.out.trans (hX.mono HB1.out.size)).cell (p := ⟨b, off, none⟩) hbl).trans c0, ((HB1.out.trans (hX.mono HB1.out.size)).cell (p := ⟨b, off + 1, none⟩) hbl).trans c1⟩)
            have CT := Lib.hid (fun X (hX : Below W1.heap.size W1 X) => desk_two v y0 y1 X (HTn.out.go (below_two HB1.out hX)) u0 u1)
            clear hcell hy0 hy1 hbl
            obtain ⟨TA, hTA⟩ : ∃ TA, TA = twoA v y0 y1 := ⟨_, rfl⟩
            rw [← hTA] at CT HR2
            clear hTA
            go_upto_region 12 with fail
            obtain ⟨c0', c0'', c1', c2'⟩ := K9.out W1 (Below.refl _ _)
            go_region_held3 (fun w' => Below W1.heap.size W1 w' ∧ w'.cell? ⟨nb, 0, none⟩ = some (.slice (some ⟨b, off, none⟩) 2 cn) ∧ w'.cell? ⟨b, off, none⟩ = some (.int .u64 y0) ∧ w'.cell? ⟨b, off + 1, none⟩ = some (.int .u64 y1))
              (first | (refine K9.out _ ?_; (repeat (first | assumption | (with_reducible exact Below.refl _ _) | (with_reducible refine below_dw ?_) | (with_reducible refine below_al' ?_) | (with_reducible refine below_two ?_ (by assumption)))); done))
              (first | (go_at_call 73; go_split_ands; (with_reducible refine (CT.out _ (by assumption)).mono ?_); rintro e w2 ⟨rfl, hb2⟩))
            have HB2 := Lib.hid (below_two HB1.out (show Below W1.heap.size W1 w2 by (repeat (first | assumption | (with_reducible exact Below.refl _ _) | (with_reducible refine below_dw ?_) | (with_reducible refine below_al' ?_) | (with_reducible refine below_two ?_ (by assumption))))))
            cases TA with
            | some sa =>
              go_wp2
              go_ret
              exact ⟨by rw [HR2.out]; rfl, HB2.out⟩
            | none =>
              go_wp2_with (go_at_call 29; refine (desk_failed 3 _ (by decide) (by decide)).mono ?_; rintro e w' ⟨rfl, rfl⟩)
              go_ret
              exact ⟨by rw [HR2.out]; rfl, HB2.out⟩
          · have HR2 := Lib.hid (show RA = errL 3 by rw [HRA.out, listA, if_neg h0, if_neg h1, if_neg h2, if_neg (fun h => h3 h.1), if_neg (by rw [← Hnl.out]; exact hl2)])
            have hl2' : ((nl : Int) == 2) = false := beq_false_of_ne (by omega)
            have k0 : (v == [115, 117, 109]) = false := vb_no h0
            have k1 : (v == [114, 111, 111, 116]) = false := vb_no h1
            have k2 : (v == [114, 117, 110]) = false := vb_no h2
            have k3 : (v == [105, 110, 118]) = false := vb_no h3
            clear hl2 h0 h1 h2 h3
            try clear hl1
            go_enter Tryz.func38, Tryz.ntmps38
            go_upto_region 1 with fail
            rw [HW1.out, ← HnbE.out]
            go_wp2_with (go_at_call 29; refine (desk_failed 3 _ (by decide) (by decide)).mono ?_; rintro e w' ⟨rfl, rfl⟩)
            go_ret
            exact ⟨by rw [HR2.out]; rfl, HB1.out⟩
end Go.Proofs.YtlfneeobnihocaaGreatDoor

/- The walks of the desk's more and do. The tables lie as their initialisers lay them. -/
namespace Go.Proofs.YtlfneeobnihocaaGreatDoor
set_option maxRecDepth 100000
set_option linter.unusedVariables false
open Go.RowKit Tally
/-- the desk lies in block db, with the text t -/
def DeskAt (db : Nat) (t : Bs) (w : World) : Prop := w.heap[db]? = some (.cells #[.string (mkB t)] 31 (0, 0)) ∧ t.length ≤ 4096
theorem DeskAt.cell {db : Nat} {t : Bs} {w : World} (h : DeskAt db t w) : w.cell? ⟨db, 0, none⟩ = some (.string (mkB t)) := cell_blk h.1 0
theorem DeskAt.go {db : Nat} {t : Bs} {w w' : World} (h : DeskAt db t w) (hb : Below w.heap.size w w') : DeskAt db t w' := ⟨(hb.block db (blk_lt h.1)).trans h.1, h.2⟩
theorem DeskAt.put {db : Nat} {t t' : Bs} {w : World} (h : DeskAt db t w) (hl : t'.length ≤ 4096) : DeskAt db t' (w.setCell ⟨db, 0, none⟩ (.string (mkB t'))) := ⟨blk_setCell h.1 0 _, hl⟩
theorem gB_of {w w' : World} (h : Below w.heap.size w w') (r : Option Nat) : w.grownBy w' r := ⟨h.os, h.tape, h.output, h.size, fun k hk _ => h.block k hk⟩
theorem gB_set {w w' : World} {db : Nat} (h : w.grownBy w' (some db)) (u : Value) : w.grownBy (w'.setCell ⟨db, 0, none⟩ u) (some db) := grownBy_trans h (grownBy_setCell _ _ _ _)
/-- what a command leaves -/
def DoPost (db : Nat) (w : World) (r : Bs × Bs) (e : Ending) (w' : World) : Prop := e = .returned (.string (mkB r.1)) ∧ DeskAt db r.2 w' ∧ w.grownBy w' (some db)
set_option maxHeartbeats 4000000 in
theorem desk_more (db : Nat) (t : Bs) (vw : Value) (ws : List Bs) (w : World) (hd : DeskAt db t w) (hw : RowS w vw ws) (hl : ws.length ≤ 100000) (hsz : ∀ x ∈ ws, x.length ≤ 1000000) :
    Calls Tryz.prog 28 #[.pointer (some ⟨db, 0, none⟩), vw] w fun e w' => DoPost db w (doA t vCircuit ws) e w' := by
  have HD := Lib.hid hd
  have HJ := Lib.hid (st_Join ws vw w hw hl hsz)
  have hjl := joinD_len 1000000 ws hsz
  have hcd := hd.cell
  have ht := hd.2
  have hm : ws.length * (1000000 + 1) ≤ 100000 * 1000001 := Nat.mul_le_mul_right _ hl
  obtain ⟨-, a, cap, rfl, -⟩ := hw
  obtain ⟨r, hr⟩ : ∃ r, r = doA t vCircuit ws := ⟨_, rfl⟩
  have HR := Lib.hid hr
  rw [← hr]
  clear hr hsz hd
  by_cases h0 : ws = []
  · have HR2 := Lib.hid (show r = (errL 3, t) by rw [HR.out, doA, if_pos rfl, if_pos h0])
    subst h0
    clear hjl hm
    go_enter Tryz.func28, Tryz.ntmps28
    go_wp2_with (go_at_call 29; refine (desk_failed 3 _ (by decide) (by decide)).mono ?_; rintro e w' ⟨rfl, rfl⟩)
    go_ret
    exact ⟨by rw [HR2.out]; rfl, by rw [HR2.out]; exact HD.out, grownBy_refl _ _⟩
  · have hlen0 : ((ws.length : Int) == 0) = false := by
      refine beq_false_of_ne ?_
      have := List.length_pos_iff.mpr h0
      omega
    obtain ⟨J, hJ⟩ : ∃ J, J = joinD ws := ⟨_, rfl⟩
    rw [← hJ] at HJ hjl
    have hs1 : ¬ (9223372036854775807 < J.length + 1) := by omega
    obtain ⟨jl, hjl'⟩ : ∃ jl, jl = J.length := ⟨_, rfl⟩
    by_cases hbig : 4096 < t.length + J.length + 1
    · have HR2 := Lib.hid (show r = (errL 2, t) by rw [HR.out, doA, if_pos rfl, if_neg h0, if_pos (by rw [← hJ]; exact hbig)])
      have hg : 4096 < (t.length : Int) + ((J.length : Int) + 1) := by omega
      have hw1 : IntKind.i64.wrap ((t.length : Int) + ((J.length : Int) + 1)) = (t.length : Int) + ((J.length : Int) + 1) := IntWalk.i64_in _ (by omega)
      clear hjl hm h0 hJ hbig hjl'
      go_enter Tryz.func28, Tryz.ntmps28
      go_wp2_with (fail)
      refine HJ.out.mono ?_
      rintro e w1 ⟨rfl, hb⟩
      have HB1 := Lib.hid hb
      have HD1 := Lib.hid (HD.out.go hb)
      have hc1 := HD1.out.cell
      clear hb hcd
      go_wp2_with (go_at_call 29; refine (desk_failed 2 _ (by decide) (by decide)).mono ?_; rintro e w' ⟨rfl, rfl⟩)
      go_ret
      exact ⟨by rw [HR2.out]; rfl, by rw [HR2.out]; exact HD1.out, gB_of HB1.out _⟩
    · have HR2 := Lib.hid (show r = (okL, t ++ J ++ [10]) by rw [HR.out, doA, if_pos rfl, if_neg h0, if_neg (by rw [← hJ]; exact hbig), hJ])
      have hg : ¬ 4096 < (t.length : Int) + ((J.length : Int) + 1) := by omega
      have hw1 : IntKind.i64.wrap ((t.length : Int) + ((J.length : Int) + 1)) = (t.length : Int) + ((J.length : Int) + 1) := IntWalk.i64_in _ (by omega)
      have hs2 : ¬ (9223372036854775807 < t.length + (J.length + 1)) := by omega
      have Hfit := Lib.hid (show (t ++ J ++ [10]).length ≤ 4096 by simp only [List.length_append, List.length_singleton]; omega)
      clear hjl hm h0 hJ hbig hjl'
      go_enter Tryz.func28, Tryz.ntmps28
      go_wp2_with (fail)
      refine HJ.out.mono ?_
      rintro e w1 ⟨rfl, hb⟩
      have HB1 := Lib.hid hb
      have HD1 := Lib.hid (HD.out.go hb)
      have hc1 := HD1.out.cell
      have hf1 := free_blk HD1.out.1 0
      clear hb hcd
      go_wp2_with (fail)
      have eS : mkB t ++ (mkB J ++ ⟨#[10]⟩) = mkB (t ++ J ++ [10]) := by
        apply ByteArray.ext; simp [mkB, ByteArray.data_append]
      rw [eS]
      have hD2 := HD1.out.put Hfit.out
      have hG2 := gB_set (gB_of HB1.out (some db)) (.string (mkB (t ++ J ++ [10])))
      generalize w1.setCell ⟨db, 0, none⟩ (.string (mkB (t ++ J ++ [10]))) = wz at *
      go_ret
      exact ⟨by rw [HR2.out]; rfl, by rw [HR2.out]; exact hD2, hG2⟩
/-- two lists in boxes of their own -/
theorem two_boxes (w : World) (x y : Value) (t1 t2 : Nat) : ∃ W, (w.alloc (.cells #[x] t1)).alloc (.cells #[y] t2) = W ∧ W.cell? ⟨w.heap.size, 0, none⟩ = some x ∧ W.cell? ⟨w.heap.size + 1, 0, none⟩ = some y ∧ Below w.heap.size w W := by
  refine ⟨_, rfl, ?_, ?_, ((Below.refl _ _).alloc (Nat.le_refl _) _).alloc (by simp) _⟩
  · have h : ((w.alloc (.cells #[x] t1)).alloc (.cells #[y] t2)).heap[w.heap.size]? = some (.cells #[x] t1) := by
      show ((w.heap.push _).push _)[w.heap.size]? = _
      rw [Array.getElem?_push, if_neg (by simp), Array.getElem?_push, if_pos rfl]
    exact cell_blk h 0
  · have h : ((w.alloc (.cells #[x] t1)).alloc (.cells #[y] t2)).heap[w.heap.size + 1]? = some (.cells #[y] t2) := by
      show ((w.heap.push _).push _)[w.heap.size + 1]? = _
      rw [Array.getElem?_push, if_pos (by simp)]
    exact cell_blk h 0
set_option maxHeartbeats 8000000 in
theorem desk_do (db : Nat) (t v : Bs) (vw : Value) (ws : List Bs) (w : World) (hT : Tab w) (hTn : Ten w) (hd : DeskAt db t w) (hw : RowS w vw ws) (hl : ws.length ≤ 100000) (hsz : ∀ x ∈ ws, x.length ≤ 1000000) :
    Calls Tryz.prog 16 #[.pointer (some ⟨db, 0, none⟩), .string (mkB v), vw] w fun e w' => DoPost db w (doA t v ws) e w' := by
  have HT := Lib.hid hT; have HTn := Lib.hid hTn; have HD := Lib.hid hd; have HW := Lib.hid hw; have Hsz := Lib.hid hsz
  obtain ⟨r, hr⟩ : ∃ r, r = doA t v ws := ⟨_, rfl⟩
  have HR := Lib.hid hr
  rw [← hr]
  have ht := hd.2
  obtain ⟨-, a, cap, rfl, -⟩ := hw
  have hdl := blk_lt hd.1
  clear hT hTn hd hsz hr
  by_cases h0 : v = vCircuit
  · have HM := Lib.hid (desk_more db t _ ws w HD.out HW.out hl Hsz.out)
    have HR2 := Lib.hid (show doA t vCircuit ws = r by rw [HR.out, h0])
    rw [HR2.out] at HM
    have k0 : (v == [99, 105, 114, 99, 117, 105, 116]) = true := vb_yes h0
    clear h0
    go_enter Tryz.func16, Tryz.ntmps16
    go_wp2_with (fail)
    refine HM.out.mono ?_
    rintro e w1 ⟨rfl, hD1, hG1⟩
    go_wp2
    go_ret
    exact ⟨rfl, hD1, hG1⟩
  have k0 : (v == [99, 105, 114, 99, 117, 105, 116]) = false := vb_no h0
  by_cases h1 : v = vClear
  · have k1 : (v == [99, 108, 101, 97, 114]) = true := vb_yes h1
    have k2 : (v == [115, 104, 111, 119]) = false := vb_no (by rw [h1]; decide)
    by_cases he : ws = []
    · have HR2 := Lib.hid (show r = (okL, []) by rw [HR.out, doA, if_neg h0, if_pos h1, if_pos he])
      subst he
      have hf := free_blk HD.out.1 0
      have hc := HD.out.cell
      clear h0 h1 HR
      go_enter Tryz.func16, Tryz.ntmps16
      go_wp2_with (fail)
      have hD2 := HD.out.put (t' := []) (by simp)
      have hG2 := gB_set (grownBy_refl w (some db)) (.string (mkB []))
      have eW : w.setCell ⟨db, 0, none⟩ (.string ⟨#[]⟩) = w.setCell ⟨db, 0, none⟩ (.string (mkB [])) := rfl
      try rw [eW]
      generalize w.setCell ⟨db, 0, none⟩ (.string (mkB [])) = wz at *
      go_ret
      exact ⟨by rw [HR2.out]; rfl, by rw [HR2.out]; exact hD2, hG2⟩
    · have HR2 := Lib.hid (show r = (errL 3, t) by rw [HR.out, doA, if_neg h0, if_pos h1, if_neg he])
      have hp : 0 < (ws.length : Int) := by have := List.length_pos_iff.mpr he; omega
      clear h0 h1 he
      go_enter Tryz.func16, Tryz.ntmps16
      go_wp2_with (go_at_call 29; refine (desk_failed 3 _ (by decide) (by decide)).mono ?_; rintro e w' ⟨rfl, rfl⟩)
      go_ret
      exact ⟨by rw [HR2.out]; rfl, by rw [HR2.out]; exact HD.out, grownBy_refl _ _⟩
  have k1 : (v == [99, 108, 101, 97, 114]) = false := vb_no h1
  by_cases h2 : v = vShow
  · have k2 : (v == [115, 104, 111, 119]) = true := vb_yes h2
    by_cases he : ws = []
    · have HR2 := Lib.hid (show r = (netA t showA, t) by rw [HR.out, doA, if_neg h0, if_neg h1, if_pos h2, if_pos he])
      subst he
      clear h0 h1 h2
      go_enter Tryz.func16, Tryz.ntmps16
      go_wp2_with (fail)
      refine (desk_netted_show db t w HTn.out ht HD.out.cell).mono ?_
      rintro e w1 ⟨rfl, hb⟩
      have HB1 := Lib.hid hb
      clear hb
      go_wp2
      go_ret
      exact ⟨by rw [HR2.out]; rfl, by rw [HR2.out]; exact HD.out.go HB1.out, gB_of HB1.out _⟩
    · have HR2 := Lib.hid (show r = (errL 3, t) by rw [HR.out, doA, if_neg h0, if_neg h1, if_pos h2, if_neg he])
      have hp : 0 < (ws.length : Int) := by have := List.length_pos_iff.mpr he; omega
      clear h0 h1 h2 he
      go_enter Tryz.func16, Tryz.ntmps16
      go_wp2_with (go_at_call 29; refine (desk_failed 3 _ (by decide) (by decide)).mono ?_; rintro e w' ⟨rfl, rfl⟩)
      go_ret
      exact ⟨by rw [HR2.out]; rfl, by rw [HR2.out]; exact HD.out, grownBy_refl _ _⟩
  have k2 : (v == [115, 104, 111, 119]) = false := vb_no h2
  by_cases h34 : v = vEval ∨ v = vProve
  · have hkk : (v == [101, 118, 97, 108]) = true ∨ (v == [101, 118, 97, 108]) = false ∧ (v == [112, 114, 111, 118, 101]) = true := by
      rcases h34 with h | h
      · exact .inl (vb_yes h)
      · exact .inr ⟨vb_no (by rw [h]; decide), vb_yes h⟩
    have CH := Lib.hid (desk_halves ws _ w HW.out hl Hsz.out)
    by_cases hh : halfB ws = true
    · obtain ⟨A1, hA1⟩ : ∃ A1, A1 = valsD (ws.take (slashD ws)) := ⟨_, rfl⟩
      obtain ⟨A2, hA2⟩ : ∃ A2, A2 = valsD (ws.drop (slashD ws + 1)) := ⟨_, rfl⟩
      have HA1 := Lib.hid hA1; have HA2 := Lib.hid hA2
      have HRe := Lib.hid (fun h : v = vEval => show r = (evalA A1 A2, t) by rw [HR.out, doA, if_neg h0, if_neg h1, if_neg h2, if_pos h, if_pos hh, hA1, hA2])
      have HRp := Lib.hid (fun h : v = vProve => show r = (netA t fun c => provA c A1 A2, t) by rw [HR.out, doA, if_neg h0, if_neg h1, if_neg h2, if_neg (by rw [h]; decide), if_pos h, if_pos hh, hA1, hA2])
      have Hcase := Lib.hid (show ((v == [101, 118, 97, 108]) = true → v = vEval) ∧ ((v == [112, 114, 111, 118, 101]) = true → v = vProve) from ⟨fun h => eq_of_beq h, fun h => eq_of_beq h⟩)
      have Hh := Lib.hid hh
      clear h0 h1 h2 h34 hA1 hA2 hh
      rcases hkk with k3 | ⟨k3, k4⟩
      · go_enter Tryz.func16, Tryz.ntmps16
        go_wp2_with (fail)
        refine CH.out.mono ?_
        rintro e w1 ⟨⟨v1, v2, rfl, hn, ⟨a1, n1, c1, rfl⟩, a2, n2, c2, rfl⟩, hb⟩
        have HB1 := Lib.hid hb
        have hN := hn Hh.out
        rw [← HA1.out, ← HA2.out] at hN
        have HN := Lib.hid hN
        rw [Hh.out]
        clear hb hn hN CH
        go_upto_region 15 with fail
        obtain ⟨W2, hW2, ka, kb, hb⟩ := two_boxes w1 (.slice a1 n1 c1) (.slice a2 n2 c2) 53 53
        rw [hW2]
        have HB2 := Lib.hid (below_two HB1.out hb)
        have HN2 := Lib.hid (show RowU W2 (.slice a1 n1 c1) A1 ∧ RowU W2 (.slice a2 n2 c2) A2 from ⟨HN.out.1.row.go hb, HN.out.2.row.go hb⟩)
        obtain ⟨ab, hab⟩ : ∃ ab, ab = w1.heap.size := ⟨_, rfl⟩
        obtain ⟨bb, hbb⟩ : ∃ bb, bb = ab + 1 := ⟨_, rfl⟩
        rw [← hab, ← hbb]
        rw [← hab] at ka
        rw [← hab, ← hbb] at kb
        clear hW2 hb hab hbb HN
        have HR2 := Lib.hid (HRe.out (Hcase.out.1 k3))
        clear HRe HRp Hcase HA1 HA2
        go_wp2_with (fail)
        refine (t_Eval A1 A2 _ _ W2 (HT.out.below HB2.out) HN2.out.1 HN2.out.2).mono ?_
        rintro e w3 ⟨⟨x, er, rfl, hx, he0, he1, htl⟩, hb⟩
        have HB3 := Lib.hid (below_two HB2.out hb)
        have HR3 := Lib.hid (show r = (toldL x er, t) by rw [HR2.out, htl])
        clear hb htl ka kb
        go_wp2_with (fail)
        refine (desk_told x er w3 hx he0 he1 (HTn.out.go HB3.out)).mono ?_
        rintro e w4 ⟨rfl, hb⟩
        have HB4 := Lib.hid (below_two HB3.out hb)
        clear hb
        go_wp2
        go_ret
        exact ⟨by rw [HR3.out]; rfl, by rw [HR3.out]; exact HD.out.go HB4.out, gB_of HB4.out _⟩
      · skip
        go_enter Tryz.func16, Tryz.ntmps16
        go_wp2_with (fail)
        refine CH.out.mono ?_
        rintro e w1 ⟨⟨v1, v2, rfl, hn, ⟨a1, n1, c1, rfl⟩, a2, n2, c2, rfl⟩, hb⟩
        have HB1 := Lib.hid hb
        have hN := hn Hh.out
        rw [← HA1.out, ← HA2.out] at hN
        have HN := Lib.hid hN
        rw [Hh.out]
        clear hb hn hN CH
        go_upto_region 15 with fail
        obtain ⟨W2, hW2, ka, kb, hb⟩ := two_boxes w1 (.slice a1 n1 c1) (.slice a2 n2 c2) 53 53
        rw [hW2]
        have HB2 := Lib.hid (below_two HB1.out hb)
        have HN2 := Lib.hid (show RowU W2 (.slice a1 n1 c1) A1 ∧ RowU W2 (.slice a2 n2 c2) A2 from ⟨HN.out.1.row.go hb, HN.out.2.row.go hb⟩)
        obtain ⟨ab, hab⟩ : ∃ ab, ab = w1.heap.size := ⟨_, rfl⟩
        obtain ⟨bb, hbb⟩ : ∃ bb, bb = ab + 1 := ⟨_, rfl⟩
        rw [← hab, ← hbb]
        rw [← hab] at ka
        rw [← hab, ← hbb] at kb
        clear hW2 hb hab hbb HN
        have HR2 := Lib.hid (HRp.out (Hcase.out.2 k4))
        clear HRe HRp Hcase HA1 HA2
        go_wp2_with (fail)
        refine (desk_netted_prove db t ab bb _ _ A1 A2 W2 (HTn.out.go HB2.out) ht (HD.out.go HB2.out).cell (HT.out.below HB2.out) ka HN2.out.1 kb HN2.out.2).mono ?_
        rintro e w3 ⟨rfl, hb⟩
        have HB3 := Lib.hid (below_two HB2.out hb)
        clear hb ka kb
        go_wp2
        go_ret
        exact ⟨by rw [HR2.out]; rfl, by rw [HR2.out]; exact HD.out.go HB3.out, gB_of HB3.out _⟩
    · have hh' : halfB ws = false := by cases h : halfB ws with | false => rfl | true => exact absurd h hh
      have HR2 := Lib.hid (show r = (errL 3, t) by
        rcases h34 with h | h
        · rw [HR.out, doA, if_neg h0, if_neg h1, if_neg h2, if_pos h, if_neg hh]
        · rw [HR.out, doA, if_neg h0, if_neg h1, if_neg h2, if_neg (by rw [h]; decide), if_pos h, if_neg hh])
      have Hh := Lib.hid hh'
      clear h0 h1 h2 h34 hh hh'
      rcases hkk with k3 | ⟨k3, k4⟩
      all_goals
        go_enter Tryz.func16, Tryz.ntmps16
        go_wp2_with (fail)
        refine CH.out.mono ?_
        rintro e w1 ⟨⟨v1, v2, rfl, -, ⟨a1, n1, c1, rfl⟩, a2, n2, c2, rfl⟩, hb⟩
        have HB1 := Lib.hid hb
        rw [Hh.out]
        clear hb CH
        go_upto_region 15 with fail
        obtain ⟨W2, hW2, ka, kb, hb⟩ := two_boxes w1 (.slice a1 n1 c1) (.slice a2 n2 c2) 53 53
        rw [hW2]
        have HB2 := Lib.hid (below_two HB1.out hb)
        clear hW2 hb ka kb
        go_wp2_with (go_at_call 29; refine (desk_failed 3 _ (by decide) (by decide)).mono ?_; rintro e w' ⟨rfl, rfl⟩)
        go_ret
        exact ⟨by rw [HR2.out]; rfl, by rw [HR2.out]; exact HD.out.go HB2.out, gB_of HB2.out _⟩
  · have k3 : (v == [101, 118, 97, 108]) = false := vb_no fun e => h34 (.inl e)
    have k4 : (v == [112, 114, 111, 118, 101]) = false := vb_no fun e => h34 (.inr e)
    have CN := Lib.hid (desk_numbers ws _ w HW.out hl Hsz.out)
    by_cases hok : ws.all okB = true
    · have HR2 := Lib.hid (show r = (listA t v (valsD ws), t) by rw [HR.out, doA, if_neg h0, if_neg h1, if_neg h2, if_neg (fun e => h34 (.inl e)), if_neg (fun e => h34 (.inr e)), if_pos hok])
      have Hok := Lib.hid hok
      clear h0 h1 h2 h34 hok
      go_enter Tryz.func16, Tryz.ntmps16
      go_wp2_with (fail)
      refine CN.out.mono ?_
      rintro e w1 ⟨⟨v1, rfl, hn, a1, n1, c1, rfl⟩, hb⟩
      have HB1 := Lib.hid hb
      have HN := Lib.hid (hn Hok.out)
      rw [Hok.out]
      clear hb hn CN
      go_wp2_with (fail)
      refine (desk_listed db t v _ (valsD ws) w1 (HT.out.below HB1.out) (HTn.out.go HB1.out) ht (HD.out.go HB1.out).cell HN.out.row).mono ?_
      rintro e w2 ⟨rfl, hb⟩
      have HB2 := Lib.hid (below_two HB1.out hb)
      clear hb
      go_wp2
      go_ret
      exact ⟨by rw [HR2.out]; rfl, by rw [HR2.out]; exact HD.out.go HB2.out, gB_of HB2.out _⟩
    · have hok' : ws.all okB = false := by cases h : ws.all okB with | false => rfl | true => exact absurd h hok
      have HR2 := Lib.hid (show r = (errL 3, t) by rw [HR.out, doA, if_neg h0, if_neg h1, if_neg h2, if_neg (fun e => h34 (.inl e)), if_neg (fun e => h34 (.inr e)), if_neg hok])
      have Hok := Lib.hid hok'
      clear h0 h1 h2 h34 hok hok'
      go_enter Tryz.func16, Tryz.ntmps16
      go_wp2_with (fail)
      refine CN.out.mono ?_
      rintro e w1 ⟨⟨v1, rfl, -, a1, n1, c1, rfl⟩, hb⟩
      have HB1 := Lib.hid hb
      rw [Hok.out]
      clear hb CN
      go_wp2_with (go_at_call 29; refine (desk_failed 3 _ (by decide) (by decide)).mono ?_; rintro e w' ⟨rfl, rfl⟩)
      go_ret
      exact ⟨by rw [HR2.out]; rfl, by rw [HR2.out]; exact HD.out.go HB1.out, gB_of HB1.out _⟩
end Go.Proofs.YtlfneeobnihocaaGreatDoor
