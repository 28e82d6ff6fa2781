/- The walk of the reference's answer, verb by verb. The tables lie as their initialisers lay them. -/
import Derived.Test.YtlfneeobnihocaaGreatDoorRNetW
import Derived.Test.YtlfneeobnihocaaGreatDoorRTree
namespace Go.Proofs.YtlfneeobnihocaaGreatDoor
set_option maxRecDepth 100000
set_option linter.unusedVariables false
open Go.RowKit Tally
theorem doA_list (t v : Bs) (ws : List Bs) (h1 : v ≠ vCircuit) (h2 : v ≠ vClear) (h3 : v ≠ vShow) (h4 : v ≠ vEval) (h5 : v ≠ vProve) : (doA t v ws).1 = if ws.all okB then listA t v (valsD ws) else errL 3 := by
 unfold doA
 rw [if_neg h1, if_neg h2, if_neg h3, if_neg h4, if_neg h5]
 split <;> rfl
theorem joinD_one (x : Bs) : joinD [x] = x := by rw [joinD_cons]; simp [Lib.joinTail]
theorem rows_one {w : World} {B : Nat} {v : Value} {N : List Int} (h : NewU B w v N) (hB : B ≤ w.heap.size) : RowUU (w.alloc (.cells #[v] 53)) (.slice (some ⟨w.heap.size, 0, none⟩) 1 1) [N] := (NewUU.lit1 B w v N h hB).rows
theorem r_Sum1 (N : List Int) (vv : Value) (w : World) (h : IsTab N.length) (hp : RowUU w vv [N]) :
  Calls Tryz.prog 51 #[vv, .slice none 0 0] w fun e w' => e = .returned (.int .u64 (psi (sumTo (atF (N.map phi)) N.length))) ∧ Below w.heap.size w w' := by
 have e : claimF (fixed [N] []) (2 ^ N.length.log2) = sumTo (atF (N.map phi)) N.length := by
  rw [← h.2]
  unfold claimF
  refine sumTo_congr fun k _ => ?_
  show 1 * atF (fixes (N.map phi) []) k = _
  rw [one_mul']; rfl
 have h2 := ref_Partial [N] N.length.log2 N.length.log2 [] vv (.slice none 0 0) w hp (NewU.nil 0 w).row NilOk.none (by simp) (by simp) (fun j hj => by
  have : j = 0 := by simp at hj; omega
  subst this; exact h.2) h.1 (by simp)
 rw [e] at h2
 exact h2
theorem r_Root1 (N : List Int) (a : Option Addr) (n c : Nat) (w : World) (h : IsTab N.length) (hn : n = N.length) (hp : RowU w (.slice a n c) N) (hc : CapOk (.slice a n c)) :
  Calls Tryz.prog 50 #[.slice a n c] w fun e w' => e = .returned (.int .u64 (psi (rootF N N.length.log2))) ∧ Below w.heap.size w w' := by
 subst hn
 obtain ⟨hu, -, a8, c8, e8, h8⟩ := hp
 cases e8
 have hpos : 0 < N.length := by rw [h.2]; exact Nat.two_pow_pos _
 obtain ⟨b, off, rfl, hb, hcell⟩ := h8 hpos
 have hcc := hc _ _ _ rfl
 have h2 := ref_Root N.length.log2 N b off N.length c w ⟨hu, hb, hcell⟩ rfl h.2 h.1 hcc.1 hcc.2
 rw [show rootR pairF N.length.log2 (N.map phi) = rootF N N.length.log2 from (root_eq pairF _ _ (by rw [List.length_map]; exact h.2)).symm] at h2
 exact h2
theorem r_Eval1 (a b : List Int) (v v2 : Value) (w : World) (h : IsTab a.length) (h2 : b.length = a.length.log2) (ha : RowU w v a) (hb : RowU w v2 b) :
  Calls Tryz.prog 52 #[v, v2] w fun e w' => e = .returned (.int .u64 (psi (evalF (a.map phi) (b.map phi)))) ∧ Below w.heap.size w w' := by
 rw [eval_dot _ _ (by rw [List.length_map, List.length_map, h2]; exact h.2)]
 exact (ref_Eval a b v v2 w ha hb).mono fun e w' ⟨he, hd⟩ => ⟨he, hd.below⟩
theorem r_net (t : Bs) (vs : ByteArray) (va vb : Value) (w : World) (hT : Ten w) (ht : t.length ≤ 4096) (f : Ci → Bs)
  (hg : (parseR t).2.2 = 0 → Calls Tryz.prog 53 #[.string (mkB t), .string vs, va, vb] w fun e w' => e = .returned (.string (mkB (f (parseR t).1))) ∧ Below w.heap.size w w') :
  Calls Tryz.prog 53 #[.string (mkB t), .string vs, va, vb] w fun e w' => e = .returned (.string (mkB (netA t f))) ∧ Below w.heap.size w w' := by
 unfold netA
 by_cases h : (parseR t).2.2 = 0
 ·rw [if_pos h]; exact hg h
 ·rw [if_neg h]; exact ref_netted_bad t vs va vb w hT ht h
theorem said_one (RN : Int) (RA : ByteArray) (hRA : RA = mkB (decL RN)) (X : World) (hT : Ten X) (g : Nat) (hg : RowU X (.slice (some ⟨g, 0, none⟩) 1 1) [RN]) :
  Calls Tryz.prog 42 #[.slice (some ⟨g, 0, none⟩) 1 1] X fun e w' => e = .returned (.string RA) ∧ Below X.heap.size X w' := by
 have h := ref_said [RN] _ X hT hg (by simp)
 rw [List.map_cons, List.map_nil, joinD_one] at h
 rw [hRA]; exact h
set_option maxHeartbeats 4000000 in
theorem ref_ans_add (t : Bs) (ws : List Bs) (vw : Value) (w : World) (hT : Ten w) (ht : t.length ≤ 4096) (hw : RowS w vw ws) (hl : ws.length ≤ 100000) (hsz : ∀ x ∈ ws, x.length ≤ 1000000) :
  Calls Tryz.prog 19 #[.string (mkB t), .string ⟨#[97, 100, 100]⟩, vw] w fun e w' => e = .returned (.string (mkB (doA t vAdd ws).1)) ∧ Below w.heap.size w w' := by
 have HT := zH hT; have Ht := zH ht
 rw [doA_list t vAdd ws (by decide) (by decide) (by decide) (by decide) (by decide)]
 have CN := zH (ref_numbers ws vw w hT hw hl hsz)
 obtain ⟨RA, hRA⟩ : ∃ RA, RA = mkB (if ws.all okB then (listA t vAdd (valsD ws)) else errL 3) := ⟨_, rfl⟩
 have HRA := zH hRA
 rw [← hRA]
 obtain ⟨N, hN⟩ : ∃ N, N = valsD ws := ⟨_, rfl⟩
 rw [← hN] at HRA
 have HN := zH hN
 clear hRA hT hN hw ht
 go_enter Tryz.func19, Tryz.ntmps19
 go_wp2_with (fail)
 refine CN.out.mono ?_
 rintro e w1 ⟨⟨v, rfl, hv, a, n, c, rfl⟩, hb⟩
 have HB1 := zH hb
 rw [← HN.out] at hv
 cases hok : ws.all okB with
 | false =>
  have HR := zH (show RA = mkB (errL 3) by rw [HRA.out, hok, if_neg (by decide)])
  clear hv hok hb CN
  go_wp2_with (fail)
  refine (ref_wrong 3 w1 (by decide) (by decide)).mono ?_
  rintro e w' ⟨rfl, rfl⟩
  rw [← HR.out]
  go_wp2
  go_ret
  exact ⟨rfl, HB1.out⟩
 | true =>
  have hn := hv hok
  have HR0 := zH (show RA = mkB (listA t vAdd N) by rw [HRA.out, hok, if_pos rfl])
  clear hv hok hb CN
  obtain ⟨hNu, -, a8, c8, e8, h8⟩ := hn.row
  have HNu := zH hNu
  have HRow := zH h8
  have HUr := zH hn.row
  have HNew := zH hn
  cases e8
  obtain ⟨n, hnl⟩ : ∃ n, n = N.length := ⟨_, rfl⟩
  have HNL := zH hnl
  rw [← hnl] at HUr HNew ⊢
  clear hn hnl hNu h8
  by_cases h2 : n = 2
  ·have HR1 := zH (show RA = mkB (decL (psi (phi (at0 N 0) + phi (at0 N 1)))) by
    rw [HR0.out]; unfold listA twoA
    rw [if_neg (by decide), if_neg (by decide), if_neg (by decide), if_neg (fun h => absurd h.1 (by decide)), if_pos (by rw [← HNL.out, h2]), if_pos rfl, Option.getD_some])
   have u0 := HNu.out _ (at0_mem (l := N) (j := 0) (by have := HNL.out; omega))
   have u1 := HNu.out _ (at0_mem (l := N) (j := 1) (by have := HNL.out; omega))
   obtain ⟨b, off, rfl, hbl, hcell⟩ := HRow.out (by have := HNL.out; omega)
   have c0 := hcell 0 (by have := HNL.out; omega)
   have c1 := hcell 1 (by have := HNL.out; omega)
   rw [Nat.add_zero] at c0
   obtain ⟨y0, hy0⟩ : ∃ y, y = at0 N 0 := ⟨_, rfl⟩
   obtain ⟨y1, hy1⟩ : ∃ y, y = at0 N 1 := ⟨_, rfl⟩
   rw [← hy0] at c0 u0 HR1
   rw [← hy1] at c1 u1 HR1
   have CF := zH (fun X => ref_Add y0 y1 X u0 u1)
   obtain ⟨RN, hRN⟩ : ∃ RN, RN = psi (phi y0 + phi y1) := ⟨_, rfl⟩
   have hRNu : U64 RN := by rw [hRN]; exact U64.psi _
   rw [← hRN] at CF HR1
   have HR := HR1
   have CS := zH (fun X (hX : Below w1.heap.size w1 X) g hg => said_one RN RA HR.out X (HT.out.go (below_two HB1.out hX)) g hg)
   have K1 := zH (show ∀ X, Below w1.heap.size w1 X → Below w1.heap.size w1 X ∧ X.cell? ⟨b, off, none⟩ = some (.int .u64 y0) ∧ X.cell? ⟨b, off + 1, none⟩ = some (.int .u64 y1) from fun X hX => ⟨hX, (hX.cell (p := ⟨b, off, none⟩) hbl).trans c0, (hX.cell (p := ⟨b, off + 1, none⟩) hbl).trans c1⟩)
   clear hcell hy0 hy1 hbl hRN HUr HNew
   subst h2
   go_upto_region 33 with fail
   go_region_held3 (fun w' => Below w1.heap.size w1 w' ∧ w'.cell? ⟨b, off, none⟩ = some (.int .u64 y0) ∧ w'.cell? ⟨b, off + 1, none⟩ = some (.int .u64 y1))
    (first | (refine K1.out _ ?_; (repeat (first | assumption | (with_reducible exact Below.refl _ _) | (with_reducible refine below_dw ?_) | (with_reducible refine below_al' ?_) | (with_reducible refine below_two ?_ (by assumption)))); done))
    (first
     | (go_at_call 43; (with_reducible refine (CF.out _).mono ?_); rintro e w2 ⟨rfl, rfl⟩)
     | (go_at_call 42; go_split_ands; (with_reducible refine Calls.mono (CS.out _ ?_ _ ?_) ?_); (· assumption); (· first | exact (NewU.lit1 _ _ hRNu).row.go (below_drw _) | exact (NewU.lit1 _ _ hRNu).row); rintro e w3 ⟨rfl, hb3⟩))
   all_goals
    have HB3 := zH (below_two HB1.out (show Below w1.heap.size w1 w3 by (repeat (first | assumption | (with_reducible exact Below.refl _ _) | (with_reducible refine below_dw ?_) | (with_reducible refine below_al' ?_) | (with_reducible refine below_two ?_ (by assumption))))))
    go_wp2
    go_ret
    exact ⟨rfl, HB3.out⟩
  ·have HR := zH (show RA = mkB (errL 3) by
    rw [HR0.out]; unfold listA
    rw [if_neg (by decide), if_neg (by decide), if_neg (by decide), if_neg (fun h => absurd h.1 (by decide)), if_neg (by rw [← HNL.out]; exact h2)])
   have h2' : ((n : Int) == 2) = false := beq_false_of_ne (by omega)
   clear h2 HUr HNew
   go_wp2_with (fail)
   refine (ref_wrong 3 w1 (by decide) (by decide)).mono ?_
   rintro e w' ⟨rfl, rfl⟩
   rw [← HR.out]
   go_wp2
   go_ret
   exact ⟨rfl, HB1.out⟩
set_option maxHeartbeats 4000000 in
theorem ref_ans_sub (t : Bs) (ws : List Bs) (vw : Value) (w : World) (hT : Ten w) (ht : t.length ≤ 4096) (hw : RowS w vw ws) (hl : ws.length ≤ 100000) (hsz : ∀ x ∈ ws, x.length ≤ 1000000) :
  Calls Tryz.prog 19 #[.string (mkB t), .string ⟨#[115, 117, 98]⟩, vw] w fun e w' => e = .returned (.string (mkB (doA t vSub ws).1)) ∧ Below w.heap.size w w' := by
 have HT := zH hT; have Ht := zH ht
 rw [doA_list t vSub ws (by decide) (by decide) (by decide) (by decide) (by decide)]
 have CN := zH (ref_numbers ws vw w hT hw hl hsz)
 obtain ⟨RA, hRA⟩ : ∃ RA, RA = mkB (if ws.all okB then (listA t vSub (valsD ws)) else errL 3) := ⟨_, rfl⟩
 have HRA := zH hRA
 rw [← hRA]
 obtain ⟨N, hN⟩ : ∃ N, N = valsD ws := ⟨_, rfl⟩
 rw [← hN] at HRA
 have HN := zH hN
 clear hRA hT hN hw ht
 go_enter Tryz.func19, Tryz.ntmps19
 go_wp2_with (fail)
 refine CN.out.mono ?_
 rintro e w1 ⟨⟨v, rfl, hv, a, n, c, rfl⟩, hb⟩
 have HB1 := zH hb
 rw [← HN.out] at hv
 cases hok : ws.all okB with
 | false =>
  have HR := zH (show RA = mkB (errL 3) by rw [HRA.out, hok, if_neg (by decide)])
  clear hv hok hb CN
  go_wp2_with (fail)
  refine (ref_wrong 3 w1 (by decide) (by decide)).mono ?_
  rintro e w' ⟨rfl, rfl⟩
  rw [← HR.out]
  go_wp2
  go_ret
  exact ⟨rfl, HB1.out⟩
 | true =>
  have hn := hv hok
  have HR0 := zH (show RA = mkB (listA t vSub N) by rw [HRA.out, hok, if_pos rfl])
  clear hv hok hb CN
  obtain ⟨hNu, -, a8, c8, e8, h8⟩ := hn.row
  have HNu := zH hNu
  have HRow := zH h8
  have HUr := zH hn.row
  have HNew := zH hn
  cases e8
  obtain ⟨n, hnl⟩ : ∃ n, n = N.length := ⟨_, rfl⟩
  have HNL := zH hnl
  rw [← hnl] at HUr HNew ⊢
  clear hn hnl hNu h8
  by_cases h2 : n = 2
  ·have HR1 := zH (show RA = mkB (decL (psi (phi (at0 N 0) - phi (at0 N 1)))) by
    rw [HR0.out]; unfold listA twoA
    rw [if_neg (by decide), if_neg (by decide), if_neg (by decide), if_neg (fun h => absurd h.1 (by decide)), if_pos (by rw [← HNL.out, h2]), if_neg (by decide), if_pos rfl, Option.getD_some])
   have u0 := HNu.out _ (at0_mem (l := N) (j := 0) (by have := HNL.out; omega))
   have u1 := HNu.out _ (at0_mem (l := N) (j := 1) (by have := HNL.out; omega))
   obtain ⟨b, off, rfl, hbl, hcell⟩ := HRow.out (by have := HNL.out; omega)
   have c0 := hcell 0 (by have := HNL.out; omega)
   have c1 := hcell 1 (by have := HNL.out; omega)
   rw [Nat.add_zero] at c0
   obtain ⟨y0, hy0⟩ : ∃ y, y = at0 N 0 := ⟨_, rfl⟩
   obtain ⟨y1, hy1⟩ : ∃ y, y = at0 N 1 := ⟨_, rfl⟩
   rw [← hy0] at c0 u0 HR1
   rw [← hy1] at c1 u1 HR1
   have CF := zH (fun X => ref_Sub y0 y1 X u0 u1)
   obtain ⟨RN, hRN⟩ : ∃ RN, RN = psi (phi y0 - phi y1) := ⟨_, rfl⟩
   have hRNu : U64 RN := by rw [hRN]; exact U64.psi _
   rw [← hRN] at CF HR1
   have HR := HR1
   have CS := zH (fun X (hX : Below w1.heap.size w1 X) g hg => said_one RN RA HR.out X (HT.out.go (below_two HB1.out hX)) g hg)
   have K1 := zH (show ∀ X, Below w1.heap.size w1 X → Below w1.heap.size w1 X ∧ X.cell? ⟨b, off, none⟩ = some (.int .u64 y0) ∧ X.cell? ⟨b, off + 1, none⟩ = some (.int .u64 y1) from fun X hX => ⟨hX, (hX.cell (p := ⟨b, off, none⟩) hbl).trans c0, (hX.cell (p := ⟨b, off + 1, none⟩) hbl).trans c1⟩)
   clear hcell hy0 hy1 hbl hRN HUr HNew
   subst h2
   go_upto_region 35 with fail
   go_region_held3 (fun w' => Below w1.heap.size w1 w' ∧ w'.cell? ⟨b, off, none⟩ = some (.int .u64 y0) ∧ w'.cell? ⟨b, off + 1, none⟩ = some (.int .u64 y1))
    (first | (refine K1.out _ ?_; (repeat (first | assumption | (with_reducible exact Below.refl _ _) | (with_reducible refine below_dw ?_) | (with_reducible refine below_al' ?_) | (with_reducible refine below_two ?_ (by assumption)))); done))
    (first
     | (go_at_call 44; (with_reducible refine (CF.out _).mono ?_); rintro e w2 ⟨rfl, rfl⟩)
     | (go_at_call 42; go_split_ands; (with_reducible refine Calls.mono (CS.out _ ?_ _ ?_) ?_); (· assumption); (· first | exact (NewU.lit1 _ _ hRNu).row.go (below_drw _) | exact (NewU.lit1 _ _ hRNu).row); rintro e w3 ⟨rfl, hb3⟩))
   all_goals
    have HB3 := zH (below_two HB1.out (show Below w1.heap.size w1 w3 by (repeat (first | assumption | (with_reducible exact Below.refl _ _) | (with_reducible refine below_dw ?_) | (with_reducible refine below_al' ?_) | (with_reducible refine below_two ?_ (by assumption))))))
    go_wp2
    go_ret
    exact ⟨rfl, HB3.out⟩
  ·have HR := zH (show RA = mkB (errL 3) by
    rw [HR0.out]; unfold listA
    rw [if_neg (by decide), if_neg (by decide), if_neg (by decide), if_neg (fun h => absurd h.1 (by decide)), if_neg (by rw [← HNL.out]; exact h2)])
   have h2' : ((n : Int) == 2) = false := beq_false_of_ne (by omega)
   clear h2 HUr HNew
   go_wp2_with (fail)
   refine (ref_wrong 3 w1 (by decide) (by decide)).mono ?_
   rintro e w' ⟨rfl, rfl⟩
   rw [← HR.out]
   go_wp2
   go_ret
   exact ⟨rfl, HB1.out⟩
set_option maxHeartbeats 4000000 in
theorem ref_ans_mul (t : Bs) (ws : List Bs) (vw : Value) (w : World) (hT : Ten w) (ht : t.length ≤ 4096) (hw : RowS w vw ws) (hl : ws.length ≤ 100000) (hsz : ∀ x ∈ ws, x.length ≤ 1000000) :
  Calls Tryz.prog 19 #[.string (mkB t), .string ⟨#[109, 117, 108]⟩, vw] w fun e w' => e = .returned (.string (mkB (doA t vMul ws).1)) ∧ Below w.heap.size w w' := by
 have HT := zH hT; have Ht := zH ht
 rw [doA_list t vMul ws (by decide) (by decide) (by decide) (by decide) (by decide)]
 have CN := zH (ref_numbers ws vw w hT hw hl hsz)
 obtain ⟨RA, hRA⟩ : ∃ RA, RA = mkB (if ws.all okB then (listA t vMul (valsD ws)) else errL 3) := ⟨_, rfl⟩
 have HRA := zH hRA
 rw [← hRA]
 obtain ⟨N, hN⟩ : ∃ N, N = valsD ws := ⟨_, rfl⟩
 rw [← hN] at HRA
 have HN := zH hN
 clear hRA hT hN hw ht
 go_enter Tryz.func19, Tryz.ntmps19
 go_wp2_with (fail)
 refine CN.out.mono ?_
 rintro e w1 ⟨⟨v, rfl, hv, a, n, c, rfl⟩, hb⟩
 have HB1 := zH hb
 rw [← HN.out] at hv
 cases hok : ws.all okB with
 | false =>
  have HR := zH (show RA = mkB (errL 3) by rw [HRA.out, hok, if_neg (by decide)])
  clear hv hok hb CN
  go_wp2_with (fail)
  refine (ref_wrong 3 w1 (by decide) (by decide)).mono ?_
  rintro e w' ⟨rfl, rfl⟩
  rw [← HR.out]
  go_wp2
  go_ret
  exact ⟨rfl, HB1.out⟩
 | true =>
  have hn := hv hok
  have HR0 := zH (show RA = mkB (listA t vMul N) by rw [HRA.out, hok, if_pos rfl])
  clear hv hok hb CN
  obtain ⟨hNu, -, a8, c8, e8, h8⟩ := hn.row
  have HNu := zH hNu
  have HRow := zH h8
  have HUr := zH hn.row
  have HNew := zH hn
  cases e8
  obtain ⟨n, hnl⟩ : ∃ n, n = N.length := ⟨_, rfl⟩
  have HNL := zH hnl
  rw [← hnl] at HUr HNew ⊢
  clear hn hnl hNu h8
  by_cases h2 : n = 2
  ·have HR1 := zH (show RA = mkB (decL (psi (phi (at0 N 0) * phi (at0 N 1)))) by
    rw [HR0.out]; unfold listA twoA
    rw [if_neg (by decide), if_neg (by decide), if_neg (by decide), if_neg (fun h => absurd h.1 (by decide)), if_pos (by rw [← HNL.out, h2]), if_neg (by decide), if_neg (by decide), if_pos rfl, Option.getD_some])
   have u0 := HNu.out _ (at0_mem (l := N) (j := 0) (by have := HNL.out; omega))
   have u1 := HNu.out _ (at0_mem (l := N) (j := 1) (by have := HNL.out; omega))
   obtain ⟨b, off, rfl, hbl, hcell⟩ := HRow.out (by have := HNL.out; omega)
   have c0 := hcell 0 (by have := HNL.out; omega)
   have c1 := hcell 1 (by have := HNL.out; omega)
   rw [Nat.add_zero] at c0
   obtain ⟨y0, hy0⟩ : ∃ y, y = at0 N 0 := ⟨_, rfl⟩
   obtain ⟨y1, hy1⟩ : ∃ y, y = at0 N 1 := ⟨_, rfl⟩
   rw [← hy0] at c0 u0 HR1
   rw [← hy1] at c1 u1 HR1
   have CF := zH (fun X => ref_Mul y0 y1 X u0 u1)
   obtain ⟨RN, hRN⟩ : ∃ RN, RN = psi (phi y0 * phi y1) := ⟨_, rfl⟩
   have hRNu : U64 RN := by rw [hRN]; exact U64.psi _
   rw [← hRN] at CF HR1
   have HR := HR1
   have CS := zH (fun X (hX : Below w1.heap.size w1 X) g hg => said_one RN RA HR.out X (HT.out.go (below_two HB1.out hX)) g hg)
   have K1 := zH (show ∀ X, Below w1.heap.size w1 X → Below w1.heap.size w1 X ∧ X.cell? ⟨b, off, none⟩ = some (.int .u64 y0) ∧ X.cell? ⟨b, off + 1, none⟩ = some (.int .u64 y1) from fun X hX => ⟨hX, (hX.cell (p := ⟨b, off, none⟩) hbl).trans c0, (hX.cell (p := ⟨b, off + 1, none⟩) hbl).trans c1⟩)
   clear hcell hy0 hy1 hbl hRN HUr HNew
   subst h2
   go_upto_region 37 with fail
   go_region_held3 (fun w' => Below w1.heap.size w1 w' ∧ w'.cell? ⟨b, off, none⟩ = some (.int .u64 y0) ∧ w'.cell? ⟨b, off + 1, none⟩ = some (.int .u64 y1))
    (first | (refine K1.out _ ?_; (repeat (first | assumption | (with_reducible exact Below.refl _ _) | (with_reducible refine below_dw ?_) | (with_reducible refine below_al' ?_) | (with_reducible refine below_two ?_ (by assumption)))); done))
    (first
     | (go_at_call 45; (with_reducible refine (CF.out _).mono ?_); rintro e w2 ⟨rfl, rfl⟩)
     | (go_at_call 42; go_split_ands; (with_reducible refine Calls.mono (CS.out _ ?_ _ ?_) ?_); (· assumption); (· first | exact (NewU.lit1 _ _ hRNu).row.go (below_drw _) | exact (NewU.lit1 _ _ hRNu).row); rintro e w3 ⟨rfl, hb3⟩))
   all_goals
    have HB3 := zH (below_two HB1.out (show Below w1.heap.size w1 w3 by (repeat (first | assumption | (with_reducible exact Below.refl _ _) | (with_reducible refine below_dw ?_) | (with_reducible refine below_al' ?_) | (with_reducible refine below_two ?_ (by assumption))))))
    go_wp2
    go_ret
    exact ⟨rfl, HB3.out⟩
  ·have HR := zH (show RA = mkB (errL 3) by
    rw [HR0.out]; unfold listA
    rw [if_neg (by decide), if_neg (by decide), if_neg (by decide), if_neg (fun h => absurd h.1 (by decide)), if_neg (by rw [← HNL.out]; exact h2)])
   have h2' : ((n : Int) == 2) = false := beq_false_of_ne (by omega)
   clear h2 HUr HNew
   go_wp2_with (fail)
   refine (ref_wrong 3 w1 (by decide) (by decide)).mono ?_
   rintro e w' ⟨rfl, rfl⟩
   rw [← HR.out]
   go_wp2
   go_ret
   exact ⟨rfl, HB1.out⟩
set_option maxHeartbeats 4000000 in
theorem ref_ans_pow (t : Bs) (ws : List Bs) (vw : Value) (w : World) (hT : Ten w) (ht : t.length ≤ 4096) (hw : RowS w vw ws) (hl : ws.length ≤ 100000) (hsz : ∀ x ∈ ws, x.length ≤ 1000000) :
  Calls Tryz.prog 19 #[.string (mkB t), .string ⟨#[112, 111, 119]⟩, vw] w fun e w' => e = .returned (.string (mkB (doA t vPow ws).1)) ∧ Below w.heap.size w w' := by
 have HT := zH hT; have Ht := zH ht
 rw [doA_list t vPow ws (by decide) (by decide) (by decide) (by decide) (by decide)]
 have CN := zH (ref_numbers ws vw w hT hw hl hsz)
 obtain ⟨RA, hRA⟩ : ∃ RA, RA = mkB (if ws.all okB then (listA t vPow (valsD ws)) else errL 3) := ⟨_, rfl⟩
 have HRA := zH hRA
 rw [← hRA]
 obtain ⟨N, hN⟩ : ∃ N, N = valsD ws := ⟨_, rfl⟩
 rw [← hN] at HRA
 have HN := zH hN
 clear hRA hT hN hw ht
 go_enter Tryz.func19, Tryz.ntmps19
 go_wp2_with (fail)
 refine CN.out.mono ?_
 rintro e w1 ⟨⟨v, rfl, hv, a, n, c, rfl⟩, hb⟩
 have HB1 := zH hb
 rw [← HN.out] at hv
 cases hok : ws.all okB with
 | false =>
  have HR := zH (show RA = mkB (errL 3) by rw [HRA.out, hok, if_neg (by decide)])
  clear hv hok hb CN
  go_wp2_with (fail)
  refine (ref_wrong 3 w1 (by decide) (by decide)).mono ?_
  rintro e w' ⟨rfl, rfl⟩
  rw [← HR.out]
  go_wp2
  go_ret
  exact ⟨rfl, HB1.out⟩
 | true =>
  have hn := hv hok
  have HR0 := zH (show RA = mkB (listA t vPow N) by rw [HRA.out, hok, if_pos rfl])
  clear hv hok hb CN
  obtain ⟨hNu, -, a8, c8, e8, h8⟩ := hn.row
  have HNu := zH hNu
  have HRow := zH h8
  have HUr := zH hn.row
  have HNew := zH hn
  cases e8
  obtain ⟨n, hnl⟩ : ∃ n, n = N.length := ⟨_, rfl⟩
  have HNL := zH hnl
  rw [← hnl] at HUr HNew ⊢
  clear hn hnl hNu h8
  by_cases h2 : n = 2
  ·have HR1 := zH (show RA = mkB (decL (psi (phi (at0 N 0) ^ (at0 N 1).toNat))) by
    rw [HR0.out]; unfold listA twoA
    rw [if_neg (by decide), if_neg (by decide), if_neg (by decide), if_neg (fun h => absurd h.1 (by decide)), if_pos (by rw [← HNL.out, h2]), if_neg (by decide), if_neg (by decide), if_neg (by decide), if_pos rfl, Option.getD_some])
   have u0 := HNu.out _ (at0_mem (l := N) (j := 0) (by have := HNL.out; omega))
   have u1 := HNu.out _ (at0_mem (l := N) (j := 1) (by have := HNL.out; omega))
   obtain ⟨b, off, rfl, hbl, hcell⟩ := HRow.out (by have := HNL.out; omega)
   have c0 := hcell 0 (by have := HNL.out; omega)
   have c1 := hcell 1 (by have := HNL.out; omega)
   rw [Nat.add_zero] at c0
   obtain ⟨y0, hy0⟩ : ∃ y, y = at0 N 0 := ⟨_, rfl⟩
   obtain ⟨y1, hy1⟩ : ∃ y, y = at0 N 1 := ⟨_, rfl⟩
   rw [← hy0] at c0 u0 HR1
   rw [← hy1] at c1 u1 HR1
   have CF := zH (fun X => ref_Pow y0 y1 X u0 u1)
   obtain ⟨RN, hRN⟩ : ∃ RN, RN = psi (phi y0 ^ y1.toNat) := ⟨_, rfl⟩
   have hRNu : U64 RN := by rw [hRN]; exact U64.psi _
   rw [← hRN] at CF HR1
   have HR := HR1
   have CS := zH (fun X (hX : Below w1.heap.size w1 X) g hg => said_one RN RA HR.out X (HT.out.go (below_two HB1.out hX)) g hg)
   have K1 := zH (show ∀ X, Below w1.heap.size w1 X → Below w1.heap.size w1 X ∧ X.cell? ⟨b, off, none⟩ = some (.int .u64 y0) ∧ X.cell? ⟨b, off + 1, none⟩ = some (.int .u64 y1) from fun X hX => ⟨hX, (hX.cell (p := ⟨b, off, none⟩) hbl).trans c0, (hX.cell (p := ⟨b, off + 1, none⟩) hbl).trans c1⟩)
   clear hcell hy0 hy1 hbl hRN HUr HNew
   subst h2
   go_upto_region 39 with fail
   go_region_held3 (fun w' => Below w1.heap.size w1 w' ∧ w'.cell? ⟨b, off, none⟩ = some (.int .u64 y0) ∧ w'.cell? ⟨b, off + 1, none⟩ = some (.int .u64 y1))
    (first | (refine K1.out _ ?_; (repeat (first | assumption | (with_reducible exact Below.refl _ _) | (with_reducible refine below_dw ?_) | (with_reducible refine below_al' ?_) | (with_reducible refine below_two ?_ (by assumption)))); done))
    (first
     | (go_at_call 46; (with_reducible refine (CF.out _).mono ?_); rintro e w2 ⟨rfl, rfl⟩)
     | (go_at_call 42; go_split_ands; (with_reducible refine Calls.mono (CS.out _ ?_ _ ?_) ?_); (· assumption); (· first | exact (NewU.lit1 _ _ hRNu).row.go (below_drw _) | exact (NewU.lit1 _ _ hRNu).row); rintro e w3 ⟨rfl, hb3⟩))
   all_goals
    have HB3 := zH (below_two HB1.out (show Below w1.heap.size w1 w3 by (repeat (first | assumption | (with_reducible exact Below.refl _ _) | (with_reducible refine below_dw ?_) | (with_reducible refine below_al' ?_) | (with_reducible refine below_two ?_ (by assumption))))))
    go_wp2
    go_ret
    exact ⟨rfl, HB3.out⟩
  ·have HR := zH (show RA = mkB (errL 3) by
    rw [HR0.out]; unfold listA
    rw [if_neg (by decide), if_neg (by decide), if_neg (by decide), if_neg (fun h => absurd h.1 (by decide)), if_neg (by rw [← HNL.out]; exact h2)])
   have h2' : ((n : Int) == 2) = false := beq_false_of_ne (by omega)
   clear h2 HUr HNew
   go_wp2_with (fail)
   refine (ref_wrong 3 w1 (by decide) (by decide)).mono ?_
   rintro e w' ⟨rfl, rfl⟩
   rw [← HR.out]
   go_wp2
   go_ret
   exact ⟨rfl, HB1.out⟩
set_option maxHeartbeats 4000000 in
theorem ref_ans_inv (t : Bs) (ws : List Bs) (vw : Value) (w : World) (hT : Ten w) (ht : t.length ≤ 4096) (hw : RowS w vw ws) (hl : ws.length ≤ 100000) (hsz : ∀ x ∈ ws, x.length ≤ 1000000) :
  Calls Tryz.prog 19 #[.string (mkB t), .string ⟨#[105, 110, 118]⟩, vw] w fun e w' => e = .returned (.string (mkB (doA t vInv ws).1)) ∧ Below w.heap.size w w' := by
 have HT := zH hT; have Ht := zH ht
 rw [doA_list t vInv ws (by decide) (by decide) (by decide) (by decide) (by decide)]
 have CN := zH (ref_numbers ws vw w hT hw hl hsz)
 obtain ⟨RA, hRA⟩ : ∃ RA, RA = mkB (if ws.all okB then (listA t vInv (valsD ws)) else errL 3) := ⟨_, rfl⟩
 have HRA := zH hRA
 rw [← hRA]
 obtain ⟨N, hN⟩ : ∃ N, N = valsD ws := ⟨_, rfl⟩
 rw [← hN] at HRA
 have HN := zH hN
 clear hRA hT hN hw ht
 go_enter Tryz.func19, Tryz.ntmps19
 go_wp2_with (fail)
 refine CN.out.mono ?_
 rintro e w1 ⟨⟨v, rfl, hv, a, n, c, rfl⟩, hb⟩
 have HB1 := zH hb
 rw [← HN.out] at hv
 cases hok : ws.all okB with
 | false =>
  have HR := zH (show RA = mkB (errL 3) by rw [HRA.out, hok, if_neg (by decide)])
  clear hv hok hb CN
  go_wp2_with (fail)
  refine (ref_wrong 3 w1 (by decide) (by decide)).mono ?_
  rintro e w' ⟨rfl, rfl⟩
  rw [← HR.out]
  go_wp2
  go_ret
  exact ⟨rfl, HB1.out⟩
 | true =>
  have hn := hv hok
  have HR0 := zH (show RA = mkB (listA t vInv N) by rw [HRA.out, hok, if_pos rfl])
  clear hv hok hb CN
  obtain ⟨hNu, -, a8, c8, e8, h8⟩ := hn.row
  have HNu := zH hNu
  have HRow := zH h8
  have HUr := zH hn.row
  have HNew := zH hn
  cases e8
  obtain ⟨n, hnl⟩ : ∃ n, n = N.length := ⟨_, rfl⟩
  have HNL := zH hnl
  rw [← hnl] at HUr HNew ⊢
  clear hn hnl hNu h8
  by_cases h2 : n = 1
  ·have HR1 := zH (show RA = mkB (invA (at0 N 0)) by
    rw [HR0.out]; unfold listA
    rw [if_neg (by decide), if_neg (by decide), if_neg (by decide), if_pos ⟨rfl, by rw [← HNL.out, h2]⟩])
   have u0 := HNu.out _ (at0_mem (l := N) (j := 0) (by have := HNL.out; omega))
   obtain ⟨b, off, rfl, hbl, hcell⟩ := HRow.out (by have := HNL.out; omega)
   have c0 := hcell 0 (by have := HNL.out; omega)
   rw [Nat.add_zero] at c0
   obtain ⟨y0, hy0⟩ : ∃ y, y = at0 N 0 := ⟨_, rfl⟩
   rw [← hy0] at c0 u0 HR1
   have CM := zH (ref_Norm y0 w1 u0)
   obtain ⟨Z, hZ⟩ : ∃ Z, Z = psi (phi y0) := ⟨_, rfl⟩
   rw [← hZ] at CM
   clear hcell hy0 hbl HUr HNew
   subst h2
   by_cases hz : phi y0 = 0
   ·have HR := zH (show RA = mkB (errL 1) by rw [HR1.out, invA, if_pos hz])
    have hz2 : (Z == 0) = true := by rw [hZ, hz]; decide
    clear hz hZ
    go_wp2_with (fail)
    refine CM.out.mono ?_
    rintro e w' ⟨rfl, rfl⟩
    go_wp2_with (fail)
    refine (ref_wrong 1 w1 (by decide) (by decide)).mono ?_
    rintro e w' ⟨rfl, rfl⟩
    rw [← HR.out]
    go_wp2
    go_ret
    exact ⟨rfl, HB1.out⟩
   ·have HR := zH (show RA = mkB (decL (psi (inv (phi y0)))) by rw [HR1.out, invA, if_neg hz])
    have hz2 : (Z == 0) = false := beq_false_of_ne (fun e => hz (by
     have h := phi_psi (phi y0)
     rw [← hZ, e] at h
     rw [← h]; decide))
    have CF := zH (ref_Inv y0 w1 u0 hz)
    obtain ⟨RN, hRN⟩ : ∃ RN, RN = psi (inv (phi y0)) := ⟨_, rfl⟩
    have hRNu : U64 RN := by rw [hRN]; exact U64.psi _
    rw [← hRN] at CF HR
    have CS := zH (fun X (hX : Below w1.heap.size w1 X) g hg => said_one RN RA HR.out X (HT.out.go (below_two HB1.out hX)) g hg)
    clear hz hZ hRN
    go_wp2_with (fail)
    refine CM.out.mono ?_
    rintro e w' ⟨rfl, rfl⟩
    go_wp2_with (fail)
    refine CF.out.mono ?_
    rintro e w' ⟨rfl, rfl⟩
    go_wp2_with (fail)
    refine (CS.out _ (below_alloc _ _) _ (NewU.lit1 _ _ hRNu).row).mono ?_
    rintro e w3 ⟨rfl, hb3⟩
    have HB3 := zH (below_two HB1.out ((below_alloc w1 _).trans (hb3.mono (below_alloc w1 _).size)))
    go_wp2
    go_ret
    exact ⟨rfl, HB3.out⟩
  ·have HR := zH (show RA = mkB (errL 3) by
    rw [HR0.out]; unfold listA
    rw [if_neg (by decide), if_neg (by decide), if_neg (by decide), if_neg (fun h => h2 (HNL.out.trans h.2))]
    split
    ·rfl
    ·rfl)
   have h2' : ((n : Int) == 1) = false := beq_false_of_ne (by omega)
   clear h2 HUr HNew
   go_wp2_with (fail)
   refine (ref_wrong 3 w1 (by decide) (by decide)).mono ?_
   rintro e w' ⟨rfl, rfl⟩
   rw [← HR.out]
   go_wp2
   go_ret
   exact ⟨rfl, HB1.out⟩
set_option maxHeartbeats 4000000 in
theorem ref_ans_sum (t : Bs) (ws : List Bs) (vw : Value) (w : World) (hT : Ten w) (ht : t.length ≤ 4096) (hw : RowS w vw ws) (hl : ws.length ≤ 100000) (hsz : ∀ x ∈ ws, x.length ≤ 1000000) :
  Calls Tryz.prog 19 #[.string (mkB t), .string ⟨#[115, 117, 109]⟩, vw] w fun e w' => e = .returned (.string (mkB (doA t vSum ws).1)) ∧ Below w.heap.size w w' := by
 have HT := zH hT; have Ht := zH ht
 rw [doA_list t vSum ws (by decide) (by decide) (by decide) (by decide) (by decide)]
 have CN := zH (ref_numbers ws vw w hT hw hl hsz)
 obtain ⟨RA, hRA⟩ : ∃ RA, RA = mkB (if ws.all okB then (listA t vSum (valsD ws)) else errL 3) := ⟨_, rfl⟩
 have HRA := zH hRA
 rw [← hRA]
 obtain ⟨N, hN⟩ : ∃ N, N = valsD ws := ⟨_, rfl⟩
 rw [← hN] at HRA
 have HN := zH hN
 clear hRA hT hN hw ht
 go_enter Tryz.func19, Tryz.ntmps19
 go_wp2_with (fail)
 refine CN.out.mono ?_
 rintro e w1 ⟨⟨v, rfl, hv, a, n, c, rfl⟩, hb⟩
 have HB1 := zH hb
 rw [← HN.out] at hv
 cases hok : ws.all okB with
 | false =>
  have HR := zH (show RA = mkB (errL 3) by rw [HRA.out, hok, if_neg (by decide)])
  clear hv hok hb CN
  go_wp2_with (fail)
  refine (ref_wrong 3 w1 (by decide) (by decide)).mono ?_
  rintro e w' ⟨rfl, rfl⟩
  rw [← HR.out]
  go_wp2
  go_ret
  exact ⟨rfl, HB1.out⟩
 | true =>
  have hn := hv hok
  have HR0 := zH (show RA = mkB (listA t vSum N) by rw [HRA.out, hok, if_pos rfl])
  clear hv hok hb CN
  obtain ⟨hNu, -, a8, c8, e8, h8⟩ := hn.row
  have HNu := zH hNu
  have HRow := zH h8
  have HUr := zH hn.row
  have HNew := zH hn
  cases e8
  obtain ⟨n, hnl⟩ : ∃ n, n = N.length := ⟨_, rfl⟩
  have HNL := zH hnl
  rw [← hnl] at HUr HNew ⊢
  clear hn hnl hNu h8
  have HR1 := zH (show RA = mkB (sumA N) by rw [HR0.out]; unfold listA; rw [if_pos rfl])
  by_cases h2 : IsTab N.length
  ·have HR2 := zH (show RA = mkB (decL (psi (sumTo (atF (N.map phi)) N.length))) by rw [HR1.out, sumA, if_pos h2])
   have CV := zH (ref_Vars N N.length.log2 (.slice a n c) w1 HUr.out h2.2 h2.1)
   have CF := zH (fun vv X (hX : RowUU X vv [N]) => r_Sum1 N vv X h2 hX)
   obtain ⟨RN, hRN⟩ : ∃ RN, RN = psi (sumTo (atF (N.map phi)) N.length) := ⟨_, rfl⟩
   have hRNu : U64 RN := by rw [hRN]; exact U64.psi _
   rw [← hRN] at CF HR2
   have HR := HR2
   obtain ⟨k, hk⟩ : ∃ k, k = N.length.log2 := ⟨_, rfl⟩
   rw [← hk] at CV
   have hk0 : ¬ ((k : Int) < 0) := by omega
   clear hRN hk h2
   have CS := zH (fun X (hX : Below w1.heap.size w1 X) g hg => said_one RN RA HR.out X (HT.out.go (below_two HB1.out hX)) g hg)
   go_wp2_with (fail)
   refine CV.out.mono ?_
   rintro e w' ⟨rfl, rfl⟩
   go_wp2_with (fail)
   refine (CF.out _ _ (rows_one HNew.out HB1.out.size)).mono ?_
   rintro e w3 ⟨rfl, hb3⟩
   have hb13 := (below_alloc w1 (.cells #[.slice a n c] 53)).trans (hb3.mono (below_alloc w1 _).size)
   have H13 := zH hb13
   clear hb13
   go_wp2_with (fail)
   refine (CS.out _ (H13.out.trans ((below_alloc w3 _).mono H13.out.size)) _ (NewU.lit1 _ _ hRNu).row).mono ?_
   rintro e w4 ⟨rfl, hb4⟩
   have HB4 := zH (below_two (below_two HB1.out (H13.out.trans ((below_alloc w3 (.cells #[.int .u64 RN] 57)).mono H13.out.size))) hb4)
   go_wp2
   go_ret
   exact ⟨rfl, HB4.out⟩
  ·have HR := zH (show RA = mkB (errL 4) by rw [HR1.out, sumA, if_neg h2])
   have CV := zH (ref_Vars_no N (.slice a n c) w1 HUr.out (noTab_of h2))
   clear h2
   go_wp2_with (fail)
   refine CV.out.mono ?_
   rintro e w' ⟨rfl, rfl⟩
   go_wp2_with (fail)
   refine (ref_wrong 4 w1 (by decide) (by decide)).mono ?_
   rintro e w' ⟨rfl, rfl⟩
   rw [← HR.out]
   go_wp2
   go_ret
   exact ⟨rfl, HB1.out⟩
set_option maxHeartbeats 4000000 in
theorem ref_ans_root (t : Bs) (ws : List Bs) (vw : Value) (w : World) (hT : Ten w) (ht : t.length ≤ 4096) (hw : RowS w vw ws) (hl : ws.length ≤ 100000) (hsz : ∀ x ∈ ws, x.length ≤ 1000000) :
  Calls Tryz.prog 19 #[.string (mkB t), .string ⟨#[114, 111, 111, 116]⟩, vw] w fun e w' => e = .returned (.string (mkB (doA t vRoot ws).1)) ∧ Below w.heap.size w w' := by
 have HT := zH hT; have Ht := zH ht
 rw [doA_list t vRoot ws (by decide) (by decide) (by decide) (by decide) (by decide)]
 have CN := zH (ref_numbers ws vw w hT hw hl hsz)
 obtain ⟨RA, hRA⟩ : ∃ RA, RA = mkB (if ws.all okB then (listA t vRoot (valsD ws)) else errL 3) := ⟨_, rfl⟩
 have HRA := zH hRA
 rw [← hRA]
 obtain ⟨N, hN⟩ : ∃ N, N = valsD ws := ⟨_, rfl⟩
 rw [← hN] at HRA
 have HN := zH hN
 clear hRA hT hN hw ht
 go_enter Tryz.func19, Tryz.ntmps19
 go_wp2_with (fail)
 refine CN.out.mono ?_
 rintro e w1 ⟨⟨v, rfl, hv, a, n, c, rfl⟩, hb⟩
 have HB1 := zH hb
 rw [← HN.out] at hv
 cases hok : ws.all okB with
 | false =>
  have HR := zH (show RA = mkB (errL 3) by rw [HRA.out, hok, if_neg (by decide)])
  clear hv hok hb CN
  go_wp2_with (fail)
  refine (ref_wrong 3 w1 (by decide) (by decide)).mono ?_
  rintro e w' ⟨rfl, rfl⟩
  rw [← HR.out]
  go_wp2
  go_ret
  exact ⟨rfl, HB1.out⟩
 | true =>
  have hn := hv hok
  have HR0 := zH (show RA = mkB (listA t vRoot N) by rw [HRA.out, hok, if_pos rfl])
  clear hv hok hb CN
  obtain ⟨hNu, -, a8, c8, e8, h8⟩ := hn.row
  have HNu := zH hNu
  have HRow := zH h8
  have HUr := zH hn.row
  have HNew := zH hn
  cases e8
  obtain ⟨n, hnl⟩ : ∃ n, n = N.length := ⟨_, rfl⟩
  have HNL := zH hnl
  rw [← hnl] at HUr HNew ⊢
  clear hn hnl hNu h8
  have HR1 := zH (show RA = mkB (rootA N) by rw [HR0.out]; unfold listA; rw [if_neg (by decide), if_pos rfl])
  by_cases h2 : IsTab N.length
  ·have HR2 := zH (show RA = mkB (decL (psi (rootF N N.length.log2))) by rw [HR1.out, rootA, if_pos h2])
   have CV := zH (ref_Vars N N.length.log2 (.slice a n c) w1 HUr.out h2.2 h2.1)
   have CF := zH (r_Root1 N a n c w1 h2 HNL.out HUr.out HNew.out.cap)
   obtain ⟨RN, hRN⟩ : ∃ RN, RN = psi (rootF N N.length.log2) := ⟨_, rfl⟩
   have hRNu : U64 RN := by rw [hRN]; exact U64.psi _
   rw [← hRN] at CF HR2
   have HR := HR2
   obtain ⟨k, hk⟩ : ∃ k, k = N.length.log2 := ⟨_, rfl⟩
   rw [← hk] at CV
   have hk0 : ¬ ((k : Int) < 0) := by omega
   clear hRN hk h2
   have CS := zH (fun X (hX : Below w1.heap.size w1 X) g hg => said_one RN RA HR.out X (HT.out.go (below_two HB1.out hX)) g hg)
   go_wp2_with (fail)
   refine CV.out.mono ?_
   rintro e w' ⟨rfl, rfl⟩
   go_wp2_with (fail)
   refine CF.out.mono ?_
   rintro e w3 ⟨rfl, hb13⟩
   have H13 := zH hb13
   clear hb13
   go_wp2_with (fail)
   refine (CS.out _ (H13.out.trans ((below_alloc w3 _).mono H13.out.size)) _ (NewU.lit1 _ _ hRNu).row).mono ?_
   rintro e w4 ⟨rfl, hb4⟩
   have HB4 := zH (below_two (below_two HB1.out (H13.out.trans ((below_alloc w3 (.cells #[.int .u64 RN] 57)).mono H13.out.size))) hb4)
   go_wp2
   go_ret
   exact ⟨rfl, HB4.out⟩
  ·have HR := zH (show RA = mkB (errL 4) by rw [HR1.out, rootA, if_neg h2])
   have CV := zH (ref_Vars_no N (.slice a n c) w1 HUr.out (noTab_of h2))
   clear h2
   go_wp2_with (fail)
   refine CV.out.mono ?_
   rintro e w' ⟨rfl, rfl⟩
   go_wp2_with (fail)
   refine (ref_wrong 4 w1 (by decide) (by decide)).mono ?_
   rintro e w' ⟨rfl, rfl⟩
   rw [← HR.out]
   go_wp2
   go_ret
   exact ⟨rfl, HB1.out⟩
set_option maxHeartbeats 4000000 in
theorem ref_ans_show (t : Bs) (ws : List Bs) (vw : Value) (w : World) (hT : Ten w) (ht : t.length ≤ 4096) (hw : RowS w vw ws) (hl : ws.length ≤ 100000) (hsz : ∀ x ∈ ws, x.length ≤ 1000000) :
  Calls Tryz.prog 19 #[.string (mkB t), .string ⟨#[115, 104, 111, 119]⟩, vw] w fun e w' => e = .returned (.string (mkB (doA t vShow ws).1)) ∧ Below w.heap.size w w' := by
 have HT := zH hT; have Ht := zH ht
 have hspec : (doA t vShow ws).1 = if ws.all okB then (if (valsD ws).length = 0 then netA t showA else errL 3) else errL 3 := by
  unfold doA
  rw [if_neg (by decide), if_neg (by decide), if_pos rfl]
  by_cases h : ws = []
  ·subst h; rfl
  ·have hl : ¬ (valsD ws).length = 0 := by unfold valsD; rw [List.length_map]; exact fun e => h (List.eq_nil_of_length_eq_zero e)
   rw [if_neg h, if_neg hl]
   split <;> rfl
 rw [hspec]
 have CN := zH (ref_numbers ws vw w hT hw hl hsz)
 obtain ⟨RA, hRA⟩ : ∃ RA, RA = mkB (if ws.all okB then (if (valsD ws).length = 0 then netA t showA else errL 3) else errL 3) := ⟨_, rfl⟩
 have HRA := zH hRA
 rw [← hRA]
 obtain ⟨N, hN⟩ : ∃ N, N = valsD ws := ⟨_, rfl⟩
 rw [← hN] at HRA
 have HN := zH hN
 clear hRA hT hN hw ht
 go_enter Tryz.func19, Tryz.ntmps19
 go_wp2_with (fail)
 refine CN.out.mono ?_
 rintro e w1 ⟨⟨v, rfl, hv, a, n, c, rfl⟩, hb⟩
 have HB1 := zH hb
 rw [← HN.out] at hv
 cases hok : ws.all okB with
 | false =>
  have HR := zH (show RA = mkB (errL 3) by rw [HRA.out, hok, if_neg (by decide)])
  clear hv hok hb CN
  go_wp2_with (fail)
  refine (ref_wrong 3 w1 (by decide) (by decide)).mono ?_
  rintro e w' ⟨rfl, rfl⟩
  rw [← HR.out]
  go_wp2
  go_ret
  exact ⟨rfl, HB1.out⟩
 | true =>
  have hn := hv hok
  have HR0 := zH (show RA = mkB (if N.length = 0 then netA t showA else errL 3) by rw [HRA.out, hok, if_pos rfl])
  clear hv hok hb CN
  obtain ⟨hNu, -, a8, c8, e8, h8⟩ := hn.row
  have HNu := zH hNu
  have HRow := zH h8
  have HUr := zH hn.row
  have HNew := zH hn
  cases e8
  obtain ⟨n, hnl⟩ : ∃ n, n = N.length := ⟨_, rfl⟩
  have HNL := zH hnl
  rw [← hnl] at HUr HNew ⊢
  clear hn hnl hNu h8
  by_cases h2 : n = 0
  ·have HR := zH (show RA = mkB (netA t showA) by rw [HR0.out, if_pos (by rw [← HNL.out]; exact h2)])
   have CF := zH (fun va vb => r_net t ⟨#[115, 104, 111, 119]⟩ va vb w1 (HT.out.go HB1.out) Ht.out showA (fun h => ref_netted_show t va vb w1 Ht.out h))
   rw [← HR.out] at CF
   clear HUr HNew
   subst h2
   go_wp2_with (fail)
   refine (CF.out _ _).mono ?_
   rintro e w3 ⟨rfl, hb3⟩
   have HB3 := zH (below_two HB1.out hb3)
   go_wp2
   go_ret
   exact ⟨rfl, HB3.out⟩
  ·have HR := zH (show RA = mkB (errL 3) by rw [HR0.out, if_neg (by rw [← HNL.out]; exact h2)])
   have h2' : ((n : Int) == 0) = false := beq_false_of_ne (by omega)
   clear h2 HUr HNew
   go_wp2_with (fail)
   refine (ref_wrong 3 w1 (by decide) (by decide)).mono ?_
   rintro e w' ⟨rfl, rfl⟩
   rw [← HR.out]
   go_wp2
   go_ret
   exact ⟨rfl, HB1.out⟩
set_option maxHeartbeats 4000000 in
theorem ref_ans_run (t : Bs) (ws : List Bs) (vw : Value) (w : World) (hT : Ten w) (ht : t.length ≤ 4096) (hw : RowS w vw ws) (hl : ws.length ≤ 100000) (hsz : ∀ x ∈ ws, x.length ≤ 1000000) :
  Calls Tryz.prog 19 #[.string (mkB t), .string ⟨#[114, 117, 110]⟩, vw] w fun e w' => e = .returned (.string (mkB (doA t vRun ws).1)) ∧ Below w.heap.size w w' := by
 have HT := zH hT; have Ht := zH ht
 rw [doA_list t vRun ws (by decide) (by decide) (by decide) (by decide) (by decide)]
 have CN := zH (ref_numbers ws vw w hT hw hl hsz)
 obtain ⟨RA, hRA⟩ : ∃ RA, RA = mkB (if ws.all okB then (listA t vRun (valsD ws)) else errL 3) := ⟨_, rfl⟩
 have HRA := zH hRA
 rw [← hRA]
 obtain ⟨N, hN⟩ : ∃ N, N = valsD ws := ⟨_, rfl⟩
 rw [← hN] at HRA
 have HN := zH hN
 clear hRA hT hN hw ht
 go_enter Tryz.func19, Tryz.ntmps19
 go_wp2_with (fail)
 refine CN.out.mono ?_
 rintro e w1 ⟨⟨v, rfl, hv, a, n, c, rfl⟩, hb⟩
 have HB1 := zH hb
 rw [← HN.out] at hv
 cases hok : ws.all okB with
 | false =>
  have HR := zH (show RA = mkB (errL 3) by rw [HRA.out, hok, if_neg (by decide)])
  clear hv hok hb CN
  go_wp2_with (fail)
  refine (ref_wrong 3 w1 (by decide) (by decide)).mono ?_
  rintro e w' ⟨rfl, rfl⟩
  rw [← HR.out]
  go_wp2
  go_ret
  exact ⟨rfl, HB1.out⟩
 | true =>
  have hn := hv hok
  have HR0 := zH (show RA = mkB (listA t vRun N) by rw [HRA.out, hok, if_pos rfl])
  clear hv hok hb CN
  obtain ⟨hNu, -, a8, c8, e8, h8⟩ := hn.row
  have HNu := zH hNu
  have HRow := zH h8
  have HUr := zH hn.row
  have HNew := zH hn
  cases e8
  obtain ⟨n, hnl⟩ : ∃ n, n = N.length := ⟨_, rfl⟩
  have HNL := zH hnl
  rw [← hnl] at HUr HNew ⊢
  clear hn hnl hNu h8
  have HR := zH (show RA = mkB (netA t fun c => ranA c N) by rw [HR0.out]; unfold listA; rw [if_neg (by decide), if_neg (by decide), if_pos rfl])
  have CF := zH (fun vb => r_net t ⟨#[114, 117, 110]⟩ (.slice a n c) vb w1 (HT.out.go HB1.out) Ht.out (fun c => ranA c N) (fun h => ref_netted_run t (.slice a n c) vb N w1 (HT.out.go HB1.out) Ht.out h HUr.out))
  rw [← HR.out] at CF
  go_wp2_with (fail)
  refine (CF.out _).mono ?_
  rintro e w3 ⟨rfl, hb3⟩
  have HB3 := zH (below_two HB1.out hb3)
  go_wp2
  go_ret
  exact ⟨rfl, HB3.out⟩
set_option maxHeartbeats 4000000 in
theorem ref_ans_eval (t : Bs) (ws : List Bs) (vw : Value) (w : World) (hT : Ten w) (ht : t.length ≤ 4096) (hw : RowS w vw ws) (hl : ws.length ≤ 100000) (hsz : ∀ x ∈ ws, x.length ≤ 1000000) :
  Calls Tryz.prog 19 #[.string (mkB t), .string ⟨#[101, 118, 97, 108]⟩, vw] w fun e w' => e = .returned (.string (mkB (doA t vEval ws).1)) ∧ Below w.heap.size w w' := by
 have HT := zH hT; have Ht := zH ht
 have hspec : (doA t vEval ws).1 = if halfB ws then evalA (valsD (ws.take (slashD ws))) (valsD (ws.drop (slashD ws + 1))) else errL 3 := by
  unfold doA
  rw [if_neg (by decide), if_neg (by decide), if_neg (by decide), if_pos rfl]
  split <;> rfl
 rw [hspec]
 obtain ⟨RA, hRA⟩ : ∃ RA, RA = mkB (if halfB ws then evalA (valsD (ws.take (slashD ws))) (valsD (ws.drop (slashD ws + 1))) else errL 3) := ⟨_, rfl⟩
 have HRA := zH hRA
 rw [← hRA]
 clear hspec hRA hT ht
 have H := zH hw; have Hsz := zH hsz
 obtain ⟨-, a, cap, rfl, hc1, hc2, hr⟩ := hw
 clear hsz
 by_cases h0 : ws = []
 ·subst h0
  have HR := zH (show RA = mkB (errL 3) by rw [HRA.out]; rfl)
  clear hr H
  go_enter Tryz.func19, Tryz.ntmps19
  go_wp2_with (go_at_call 40; refine (Tryz.slices_Index_empty (α := Nat) _ _ _ _).mono ?_; rintro e w' ⟨rfl, rfl⟩)
  refine (ref_wrong 3 _ (by decide) (by decide)).mono ?_
  rintro e w' ⟨rfl, rfl⟩
  rw [← HR.out]
  go_wp2
  go_ret
  exact ⟨rfl, Below.refl _ _⟩
 ·have hl0 : 0 < ws.length := List.length_pos_iff.mpr h0
  obtain ⟨b, off, rfl, hb, -, hcell⟩ := hr hl0
  have CI := zH (index_slash ws b off cap w hl hcell)
  clear hr hcell h0
  by_cases hf : slashD ws < ws.length
  ·rw [if_pos hf] at CI
   have HRA2 := zH (show RA = mkB (if ((ws.take (slashD ws)).all okB && (ws.drop (slashD ws + 1)).all okB) then evalA (valsD (ws.take (slashD ws))) (valsD (ws.drop (slashD ws + 1))) else errL 3) by rw [HRA.out]; unfold halfB; rw [decide_eq_true hf, Bool.true_and])
   obtain ⟨k, hk⟩ : ∃ k, k = slashD ws := ⟨_, rfl⟩
   rw [← hk] at CI hf HRA2
   clear hk HRA
   have H1 := zH (H.out.front k (by omega))
   have H2 := zH (H.out.back (k + 1) (by omega))
   have C1 := zH (fun X (hX : Below w.heap.size w X) => ref_numbers (ws.take k) (.slice (some ⟨b, off, none⟩) k cap) X (HT.out.go hX) (H1.out.go hX) (by rw [List.length_take]; omega) (fun x hx => Hsz.out x (List.mem_of_mem_take hx)))
   have hkc : (k : Int) ≤ (cap : Int) := by omega
   have hk1 : (k : Int) + 1 ≤ (ws.length : Int) := by omega
   have hw1 : IntKind.i64.wrap ((k : Int) + 1) = (k : Int) + 1 := IntWalk.i64_in _ (by omega)
   have hk1c : (k : Int) + 1 ≤ (cap : Int) := by omega
   have hnn : ((k : Int) + 1).toNat = k + 1 := by omega
   have hk0 : ¬ ((k : Int) < 0) := by omega
   go_enter Tryz.func19, Tryz.ntmps19
   go_wp2_with (fail)
   refine CI.out.mono ?_
   rintro e w' ⟨rfl, rfl⟩
   go_wp2_with (fail)
   refine (C1.out w (Below.refl _ _)).mono ?_
   rintro e w1 ⟨⟨v1, rfl, hn1, a1, m1, c1, rfl⟩, hb1⟩
   have HN1 := zH hn1; have HB1 := zH hb1
   clear hn1 hb1 CI C1
   go_wp2_with (fail)
   all_goals
    have HR2 := zH (H2.out.go HB1.out)
    have C2 := zH (fun vv (hv : RowS w1 vv (ws.drop (k + 1))) => ref_numbers (ws.drop (k + 1)) vv w1 (HT.out.go HB1.out) hv (by rw [List.length_drop]; omega) (fun x hx => Hsz.out x (List.mem_of_mem_drop hx)))
    refine (C2.out _ (by first | exact HR2.out | (rw [List.drop_eq_nil_of_le (show ws.length ≤ k + 1 by omega), show ws.length - (k + 1) = 0 by omega]; exact RowS.none0 (by omega)))).mono ?_
    rintro e w2 ⟨⟨v2, rfl, hn2, a2, m2, c2, rfl⟩, hb2⟩
    have HB2 := zH (below_two HB1.out hb2)
    have HM1 := zH (fun e => (HN1.out e).below hb2 (Nat.le_refl _))
    have HM2 := zH hn2
    clear hn2 hb2 C2 HR2 HN1 H1 H2 H Hsz
    obtain ⟨b1, hb1⟩ : ∃ b1, b1 = (ws.take k).all okB := ⟨_, rfl⟩
    obtain ⟨b2, hb2⟩ : ∃ b2, b2 = (ws.drop (k + 1)).all okB := ⟨_, rfl⟩
    obtain ⟨N1, hN1⟩ : ∃ N1, N1 = valsD (ws.take k) := ⟨_, rfl⟩
    obtain ⟨N2, hN2⟩ : ∃ N2, N2 = valsD (ws.drop (k + 1)) := ⟨_, rfl⟩
    rw [← hb1, ← hb2, ← hN1, ← hN2] at HRA2
    rw [← hb1, ← hN1] at HM1
    rw [← hb2, ← hN2] at HM2
    rw [← hb2]
    simp only [← hb1]
    clear hb1 hb2 hN1 hN2 hkc hk1 hw1 hk1c hnn
    cases b1 with
    | false =>
     have HR := zH (show RA = mkB (errL 3) by rw [HRA2.out, Bool.false_and, if_neg (by decide)])
     clear HRA2
     go_wp2_with (fail)
     refine (ref_wrong 3 w2 (by decide) (by decide)).mono ?_
     rintro e w' ⟨rfl, rfl⟩
     rw [← HR.out]
     go_wp2
     go_ret
     exact ⟨rfl, HB2.out⟩
    | true =>
     cases b2 with
     | false =>
      have HR := zH (show RA = mkB (errL 3) by rw [HRA2.out, Bool.true_and, if_neg (by decide)])
      clear HRA2
      go_wp2_with (fail)
      refine (ref_wrong 3 w2 (by decide) (by decide)).mono ?_
      rintro e w' ⟨rfl, rfl⟩
      rw [← HR.out]
      go_wp2
      go_ret
      exact ⟨rfl, HB2.out⟩
     | true =>
      have HR1 := zH (show RA = mkB (evalA N1 N2) by rw [HRA2.out, Bool.true_and, if_pos rfl])
      have hnw1 := HM1.out rfl
      have hnw2 := HM2.out rfl
      obtain ⟨d1, x1, e1⟩ := hnw1.isSlice
      obtain ⟨d2, x2, e2⟩ := hnw2.isSlice
      have hm1 : m1 = N1.length := by cases e1; rfl
      have hm2 : m2 = N2.length := by cases e2; rfl
      have HU1 := zH hnw1.row
      have HU2 := zH hnw2.row
      have Hm1 := zH hm1
      have Hm2 := zH hm2
      clear HRA2 HM1 HM2 hnw1 hnw2 e1 e2 hm1 hm2
      by_cases h2 : IsTab N1.length
      ·have CV := zH (ref_Vars N1 N1.length.log2 (.slice a1 m1 c1) w2 HU1.out h2.2 h2.1)
       by_cases h3 : N2.length = N1.length.log2
       ·have HR := zH (show RA = mkB (decL (psi (evalF (N1.map phi) (N2.map phi)))) by rw [HR1.out, evalA, if_pos h2, if_pos h3])
        have CF := zH (r_Eval1 N1 N2 (.slice a1 m1 c1) (.slice a2 m2 c2) w2 h2 h3 HU1.out HU2.out)
        obtain ⟨RN, hRN⟩ : ∃ RN, RN = psi (evalF (N1.map phi) (N2.map phi)) := ⟨_, rfl⟩
        have hRNu : U64 RN := by rw [hRN]; exact U64.psi _
        rw [← hRN] at CF HR
        have hmk := Hm2.out.trans h3
        obtain ⟨q, hq⟩ : ∃ q, q = N1.length.log2 := ⟨_, rfl⟩
        rw [← hq] at CV hmk
        have hq0 : ¬ ((q : Int) < 0) := by omega
        have hne : ((m2 : Int) != (q : Int)) = false := by rw [hmk]; simp
        clear hRN hq h2 h3 hmk
        have CS := zH (fun X (hX : Below w2.heap.size w2 X) g hg => said_one RN RA HR.out X (HT.out.go (below_two HB2.out hX)) g hg)
        go_wp2_with (fail)
        refine CV.out.mono ?_
        rintro e w' ⟨rfl, rfl⟩
        go_wp2_with (fail)
        refine CV.out.mono ?_
        rintro e w' ⟨rfl, rfl⟩
        go_wp2_with (fail)
        refine CF.out.mono ?_
        rintro e w3 ⟨rfl, hb13⟩
        have H13 := zH hb13
        clear hb13
        go_wp2_with (fail)
        refine (CS.out _ (H13.out.trans ((below_alloc w3 _).mono H13.out.size)) _ (NewU.lit1 _ _ hRNu).row).mono ?_
        rintro e w4 ⟨rfl, hb4⟩
        have HB4 := zH (below_two (below_two HB2.out (H13.out.trans ((below_alloc w3 (.cells #[.int .u64 RN] 57)).mono H13.out.size))) hb4)
        go_wp2
        go_ret
        exact ⟨rfl, HB4.out⟩
       ·have HR := zH (show RA = mkB (errL 1) by rw [HR1.out, evalA, if_pos h2, if_neg h3])
        have hmk : ¬ m2 = N1.length.log2 := fun e => h3 (Hm2.out.symm.trans e)
        obtain ⟨q, hq⟩ : ∃ q, q = N1.length.log2 := ⟨_, rfl⟩
        rw [← hq] at CV hmk
        have hq0 : ¬ ((q : Int) < 0) := by omega
        have hne : ((m2 : Int) != (q : Int)) = true := bne_iff_ne.mpr fun e => hmk (Int.ofNat_inj.mp e)
        clear hq h2 h3 hmk
        go_wp2_with (fail)
        refine CV.out.mono ?_
        rintro e w' ⟨rfl, rfl⟩
        go_wp2_with (fail)
        refine CV.out.mono ?_
        rintro e w' ⟨rfl, rfl⟩
        go_wp2_with (fail)
        refine (ref_wrong 1 w2 (by decide) (by decide)).mono ?_
        rintro e w' ⟨rfl, rfl⟩
        rw [← HR.out]
        go_wp2
        go_ret
        exact ⟨rfl, HB2.out⟩
      ·have HR := zH (show RA = mkB (errL 4) by rw [HR1.out, evalA, if_neg h2])
       have CV := zH (ref_Vars_no N1 (.slice a1 m1 c1) w2 HU1.out (noTab_of h2))
       clear h2
       go_wp2_with (fail)
       refine CV.out.mono ?_
       rintro e w' ⟨rfl, rfl⟩
       go_wp2_with (fail)
       refine (ref_wrong 4 w2 (by decide) (by decide)).mono ?_
       rintro e w' ⟨rfl, rfl⟩
       rw [← HR.out]
       go_wp2
       go_ret
       exact ⟨rfl, HB2.out⟩
  ·rw [if_neg hf] at CI
   have HR := zH (show RA = mkB (errL 3) by rw [HRA.out]; unfold halfB; rw [decide_eq_false hf, Bool.false_and, if_neg (by decide)])
   clear hf
   go_enter Tryz.func19, Tryz.ntmps19
   go_wp2_with (fail)
   refine CI.out.mono ?_
   rintro e w' ⟨rfl, rfl⟩
   go_wp2_with (fail)
   refine (ref_wrong 3 _ (by decide) (by decide)).mono ?_
   rintro e w' ⟨rfl, rfl⟩
   rw [← HR.out]
   go_wp2
   go_ret
   exact ⟨rfl, Below.refl _ _⟩
set_option maxHeartbeats 4000000 in
theorem ref_ans_prove (t : Bs) (ws : List Bs) (vw : Value) (w : World) (hT : Ten w) (ht : t.length ≤ 4096) (hw : RowS w vw ws) (hl : ws.length ≤ 100000) (hsz : ∀ x ∈ ws, x.length ≤ 1000000) :
  Calls Tryz.prog 19 #[.string (mkB t), .string ⟨#[112, 114, 111, 118, 101]⟩, vw] w fun e w' => e = .returned (.string (mkB (doA t vProve ws).1)) ∧ Below w.heap.size w w' := by
 have HT := zH hT; have Ht := zH ht
 have hspec : (doA t vProve ws).1 = if halfB ws then netA t (fun c => provA c (valsD (ws.take (slashD ws))) (valsD (ws.drop (slashD ws + 1)))) else errL 3 := by
  unfold doA
  rw [if_neg (by decide), if_neg (by decide), if_neg (by decide), if_neg (by decide), if_pos rfl]
  split <;> rfl
 rw [hspec]
 obtain ⟨RA, hRA⟩ : ∃ RA, RA = mkB (if halfB ws then netA t (fun c => provA c (valsD (ws.take (slashD ws))) (valsD (ws.drop (slashD ws + 1)))) else errL 3) := ⟨_, rfl⟩
 have HRA := zH hRA
 rw [← hRA]
 clear hspec hRA hT ht
 have H := zH hw; have Hsz := zH hsz
 obtain ⟨-, a, cap, rfl, hc1, hc2, hr⟩ := hw
 clear hsz
 by_cases h0 : ws = []
 ·subst h0
  have HR := zH (show RA = mkB (errL 3) by rw [HRA.out]; rfl)
  clear hr H
  go_enter Tryz.func19, Tryz.ntmps19
  go_wp2_with (go_at_call 40; refine (Tryz.slices_Index_empty (α := Nat) _ _ _ _).mono ?_; rintro e w' ⟨rfl, rfl⟩)
  refine (ref_wrong 3 _ (by decide) (by decide)).mono ?_
  rintro e w' ⟨rfl, rfl⟩
  rw [← HR.out]
  go_wp2
  go_ret
  exact ⟨rfl, Below.refl _ _⟩
 ·have hl0 : 0 < ws.length := List.length_pos_iff.mpr h0
  obtain ⟨b, off, rfl, hb, -, hcell⟩ := hr hl0
  have CI := zH (index_slash ws b off cap w hl hcell)
  clear hr hcell h0
  by_cases hf : slashD ws < ws.length
  ·rw [if_pos hf] at CI
   have HRA2 := zH (show RA = mkB (if ((ws.take (slashD ws)).all okB && (ws.drop (slashD ws + 1)).all okB) then netA t (fun c => provA c (valsD (ws.take (slashD ws))) (valsD (ws.drop (slashD ws + 1)))) else errL 3) by rw [HRA.out]; unfold halfB; rw [decide_eq_true hf, Bool.true_and])
   obtain ⟨k, hk⟩ : ∃ k, k = slashD ws := ⟨_, rfl⟩
   rw [← hk] at CI hf HRA2
   clear hk HRA
   have H1 := zH (H.out.front k (by omega))
   have H2 := zH (H.out.back (k + 1) (by omega))
   have C1 := zH (fun X (hX : Below w.heap.size w X) => ref_numbers (ws.take k) (.slice (some ⟨b, off, none⟩) k cap) X (HT.out.go hX) (H1.out.go hX) (by rw [List.length_take]; omega) (fun x hx => Hsz.out x (List.mem_of_mem_take hx)))
   have hkc : (k : Int) ≤ (cap : Int) := by omega
   have hk1 : (k : Int) + 1 ≤ (ws.length : Int) := by omega
   have hw1 : IntKind.i64.wrap ((k : Int) + 1) = (k : Int) + 1 := IntWalk.i64_in _ (by omega)
   have hk1c : (k : Int) + 1 ≤ (cap : Int) := by omega
   have hnn : ((k : Int) + 1).toNat = k + 1 := by omega
   have hk0 : ¬ ((k : Int) < 0) := by omega
   go_enter Tryz.func19, Tryz.ntmps19
   go_wp2_with (fail)
   refine CI.out.mono ?_
   rintro e w' ⟨rfl, rfl⟩
   go_wp2_with (fail)
   refine (C1.out w (Below.refl _ _)).mono ?_
   rintro e w1 ⟨⟨v1, rfl, hn1, a1, m1, c1, rfl⟩, hb1⟩
   have HN1 := zH hn1; have HB1 := zH hb1
   clear hn1 hb1 CI C1
   go_wp2_with (fail)
   all_goals
    have HR2 := zH (H2.out.go HB1.out)
    have C2 := zH (fun vv (hv : RowS w1 vv (ws.drop (k + 1))) => ref_numbers (ws.drop (k + 1)) vv w1 (HT.out.go HB1.out) hv (by rw [List.length_drop]; omega) (fun x hx => Hsz.out x (List.mem_of_mem_drop hx)))
    refine (C2.out _ (by first | exact HR2.out | (rw [List.drop_eq_nil_of_le (show ws.length ≤ k + 1 by omega), show ws.length - (k + 1) = 0 by omega]; exact RowS.none0 (by omega)))).mono ?_
    rintro e w2 ⟨⟨v2, rfl, hn2, a2, m2, c2, rfl⟩, hb2⟩
    have HB2 := zH (below_two HB1.out hb2)
    have HM1 := zH (fun e => (HN1.out e).below hb2 (Nat.le_refl _))
    have HM2 := zH hn2
    clear hn2 hb2 C2 HR2 HN1 H1 H2 H Hsz
    obtain ⟨b1, hb1⟩ : ∃ b1, b1 = (ws.take k).all okB := ⟨_, rfl⟩
    obtain ⟨b2, hb2⟩ : ∃ b2, b2 = (ws.drop (k + 1)).all okB := ⟨_, rfl⟩
    obtain ⟨N1, hN1⟩ : ∃ N1, N1 = valsD (ws.take k) := ⟨_, rfl⟩
    obtain ⟨N2, hN2⟩ : ∃ N2, N2 = valsD (ws.drop (k + 1)) := ⟨_, rfl⟩
    rw [← hb1, ← hb2, ← hN1, ← hN2] at HRA2
    rw [← hb1, ← hN1] at HM1
    rw [← hb2, ← hN2] at HM2
    rw [← hb2]
    simp only [← hb1]
    clear hb1 hb2 hN1 hN2 hkc hk1 hw1 hk1c hnn
    cases b1 with
    | false =>
     have HR := zH (show RA = mkB (errL 3) by rw [HRA2.out, Bool.false_and, if_neg (by decide)])
     clear HRA2
     go_wp2_with (fail)
     refine (ref_wrong 3 w2 (by decide) (by decide)).mono ?_
     rintro e w' ⟨rfl, rfl⟩
     rw [← HR.out]
     go_wp2
     go_ret
     exact ⟨rfl, HB2.out⟩
    | true =>
     cases b2 with
     | false =>
      have HR := zH (show RA = mkB (errL 3) by rw [HRA2.out, Bool.true_and, if_neg (by decide)])
      clear HRA2
      go_wp2_with (fail)
      refine (ref_wrong 3 w2 (by decide) (by decide)).mono ?_
      rintro e w' ⟨rfl, rfl⟩
      rw [← HR.out]
      go_wp2
      go_ret
      exact ⟨rfl, HB2.out⟩
     | true =>
      have HR1 := zH (show RA = mkB (netA t (fun c => provA c N1 N2)) by rw [HRA2.out, Bool.true_and, if_pos rfl])
      have hnw1 := HM1.out rfl
      have hnw2 := HM2.out rfl
      obtain ⟨d1, x1, e1⟩ := hnw1.isSlice
      obtain ⟨d2, x2, e2⟩ := hnw2.isSlice
      have hm1 : m1 = N1.length := by cases e1; rfl
      have hm2 : m2 = N2.length := by cases e2; rfl
      have HU1 := zH hnw1.row
      have HU2 := zH hnw2.row
      have Hm1 := zH hm1
      have Hm2 := zH hm2
      clear HRA2 HM1 HM2 hnw1 hnw2 e1 e2 hm1 hm2
      have CF := zH (r_net t ⟨#[112, 114, 111, 118, 101]⟩ (.slice a1 m1 c1) (.slice a2 m2 c2) w2 (HT.out.go HB2.out) Ht.out (fun c => provA c N1 N2) (fun h => ref_netted_prove t (.slice a1 m1 c1) (.slice a2 m2 c2) N1 N2 w2 Ht.out h HU1.out HU2.out))
      rw [← HR1.out] at CF
      go_wp2_with (fail)
      refine CF.out.mono ?_
      rintro e w3 ⟨rfl, hb3⟩
      have HB3 := zH (below_two HB2.out hb3)
      go_wp2
      go_ret
      exact ⟨rfl, HB3.out⟩
  ·rw [if_neg hf] at CI
   have HR := zH (show RA = mkB (errL 3) by rw [HRA.out]; unfold halfB; rw [decide_eq_false hf, Bool.false_and, if_neg (by decide)])
   clear hf
   go_enter Tryz.func19, Tryz.ntmps19
   go_wp2_with (fail)
   refine CI.out.mono ?_
   rintro e w' ⟨rfl, rfl⟩
   go_wp2_with (fail)
   refine (ref_wrong 3 _ (by decide) (by decide)).mono ?_
   rintro e w' ⟨rfl, rfl⟩
   rw [← HR.out]
   go_wp2
   go_ret
   exact ⟨rfl, Below.refl _ _⟩
theorem doA_other (t v : Bs) (ws : List Bs) (h1 : v = vCircuit → ws = []) (h2 : v = vClear → ws ≠ []) (h3 : v ≠ vShow) (h4 : v ≠ vEval) (h5 : v ≠ vProve) (h6 : v ≠ vSum) (h7 : v ≠ vRoot) (h8 : v ≠ vRun) (h9 : v ≠ vInv) (ha : v ≠ vAdd) (hb : v ≠ vSub) (hc : v ≠ vMul) (hd : v ≠ vPow) : (doA t v ws).1 = errL 3 := by
 unfold doA
 by_cases e1 : v = vCircuit
 ·rw [if_pos e1, if_pos (h1 e1)]
 ·rw [if_neg e1]
  by_cases e2 : v = vClear
  ·rw [if_pos e2, if_neg (h2 e2)]
  ·rw [if_neg e2, if_neg h3, if_neg h4, if_neg h5]
   by_cases e3 : ws.all okB = true
   ·rw [if_pos e3]
    show listA t v (valsD ws) = _
    unfold listA twoA
    rw [if_neg h6, if_neg h7, if_neg h8, if_neg (fun h => h9 h.1), if_neg ha, if_neg hb, if_neg hc, if_neg hd]
    split <;> rfl
   ·rw [if_neg e3]
set_option maxHeartbeats 4000000 in
theorem ref_ans_other (v : Bs) (t : Bs) (ws : List Bs) (vw : Value) (w : World) (hT : Ten w) (ht : t.length ≤ 4096) (hw : RowS w vw ws) (hl : ws.length ≤ 100000) (hsz : ∀ x ∈ ws, x.length ≤ 1000000)
  (h1 : v = vCircuit → ws = []) (h2 : v = vClear → ws ≠ []) (h3 : v ≠ vShow) (h4 : v ≠ vEval) (h5 : v ≠ vProve) (h6 : v ≠ vSum) (h7 : v ≠ vRoot) (h8 : v ≠ vRun) (h9 : v ≠ vInv) (ha : v ≠ vAdd) (hb : v ≠ vSub) (hc : v ≠ vMul) (hd : v ≠ vPow) :
  Calls Tryz.prog 19 #[.string (mkB t), .string (mkB v), vw] w fun e w' => e = .returned (.string (mkB (doA t v ws).1)) ∧ Below w.heap.size w w' := by
 rw [doA_other t v ws h1 h2 h3 h4 h5 h6 h7 h8 h9 ha hb hc hd]
 have CN := zH (ref_numbers ws vw w hT hw hl hsz)
 obtain ⟨RA, hRA⟩ : ∃ RA, RA = mkB (errL 3) := ⟨_, rfl⟩
 have HR := zH hRA
 rw [← hRA]
 have k3 : (v == [115, 104, 111, 119]) = false := vb_no h3
 have k4 : (v == [101, 118, 97, 108]) = false := vb_no h4
 have k5 : (v == [112, 114, 111, 118, 101]) = false := vb_no h5
 have k6 : (v == [115, 117, 109]) = false := vb_no h6
 have k7 : (v == [114, 111, 111, 116]) = false := vb_no h7
 have k8 : (v == [114, 117, 110]) = false := vb_no h8
 have k9 : (v == [105, 110, 118]) = false := vb_no h9
 have ka : (v == [97, 100, 100]) = false := vb_no ha
 have kb : (v == [115, 117, 98]) = false := vb_no hb
 have kc : (v == [109, 117, 108]) = false := vb_no hc
 have kd : (v == [112, 111, 119]) = false := vb_no hd
 clear hRA hT ht hw h1 h2 h3 h4 h5 h6 h7 h8 h9 ha hb hc hd
 go_enter Tryz.func19, Tryz.ntmps19
 go_wp2_with (fail)
 refine CN.out.mono ?_
 rintro e w1 ⟨⟨vv, rfl, hv, a, n, c, rfl⟩, hb⟩
 have HB1 := zH hb
 clear hv hb CN
 go_wp2_with (fail)
 refine (ref_wrong 3 w1 (by decide) (by decide)).mono ?_
 rintro e w' ⟨rfl, rfl⟩
 rw [← HR.out]
 go_wp2
 go_ret
 exact ⟨rfl, HB1.out⟩
end Go.Proofs.YtlfneeobnihocaaGreatDoor
