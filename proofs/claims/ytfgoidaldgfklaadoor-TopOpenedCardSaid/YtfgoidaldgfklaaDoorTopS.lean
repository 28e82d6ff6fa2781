/- What tallytop's laws share: sized lists, the tiny circuit, said. The table of bits lies as its initialiser lays it. -/
import Derived.Test.YtfgoidaldgfklaaDoorFiatP
import Derived.Test.YtfgoidaldgfklaaDoorFiatV
import Derived.Test.YtfgoidaldgfklaaDoorGkrCompleteWalk
namespace Go.Proofs.YtfgoidaldgfklaaDoor
set_option maxRecDepth 100000
set_option linter.unusedVariables false
open Go.RowKit Tally
/-- a proof told draw by draw holds -/
theorem verB_fiat {c : Ci} (hg : Good c) (inp : List Int) (hi : inp.length = 2 ^ c.log.toNat) (V : List Int) (hV : V = (valF c (inp.map phi) c.layers.length).map psi) :
    verB c inp V (proveI c inp (fiatD c inp V)) (drawnI c inp V (proveI c inp (fiatD c inp V))) = true := by
  rw [drawn_prove]
  have := verB_right hg inp (fiatD c inp V) hi (fiatD_length _ _ _)
  rwa [← hV] at this
theorem told_other2 (gs : List Gt) (z V : List F) (k : Nat) (d d2 : List F) (cl : F) (hk : 0 < k) (hne : cl ≠ sumAt gs z V k []) : told cl ((List.range (2 * k)).map fun j => roundAt gs z V k (d.take j)) d2 = none := by
  unfold told
  refine toldTo_none (k := 1) (by rw [List.length_map, List.length_range]; omega) ?_
  have e : ((List.range (2 * k)).map fun j => roundAt gs z V k (d.take j))[0]?.getD [] = roundAt gs z V k [] := by
    simp [show 0 < 2 * k by omega]
  have e0 : atF (roundAt gs z V k []) 0 = sumAt gs z V k ([] ++ [0]) := by
    rw [← lag_roundAt gs z V k _ (by simp; omega) 0]
    exact (lag_at _ (by rw [roundAt_length]; omega) 0 (by rw [roundAt_length]; omega)).symm
  have e1 : atF (roundAt gs z V k []) 1 = sumAt gs z V k ([] ++ [1]) := by
    rw [← lag_roundAt gs z V k _ (by simp; omega) 1]
    exact (lag_at _ (by rw [roundAt_length]; omega) 1 (by rw [roundAt_length]; omega)).symm
  simp only [toldTo]
  rw [e, e0, e1, sumAt_split gs z V k _ (by simp; omega), if_neg (fun h => hne h.symm)]
/-- one output that is wrong: the first round tells it, whatever is drawn -/
theorem verB_first {c : Ci} (hg : Good c) (inp inp2 out d d2 : List Int) (hi : inp.length = 2 ^ c.log.toNat) (i : Nat) (hL : c.layers.length = i + 1) (h0 : (belowLog c c.layers.length).toNat = 0) (hk : 0 < (belowLog c i).toNat)
    (hne : evalF (out.map phi) [] ≠ evalF (valF c (inp.map phi) c.layers.length) []) : verB c inp2 out (proveI c inp d) d2 = false := by
  unfold verB
  rw [proveI_toF, h0]
  have ez : topZ c d = [] := by unfold topZ; rw [h0]; rfl
  rw [ez, List.take_zero, List.drop_zero, List.drop_zero]
  rw [hL] at hne ⊢
  have hV := valF_length hg (inp.map phi) (by rw [List.length_map, hi]) i (by omega)
  have h4 := hg.below4 (k := i) (by omega)
  have hgl : (aty c.layers i).gates.length = 2 ^ (([] : List F).length) := by
    have := hg.len i (by omega)
    rw [this, ← belowLog_succ, ← hL, h0]; rfl
  have hn : holdsF (aty c.layers i).gates [] (evalF (out.map phi) []) (belowLog c i).toNat (partF (aty c.layers i).gates [] (valF c (inp.map phi) i) (belowLog c i).toNat (d.map phi)) (d2.map phi) = none := by
    unfold holdsF partF
    simp only []
    rw [told_other2 _ _ _ _ _ _ _ hk (by rw [sumAt_start _ _ _ _ hV (hg.gatesIn (by omega)) hgl]; exact hne)]
  have e : holdsFrom c (i + 1) [] (evalF (out.map phi) []) (proofFrom c (inp.map phi) (i + 1) [] (d.map phi)) (d2.map phi) = none := by
    show (match holdsF _ _ _ _ _ _ with | none => none | some cl' => holdsFrom c i _ cl' _ _) = none
    rw [hn]
  rw [e]; rfl
set_option maxHeartbeats 1000000 in
theorem top_sized (l : List Int) (v : Value) (n : Nat) (w : World) (hp : RowU w v l) (hn : n ≤ 1000000) :
    Calls Tryd.prog 6 #[v, .int .i64 n] w fun e w' => e = .returned (.slice (some ⟨w.heap.size, 0, none⟩) n n) ∧ NewU w.heap.size w' (.slice (some ⟨w.heap.size, 0, none⟩) n n) (padTo n l) ∧ Below w.heap.size w w' := by
  have Hp := Lib.hid hp
  clear hp
  go_enter Tryd.func6, Tryd.ntmps6
  go_wp2_with (first
    | (at_make; refine wpList_makeU _ rfl _ _ rfl _ _ n rfl rfl rfl rfl (by omega) ?_; intro w1 hn1 hb1; have Hq := Lib.hid (Hp.out.below hb1 (Nat.le_refl _)); have Hn1 := Lib.hid hn1; clear hn1)
    | (with_reducible refine wpList_copyU (o := ⟨some 10, _, _, _, _, _⟩) rfl (.tmp 8) (.tmp 9) rfl w.heap.size w.heap.size n rfl Hn1.out v l rfl Hq.out w.heap.size w hb1 (Nat.le_refl _) ?_; intro k2 w2 hn2 hb2; have Hn2 := Lib.hid hn2; clear hn2))
  go_ret
  exact ⟨rfl, Hn2.out, hb2⟩
/-- the tiny circuit of tallytop -/
def tinyT : Ci := ⟨1, [⟨1, [⟨true, 0, 1⟩, ⟨false, 0, 1⟩]⟩, ⟨0, [⟨true, 0, 1⟩]⟩]⟩
theorem tinyT_check : checkC tinyT = 0 := by decide
theorem tinyT_vals : (valF tinyT ([3, 4].map phi) 2).map psi = [84] := by decide +kernel
set_option maxRecDepth 100000 in
set_option maxHeartbeats 1000000 in
theorem top_tiny (w : World) :
    Calls Tryd.prog 20 #[] w fun e w' => ∃ v, e = .returned v ∧ IsC w' v tinyT ∧ Below w.heap.size w w' := by
  go_enter Tryd.func20, Tryd.ntmps20
  go_wp2
  obtain ⟨W, hW⟩ : ∃ W, W = ((((w.alloc (.cells #[.int .i64 1, .slice (some ⟨w.heap.size + 1 + 1 + 1, 0, none⟩) 2 2] 61)).alloc (.cells #[.bool true, .int .i64 0, .int .i64 1, .bool false, .int .i64 0, .int .i64 1] 93)).alloc (.cells #[.bool true, .int .i64 0, .int .i64 1] 93)).alloc (.cells #[.int .i64 1, .slice (some ⟨w.heap.size + 1, 0, none⟩) 2 2, .int .i64 0, .slice (some ⟨w.heap.size + 1 + 1, 0, none⟩) 1 1] 96)) := ⟨_, rfl⟩
  have h0 : ∀ j, j < 2 → W.cell? ⟨w.heap.size, j, none⟩ = #[Value.int .i64 1, .slice (some ⟨w.heap.size + 1 + 1 + 1, 0, none⟩) 2 2][j]? := by
    intro j hj
    have hb : W.heap[w.heap.size]? = some (.cells #[.int .i64 1, .slice (some ⟨w.heap.size + 1 + 1 + 1, 0, none⟩) 2 2] 61 (0, 0)) := by
      rw [hW]; show (((w.heap.push _).push _ |>.push _).push _)[w.heap.size]? = _
      rw [Array.getElem?_push, if_neg (by simp <;> omega), Array.getElem?_push, if_neg (by simp <;> omega), Array.getElem?_push, if_neg (by simp), Array.getElem?_push, if_pos rfl]
    exact cell_blk hb j
  have h1 : ∀ j, W.cell? ⟨w.heap.size + 1, j, none⟩ = #[Value.bool true, .int .i64 0, .int .i64 1, .bool false, .int .i64 0, .int .i64 1][j]? := by
    intro j
    have hb : W.heap[w.heap.size + 1]? = some (.cells #[.bool true, .int .i64 0, .int .i64 1, .bool false, .int .i64 0, .int .i64 1] 93 (0, 0)) := by
      rw [hW]; show (((w.heap.push _).push _ |>.push _).push _)[w.heap.size + 1]? = _
      rw [Array.getElem?_push, if_neg (by simp <;> omega), Array.getElem?_push, if_neg (by simp), Array.getElem?_push, if_pos (by simp)]
    exact cell_blk hb j
  have h2 : ∀ j, W.cell? ⟨w.heap.size + 1 + 1, j, none⟩ = #[Value.bool true, .int .i64 0, .int .i64 1][j]? := by
    intro j
    have hb : W.heap[w.heap.size + 1 + 1]? = some (.cells #[.bool true, .int .i64 0, .int .i64 1] 93 (0, 0)) := by
      rw [hW]; show (((w.heap.push _).push _ |>.push _).push _)[w.heap.size + 1 + 1]? = _
      rw [Array.getElem?_push, if_neg (by simp), Array.getElem?_push, if_pos (by simp)]
    exact cell_blk hb j
  have h3 : ∀ j, W.cell? ⟨w.heap.size + 1 + 1 + 1, j, none⟩ = #[Value.int .i64 1, .slice (some ⟨w.heap.size + 1, 0, none⟩) 2 2, .int .i64 0, .slice (some ⟨w.heap.size + 1 + 1, 0, none⟩) 1 1][j]? := by
    intro j
    have hb : W.heap[w.heap.size + 1 + 1 + 1]? = some (.cells #[.int .i64 1, .slice (some ⟨w.heap.size + 1, 0, none⟩) 2 2, .int .i64 0, .slice (some ⟨w.heap.size + 1 + 1, 0, none⟩) 1 1] 96 (0, 0)) := by
      rw [hW]; show (((w.heap.push _).push _ |>.push _).push _)[w.heap.size + 1 + 1 + 1]? = _
      rw [Array.getElem?_push, if_pos (by simp)]
    exact cell_blk hb j
  have hsz : W.heap.size = w.heap.size + 4 := by rw [hW]; simp
  have hbel : Below w.heap.size w W := by rw [hW]; exact ((((Below.refl _ _).alloc (Nat.le_refl _) _).alloc (by simp <;> omega) _).alloc (by simp <;> omega) _).alloc (by simp <;> omega) _
  rw [← hW]
  have c0 := h0 0 (by omega)
  have c1 := h0 1 (by omega)
  have i1 : I64 1 := ⟨by omega, by omega⟩
  have i0 : I64 0 := ⟨by omega, by omega⟩
  have hG : RowG W (.slice (some ⟨w.heap.size + 1, 0, none⟩) 2 2) [⟨true, 0, 1⟩, ⟨false, 0, 1⟩] := by
    refine ⟨fun g hg => ?_, by simp, some ⟨w.heap.size + 1, 0, none⟩, 2, rfl, fun _ => ⟨_, 0, rfl, by omega, fun j hj => ?_⟩⟩
    · simp at hg; rcases hg with rfl | rfl <;> exact ⟨i0, i1⟩
    · have hj' : j = 0 ∨ j = 1 := by simp at hj; omega
      rcases hj' with rfl | rfl <;> exact ⟨h1 _, h1 _, h1 _⟩
  have hG2 : RowG W (.slice (some ⟨w.heap.size + 1 + 1, 0, none⟩) 1 1) [⟨true, 0, 1⟩] := by
    refine ⟨fun g hg => ?_, by simp, some ⟨w.heap.size + 1 + 1, 0, none⟩, 1, rfl, fun _ => ⟨_, 0, rfl, by omega, fun j hj => ?_⟩⟩
    · simp at hg; rcases hg with rfl; exact ⟨i0, i1⟩
    · have hj' : j = 0 := by simp at hj; omega
      rcases hj' with rfl; exact ⟨h2 _, h2 _, h2 _⟩
  have hL : RowL W (.slice (some ⟨w.heap.size + 1 + 1 + 1, 0, none⟩) 2 2) tinyT.layers := by
    refine ⟨fun g hg => ?_, by simp [tinyT], some ⟨w.heap.size + 1 + 1 + 1, 0, none⟩, 2, rfl, fun _ => ⟨_, 0, rfl, by omega, fun j hj => ?_⟩⟩
    · simp [tinyT] at hg; rcases hg with rfl | rfl
      · exact i1
      · exact i0
    · have hj' : j = 0 ∨ j = 1 := by simp [tinyT] at hj; omega
      rcases hj' with rfl | rfl
      · exact ⟨h3 _, _, h3 _, hG⟩
      · exact ⟨h3 _, _, h3 _, hG2⟩
  clear hW h0 h1 h2 h3
  exact bodyPost_ret (v := .agg #[.int .i64 1, .slice (some ⟨w.heap.size + 1 + 1 + 1, 0, none⟩) 2 2]) (by simp [results, Tryd.results20, go_sem, c0, c1]) rfl ⟨_, rfl, ⟨i1, _, rfl, hL⟩, hbel⟩
theorem tinyT_good : Good tinyT := good_of_check tinyT_check
/-- the proof of the tiny circuit that is told without asking -/
noncomputable def tinyP : List Pi := proveI tinyT [3, 4] (fiatD tinyT [3, 4] [84])
theorem tinyP_shaped : ShapedI tinyT tinyP := shaped_prove _ _ _ (fiatD_length _ _ _)
theorem tinyT_yes : verB tinyT [3, 4] [84] tinyP (drawnI tinyT [3, 4] [84] tinyP) = true := verB_fiat tinyT_good [3, 4] (by decide) [84] tinyT_vals.symm
theorem tinyT_no : verB tinyT [3, 4] [85] tinyP (drawnI tinyT [3, 4] [85] tinyP) = false :=
  verB_first tinyT_good [3, 4] [3, 4] [85] _ _ (by decide) 1 rfl (by decide) (by decide) (by decide +kernel)
theorem tinyT_Verify (y : Int) (b : Bool) (hb : verB tinyT [3, 4] [y] tinyP (drawnI tinyT [3, 4] [y] tinyP) = b) (v vi vo vp : Value) (w : World) (hT : Tab w) (h : IsC w v tinyT) (hi : RowU w vi [3, 4]) (ho : RowU w vo [y]) (hp : IsP w vp tinyP) :
    Calls Tryd.prog 21 #[v, vi, vo, vp] w fun e w' => e = .returned (.tuple #[.bool b, .int .i64 0]) ∧ Below w.heap.size w w' := by
  have := fiat_Verify v tinyT vi vo vp [3, 4] [y] tinyP w hT h tinyT_check hi ho hp (by decide) (show [y].length = 1 from rfl) tinyP_shaped
  rwa [hb] at this
theorem row1' {w : World} {n : Nat} {x : Int} (hn : n = w.heap.size) (hx : U64 x) : RowU (w.alloc (.cells #[.int .u64 x] 23)) (.slice (some ⟨n, 0, none⟩) 1 1) [x] := row1 w n x hx hn.symm
set_option maxRecDepth 100000 in
set_option maxHeartbeats 8000000 in
theorem top_said (w : World) (hT : Tab w) :
    Calls Tryd.prog 5 #[] w fun e w' => e = .returned (.bool true) ∧ Below w.heap.size w w' := by
  have HT := Lib.hid hT
  clear hT
  have hu3 : U64 3 := U64.mk (by decide) (by decide); have hu4 : U64 4 := U64.mk (by decide) (by decide); have hu84 : U64 84 := U64.mk (by decide) (by decide); have hu85 : U64 85 := U64.mk (by decide) (by decide)
  go_enter Tryd.func5, Tryd.ntmps5
  go_wp2_with (fail)
  refine (top_tiny _).mono ?_
  rintro e w1 ⟨vt1, rfl, ht1, hb1⟩
  have H1 := Lib.hid hb1
  have HT1 := Lib.hid ht1
  clear hb1 ht1
  go_wp2_with (fail)
  refine (fiat_ProveF _ tinyT _ [3, 4] _ (HT.out.below (below_al' H1.out)) (HT1.out.more _) tinyT_check (row2' rfl hu3 hu4) (by decide)).mono ?_
  rintro e w2 ⟨vo, vp, rfl, ho, hp, hb2⟩
  rw [show (valF tinyT (([3, 4] : List Int).map phi) tinyT.layers.length).map psi = [84] from tinyT_vals] at ho hp
  have hp' : IsP w2 vp tinyP := hp.now
  have HP2 := Lib.hid hp'
  have HO2 := Lib.hid ho
  have H2 := Lib.hid (below_two (below_al' H1.out) hb2)
  obtain ⟨vs, rfl, _, aP, cP, rfl, -⟩ := hp'
  obtain ⟨nP, hnP⟩ : ∃ nP, nP = tinyP.length := ⟨_, rfl⟩
  rw [← hnP] at HP2 ⊢
  obtain ⟨_, _, ao, co, eo, -⟩ := ho
  obtain rfl : vo = .slice ao 1 co := eo
  clear hp hb2 hnP
  go_wp2_with (fail)
  obtain ⟨W6, hW6⟩ : ∃ W6, w2.alloc (.cells #[.slice aP nP cP] 56) = W6 := ⟨_, rfl⟩
  have HP6 := Lib.hid (show IsP W6 _ _ by rw [← hW6]; exact HP2.out.go (below_alloc _ _))
  have HO6 := Lib.hid (show RowU W6 _ _ by rw [← hW6]; exact HO2.out.go (below_alloc _ _))
  have H6 := Lib.hid (show Below w.heap.size w W6 by rw [← hW6]; exact below_al' H2.out)
  obtain ⟨pb, hpb⟩ : ∃ pb, pb = w2.heap.size := ⟨_, rfl⟩
  have c6 : W6.cell? ⟨pb, 0, none⟩ = some (.slice aP nP cP) := by rw [hpb, ← hW6]; exact cell_blk (alloc_blk w2 _) 0
  have l6 : pb < W6.heap.size := by rw [hpb, ← hW6]; simp
  rw [hW6, ← hpb]
  clear hW6 hpb HP2 HO2
  have K6 := Lib.hid (show ∀ X, Below W6.heap.size W6 X → Below W6.heap.size W6 X ∧ X.cell? ⟨pb, 0, none⟩ = some (.slice aP nP cP) from fun X hz => ⟨hz, (hz.cell (p := ⟨pb, 0, none⟩) l6).trans c6⟩)
  go_cut [4, 5] (fun x y wx => x = .bool true ∧ y = .int .i64 0 ∧ Hid (Below W6.heap.size W6 wx))
  case first =>
    go_region_held3 (fun w' => Below W6.heap.size W6 w' ∧ w'.cell? ⟨pb, 0, none⟩ = some (.slice aP nP cP))
      (first
        | (refine K6.out _ ?_; (repeat (first | assumption | (with_reducible exact Below.refl _ _) | (with_reducible refine below_dw ?_) | (with_reducible refine below_al' ?_) | (with_reducible refine below_two ?_ (by assumption))))))
      (first
        | (go_at_call 20; (with_reducible refine (top_tiny _).mono ?_); rintro e wt ⟨vt, rfl, htC, hbt⟩)
        | (go_at_call 21; (refine (tinyT_Verify 84 true tinyT_yes _ _ _ _ _ (by refine HT.out.below (below_two H6.out ?_); (repeat (first | assumption | (with_reducible exact Below.refl _ _) | (with_reducible refine below_dw ?_) | (with_reducible refine below_al' ?_) | (with_reducible refine below_two ?_ (by assumption))))) (by (repeat (first | assumption | (with_reducible refine IsC.dw ?_) | (with_reducible refine IsC.more ?_ _) | (with_reducible refine IsC.go ?_ (by assumption))))) (by repeat (first | ((with_reducible refine row2' ?_ hu3 hu4); (first | with_reducible rfl | (simp; done))) | (with_reducible refine RowU.dw ?_) | (with_reducible refine RowU.more ?_ _) | (with_reducible refine RowU.go ?_ (by assumption)))) (by repeat (first | ((with_reducible refine row1' ?_ hu84); (first | with_reducible rfl | (simp; done))) | (with_reducible refine RowU.dw ?_) | (with_reducible refine RowU.more ?_ _) | (with_reducible refine RowU.go ?_ (by assumption)))) (by refine HP6.out.go ?_; (repeat (first | assumption | (with_reducible exact Below.refl _ _) | (with_reducible refine below_dw ?_) | (with_reducible refine below_al' ?_) | (with_reducible refine below_two ?_ (by assumption)))))).mono ?_); rintro e wv ⟨rfl, hbv⟩))
    all_goals
      go_wp2_with fail
      go_meet
      case rel => exact ⟨rfl, rfl, Lib.hid (by (repeat (first | assumption | (with_reducible exact Below.refl _ _) | (with_reducible refine below_dw ?_) | (with_reducible refine below_al' ?_) | (with_reducible refine below_two ?_ (by assumption)))))⟩
  case rest =>
    obtain ⟨rfl, rfl, HB7⟩ := hcut
    obtain ⟨W7, hW7⟩ : ∃ W7, W7 = wc := ⟨_, rfl⟩
    subst hW7
    have H7 := Lib.hid (below_two H6.out HB7.out)
    have HP7 := Lib.hid (HP6.out.go HB7.out)
    have HO7 := Lib.hid (HO6.out.go HB7.out)
    have c7 := (HB7.out.cell (p := ⟨pb, 0, none⟩) l6).trans c6
    have l7 : pb < W7.heap.size := by have := HB7.out.size; omega
    clear c6 l6 K6
    have K7 := Lib.hid (show ∀ X, Below W7.heap.size W7 X → Below W7.heap.size W7 X ∧ X.cell? ⟨pb, 0, none⟩ = some (.slice aP nP cP) from fun X hz => ⟨hz, (hz.cell (p := ⟨pb, 0, none⟩) l7).trans c7⟩)
    go_wp2_with (fail)
    go_cut [6, 7] (fun x y wx => x = .bool false ∧ y = .int .i64 0 ∧ Hid (Below W7.heap.size W7 wx))
    case first =>
      go_region_held3 (fun w' => Below W7.heap.size W7 w' ∧ w'.cell? ⟨pb, 0, none⟩ = some (.slice aP nP cP))
        (first
          | (refine K7.out _ ?_; (repeat (first | assumption | (with_reducible exact Below.refl _ _) | (with_reducible refine below_dw ?_) | (with_reducible refine below_al' ?_) | (with_reducible refine below_two ?_ (by assumption))))))
        (first
          | (go_at_call 20; (with_reducible refine (top_tiny _).mono ?_); rintro e wt ⟨vt, rfl, htC, hbt⟩)
          | (go_at_call 21; (refine (tinyT_Verify 85 false tinyT_no _ _ _ _ _ (by refine HT.out.below (below_two H7.out ?_); (repeat (first | assumption | (with_reducible exact Below.refl _ _) | (with_reducible refine below_dw ?_) | (with_reducible refine below_al' ?_) | (with_reducible refine below_two ?_ (by assumption))))) (by (repeat (first | assumption | (with_reducible refine IsC.dw ?_) | (with_reducible refine IsC.more ?_ _) | (with_reducible refine IsC.go ?_ (by assumption))))) (by repeat (first | ((with_reducible refine row2' ?_ hu3 hu4); (first | with_reducible rfl | (simp; done))) | (with_reducible refine RowU.dw ?_) | (with_reducible refine RowU.more ?_ _) | (with_reducible refine RowU.go ?_ (by assumption)))) (by repeat (first | ((with_reducible refine row1' ?_ hu85); (first | with_reducible rfl | (simp; done))) | (with_reducible refine RowU.dw ?_) | (with_reducible refine RowU.more ?_ _) | (with_reducible refine RowU.go ?_ (by assumption)))) (by refine HP7.out.go ?_; (repeat (first | assumption | (with_reducible exact Below.refl _ _) | (with_reducible refine below_dw ?_) | (with_reducible refine below_al' ?_) | (with_reducible refine below_two ?_ (by assumption)))))).mono ?_); rintro e wv ⟨rfl, hbv⟩))
      all_goals
        go_wp2_with fail
        go_meet
        case rel => exact ⟨rfl, rfl, Lib.hid (by (repeat (first | assumption | (with_reducible exact Below.refl _ _) | (with_reducible refine below_dw ?_) | (with_reducible refine below_al' ?_) | (with_reducible refine below_two ?_ (by assumption)))))⟩
    case rest =>
      obtain ⟨rfl, rfl, HB8⟩ := hcut
      have H8 := Lib.hid (below_two H7.out HB8.out)
      have HO8 := Lib.hid (HO7.out.go HB8.out)
      go_wp2_with (go_at_call 22; (with_reducible refine (slices_Equal [84] _ _ _ (HO8.out.more _) (row1' rfl hu84)).mono ?_); rintro e wq ⟨rfl, hdq⟩)
      go_ret
      exact ⟨rfl, (below_al' H8.out).trans (hdq.below.mono (below_al' H8.out).size)⟩
end Go.Proofs.YtfgoidaldgfklaaDoor
