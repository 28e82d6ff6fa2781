/- The walk of the laws' held: a proof of the tiny circuit holds for its outputs alone. The table of bits lies as its initialiser lays it. -/
import Derived.Test.YtcihkechphldcaaDoorGkrVerW
import Derived.Deep.DeepCutAuto
namespace Go.Proofs.YtcihkechphldcaaDoor
set_option maxRecDepth 100000
set_option linter.unusedVariables false
open Go.RowKit Tally
theorem below_al' {A w : World} {o : Obj} (h : Below A.heap.size A w) : Below A.heap.size A (w.alloc o) := h.alloc h.size _
theorem below_dw {A w : World} (h : Below A.heap.size A w) : Below A.heap.size A w.drew := below_drewN h 1
theorem RowU.dw {w : World} {v : Value} {l : List Int} (h : RowU w v l) : RowU w.drew v l := h.go (below_drw w)
theorem IsC.dw {w : World} {v : Value} {c : Ci} (h : IsC w v c) : IsC w.drew v c := h.go (below_drw w)
theorem IsC.more {w : World} {v : Value} {c : Ci} (h : IsC w v c) (o : Obj) : IsC (w.alloc o) v c := h.go (below_alloc w o)
theorem row2' {w : World} {n : Nat} {x y : Int} (hn : n = w.heap.size) (hx : U64 x) (hy : U64 y) : RowU (w.alloc (.cells #[.int .u64 x, .int .u64 y] 31)) (.slice (some ⟨n, 0, none⟩) 2 2) [x, y] := row2 w n x y hx hy hn.symm
theorem tiny_good' : Good tinyC := good_of_check tiny_check
theorem tiny_draws : drawsN tinyC = 4 := by decide
theorem tiny_verB1 : verB tinyC [3, 4] [12, 7] (proveI tinyC [3, 4] [5, 6, 7, 8]) [5, 6, 7, 8] = true := by
  rw [verB_prove tiny_good' [3, 4] [3, 4] [12, 7] [5, 6, 7, 8] (by decide) (by rw [tiny_draws]; rfl)]
  rw [if_pos (show evalF ([12, 7].map phi) (topZ tinyC [5, 6, 7, 8]) = evalF (valF tinyC ([3, 4].map phi) tinyC.layers.length) (topZ tinyC [5, 6, 7, 8]) by decide +kernel)]
  exact beq_self_eq_true _
theorem tiny_verB2 : verB tinyC [3, 4] [12, 8] (proveI tinyC [3, 4] [5, 6, 7, 8]) [5, 6, 7, 8] = false := by
  rw [verB_prove tiny_good' [3, 4] [3, 4] [12, 8] [5, 6, 7, 8] (by decide) (by rw [tiny_draws]; rfl)]
  rw [if_neg (show ¬ evalF ([12, 8].map phi) (topZ tinyC [5, 6, 7, 8]) = evalF (valF tinyC ([3, 4].map phi) tinyC.layers.length) (topZ tinyC [5, 6, 7, 8]) by decide +kernel)]
/-- one of the two calls of Verify -/
theorem tiny_Verify (y : Int) (b : Bool) (hb : verB tinyC [3, 4] [12, y] (proveI tinyC [3, 4] [5, 6, 7, 8]) [5, 6, 7, 8] = b) (v vi vo vp vd : Value) (w : World) (hT : Tab w) (h : IsC w v tinyC) (hi : RowU w vi [3, 4]) (ho : RowU w vo [12, y]) (hp : IsP w vp (proveI tinyC [3, 4] [5, 6, 7, 8])) (hd : RowU w vd [5, 6, 7, 8]) (hcd : CapOk vd) :
    Calls Tryd.prog 30 #[v, vi, vo, vp, vd] w fun e w' => e = .returned (.tuple #[.bool b, .int .i64 0]) ∧ Below w.heap.size w w' := by
  have := gkr_Verify v tinyC vi vo vp vd [3, 4] [12, y] (proveI tinyC [3, 4] [5, 6, 7, 8]) [5, 6, 7, 8] w hT h tiny_check hi ho hp hd hcd (by decide) (show [12, y].length = 2 from rfl) (shaped_prove _ _ _ (by rw [tiny_draws]; rfl)) (by rw [tiny_draws]; rfl)
  rwa [hb] at this
set_option maxRecDepth 100000 in
set_option maxHeartbeats 8000000 in
theorem keep_held (w : World) (hT : Tab w) :
    Calls Tryd.prog 6 #[] w fun e w' => e = .returned (.bool true) ∧ Below w.heap.size w w' := by
  have HT := Lib.hid hT
  clear hT
  have hu3 : U64 3 := U64.mk (by decide) (by decide); have hu4 : U64 4 := U64.mk (by decide) (by decide); have hu5 : U64 5 := U64.mk (by decide) (by decide); have hu6 : U64 6 := U64.mk (by decide) (by decide)
  have hu7 : U64 7 := U64.mk (by decide) (by decide); have hu8 : U64 8 := U64.mk (by decide) (by decide); have hu12 : U64 12 := U64.mk (by decide) (by decide)
  go_enter Tryd.func6, Tryd.ntmps6
  go_wp2_with (fail)
  refine (keep_tiny _).mono ?_
  rintro e w1 ⟨vt1, rfl, ht1, hb1⟩
  have H1 := Lib.hid hb1
  go_wp2_with (fail)
  refine (gkr_Draws _ tinyC _ ht1 tiny_check).mono ?_
  rintro e w2 ⟨rfl, hb2⟩
  rw [tiny_draws]
  have H2 := Lib.hid (below_two H1.out hb2)
  clear ht1 hb1 hb2
  go_wp2_with (fail)
  obtain ⟨W3, hW3⟩ : ∃ W3, w2.alloc (.cells #[.int .u64 5, .int .u64 6, .int .u64 7, .int .u64 8] 31) = W3 := ⟨_, rfl⟩
  have HD3 := Lib.hid (show RowU W3 (.slice (some ⟨w2.heap.size, 0, none⟩) 4 4) [5, 6, 7, 8] by rw [← hW3]; exact row4 w2 _ 5 6 7 8 hu5 hu6 hu7 hu8 rfl)
  have H3 := Lib.hid (show Below w.heap.size w W3 by rw [← hW3]; exact below_al' H2.out)
  rw [hW3]
  obtain ⟨dB, hdB⟩ : ∃ dB, dB = w2.heap.size := ⟨_, rfl⟩
  rw [← hdB] at HD3 ⊢
  clear hW3 hdB
  refine (keep_tiny _).mono ?_
  rintro e w4 ⟨vt4, rfl, ht4, hb4⟩
  have H4 := Lib.hid (below_two H3.out hb4)
  have HD4 := Lib.hid (HD3.out.go hb4)
  have HT4 := Lib.hid ht4
  clear hb4 ht4
  go_wp2_with (fail)
  refine (gkr_Prove _ tinyC _ _ [3, 4] [5, 6, 7, 8] _ (HT.out.below (below_al' H4.out)) (HT4.out.more _) (row2' rfl hu3 hu4) (HD4.out.more _) (CapOk.mk (Nat.le_refl _) (by omega)) tiny_check (by decide) (by rw [tiny_draws]; rfl)).mono ?_
  rintro e w5 ⟨vp, rfl, hp5, hb5⟩
  have HD5 := Lib.hid ((HD4.out.more _).go hb5)
  have H5 := Lib.hid (below_two (below_al' H4.out) hb5)
  have HP5 := Lib.hid hp5
  obtain ⟨vs, rfl, _, aP, cP, rfl, -⟩ := hp5
  obtain ⟨nP, hnP⟩ : ∃ nP, nP = (proveI tinyC [3, 4] [5, 6, 7, 8]).length := ⟨_, rfl⟩
  rw [← hnP] at HP5 ⊢
  clear hb5 hnP
  go_wp2_with (fail)
  obtain ⟨W6, hW6⟩ : ∃ W6, w5.alloc (.cells #[.slice aP nP cP] 63) = W6 := ⟨_, rfl⟩
  have HD6 := Lib.hid (show RowU W6 _ _ by rw [← hW6]; exact HD5.out.more _)
  have HP6 := Lib.hid (show IsP W6 _ _ by rw [← hW6]; exact HP5.out.go (below_alloc _ _))
  have H6 := Lib.hid (show Below w.heap.size w W6 by rw [← hW6]; exact below_al' H5.out)
  obtain ⟨pb, hpb⟩ : ∃ pb, pb = w5.heap.size := ⟨_, rfl⟩
  have c6 : W6.cell? ⟨pb, 0, none⟩ = some (.slice aP nP cP) := by rw [hpb, ← hW6]; exact cell_blk (alloc_blk w5 _) 0
  have l6 : pb < W6.heap.size := by rw [hpb, ← hW6]; simp
  rw [hW6, ← hpb]
  clear hW6 hpb HP5 HD5
  have K6 := Lib.hid (show ∀ X, Below W6.heap.size W6 X → Below W6.heap.size W6 X ∧ X.cell? ⟨pb, 0, none⟩ = some (.slice aP nP cP) from fun X hz => ⟨hz, (hz.cell (p := ⟨pb, 0, none⟩) l6).trans c6⟩)
  go_cut [6, 7] (fun x y wx => x = .bool true ∧ y = .int .i64 0 ∧ Hid (Below W6.heap.size W6 wx))
  case first =>
    go_region_held3 (fun w' => Below W6.heap.size W6 w' ∧ w'.cell? ⟨pb, 0, none⟩ = some (.slice aP nP cP))
      (first
        | (refine K6.out _ ?_; (repeat (first | assumption | (with_reducible exact Below.refl _ _) | (with_reducible refine below_dw ?_) | (with_reducible refine below_al' ?_) | (with_reducible refine below_two ?_ (by assumption))))))
      (first
        | (go_at_call 29; (with_reducible refine (keep_tiny _).mono ?_); rintro e wt ⟨vt, rfl, htC, hbt⟩)
        | (go_at_call 30; (refine (tiny_Verify 7 true tiny_verB1 _ _ _ _ _ _ (by refine HT.out.below (below_two H6.out ?_); (repeat (first | assumption | (with_reducible exact Below.refl _ _) | (with_reducible refine below_dw ?_) | (with_reducible refine below_al' ?_) | (with_reducible refine below_two ?_ (by assumption))))) (by (repeat (first | assumption | (with_reducible refine IsC.dw ?_) | (with_reducible refine IsC.more ?_ _) | (with_reducible refine IsC.go ?_ (by assumption))))) (by repeat (first | ((with_reducible refine row2' ?_ hu3 hu4); (first | with_reducible rfl | (simp; done))) | (with_reducible refine RowU.dw ?_) | (with_reducible refine RowU.more ?_ _) | (with_reducible refine RowU.go ?_ (by assumption)))) (by repeat (first | ((with_reducible refine row2' ?_ hu12 hu7); (first | with_reducible rfl | (simp; done))) | (with_reducible refine RowU.dw ?_) | (with_reducible refine RowU.more ?_ _) | (with_reducible refine RowU.go ?_ (by assumption)))) (by refine HP6.out.go ?_; (repeat (first | assumption | (with_reducible exact Below.refl _ _) | (with_reducible refine below_dw ?_) | (with_reducible refine below_al' ?_) | (with_reducible refine below_two ?_ (by assumption))))) (by refine HD6.out.go ?_; (repeat (first | assumption | (with_reducible exact Below.refl _ _) | (with_reducible refine below_dw ?_) | (with_reducible refine below_al' ?_) | (with_reducible refine below_two ?_ (by assumption))))) (CapOk.mk (Nat.le_refl _) (by omega))).mono ?_); rintro e wv ⟨rfl, hbv⟩))
    all_goals
      go_wp2_with fail
      go_meet
      case rel => exact ⟨rfl, rfl, Lib.hid (by (repeat (first | assumption | (with_reducible exact Below.refl _ _) | (with_reducible refine below_dw ?_) | (with_reducible refine below_al' ?_) | (with_reducible refine below_two ?_ (by assumption)))))⟩
  case rest =>
    obtain ⟨rfl, rfl, HB7⟩ := hcut
    obtain ⟨W7, hW7⟩ : ∃ W7, W7 = wc := ⟨_, rfl⟩
    subst hW7
    have H7 := Lib.hid (below_two H6.out HB7.out)
    have HD7 := Lib.hid (HD6.out.go HB7.out)
    have HP7 := Lib.hid (HP6.out.go HB7.out)
    have c7 := (HB7.out.cell (p := ⟨pb, 0, none⟩) l6).trans c6
    have l7 : pb < W7.heap.size := by have := HB7.out.size; omega
    clear c6 l6 K6
    have K7 := Lib.hid (show ∀ X, Below W7.heap.size W7 X → Below W7.heap.size W7 X ∧ X.cell? ⟨pb, 0, none⟩ = some (.slice aP nP cP) from fun X hz => ⟨hz, (hz.cell (p := ⟨pb, 0, none⟩) l7).trans c7⟩)
    go_wp2_with (fail)
    go_cut [8, 9] (fun x y wx => x = .bool false ∧ y = .int .i64 0 ∧ Hid (Below W7.heap.size W7 wx))
    case first =>
      go_region_held3 (fun w' => Below W7.heap.size W7 w' ∧ w'.cell? ⟨pb, 0, none⟩ = some (.slice aP nP cP))
        (first
          | (refine K7.out _ ?_; (repeat (first | assumption | (with_reducible exact Below.refl _ _) | (with_reducible refine below_dw ?_) | (with_reducible refine below_al' ?_) | (with_reducible refine below_two ?_ (by assumption))))))
        (first
          | (go_at_call 29; (with_reducible refine (keep_tiny _).mono ?_); rintro e wt ⟨vt, rfl, htC, hbt⟩)
          | (go_at_call 30; (refine (tiny_Verify 8 false tiny_verB2 _ _ _ _ _ _ (by refine HT.out.below (below_two H7.out ?_); (repeat (first | assumption | (with_reducible exact Below.refl _ _) | (with_reducible refine below_dw ?_) | (with_reducible refine below_al' ?_) | (with_reducible refine below_two ?_ (by assumption))))) (by (repeat (first | assumption | (with_reducible refine IsC.dw ?_) | (with_reducible refine IsC.more ?_ _) | (with_reducible refine IsC.go ?_ (by assumption))))) (by repeat (first | ((with_reducible refine row2' ?_ hu3 hu4); (first | with_reducible rfl | (simp; done))) | (with_reducible refine RowU.dw ?_) | (with_reducible refine RowU.more ?_ _) | (with_reducible refine RowU.go ?_ (by assumption)))) (by repeat (first | ((with_reducible refine row2' ?_ hu12 hu8); (first | with_reducible rfl | (simp; done))) | (with_reducible refine RowU.dw ?_) | (with_reducible refine RowU.more ?_ _) | (with_reducible refine RowU.go ?_ (by assumption)))) (by refine HP7.out.go ?_; (repeat (first | assumption | (with_reducible exact Below.refl _ _) | (with_reducible refine below_dw ?_) | (with_reducible refine below_al' ?_) | (with_reducible refine below_two ?_ (by assumption))))) (by refine HD7.out.go ?_; (repeat (first | assumption | (with_reducible exact Below.refl _ _) | (with_reducible refine below_dw ?_) | (with_reducible refine below_al' ?_) | (with_reducible refine below_two ?_ (by assumption))))) (CapOk.mk (Nat.le_refl _) (by omega))).mono ?_); rintro e wv ⟨rfl, hbv⟩))
      all_goals
        go_wp2_with fail
        go_meet
        case rel => exact ⟨rfl, rfl, Lib.hid (by (repeat (first | assumption | (with_reducible exact Below.refl _ _) | (with_reducible refine below_dw ?_) | (with_reducible refine below_al' ?_) | (with_reducible refine below_two ?_ (by assumption)))))⟩
    case rest =>
      obtain ⟨rfl, rfl, HB8⟩ := hcut
      have H8 := Lib.hid (below_two H7.out HB8.out)
      go_wp2
      go_ret
      exact ⟨rfl, H8.out⟩
end Go.Proofs.YtcihkechphldcaaDoor
