/- The walk of the law TopInputs: it returns true, whatever is handed in. The table of bits lies as its initialiser lays it. -/
import Derived.Test.YtnleihjdllpniaaDoorTopLie
import Derived.Outline
namespace Go.Proofs.YtnleihjdllpniaaDoor
set_option maxRecDepth 100000
set_option linter.unusedVariables false
open Go.RowKit Tally
open Go.Sort (grow)
/-- the first i numbers of a list, noughts behind -/
def firstZ (L : List F) (i : Nat) : List Int := (L.take i).map psi ++ List.replicate (L.length - i) 0
theorem firstZ_zero (L : List F) : firstZ L 0 = List.replicate L.length 0 := by unfold firstZ; rw [List.take_zero, List.map_nil, List.nil_append, Nat.sub_zero]
theorem firstZ_all (L : List F) : firstZ L L.length = L.map psi := by unfold firstZ; rw [List.take_of_length_le (Nat.le_refl _), Nat.sub_self, List.replicate_zero, List.append_nil]
theorem firstZ_set (L : List F) {i : Nat} (h : i < L.length) : (firstZ L i).set i (psi (atF L i)) = firstZ L (i + 1) := by
  unfold firstZ
  obtain ⟨m, hm⟩ : ∃ m, L.length - i = m + 1 := ⟨L.length - i - 1, by omega⟩
  rw [hm, show L.length - (i + 1) = m by omega, List.replicate_succ]
  have hl : ((L.take i).map psi).length = i := by rw [List.length_map, List.length_take]; omega
  rw [List.set_append_right _ _ (by omega), hl, Nat.sub_self, List.set_cons_zero]
  rw [List.take_add_one, List.map_append, List.append_assoc]
  congr 1
  simp [atF, List.getElem?_eq_getElem h]
theorem RowU.slice {w : World} {b o D cap : Nat} {d : List Int} (h : RowU w (.slice (some ⟨b, o, none⟩) D cap) d) (p n cap' : Nat) (hn : p + n ≤ D) : RowU w (.slice (some ⟨b, o + p, none⟩) n cap') ((d.drop p).take n) := by
  obtain ⟨hu, h2, a', cp, e, hr⟩ := h
  simp only [Value.slice.injEq] at e
  obtain ⟨rfl, rfl, rfl⟩ := e
  have hl : ((d.drop p).take n).length = n := by rw [List.length_take, List.length_drop]; omega
  refine ⟨fun x hx => hu x (List.mem_of_mem_drop (List.mem_of_mem_take hx)), by omega, _, _, by rw [hl], fun h0 => ?_⟩
  obtain ⟨b', off, eb, hlt, hc⟩ := hr (by omega)
  simp only [Option.some.injEq, Addr.mk.injEq] at eb
  obtain ⟨rfl, rfl, -⟩ := eb
  refine ⟨b, o + p, rfl, hlt, fun j hj => ?_⟩
  rw [hl] at hj
  rw [Nat.add_assoc, hc (p + j) (by omega)]
  have e : at0 ((d.drop p).take n) j = at0 d (p + j) := by simp [at0, hj, List.getElem?_drop]
  rw [e]
theorem beq_swap {a b : Int} : (a == b) = (b == a) := by
  by_cases h : a = b
  · rw [h]
  · rw [beq_eq_false_iff_ne.2 h, beq_eq_false_iff_ne.2 (fun e => h e.symm)]
set_option maxRecDepth 100000 in
set_option maxHeartbeats 8000000 in
theorem topInputs_walk (w : World) (hT : Tab w) (v : Value) (c : Ci) (h : IsC w v c) (va : Value) (a : List Int) (ha : RowU w va a) (vy : Value) (ys : List Int) (hy : RowU w vy ys) (vd : Value) (ds : List Int) (hd : RowU w vd ds) :
    Calls Tryd.prog 6 #[v, va, vy, vd] w fun e w' => e = .returned (.bool true) ∧ Below w.heap.size w w' := by
  obtain ⟨ac, cc, rfl⟩ := h.shape
  have HT := Lib.hid hT; have HC := Lib.hid h; have Ha := Lib.hid ha; have Hd := Lib.hid hd; have Hy := Lib.hid hy
  clear hT h ha hd hy
  go_enter Tryd.func6, Tryd.ntmps6
  go_wp2_with (fail)
  obtain ⟨W1, hW, k0, k1, B1, s1⟩ := copied2' w (.int .i64 c.log) (.slice ac c.layers.length cc) 24
  rw [hW]
  obtain ⟨tb, htb⟩ : ∃ tb, tb = w.heap.size := ⟨_, rfl⟩
  rw [← htb] at k0 k1 s1 ⊢
  have HX1 := Lib.hid (show Boxed tb (.int .i64 c.log) (.slice ac c.layers.length cc) W1 from ⟨k0, k1, by omega⟩)
  have H1 := Lib.hid B1
  clear hW s1 k0 k1 B1 htb
  refine (top_said _ (HT.out.below H1.out)).mono ?_
  rintro e w2 ⟨rfl, hb2⟩
  have H2 := Lib.hid (below_two H1.out hb2)
  have HX2 := Lib.hid (HX1.out.go hb2)
  have r0 := HX2.out.c0; have r1 := HX2.out.c1
  clear hb2
  go_wp2_with (fail)
  refine (top_small _ c _ (HC.out.go H2.out)).mono ?_
  rintro e w3 ⟨rfl, hb3⟩
  have H3 := Lib.hid (below_two H2.out hb3)
  have HX3 := Lib.hid (HX2.out.go hb3)
  clear hb3 r0 r1
  cases hsm : smallB c with
  | false =>
    clear hsm
    go_wp2
    go_ret
    exact ⟨rfl, H3.out⟩
  | true =>
    have hS := smallB_yes hsm
    have Hc := Lib.hid hS.right
    have HG := Lib.hid (good_of_check hS.right)
    have hl4 := HG.out.log4
    have hl0 := HG.out.log0
    have hn1 := HG.out.n1
    have hn4 := HG.out.n4
    have hDN := drawsN_le HG.out
    obtain ⟨N, hN⟩ : ∃ N, N = 2 ^ c.log.toNat := ⟨_, rfl⟩
    have hw : wrap64 (2 ^ c.log.toNat) = (N : Int) := by rw [hN]; exact wrap4 hl4
    have hN16 : N ≤ 16 := by rw [hN]; exact (pow4 hl4).2
    have hw2 : IntKind.i64.wrap (2 ^ c.log.toNat) = (N : Int) := by
      have e : ((2 : Int) ^ c.log.toNat) = (N : Int) := by rw [hN]; simp
      rw [e]; exact IntWalk.i64_in _ (by omega)
    have HN := Lib.hid hN
    have r0 := HX3.out.c0; have lt3 := HX3.out.lt
    have CS := Lib.hid (fun X (hX : Below w3.heap.size w3 X) v l (hp : RowU w v l) => (top_sized l v N X (hp.go (below_two H3.out hX)) (by omega)).mono (show ∀ (e : Ending) (w' : World), _ → ∃ q, e = .returned (.slice (some ⟨q, 0, none⟩) N N) ∧ RowU w' (.slice (some ⟨q, 0, none⟩) N N) (padTo N l) ∧ Below X.heap.size X w' from fun e w' ⟨he, hr, hb⟩ => ⟨_, he, hr.row, hb⟩))
    have K3 := Lib.hid (show ∀ X, Below w3.heap.size w3 X → Below w3.heap.size w3 X ∧ X.cell? ⟨tb, 0, none⟩ = some (.int .i64 c.log) from fun X hz => ⟨hz, (hz.cell (p := ⟨tb, 0, none⟩) lt3).trans r0⟩)
    clear hsm hS hN
    go_wp2_with (fail)
    obtain ⟨x, hx⟩ : ∃ x, x = padTo N a := ⟨_, rfl⟩
    obtain ⟨y, hy⟩ : ∃ y, y = padTo N ys := ⟨_, rfl⟩
    have Hxl := Lib.hid (show x.length = N by rw [hx, padTo_length])
    have Hyl := Lib.hid (show y.length = N by rw [hy, padTo_length])
    have CX := Lib.hid (fun X (hX : Below w3.heap.size w3 X) => CS.out X hX va a Ha.out)
    have CY := Lib.hid (fun X (hX : Below w3.heap.size w3 X) => CS.out X hX vy ys Hy.out)
    rw [← hx] at CX; rw [← hy] at CY
    clear hx hy CS
    go_cut [9, 10] (fun s t wx => ∃ xb yb : Nat, s = .slice (some ⟨xb, 0, none⟩) N N ∧ t = .slice (some ⟨yb, 0, none⟩) N N ∧ Hid (RowU wx (.slice (some ⟨xb, 0, none⟩) N N) x) ∧ Hid (RowU wx (.slice (some ⟨yb, 0, none⟩) N N) y) ∧ Hid (Below w3.heap.size w3 wx))
    case first =>
      go_region_held3 (fun w' => Below w3.heap.size w3 w' ∧ w'.cell? ⟨tb, 0, none⟩ = some (.int .i64 c.log))
        (first
          | (refine K3.out _ ?_; (repeat (first | assumption | (with_reducible exact Below.refl _ _) | (with_reducible refine below_dw ?_) | (with_reducible refine below_al' ?_) | (with_reducible refine below_two ?_ (by assumption))))))
        (first
          | (go_at_call 16; (with_reducible refine (CX.out _ (by (repeat (first | assumption | (with_reducible exact Below.refl _ _) | (with_reducible refine below_dw ?_) | (with_reducible refine below_al' ?_) | (with_reducible refine below_two ?_ (by assumption)))))).mono ?_); rintro e wa ⟨qa, rfl, ra, hba⟩)
          | (go_at_call 16; (with_reducible refine (CY.out _ (by (repeat (first | assumption | (with_reducible exact Below.refl _ _) | (with_reducible refine below_dw ?_) | (with_reducible refine below_al' ?_) | (with_reducible refine below_two ?_ (by assumption)))))).mono ?_); rintro e wb ⟨qb, rfl, rb, hbb⟩))
      all_goals
        go_wp2_with fail
        go_meet
        case rel => exact ⟨_, _, rfl, rfl, Lib.hid (by first | exact ra | exact ra.go hbb), Lib.hid (by first | exact rb | exact rb.go hba), Lib.hid (by (repeat (first | assumption | (with_reducible exact Below.refl _ _) | (with_reducible refine below_dw ?_) | (with_reducible refine below_al' ?_) | (with_reducible refine below_two ?_ (by assumption)))))⟩
    case rest =>
      obtain ⟨xb, yb, rfl, rfl, HR4, HY4, HB4⟩ := hcut
      obtain ⟨w4, hw4⟩ : ∃ w4, w4 = wc := ⟨_, rfl⟩
      subst hw4
      have H4 := Lib.hid (below_two H3.out HB4.out)
      have HX4 := Lib.hid (HX3.out.go HB4.out)
      clear hl0 r0 lt3 K3 CX CY hw hw2
      have r0 := HX4.out.c0; have r1 := HX4.out.c1
      go_wp2_with (fail)
      refine (c_RunAt _ c _ x _ (HC.out.go H4.out) HR4.out Hc.out (by rw [Hxl.out, HN.out])).mono ?_
      rintro e w5 ⟨vx, rfl, hrun, hb5⟩
      have H5 := Lib.hid (below_two H4.out hb5)
      have HX5 := Lib.hid (HX4.out.go hb5)
      have HR5 := Lib.hid (HR4.out.go hb5)
      have HY5 := Lib.hid (HY4.out.go hb5)
      obtain ⟨bx, ox, cx, rfl, hbx, hrc⟩ := hrun
      obtain ⟨u, hu, hru⟩ := hrc c.layers.length (Nat.le_refl _)
      obtain ⟨V, hV⟩ : ∃ V, V = (valF c (x.map phi) c.layers.length).map psi := ⟨_, rfl⟩
      rw [← hV] at hru
      have HV := Lib.hid hV
      have HVl := Lib.hid (show V.length = 2 ^ (belowLog c c.layers.length).toNat by rw [hV]; exact val_out_len HG.out x (by rw [Hxl.out, HN.out]))
      have HU5 := Lib.hid hru
      have Hu5 := Lib.hid hu
      obtain ⟨_, _, au, cu, rfl, -⟩ := hru
      obtain ⟨M, hM⟩ : ∃ M, M = V.length := ⟨_, rfl⟩
      rw [← hM] at HU5 Hu5
      have Hbx := Lib.hid hbx
      have HUu := Lib.hid (show ∀ X, Below w5.heap.size w5 X → X.cell? ⟨bx, ox + c.layers.length, none⟩ = some (.slice au M cu) from fun X hz => (hz.cell (p := ⟨bx, ox + c.layers.length, none⟩) Hbx.out).trans Hu5.out)
      clear hb5 r0 r1 hbx hrc hV hu hM
      have r0 := HX5.out.c0; have r1 := HX5.out.c1
      go_wp2_with (fail)
      refine (gkr_Draws _ c _ (HC.out.go H5.out) Hc.out).mono ?_
      rintro e w6 ⟨rfl, hb6⟩
      obtain ⟨DN, hDN'⟩ : ∃ DN, DN = drawsN c := ⟨_, rfl⟩
      rw [← hDN'] at hDN ⊢
      have HDN := Lib.hid hDN'
      have H56 := Lib.hid hb6
      have H6 := Lib.hid (below_two H5.out hb6)
      have HX6 := Lib.hid (HX5.out.go hb6)
      have HR6 := Lib.hid (HR5.out.go hb6)
      have HY6 := Lib.hid (HY5.out.go hb6)
      clear hb6 r0 r1 hDN'
      go_wp2_with (fail)
      refine (top_sized ds vd DN _ (Hd.out.go H6.out) (by omega)).mono ?_
      rintro e w7 ⟨rfl, hn7, hb7⟩
      obtain ⟨d, hd⟩ : ∃ d, d = padTo DN ds := ⟨_, rfl⟩
      rw [← hd] at hn7
      have Hdl := Lib.hid (show d.length = drawsN c by rw [hd, padTo_length, HDN.out])
      have HD7 := Lib.hid hn7.row
      have H57 := Lib.hid (below_two H56.out hb7)
      have H7 := Lib.hid (below_two H6.out hb7)
      have HX7 := Lib.hid (HX6.out.go hb7)
      have HR7 := Lib.hid (HR6.out.go hb7)
      have HY7 := Lib.hid (HY6.out.go hb7)
      obtain ⟨db, hdb⟩ : ∃ db, db = w6.heap.size := ⟨_, rfl⟩
      rw [← hdb] at HD7 ⊢
      clear hd hn7 hb7 hdb
      have r0 := HX7.out.c0; have r1 := HX7.out.c1
      go_wp2_with (fail)
      refine (gkr_Prove _ c _ _ x d _ (HT.out.below H7.out) (HC.out.go H7.out) HR7.out HD7.out (CapOk.mk (Nat.le_refl _) (by omega)) Hc.out (by rw [Hxl.out, HN.out]) Hdl.out).mono ?_
      rintro e w8 ⟨vp, rfl, hp8, hb8⟩
      have HP8 := Lib.hid hp8
      obtain ⟨vs, rfl, _, aP, cP, rfl, -⟩ := hp8
      obtain ⟨nP, hnP⟩ : ∃ nP, nP = (proveI c x d).length := ⟨_, rfl⟩
      rw [← hnP] at HP8 ⊢
      have H58 := Lib.hid (below_two H57.out hb8)
      have H8 := Lib.hid (below_two H7.out hb8)
      have HX8 := Lib.hid (HX7.out.go hb8)
      have HR8 := Lib.hid (HR7.out.go hb8)
      have HY8 := Lib.hid (HY7.out.go hb8)
      have HD8 := Lib.hid (HD7.out.go hb8)
      clear hb8 hnP r0 r1
      have r0 := HX8.out.c0; have r1 := HX8.out.c1; have lt8 := HX8.out.lt
      go_wp2_with (fail)
      obtain ⟨W9, hW9, kp, B9, s9⟩ := copied1' w8 (.slice aP nP cP) 37
      rw [hW9]
      obtain ⟨pb, hpb⟩ : ∃ pb, pb = w8.heap.size := ⟨_, rfl⟩
      rw [← hpb] at kp s9 ⊢
      have H59 := Lib.hid (below_two H58.out B9)
      have H9 := Lib.hid (below_two H8.out B9)
      have HX9 := Lib.hid (HX8.out.go B9)
      have HR9 := Lib.hid (HR8.out.go B9)
      have HY9 := Lib.hid (HY8.out.go B9)
      have HD9 := Lib.hid (HD8.out.go B9)
      have HP9 := Lib.hid (HP8.out.go B9)
      have lp : pb < W9.heap.size := by omega
      clear hW9 B9 s9 r0 r1 lt8 hpb
      have K9 := Lib.hid (show ∀ X, Below W9.heap.size W9 X → Below W9.heap.size W9 X ∧ X.cell? ⟨tb, 0, none⟩ = some (.int .i64 c.log) ∧ X.cell? ⟨tb, 1, none⟩ = some (.slice ac c.layers.length cc) ∧ X.cell? ⟨pb, 0, none⟩ = some (.slice aP nP cP) ∧ X.cell? ⟨bx, ox + c.layers.length, none⟩ = some (.slice au M cu) from fun X hz =>
        ⟨hz, (HX9.out.go hz).c0, (HX9.out.go hz).c1, (hz.cell (p := ⟨pb, 0, none⟩) lp).trans kp, HUu.out X (below_two H59.out hz)⟩)
      obtain ⟨B, hB⟩ : ∃ B, B = verB c y V (proveI c x d) d := ⟨_, rfl⟩
      have CV := Lib.hid (show Calls Tryd.prog 20 #[.agg #[.int .i64 c.log, .slice ac c.layers.length cc], .slice (some ⟨yb, 0, none⟩) N N, .slice au M cu, .agg #[.slice aP nP cP], .slice (some ⟨db, 0, none⟩) DN DN] W9.drew fun e w'' => e = .returned (.tuple #[.bool B, .int .i64 0]) ∧ Below W9.drew.heap.size W9.drew w'' from by
        have hbr : Below w.heap.size w W9.drew := below_dw H9.out
        have := gkr_Verify (.agg #[.int .i64 c.log, .slice ac c.layers.length cc]) c (.slice (some ⟨yb, 0, none⟩) N N) (.slice au M cu) (.agg #[.slice aP nP cP]) (.slice (some ⟨db, 0, none⟩) DN DN) y V (proveI c x d) d W9.drew (HT.out.below hbr) (HC.out.go hbr) Hc.out HY9.out.dw (HU5.out.go (below_dw H59.out)) (HP9.out.go (below_drw _)) HD9.out.dw (CapOk.mk (Nat.le_refl _) (by omega)) (by rw [Hyl.out, HN.out]) HVl.out (shaped_prove c x d Hdl.out) Hdl.out
        rwa [← hB] at this)
      have HB := Lib.hid (show B = (psi (evalF (x.map phi) (lowZ c d)) == psi (evalF (y.map phi) (lowZ c d))) by
        rw [hB, verB_prove HG.out x y V d (by rw [Hxl.out, HN.out]) Hdl.out, if_pos (by rw [HV.out, mapphi_psi])]
        exact beq_swap)
      have hs1 : (c.layers.length : Int) + 1 - 1 = (c.layers.length : Int) := by omega
      have hLi : (c.layers.length : Int) < (c.layers.length : Int) + 1 := by omega
      have hL0 : (0 : Int) ≤ (c.layers.length : Int) := by omega
      have hwr1 : IntKind.i64.wrap (c.layers.length : Int) = (c.layers.length : Int) := IntWalk.i64_in _ (by omega)
      have hwr2 : IntKind.i64.wrap ((c.layers.length : Int) + 1 - 1) = (c.layers.length : Int) := by rw [hs1]; exact hwr1
      clear kp lp hB
      go_wp2_with (fail)
      go_region_held3 (fun w' => Below W9.heap.size W9 w' ∧ w'.cell? ⟨tb, 0, none⟩ = some (.int .i64 c.log) ∧ w'.cell? ⟨tb, 1, none⟩ = some (.slice ac c.layers.length cc) ∧ w'.cell? ⟨pb, 0, none⟩ = some (.slice aP nP cP) ∧ w'.cell? ⟨bx, ox + c.layers.length, none⟩ = some (.slice au M cu))
        (first
          | (refine K9.out _ ?_; (repeat (first | assumption | (with_reducible exact Below.refl _ _) | (with_reducible refine below_dw ?_) | (with_reducible refine below_al' ?_) | (with_reducible refine below_two ?_ (by assumption))))))
        (first
          | (go_at_call 20; (refine CV.out.mono ?_); rintro e wv ⟨rfl, hbv⟩))
      have hv9 : Below W9.heap.size W9 wv := by (repeat (first | assumption | (with_reducible exact Below.refl _ _) | (with_reducible refine below_dw ?_) | (with_reducible refine below_al' ?_) | (with_reducible refine below_two ?_ (by assumption))))
      have Hv := Lib.hid (below_two H9.out hv9)
      have HXv := Lib.hid (HX9.out.go hv9)
      have HRv := Lib.hid (HR9.out.go hv9)
      have HYv := Lib.hid (HY9.out.go hv9)
      have HDv := Lib.hid (HD9.out.go hv9)
      obtain ⟨k, hk⟩ : ∃ k, k = c.log.toNat := ⟨_, rfl⟩
      obtain ⟨hDk, hlow⟩ := lowZ_eq HG.out d Hdl.out k hk
      rw [← HDN.out] at hDk hlow
      have Hlow := Lib.hid hlow
      have hlk : c.log = (k : Int) := by have := HG.out.log0; omega
      have Hlk := Lib.hid hlk
      have HNk := Lib.hid (show N = 2 ^ k by rw [HN.out, hk])
      have hk4 : k ≤ 4 := by have := HG.out.log4; omega
      obtain ⟨m1, hm1⟩ : ∃ m1, m1 + 2 * k + 1 = DN := ⟨DN - (2 * k + 1), by omega⟩
      have g1 : IntKind.i64.wrap ((DN : Int) - 1) = (DN : Int) - 1 := IntWalk.i64_in _ (by omega)
      have g2 : IntKind.i64.wrap (2 * c.log) = 2 * c.log := IntWalk.i64_in _ (by omega)
      have g3 : IntKind.i64.wrap ((DN : Int) - 1 - 2 * c.log) = (m1 : Int) := by rw [show (DN : Int) - 1 - 2 * c.log = (m1 : Int) by omega]; exact IntWalk.i64_in _ (by omega)
      have g4 : IntKind.i64.wrap ((DN : Int) - 1 - c.log) = ((m1 + k : Nat) : Int) := by rw [show (DN : Int) - 1 - c.log = ((m1 + k : Nat) : Int) by omega]; exact IntWalk.i64_in _ (by omega)
      have f1 : (0 : Int) ≤ (m1 : Int) := by omega
      have f2 : (m1 : Int) ≤ ((m1 + k : Nat) : Int) := by omega
      have f3 : ((m1 + k : Nat) : Int) ≤ (DN : Int) := by omega
      have f4 : ((m1 + k : Nat) : Int) ≤ (DN : Int) - 1 := by omega
      have f5 : (DN : Int) - 1 ≤ (DN : Int) := by omega
      have f6 : (0 : Int) ≤ (DN : Int) - 1 := by omega
      have f7 : (DN : Int) - 1 < (DN : Int) := by omega
      have f8 : ((DN : Int) - 1).toNat = m1 + 2 * k := by omega
      have f9 : (0 : Int) ≤ ((m1 + k : Nat) : Int) := by omega
      have Hm1 := Lib.hid hm1
      have cD : wv.cell? ⟨db, m1 + 2 * k, none⟩ = some (.int .u64 (at0 d (m1 + 2 * k))) := by
        obtain ⟨_, _, a', cp', e, hr⟩ := HDv.out
        simp only [Value.slice.injEq] at e
        obtain ⟨rfl, e2, rfl⟩ := e
        obtain ⟨b', o', e', _, hc⟩ := hr (by omega)
        simp only [Option.some.injEq, Addr.mk.injEq] at e'
        obtain ⟨rfl, rfl, -⟩ := e'
        have := hc (m1 + 2 * k) (by omega)
        rwa [Nat.zero_add] at this
      clear hbv hv9 CV K9 hs1 hLi hwr1 hwr2 hk hlk hlow hL0 hm1
      go_wp2_with (fail)
      go_quiet (fail)
      rw [show m1 + k - m1 = k by omega, show m1 + 2 * k - (m1 + k) = k by omega]
      obtain ⟨W, hW⟩ : ∃ W, W = wv.drewN nq := ⟨_, rfl⟩
      rw [← hW]
      have HvW := Lib.hid (show Below wv.heap.size wv W by rw [hW]; exact below_drewN (Below.refl _ _) nq)
      have HW := Lib.hid (below_two Hv.out HvW.out)
      have HRw := Lib.hid (HRv.out.go HvW.out)
      have HYw := Lib.hid (HYv.out.go HvW.out)
      have HDw := Lib.hid (HDv.out.go HvW.out)
      obtain ⟨x0, hx0⟩ : ∃ x0, x0 = at0 d (m1 + 2 * k) := ⟨_, rfl⟩
      rw [← hx0]
      have Hx0 := Lib.hid hx0
      have u0 : U64 x0 := by rw [hx0]; exact HDv.out.at (by rw [Hdl.out, ← HDN.out]; have := Hm1.out; omega)
      have HZl := Lib.hid (show (lowZ c d).length = k by
        rw [Hlow.out, lineF_length _ _ _ (by simp only [List.length_take, List.length_drop, List.length_map, Hdl.out, ← HDN.out]; have := Hm1.out; omega)]
        simp only [List.length_take, List.length_drop, List.length_map, Hdl.out, ← HDN.out]; have := Hm1.out; omega)
      have HZa := Lib.hid (show ∀ i, i < k → atF (lowZ c d) i = btw (phi (at0 d (m1 + i))) (phi (at0 d (m1 + k + i))) (phi x0) from fun i hi => by
        have hm := Hm1.out
        have e1 : ∀ p, p < DN → atF (d.map phi) p = phi (at0 d p) := fun p hp => by
          have hlt : p < d.length := by rw [Hdl.out, ← HDN.out]; exact hp
          simp [atF, at0, hlt]
        rw [Hlow.out, lineF_at _ _ _ _ (by simp only [List.length_take, List.length_drop, List.length_map, Hdl.out, ← HDN.out]; omega) (by simp only [List.length_take, List.length_drop, List.length_map, Hdl.out, ← HDN.out]; omega)]
        rw [show DN - 1 - 2 * k = m1 by omega, show DN - 1 - k = m1 + k by omega, show DN - 1 = m1 + 2 * k by omega, e1 (m1 + 2 * k) (by omega), hx0]
        have e2 : ∀ p, atF (((d.map phi).drop p).take k) i = atF (d.map phi) (p + i) := fun p => by simp [atF, hi, List.getElem?_drop]
        rw [e2, e2, e1 _ (by omega), e1 _ (by omega)])
      clear cD g1 g2 g3 g4 f5 f6 f7 f8 f9 f1 f2 f3 f4 hW hx0
      go_wp2_with (at_make; refine wpList_makeU _ rfl _ _ rfl _ _ k rfl rfl Hlk.out Hlk.out (by omega) ?_; intro w1 hn1 hb1; have Hn1 := Lib.hid hn1; have Hb1 := Lib.hid hb1; clear hn1 hb1)
      obtain ⟨zb, hzb⟩ : ∃ zb, zb = W.heap.size := ⟨_, rfl⟩
      rw [← hzb] at Hn1 ⊢
      have Hzb := Lib.hid hzb
      clear hzb
      go_loopw [120] (fun i wr => ∃ j : Nat, j ≤ k ∧ i = .int .i64 (j : Int) ∧ Hid (NewU zb wr (.slice (some ⟨zb, 0, none⟩) k k) (firstZ (lowZ c d) j)) ∧ Hid (Below W.heap.size W wr)) (fun i _ => k - (intOf i).toNat)
      case atStart => exact ⟨0, by omega, rfl, by rw [firstZ_zero, HZl.out]; exact Hn1.out, Hb1.out⟩
      case round =>
        obtain ⟨j, hj, rfl, HN1, HBj⟩ := hrel
        by_cases hz : j < k
        · have hln := HN1.out.lenEq
          have ho := HN1.out.cellAt j (by omega)
          have hf := HN1.out.freeAt j
          have hD := HDw.out.go HBj.out
          have ua := Lib.hid (hD.at (j := m1 + j) (by rw [Hdl.out, ← HDN.out]; have := Hm1.out; omega))
          have ub := Lib.hid (hD.at (j := m1 + k + j) (by rw [Hdl.out, ← HDN.out]; have := Hm1.out; omega))
          obtain ⟨_, _, a', cp', e, hr⟩ := hD
          simp only [Value.slice.injEq] at e
          obtain ⟨e1, e2, e3⟩ := e
          obtain ⟨b', o', e', _, hc⟩ := hr (by rw [Hdl.out, ← HDN.out]; have := Hm1.out; omega)
          rw [← e1] at e'
          simp only [Option.some.injEq, Addr.mk.injEq] at e'
          obtain ⟨rfl, rfl, -⟩ := e'
          have c1 := hc (m1 + j) (by rw [Hdl.out, ← HDN.out]; have := Hm1.out; omega)
          have c2 := hc (m1 + k + j) (by rw [Hdl.out, ← HDN.out]; have := Hm1.out; omega)
          rw [Nat.zero_add] at c1 c2
          have HS := Lib.hid (show (firstZ (lowZ c d) j).set j (psi (phi (at0 d (m1 + j)) + phi (psi (phi x0 * phi (psi (phi (at0 d (m1 + k + j)) - phi (at0 d (m1 + j)))))))) = firstZ (lowZ c d) (j + 1) by
            rw [← firstZ_set _ (by rw [HZl.out]; exact hz), HZa.out j hz, phi_psi, phi_psi]; rfl)
          have hji : (j : Int) < (k : Int) := by omega
          have hj0 : (0 : Int) ≤ (j : Int) := by omega
          obtain ⟨p, hp⟩ : ∃ p, p = at0 d (m1 + j) := ⟨_, rfl⟩
          obtain ⟨q, hq⟩ : ∃ q, q = at0 d (m1 + k + j) := ⟨_, rfl⟩
          rw [← hp] at c1 ua HS; rw [← hq] at c2 ub HS
          clear hr hc e1 e2 e3 hp hq hln
          go_wp2_with (fail)
          refine wp_region_still_tail 19 (by kernel_rfl) (by kernel_rfl) ?_
          simp only [List.take_succ_cons, List.take_zero, List.drop_succ_cons, List.drop_zero]
          repeat (first | still_step | still_call (still_of (field_Sub _ _ _ ub.out ua.out)) | still_call (still_of (field_Mul _ _ _ u0 (U64.psi _))) | still_call (still_of (field_Add _ _ _ ua.out (U64.psi _))))
          try refine wpStill_nil ?_
          change wpList _ _ _ _ _ (World.drew _)
          go_wp2
          go_roundw
          case rel => exact ⟨j + 1, by omega, by go_num, by rw [← HS.out]; exact (HN1.out.set j _ (U64.psi _)).drewN 1, below_drewN (HBj.out.setCell (by show W.heap.size ≤ zb; rw [Hzb.out]; exact Nat.le_refl _) _) 1⟩
          case measure => simp [intOf]; omega
        · obtain rfl : j = k := by omega
          have HZr := Lib.hid (show RowU wr (.slice (some ⟨zb, 0, none⟩) j j) ((lowZ c d).map psi) by rw [← firstZ_all, HZl.out]; exact HN1.out.row)
          have Hj := Lib.hid (below_two HW.out HBj.out)
          have HRj := Lib.hid (HRw.out.go HBj.out)
          have HYj := Lib.hid (HYw.out.go HBj.out)
          go_wp2_with (fail)
          refine (mle_Eval x ((lowZ c d).map psi) _ _ _ (HT.out.below Hj.out) HRj.out HZr.out (by rw [Hxl.out, List.length_map, HZl.out, HNk.out]) (by rw [List.length_map, HZl.out]; omega)).mono ?_
          rintro e w11 ⟨rfl, hb11⟩
          have H11 := Lib.hid (below_two Hj.out hb11)
          have HY11 := Lib.hid (HYj.out.go hb11)
          have HZ11 := Lib.hid (HZr.out.go hb11)
          rw [mapphi_psi]
          clear hb11
          go_wp2_with (fail)
          refine (mle_Eval y ((lowZ c d).map psi) _ _ _ (HT.out.below H11.out) HY11.out HZ11.out (by rw [Hyl.out, List.length_map, HZl.out, HNk.out]) (by rw [List.length_map, HZl.out]; omega)).mono ?_
          rintro e w12 ⟨rfl, hb12⟩
          have H12 := Lib.hid (below_two H11.out hb12)
          rw [mapphi_psi]
          clear hb12
          generalize psi (evalF (x.map phi) (lowZ c d)) = U1 at *
          generalize psi (evalF (y.map phi) (lowZ c d)) = U2 at *
          go_wp2
          go_ret
          exact ⟨by rw [HB.out]; simp, H12.out⟩
end Go.Proofs.YtnleihjdllpniaaDoor
