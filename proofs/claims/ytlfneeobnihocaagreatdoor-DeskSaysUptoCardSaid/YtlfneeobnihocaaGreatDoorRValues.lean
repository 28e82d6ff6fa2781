/- The walk of the reference's Values: the values of a layer. The circuit is right, there are as many inputs as it wants. -/
import Derived.Test.YtlfneeobnihocaaGreatDoorRNeed
namespace Go.Proofs.YtlfneeobnihocaaGreatDoor
set_option maxRecDepth 100000
set_option linter.unusedVariables false
open Go.RowKit Tally
open Go.Sort (grow)
theorem take_norm (l : List Int) (k : Nat) (h : k < l.length) : ((l.map phi).map psi).take (k + 1) = ((l.map phi).map psi).take k ++ [psi (phi (at0 l k))] := by
 rw [take_snoc _ k 0 (by rw [List.length_map, List.length_map]; exact h)]
 congr 2
 simp [at0, h]
set_option maxHeartbeats 8000000 in
theorem ref_Values (c : Ci) (inp : List Int) (hG : Good c) (hil : inp.length = 2 ^ c.log.toNat) (q : Nat) : q ≤ c.layers.length → ∀ (v vi : Value) (w : World), IsC w v c → RowU w vi inp →
  Calls Tryz.prog 82 #[v, vi, .int .i64 ((q : Int) - 1)] w fun e w' => ∃ v', e = .returned v' ∧ NewU w.heap.size w' v' ((valF c (inp.map phi) q).map psi) ∧ Below w.heap.size w w' := by
 have HG := zH hG; have Hil := zH hil
 have hn4 := hG.n4
 clear hG hil
 induction q with
 | zero =>
  intro _ v vi w h hi
  have HC := zH h; have Hi := zH hi
  obtain ⟨ac, cc, rfl⟩ := h.shape
  obtain ⟨ui, hi2, ai, ci, rfl, hir⟩ := hi
  have Ui := zH ui; have Hir := zH hir
  have hi16 : inp.length ≤ 16 := by rw [Hil.out]; exact (pow4 HG.out.log4).2
  rw [show ((0 : Nat) : Int) - 1 = -1 from rfl]
  clear h ui hir
  go_enter Tryz.func82, Tryz.ntmps82
  go_wp2_with (fail)
  obtain ⟨W1, hW, k0, k1, B1, s1⟩ := copied2' w (.int .i64 c.log) (.slice ac c.layers.length cc) 62
  rw [hW]
  have H1 := zH B1
  clear hW s1 k0 k1 B1
  go_loopw [8, 7] (fun i o wr => ∃ (k : Nat) (vx : Value), vx = o ∧ k ≤ inp.length ∧ i = .int .i64 (k : Int) ∧ Hid (NewU W1.heap.size wr vx (((inp.map phi).map psi).take k)) ∧ Hid (Below W1.heap.size W1 wr)) (fun i _ _ => inp.length - (intOf i).toNat)
  case atStart => exact ⟨0, _, rfl, by omega, rfl, NewU.nil _ _, Below.refl _ _⟩
  case round =>
   obtain ⟨k, vx, hvx, hk, rfl, HN, HB⟩ := hrel
   subst hvx
   by_cases hz : k < inp.length
   ·obtain ⟨b, o, rfl, hlt, hc⟩ := Hir.out (by omega)
    have d1 := ((below_two H1.out HB.out).cell (p := ⟨b, o + k, none⟩) hlt).trans (hc k hz)
    have hu := zH (Ui.out _ (at0_mem hz))
    have Hs := zH (take_norm inp k hz)
    have hki : (k : Int) < (inp.length : Int) := by omega
    have hcap : (((inp.map phi).map psi).take k).length + 1 ≤ 17592186043904 := by rw [List.length_take]; omega
    have hsz := HB.out.size
    clear hc
    go_wp2_with (first
     | (go_at_call 47; (with_reducible refine (ref_Norm _ _ hu.out).mono ?_); rintro e w' ⟨rfl, rfl⟩)
     | (at_builtin; refine wpList_appU rfl _ _ (by rfl) W1.heap.size vx _ (by rfl) HN.out _ (by rfl) (U64.psi _) hcap hsz ?_; intro v5 w5 hn5 hb5; have HN5 := zH hn5; have HB5 := zH (HB.out.trans hb5); clear hn5 hb5))
    go_roundw
    case rel => exact ⟨k + 1, _, rfl, by omega, by go_num, by rw [Hs.out]; exact HN5.out, HB5.out⟩
    case measure => simp [intOf]; omega
   ·obtain rfl : k = inp.length := by omega
    have HV := zH (show NewU W1.heap.size wr vx ((valF c (inp.map phi) 0).map psi) by
     have := HN.out; rwa [List.take_of_length_le (by rw [List.length_map, List.length_map]; exact Nat.le_refl _)] at this)
    go_wp2
    go_ret
    exact ⟨_, rfl, HV.out.mono H1.out.size, below_two H1.out HB.out⟩
 | succ q ih =>
  intro hq v vi w h hi
  have HIH := zH (ih (by omega))
  have HC := zH h; have Hi := zH hi
  clear ih
  obtain ⟨hlog, u, rfl, hL⟩ := h
  obtain ⟨hls, hll, ac, cc, rfl, hr⟩ := hL
  obtain ⟨bC, oC, rfl, hCl, hcell⟩ := hr (by omega)
  obtain ⟨-, ug, c2, hg⟩ := hcell q (by omega)
  obtain ⟨hgi, hgl, ag, cg, rfl, hgr⟩ := hg
  have Hgr := zH hgr
  have C2 := zH (show ∀ X, Below w.heap.size w X → X.cell? ⟨bC, oC + q * 2 + 1, none⟩ = some (.slice ag (aty c.layers q).gates.length cg) from fun X hX => (hX.cell (p := ⟨bC, oC + q * 2 + 1, none⟩) hCl).trans c2)
  obtain ⟨_, _, ai, ci, rfl, -⟩ := hi
  rw [show ((q + 1 : Nat) : Int) - 1 = (q : Int) by omega]
  have hqi : (q : Int) < (c.layers.length : Int) := by omega
  have hq0 : ¬ (q : Int) < 0 := by omega
  have HGt := zH (show ∀ j, j < (aty c.layers q).gates.length → ∃ A B : Nat, (atg (aty c.layers q).gates j).a = (A : Int) ∧ (atg (aty c.layers q).gates j).b = (B : Int) ∧ A < 2 ^ (belowLog c q).toNat ∧ B < 2 ^ (belowLog c q).toNat from fun j hj => by
   have h1 := of_decide_eq_true (HG.out.gate q (by omega) j hj)
   exact ⟨(atg (aty c.layers q).gates j).a.toNat, (atg (aty c.layers q).gates j).b.toNat, by omega, by omega, by omega, by omega⟩)
  have hg16 : (aty c.layers q).gates.length ≤ 16 := by rw [HG.out.len q (by omega)]; exact (pow4 (HG.out.l4 q (by omega))).2
  clear hr hls hll hlog hcell c2 hgi hgl hgr
  go_enter Tryz.func82, Tryz.ntmps82
  go_wp2_with (fail)
  obtain ⟨W1, hW, k0, k1, B1, s1⟩ := copied2' w (.int .i64 c.log) (.slice (some ⟨bC, oC, none⟩) c.layers.length cc) 62
  rw [hW]
  obtain ⟨tb, htb⟩ : ∃ tb, tb = w.heap.size := ⟨_, rfl⟩
  rw [← htb] at k0 k1 s1 ⊢
  have HX1 := zH (show Boxed tb (.int .i64 c.log) (.slice (some ⟨bC, oC, none⟩) c.layers.length cc) W1 from ⟨k0, k1, by omega⟩)
  have H1 := zH B1
  clear hW s1 k0 k1 B1 htb
  refine (HIH.out _ _ W1 (HC.out.go H1.out) (Hi.out.go H1.out)).mono ?_
  rintro e w2 ⟨vb, rfl, hn2, hb2⟩
  obtain ⟨V, hV⟩ : ∃ V, V = valF c (inp.map phi) q := ⟨_, rfl⟩
  rw [← hV] at hn2
  have HVl := zH (show V.length = 2 ^ (belowLog c q).toNat by rw [hV]; exact valF_length HG.out _ (by rw [List.length_map, Hil.out]) q (by omega))
  have HV := zH hV
  have HR2 := zH hn2.row
  have H12 := zH hb2
  have H2 := zH (below_two H1.out hb2)
  have HX2 := zH (HX1.out.go hb2)
  obtain ⟨g, cb, hsh, hgB, hgl2, hvc, -⟩ := hn2.shape (by rw [List.length_map, HVl.out]; exact Nat.pow_pos (by decide))
  subst hsh
  have Hvc := zH hvc
  obtain ⟨M, hM⟩ : ∃ M, M = (V.map psi).length := ⟨_, rfl⟩
  rw [← hM]
  have HM := zH (show M = 2 ^ (belowLog c q).toNat by rw [hM, List.length_map, HVl.out])
  have HMl := zH hM
  obtain ⟨gs, hgs⟩ : ∃ gs, gs = (aty c.layers q).gates := ⟨_, rfl⟩
  rw [← hgs] at Hgr C2 HGt hg16
  have Hval := zH (show valF c (inp.map phi) (q + 1) = layF V gs by rw [hV, hgs]; rfl)
  clear hb2 hn2 hV hvc hM hgs
  go_wp2_with (fail)
  go_loopw [10, 7] (fun i o wr => ∃ (k : Nat) (vx : Value), vx = o ∧ k ≤ gs.length ∧ i = .int .i64 (k : Int) ∧ Hid (NewU w2.heap.size wr vx (((layF V gs).take k).map psi)) ∧ Hid (Below w2.heap.size w2 wr)) (fun i _ _ => gs.length - (intOf i).toNat)
  case atStart => exact ⟨0, _, rfl, by omega, rfl, NewU.nil _ _, Below.refl _ _⟩
  case round =>
   obtain ⟨k, vx, hvx, hk, rfl, HN, HB⟩ := hrel
   subst hvx
   have HXr := zH (HX2.out.go HB.out)
   have Hbr := zH (below_two H2.out HB.out)
   have q0 := HXr.out.c0; have q1 := HXr.out.c1
   have d2 := C2.out wr Hbr.out
   by_cases hz : k < gs.length
   ·obtain ⟨b2, off2, rfl, hb2lt, hgc⟩ := Hgr.out (by omega)
    obtain ⟨c1, c2, c3⟩ := hgc k hz
    have f1 := (Hbr.out.cell (p := ⟨b2, off2 + k * 3, none⟩) (by exact hb2lt)).trans c1
    have f2 := (Hbr.out.cell (p := ⟨b2, off2 + k * 3 + 1, none⟩) (by exact hb2lt)).trans c2
    have f3 := (Hbr.out.cell (p := ⟨b2, off2 + k * 3 + 2, none⟩) (by exact hb2lt)).trans c3
    obtain ⟨A, Bb, hA, hB, hAM, hBM⟩ := HGt.out k hz
    rw [← HM.out] at hAM hBM
    rw [hA] at f2; rw [hB] at f3
    have hki : (k : Int) < (gs.length : Int) := by omega
    have hA1 : (A : Int) < (M : Int) := by omega
    have hB1 : (Bb : Int) < (M : Int) := by omega
    have hA0 : (0 : Int) ≤ (A : Int) := by omega
    have hB0 : (0 : Int) ≤ (Bb : Int) := by omega
    have eA := (HB.out.cell (p := ⟨g, A, none⟩) hgl2).trans (Hvc.out A (by rw [← HMl.out]; exact hAM))
    have eB := (HB.out.cell (p := ⟨g, Bb, none⟩) hgl2).trans (Hvc.out Bb (by rw [← HMl.out]; exact hBM))
    have uA := zH (psis V _ (at0_mem (l := V.map psi) (j := A) (by rw [← HMl.out]; exact hAM)))
    have uB := zH (psis V _ (at0_mem (l := V.map psi) (j := Bb) (by rw [← HMl.out]; exact hBM)))
    have hphi : ∀ i, i < M → phi (at0 (V.map psi) i) = atF V i := fun i hi => by
     have hi' : i < V.length := by have := HMl.out; rw [List.length_map] at this; omega
     simp [at0, atF, hi', phi_psi]
    have Hs := zH (show ((layF V gs).take (k + 1)).map psi = ((layF V gs).take k).map psi ++ [psi (if (atg gs k).mul then phi (at0 (V.map psi) A) * phi (at0 (V.map psi) Bb) else phi (at0 (V.map psi) A) + phi (at0 (V.map psi) Bb))] by
     rw [lay_snoc V gs k hz, hphi A hAM, hphi Bb hBM]
     unfold gateF
     rw [hA, hB, Int.toNat_natCast, Int.toNat_natCast])
    have hcap : (((layF V gs).take k).map psi).length + 1 ≤ 17592186043904 := by rw [List.length_map, List.length_take]; omega
    obtain ⟨wv, hwv⟩ : ∃ x : World, x = wr := ⟨_, rfl⟩
    subst hwv
    obtain ⟨gm, hgm⟩ : ∃ gm, gm = (atg gs k).mul := ⟨_, rfl⟩
    rw [← hgm] at f1 Hs
    obtain ⟨X, hX, t0, t1, t2, hXb, hXs⟩ := copied3' wv (.bool gm) (.int .i64 (A : Int)) (.int .i64 (Bb : Int)) 126
    have HNx := zH (show NewU w2.heap.size X vx _ from HN.out.below hXb (Nat.le_refl _))
    have HBx := zH (HB.out.trans (hXb.mono HB.out.size))
    have eA' := (hXb.cell (p := ⟨g, A, none⟩) (Nat.lt_of_lt_of_le hgl2 HB.out.size)).trans eA
    have eB' := (hXb.cell (p := ⟨g, Bb, none⟩) (Nat.lt_of_lt_of_le hgl2 HB.out.size)).trans eB
    have hsX : w2.heap.size ≤ X.heap.size := HBx.out.size
    generalize at0 (V.map psi) A = PA at *
    generalize at0 (V.map psi) Bb = PB at *
    have HXe := zH hX
    have hfx : ∀ gg, vx.ownBlock = some gg → g ≠ gg := fun gg hgg => by have := (HN.out.lt hgg).1; omega
    have hftX : ∀ gg, vx.ownBlock = some gg → wv.heap.size ≠ gg := fun gg hgg => by have := (HN.out.lt hgg).2; omega
    have hcap2 := zH hcap
    clear c1 c2 c3 hgc hA hB hphi hgm hcap
    cases gm with
    | true =>
     go_wp2_with (fail)
     try rw [HXe.out]
     go_region_held3 (fun w' => w'.cell? ⟨wv.heap.size, 1, none⟩ = some (.int .i64 (A : Int)) ∧ w'.cell? ⟨wv.heap.size, 2, none⟩ = some (.int .i64 (Bb : Int)) ∧ w'.cell? ⟨g, A, none⟩ = some (.int .u64 PA) ∧ w'.cell? ⟨g, Bb, none⟩ = some (.int .u64 PB))
      (first
       | exact ⟨t1, t2, eA', eB'⟩
       | exact ⟨hk4 _ _ (show X.drew.cell? _ = _ from t1) hftX, hk4 _ _ (show X.drew.cell? _ = _ from t2) hftX, hk4 _ _ (show X.drew.cell? _ = _ from eA') hfx, hk4 _ _ (show X.drew.cell? _ = _ from eB') hfx⟩
       | go_keep)
      (first
       | (go_at_call 45; (with_reducible refine (ref_Mul _ _ _ uA.out uB.out).mono ?_); rintro e w3 ⟨rfl, rfl⟩)
       | (refine step_appUk rfl _ _ (by rfl) w2.heap.size _ _ (by rfl) (show NewU w2.heap.size X.drew vx _ from HNx.out.below (below_drw X) (Nat.le_refl _)) _ (by show _ = Value.slice (some ⟨X.heap.size, 0, none⟩) 1 1; rw [hXs]; rfl) (U64.psi _) hcap2.out hsX ?_; intro v4 w4 hn4' hb4 hk4; have Hn4 := zH hn4'; clear hn4'; have hb5 : Below w2.heap.size w2 w4 := (below_drewN HBx.out 1).trans hb4))
     clear t0 t1 t2 eA eB eA' eB' q0 q1 d2 f1 f2 f3 hX
     go_wp2
     go_roundw
     case rel => exact ⟨k + 1, _, rfl, by omega, by go_num, by rw [Hs.out]; exact Hn4.out, hb5⟩
     case measure => simp [intOf]; omega
    | false =>
     go_wp2_with (fail)
     try rw [HXe.out]
     go_region_held3 (fun w' => w'.cell? ⟨wv.heap.size, 1, none⟩ = some (.int .i64 (A : Int)) ∧ w'.cell? ⟨wv.heap.size, 2, none⟩ = some (.int .i64 (Bb : Int)) ∧ w'.cell? ⟨g, A, none⟩ = some (.int .u64 PA) ∧ w'.cell? ⟨g, Bb, none⟩ = some (.int .u64 PB))
      (first
       | exact ⟨t1, t2, eA', eB'⟩
       | exact ⟨hk4 _ _ (show X.drew.cell? _ = _ from t1) hftX, hk4 _ _ (show X.drew.cell? _ = _ from t2) hftX, hk4 _ _ (show X.drew.cell? _ = _ from eA') hfx, hk4 _ _ (show X.drew.cell? _ = _ from eB') hfx⟩
       | go_keep)
      (first
       | (go_at_call 43; (with_reducible refine (ref_Add _ _ _ uA.out uB.out).mono ?_); rintro e w3 ⟨rfl, rfl⟩)
       | (refine step_appUk rfl _ _ (by rfl) w2.heap.size _ _ (by rfl) (show NewU w2.heap.size X.drew vx _ from HNx.out.below (below_drw X) (Nat.le_refl _)) _ (by show _ = Value.slice (some ⟨X.heap.size, 0, none⟩) 1 1; rw [hXs]; rfl) (U64.psi _) hcap2.out hsX ?_; intro v4 w4 hn4' hb4 hk4; have Hn4 := zH hn4'; clear hn4'; have hb5 : Below w2.heap.size w2 w4 := (below_drewN HBx.out 1).trans hb4))
     clear t0 t1 t2 eA eB eA' eB' q0 q1 d2 f1 f2 f3 hX
     go_wp2
     go_roundw
     case rel => exact ⟨k + 1, _, rfl, by omega, by go_num, by rw [Hs.out]; exact Hn4.out, hb5⟩
     case measure => simp [intOf]; omega
   ·obtain rfl : k = gs.length := by omega
    have HF := zH (show NewU w2.heap.size wr vx ((valF c (inp.map phi) (q + 1)).map psi) by
     have := HN.out
     rw [List.take_of_length_le (by rw [layF_length]; exact Nat.le_refl _)] at this
     rw [Hval.out]; exact this)
    go_wp2
    go_ret
    exact ⟨_, rfl, HF.out.mono H2.out.size, Hbr.out⟩
end Go.Proofs.YtlfneeobnihocaaGreatDoor
