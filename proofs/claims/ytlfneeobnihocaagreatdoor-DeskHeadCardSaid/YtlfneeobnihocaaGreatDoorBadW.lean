/- Several texts in one: FiatP, FiatV, BadW. What each says, and its conditions, stands at its head. -/
import Derived.Test.YtlfneeobnihocaaGreatDoorFiatW
import Derived.Deep.OwnRows
import Derived.Test.YtlfneeobnihocaaGreatDoorHeld
import Derived.Test.YtlfneeobnihocaaGreatDoorTreeK
/- The walk of fiat.Prove. The circuit is right, there are as many inputs as it wants; the table of bits lies as its initialiser lays it. -/
namespace Go.Proofs.YtlfneeobnihocaaGreatDoor
set_option maxRecDepth 100000
set_option linter.unusedVariables false
open Go.RowKit Tally
open Go.Sort (grow)
theorem fiat_rest' (w : World) (B tb sb : Nat) (vd : Value) (t : Tl) (h : TellA w B tb sb vd t) (n : Nat) (hn : n ≤ 1000000) :
    Calls Tryz.prog 103 #[.pointer (some ⟨tb, 0, none⟩), .int .i64 n] w fun e w' => ∃ q, e = .returned (.slice (some ⟨q, 0, none⟩) n n) ∧ RowU w' (.slice (some ⟨q, 0, none⟩) n n) (padTo n t.ds) ∧ Below w.heap.size w w' :=
  (fiat_rest w B tb sb vd t h n hn).mono fun _ _ ⟨he, hr, hb⟩ => ⟨_, he, hr.row, hb⟩
/-- a proof in a box of its own -/
structure PBox (w6 wg : World) (b : Nat) (vs : Value) (ps : List Pi) : Prop where
  c0 : wg.cell? ⟨b, 0, none⟩ = some vs
  new : w6.heap.size ≤ b
  lt : b < wg.heap.size
  far : Far (fun b => b < w6.heap.size) (fun W => IsP W (.agg #[vs]) ps) wg
  below : Below w6.heap.size w6 wg
theorem PBox.set {w6 wc wf : World} {b : Nat} {vs x : Value} {ps : List Pi} {t : TypeId} (hb : w6.heap.size ≤ b) (hk : wf.heap[b]? = some (.cells #[x] t (0, 0))) (hbc : b < wc.heap.size) (hf : Far (fun q => q < wc.heap.size) (fun W => IsP W (.agg #[vs]) ps) wf)
    (h6 : Below w6.heap.size w6 wc) (hbw : Below wc.heap.size wc wf) : PBox w6 (wf.setCell ⟨b, 0, none⟩ vs) b vs ps := by
  have hk2 := blk_setCell hk 0 vs
  refine ⟨cell_blk hk2 0, hb, blk_lt hk2, (hf.set (b := b) hbc 0 vs).less fun q _ h => ?_, ?_⟩
  · exact Nat.lt_of_lt_of_le h h6.size
  · exact (h6.trans (hbw.mono h6.size)).setCell (p := ⟨b, 0, none⟩) hb _
theorem PBox.last {w6 wc wf : World} {vs : Value} {ps : List Pi} {t : TypeId} (hf : Far (fun q => q < wc.heap.size) (fun W => IsP W (.agg #[vs]) ps) wf)
    (h6 : Below w6.heap.size w6 wc) (hbw : Below wc.heap.size wc wf) : PBox w6 (wf.alloc (.cells #[vs] t)) wf.heap.size vs ps := by
  have hbk := alloc_blk wf (.cells #[vs] t)
  have hal : Below wf.heap.size wf (wf.alloc (.cells #[vs] t)) := (Below.refl _ _).alloc (Nat.le_refl _) _
  have hB := h6.trans (hbw.mono h6.size)
  refine ⟨cell_blk hbk 0, hB.size, blk_lt hbk, (hf.go hal).less fun q _ h => Nat.lt_of_lt_of_le h h6.size, hB.trans (hal.mono hB.size)⟩
theorem PBox.go {w6 wg w' : World} {b : Nat} {vs : Value} {ps : List Pi} (h : PBox w6 wg b vs ps) (hb : Below wg.heap.size wg w') : PBox w6 w' b vs ps :=
  ⟨(hb.cell (p := ⟨b, 0, none⟩) h.lt).trans h.c0, h.new, Nat.lt_of_lt_of_le h.lt hb.size, h.far.go hb, h.below.trans (hb.mono h.below.size)⟩
/-- what is stored in a box that holds no number leaves a row -/
theorem RowU.setOther {w : World} {v : Value} {l : List Int} (h : RowU w v l) {g : Nat} {a : Option Addr} {n c : Nat} {t : TypeId} (hb : w.heap[g]? = some (.cells #[.slice a n c] t (0, 0))) (hne : l.length = 0 → False) (u : Value) : RowU (w.setCell ⟨g, 0, none⟩ u) v l := by
  refine h.grown (grownBy_setCell _ _ _ _) fun x n' c' hv h0 e => ?_
  obtain ⟨_, _, a', cap, e', hr⟩ := h
  subst e'
  cases hv
  obtain ⟨b, off, ea, _, hc⟩ := hr (by omega)
  cases ea
  obtain rfl : b = g := e
  have hc0 := hc 0 (by omega)
  rw [cell_blk hb] at hc0
  rcases off with _ | off <;> simp at hc0
theorem proveI_len (c : Ci) (inp d : List Int) : (proveI c inp d).length = c.layers.length := proofFromI_length _ _ _ _ _
theorem Far.farP {S : Nat → Prop} {w : World} {v : Value} {l : List Pi} (h : Far S (fun W => IsP W v l) w) {j : Nat} (hj : j < l.length) :
    ∃ b off cap u u2, v = .agg #[.slice (some ⟨b, off, none⟩) l.length cap] ∧ b < w.heap.size ∧ w.cell? ⟨b, off + j * 2, none⟩ = some u ∧ w.cell? ⟨b, off + j * 2 + 1, none⟩ = some u2 ∧
      Far S (fun W => RowUU W u (atp l j).rounds) w ∧ Far S (fun W => RowU W u2 (atp l j).line) w := IsP.farAt h hj
set_option maxRecDepth 100000 in
set_option maxHeartbeats 8000000 in
theorem fiat_ProveF (v : Value) (c : Ci) (vi : Value) (inp : List Int) (w : World) (hT : Tab w) (h : IsC w v c) (hc0 : checkC c = 0) (hi : RowU w vi inp) (hil : inp.length = 2 ^ c.log.toNat) :
    Calls Tryz.prog 65 #[v, vi] w fun e w' => ∃ vo vp, e = .returned (.tuple #[vo, vp, .int .i64 0]) ∧ RowU w' vo ((valF c (inp.map phi) c.layers.length).map psi) ∧ Far (fun b => b < w.heap.size) (fun W => IsP W vp (proveI c inp (fiatD c inp ((valF c (inp.map phi) c.layers.length).map psi)))) w' ∧ Below w.heap.size w w' := by
  have HT := Lib.hid hT; have HC := Lib.hid h; have HG := Lib.hid (good_of_check hc0); have Hc0 := Lib.hid hc0; have Hi := Lib.hid hi; have Hil := Lib.hid hil
  have hn4 := HG.out.n4
  have hn1 := HG.out.n1
  have hDN := drawsN_le HG.out
  obtain ⟨ac, cc, rfl⟩ := h.shape
  clear hT h hc0 hi hil
  obtain ⟨V, hV⟩ : ∃ V, V = (valF c (inp.map phi) c.layers.length).map psi := ⟨_, rfl⟩
  rw [← hV]
  have HV := Lib.hid hV
  clear hV
  go_enter Tryz.func65, Tryz.ntmps65
  go_wp2_with (fail)
  obtain ⟨W1, cb, hW, hcb, hb1, hb2, s1, B1⟩ := two_blocks' w #[.int .i64 c.log, .slice ac c.layers.length cc] #[.slice none 0 0] 62 93
  rw [hW, ← hcb]
  have H1 := Lib.hid B1
  have HX1 := Lib.hid (show Boxed cb (.int .i64 c.log) (.slice ac c.layers.length cc) W1 from ⟨cell_blk hb1 0, cell_blk hb1 1, blk_lt hb1⟩)
  have HR1 := Lib.hid hb2
  have Hcb := Lib.hid hcb
  clear hW hb1 hb2 s1 B1 hcb
  refine (c_RunAt _ c _ inp _ (HC.out.go H1.out) (Hi.out.go H1.out) Hc0.out Hil.out).mono ?_
  rintro e w2 ⟨vx, rfl, hrun, hb2⟩
  have H2 := Lib.hid (below_two H1.out hb2)
  have HX2 := Lib.hid (HX1.out.go hb2)
  have HR2 := Lib.hid ((hb2.block _ (blk_lt HR1.out)).trans HR1.out)
  obtain ⟨bx, ox, cx, rfl, hbx, hrc⟩ := hrun
  obtain ⟨u, hu, hru⟩ := hrc c.layers.length (Nat.le_refl _)
  rw [← HV.out] at hru
  have HVl := Lib.hid (show V.length = 2 ^ (belowLog c c.layers.length).toNat by rw [HV.out, List.length_map]; exact valF_length HG.out _ (by rw [List.length_map, Hil.out]) _ (Nat.le_refl _))
  have HU2 := Lib.hid hru
  have hs1 : (c.layers.length : Int) + 1 - 1 = (c.layers.length : Int) := by omega
  have hLi : (c.layers.length : Int) < (c.layers.length : Int) + 1 := by omega
  have r0 := HX2.out.c0; have r1 := HX2.out.c1
  clear hb2 hrc hru hbx
  go_wp2_with (fail)
  refine (gkr_Draws _ c _ (HC.out.go H2.out) Hc0.out).mono ?_
  rintro e w3 ⟨rfl, hb3⟩
  obtain ⟨DN, hDN'⟩ : ∃ DN, DN = drawsN c := ⟨_, rfl⟩
  rw [← hDN'] at hDN ⊢
  have HDN := Lib.hid hDN'
  have H3 := Lib.hid (below_two H2.out hb3)
  have HX3 := Lib.hid (HX2.out.go hb3)
  have HU3 := Lib.hid (HU2.out.go hb3)
  have HR3 := Lib.hid ((hb3.block _ (blk_lt HR2.out)).trans HR2.out)
  clear hb3 hDN' hs1 hLi hu r0 r1
  have r0 := HX3.out.c0; have r1 := HX3.out.c1; have lt3 := HX3.out.lt
  have Hlow := Lib.hid (show cb + 1 < w3.heap.size from blk_lt HR3.out)
  go_wp2_with (fail)
  refine (fiat_begun _ _ _ _ c inp V (HC.out.go H3.out) HG.out (Hi.out.go H3.out) HU3.out (by rw [Hil.out]; have := (pow4 HG.out.log4).2; omega) (by rw [HVl.out]; have := (pow4 (HG.out.below4 (k := c.layers.length) (Nat.le_refl _))).2; omega)).mono ?_
  rintro e w4 ⟨tb, sb, vd, rfl, hA4, hb4⟩
  have HA4 := Lib.hid hA4
  have H4 := Lib.hid hb4
  have HX4 := Lib.hid (HX3.out.go hb4)
  clear hA4 hb4 r0 r1 lt3
  have r0 := HX4.out.c0; have r1 := HX4.out.c1
  go_wp2_with (fail)
  clear r0 r1
  go_loopw [48] (fun i wr => ∃ j : Nat, j ≤ c.layers.length ∧ i = .int .i64 (j : Int) ∧ Hid (∃ vd', TellA wr w3.heap.size tb sb vd' (runT c inp V (offP c j))) ∧ Hid (Below w3.heap.size w3 wr)) (fun i _ => c.layers.length - (intOf i).toNat)
  case atStart => exact ⟨0, by omega, rfl, ⟨vd, HA4.out⟩, H4.out⟩
  case round =>
    obtain ⟨j, hj, rfl, HAj, HBj⟩ := hrel
    have HXj := Lib.hid (HX3.out.go HBj.out)
    have r0 := HXj.out.c0; have r1 := HXj.out.c1; have ltr := HXj.out.lt
    by_cases hz : j < c.layers.length
    · obtain ⟨q, hq⟩ : ∃ q, j + 1 + q = c.layers.length := ⟨c.layers.length - 1 - j, by omega⟩
      have hqi : (c.layers.length : Int) - 1 - (j : Int) = (q : Int) := by omega
      have Hq := Lib.hid (show c.layers.length - 1 - j = q by omega)
      have hji : (j : Int) < (c.layers.length : Int) := by omega
      have hq4 : q < c.layers.length := by omega
      go_wp2_with (fail)
      refine (wiring_Below _ c q _ (HC.out.go (H3.out.trans (HBj.out.mono H3.out.size))) (by omega) hn4).mono ?_
      rintro e w5 ⟨rfl, hb5⟩
      have k0 := HG.out.below0 (k := q) (by omega)
      have k4 := HG.out.below4 (k := q) (by omega)
      obtain ⟨k, hk⟩ : ∃ k : Nat, belowLog c q = (k : Int) := ⟨(belowLog c q).toNat, by omega⟩
      rw [hk] at k0 k4 ⊢
      have hk4 : k ≤ 4 := by omega
      have Hk := Lib.hid (show (belowLog c (c.layers.length - 1 - j)).toNat = k by rw [Hq.out, hk]; simp)
      have HB5 := Lib.hid (HBj.out.trans (hb5.mono HBj.out.size))
      have HA5 := Lib.hid (show ∃ vd', TellA w5 w3.heap.size tb sb vd' (runT c inp V (offP c j + 0)) from by obtain ⟨vd', ha⟩ := HAj.out; exact ⟨vd', ha.go hb5⟩)
      have Hoff := Lib.hid (show offP c (j + 1) = offP c j + (2 * k + 1) by show _ + (2 * (belowLog c (c.layers.length - 1 - j)).toNat + 1) = _; rw [Hk.out])
      have HoffN := Lib.hid (show offP c j + (2 * k + 1) ≤ needFrom c c.layers.length by have := offP_le c hz; rwa [Hk.out] at this)
      clear hk k0 k4 hb5 r0 r1 ltr hqi
      go_wp2_with (fail)
      go_loopw [62] (fun i wr => ∃ m : Nat, m ≤ 2 * k + 1 ∧ i = .int .i64 (m : Int) ∧ Hid (∃ vd', TellA wr w3.heap.size tb sb vd' (runT c inp V (offP c j + m))) ∧ Hid (Below w3.heap.size w3 wr)) (fun i _ => 2 * k + 1 - (intOf i).toNat)
      case atStart => exact ⟨0, by omega, rfl, HA5.out, HB5.out⟩
      case round =>
        obtain ⟨m, hm, rfl, HAm, HBm⟩ := hrel
        obtain ⟨wm, hwm⟩ : ∃ x : World, x = wr := ⟨_, rfl⟩
        by_cases hmz : m < 2 * k + 1
        · obtain ⟨vm, ham⟩ := HAm.out
          obtain ⟨t, ht⟩ : ∃ t, t = runT c inp V (offP c j + m) := ⟨_, rfl⟩
          rw [← ht] at ham
          have HTm := Lib.hid ham
          have Ht := Lib.hid ht
          have HXm := Lib.hid (HX3.out.go HBm.out)
          have r0 := HXm.out.c0; have r1 := HXm.out.c1
          have Hbk := Lib.hid (fun W (hB : Below wr.heap.size wr W) => below_two H3.out (HBm.out.trans (hB.mono HBm.out.size)))
          clear ham ht
          have CR := Lib.hid (fun W (hB : Below wr.heap.size wr W) => fiat_rest' W w3.heap.size tb sb vm t (HTm.out.go hB) DN (by omega))
          have CP := Lib.hid (fun W (hB : Below wr.heap.size wr W) qb (hq : RowU W (.slice (some ⟨qb, 0, none⟩) DN DN) (padTo DN t.ds)) => (gkr_ProveN (.agg #[.int .i64 c.log, .slice ac c.layers.length cc]) c vi (.slice (some ⟨qb, 0, none⟩) DN DN) inp (padTo DN t.ds) W (HT.out.below (Hbk.out W hB)) (HC.out.go (Hbk.out W hB)) (Hi.out.go (Hbk.out W hB)) hq (CapOk.mk (Nat.le_refl _) (by omega)) Hc0.out Hil.out (by rw [padTo_length, HDN.out])).mono
            (show ∀ (e : Ending) (w' : World), _ → ∃ a n cp, e = .returned (.tuple #[.agg #[.slice a n cp], .int .i64 0]) ∧ Far (fun b => b < W.heap.size) (fun X => IsP X (.agg #[.slice a n cp]) (proveI c inp (padTo DN t.ds))) w' ∧ Below W.heap.size W w' from fun e w' ⟨vp, he, hf, hb⟩ => by
              obtain ⟨vs, e2, _, aP, cP, e3, -⟩ := hf.now
              subst e2; subst e3
              exact ⟨_, _, _, he, hf, hb⟩))
          have K3 := Lib.hid (show ∀ X, Below wr.heap.size wr X → Below wr.heap.size wr X ∧ X.cell? ⟨cb, 0, none⟩ = some (.int .i64 c.log) ∧ X.cell? ⟨cb, 1, none⟩ = some (.slice ac c.layers.length cc) from fun X hz => ⟨hz, (HXm.out.go hz).c0, (HXm.out.go hz).c1⟩)
          have hal := Lib.hid (show Below wr.heap.size wr (wr.alloc (.cells #[.slice none 0 0] 93)).drew from below_drewN ((Below.refl _ _).alloc (Nat.le_refl _) _) 1)
          have halc := Lib.hid (alloc_blk wr (.cells #[.slice none 0 0] 93))
          go_wp2_with (fail)
          go_cut [16] (fun x wx => ∃ (b : Nat) (ap : Option Addr) (np cp : Nat), x = .pointer (some ⟨b, 0, none⟩) ∧ Hid (PBox wr wx b (.slice ap np cp) (proveI c inp (padTo DN t.ds))))
          case first =>
            go_region_held3 (fun w' => Below wr.heap.size wr w' ∧ w'.cell? ⟨cb, 0, none⟩ = some (.int .i64 c.log) ∧ w'.cell? ⟨cb, 1, none⟩ = some (.slice ac c.layers.length cc))
              (first
                | exact K3.out _ HK.out.below
                | (refine K3.out _ ?_; (repeat (first | assumption | (with_reducible exact Below.refl _ _) | (with_reducible refine below_dw ?_) | (with_reducible refine below_al' ?_) | (with_reducible refine below_two ?_ (by assumption))))))
              (first
                | (go_at_call 103; (with_reducible refine (CR.out (wr.alloc (.cells #[.slice none 0 0] 93)).drew hal.out).mono ?_); rintro e wq ⟨qb, rfl, hq, hbq⟩; have gA := (hbq.block wr.heap.size (by show wr.heap.size < (wr.alloc _).heap.size; simp)).trans halc.out; have hBq := below_two hal.out hbq)
                | (go_at_call 103; (with_reducible refine (CR.out wr.drew (below_drewN (Below.refl _ _) 1)).mono ?_); rintro e wq ⟨qb, rfl, hq, hbq⟩; have hBq := below_two (below_drewN (Below.refl wr.heap.size wr) 1) hbq)
                | (go_at_call 102; (with_reducible refine (CP.out wq hBq _ hq).mono ?_); rintro e wf ⟨aP, nP, cP, rfl, hfar, hbF⟩; first | (have gO := (hbF.block wr.heap.size (blk_lt gA)).trans gA; have HK := Lib.hid (show PBox wr (wf.setCell ⟨wr.heap.size, 0, none⟩ (.slice aP nP cP)) wr.heap.size (.slice aP nP cP) (proveI c inp (padTo DN t.ds)) from PBox.set (Nat.le_refl _) gO (Nat.lt_of_lt_of_le (show wr.heap.size < (wr.alloc (.cells #[.slice none 0 0] 93)).drew.heap.size by show wr.heap.size < (wr.alloc _).heap.size; simp) hbq.size) hfar hBq hbF); have gO0 := cell_blk gO 0; have gf := free_blk gO 0; clear gO gA hfar) | (have HK := Lib.hid (show PBox wr (wf.alloc (.cells #[.slice aP nP cP] 93)) wf.heap.size (.slice aP nP cP) (proveI c inp (padTo DN t.ds)) from PBox.last hfar hBq hbF); clear hfar))
                | (go_at_call 102; (with_reducible refine (CP.out (wq.alloc (.cells #[.slice none 0 0] 93)) (below_al' hBq) _ (hq.more _)).mono ?_); rintro e wf ⟨aP, nP, cP, rfl, hfar, hbF⟩; have gO := (hbF.block wq.heap.size (by simp)).trans (alloc_blk wq (.cells #[.slice none 0 0] 93)); have HK := Lib.hid (show PBox wr (wf.setCell ⟨wq.heap.size, 0, none⟩ (.slice aP nP cP)) wq.heap.size (.slice aP nP cP) (proveI c inp (padTo DN t.ds)) from PBox.set hBq.size gO (by simp) hfar (below_al' hBq) hbF); have gO0 := cell_blk gO 0; have gf := free_blk gO 0; clear gO hfar))
            all_goals
              go_wp2_with fail
              go_meet
              case rel => first | exact ⟨_, _, _, _, rfl, HK.out⟩
          case rest =>
            obtain ⟨b, ap, np, cp, rfl, HP⟩ := hcut
            obtain ⟨PS, hPS⟩ : ∃ PS, PS = proveI c inp (padTo DN t.ds) := ⟨_, rfl⟩
            rw [← hPS] at HP
            have HPl := Lib.hid (show PS.length = c.layers.length by rw [hPS]; exact proveI_len ..)
            have HPS := Lib.hid hPS
            have HSh := Lib.hid (show ShapedI c PS by rw [hPS]; exact shaped_prove c inp _ (by rw [padTo_length, HDN.out]))
            have HAc := Lib.hid ((HTm.out.go HP.out.below).go (below_drw wc))
            have HBc := Lib.hid (below_drewN (HBm.out.trans (HP.out.below.mono HBm.out.size)) 1)
            obtain ⟨bP, oP, cP', u, u2, e, hbP, c1, c2, f1, f2⟩ := HP.out.far.farP (j := j) (by rw [HPl.out]; exact hz)
            simp only [Value.agg.injEq, Array.mk.injEq, List.cons.injEq, Value.slice.injEq] at e
            obtain ⟨⟨rfl, hnp, rfl⟩, -⟩ := e
            have hjn : (j : Int) < (np : Int) := by rw [hnp, HPl.out]; omega
            have hp := HSh.out.2 j (by rw [HPl.out]; exact hz)
            rw [Hk.out] at hp
            have Hpi := Lib.hid hp
            have g0 := HP.out.c0
            have t0 : wc.cell? ⟨tb, 0, none⟩ = some _ := cell_blk (HTm.out.go HP.out.below).blk 0
            have hsb := Lib.hid HTm.out.lt.2
            have F2 := Lib.hid f2
            clear hPS hnp hp
            by_cases hm2 : m < 2 * k
            · have hmi : (m : Int) < 2 * (k : Int) := by omega
              obtain ⟨bR, oR, cR, ur, e, hbR, cur, fr⟩ := RowUU.farAt f1 (j := m) (by rw [Hpi.out.n]; exact hm2)
              subst e
              obtain ⟨nR, hnR⟩ : ∃ nR, nR = (atp PS j).rounds.length := ⟨_, rfl⟩
              rw [← hnR] at c1
              have hmn : (m : Int) < (nR : Int) := by rw [hnR, Hpi.out.n]; omega
              obtain ⟨_, _, ar, cr, rfl, -⟩ := fr.now
              have Hl := Lib.hid (Hpi.out.r m hm2)
              have Fr := Lib.hid (fr.go (below_drw wc))
              obtain ⟨lr, hlr⟩ : ∃ lr, lr = (atl (atp PS j).rounds m).length := ⟨_, rfl⟩
              rw [← hlr] at cur Fr
              have Hst := Lib.hid (show runT c inp V (offP c j + (m + 1)) = Tl.give ⟨takeL (atl (atp PS j).rounds m) t.s, t.ds⟩ by
                rw [runT_round c inp V hz (by rw [Hk.out]; exact hm2), HPS.out, ← Ht.out, HDN.out]; rfl)
              have Htl := Lib.hid (show t.ds.length ≤ 100 by
                have h1 := runT_length c inp V (offP c j + m)
                rw [← Ht.out] at h1
                have h2 := drawsN_le HG.out
                unfold drawsN at h2
                have h3 := HoffN.out
                omega)
              clear hnR hlr f1 fr hm
              go_wp2_with (fail)
              refine wp_region_still_tail 13 (by kernel_rfl) (by kernel_rfl) ?_
              simp only [List.take_succ_cons, List.take_zero, List.drop_succ_cons, List.drop_zero]
              repeat (first | still_step)
              try refine wpStill_nil ?_
              change wpList _ _ _ _ _ (World.drew _)
              go_wp2_with (fail)
              refine (fiat_take _ _ _ _ _ _ HAc.out HBc.out.size _ _ Fr.out.now (sep_far Fr.out HAc.out.sp hsb.out) (by rw [Hl.out]; omega)).mono ?_
              rintro e w8 ⟨rfl, ht8, hb8, -⟩
              have HT8 := Lib.hid ht8
              have HB8 := Lib.hid (HBc.out.trans hb8)
              clear ht8 hb8
              go_wp2_with (fail)
              refine (fiat_give _ _ _ _ _ _ HT8.out HB8.out.size Htl.out).mono ?_
              rintro e w9 ⟨rfl, ⟨v9, ht9⟩, hb9, -⟩
              have HT9 := Lib.hid ht9
              have HB9 := Lib.hid (HB8.out.trans hb9)
              clear ht9 hb9
              go_wp2
              go_roundw
              case rel => exact ⟨m + 1, by omega, by go_num, ⟨v9, by rw [Hst.out]; exact HT9.out⟩, HB9.out⟩
              case measure => simp [intOf]; omega
            · have hmi : 2 * (k : Int) ≤ (m : Int) := by omega
              have Hm := Lib.hid (show m = 2 * k by omega)
              obtain ⟨nL, hnL⟩ : ∃ nL, nL = (atp PS j).line.length := ⟨_, rfl⟩
              obtain ⟨_, _, ar, cr, rfl, -⟩ := F2.out.now
              have Fr := Lib.hid (F2.out.go (below_drw wc))
              rw [← hnL] at c2 Fr
              have Hl := Lib.hid Hpi.out.l
              have Hst := Lib.hid (show runT c inp V (offP c j + (m + 1)) = Tl.give ⟨takeL (atp PS j).line t.s, t.ds⟩ by
                have e1 := runT_line c inp V hz
                rw [Hk.out] at e1
                have e2 : offP c j + (m + 1) = offP c (j + 1) := by rw [Hoff.out, Hm.out]
                have e3 : offP c j + m = offP c j + 2 * k := by rw [Hm.out]
                rw [e2, e1, ← e3, HPS.out, ← Ht.out, HDN.out]; rfl)
              have Htl := Lib.hid (show t.ds.length ≤ 100 by
                have h1 := runT_length c inp V (offP c j + m)
                rw [← Ht.out] at h1
                have h2 := drawsN_le HG.out
                unfold drawsN at h2
                have h3 := HoffN.out
                omega)
              clear hnL f1 hm c1
              go_wp2_with (fail)
              refine wp_region_still_tail 10 (by kernel_rfl) (by kernel_rfl) ?_
              simp only [List.take_succ_cons, List.take_zero, List.drop_succ_cons, List.drop_zero]
              repeat (first | still_step)
              try refine wpStill_nil ?_
              change wpList _ _ _ _ _ (World.drew _)
              go_wp2_with (fail)
              refine (fiat_take _ _ _ _ _ _ HAc.out HBc.out.size _ _ Fr.out.now (sep_far Fr.out HAc.out.sp hsb.out) (by rw [Hl.out]; omega)).mono ?_
              rintro e w8 ⟨rfl, ht8, hb8, -⟩
              have HT8 := Lib.hid ht8
              have HB8 := Lib.hid (HBc.out.trans hb8)
              clear ht8 hb8
              go_wp2_with (fail)
              refine (fiat_give _ _ _ _ _ _ HT8.out HB8.out.size Htl.out).mono ?_
              rintro e w9 ⟨rfl, ⟨v9, ht9⟩, hb9, -⟩
              have HT9 := Lib.hid ht9
              have HB9 := Lib.hid (HB8.out.trans hb9)
              clear ht9 hb9
              go_wp2
              go_roundw
              case rel => exact ⟨m + 1, by omega, by go_num, ⟨v9, by rw [Hst.out]; exact HT9.out⟩, HB9.out⟩
              case measure => simp [intOf]; omega
        · have hmi : 2 * (k : Int) + 1 ≤ (m : Int) := by omega
          have HE := Lib.hid (show ∃ vd', TellA wr w3.heap.size tb sb vd' (runT c inp V (offP c (j + 1))) by
            obtain ⟨v', h'⟩ := HAm.out
            refine ⟨v', ?_⟩
            rwa [Hoff.out, show 2 * k + 1 = m by omega])
          go_wp2
          go_roundw
          case rel => exact ⟨j + 1, by omega, by go_num, HE.out, HBm.out⟩
          case measure => simp [intOf]; omega
    · obtain rfl : j = c.layers.length := by omega
      obtain ⟨vm, ham⟩ := HAj.out
      have Hds := Lib.hid (show (runT c inp V (offP c c.layers.length)).ds = fiatD c inp V by rw [offP_all]; rfl)
      have HTm := Lib.hid ham
      have tc1 : wr.cell? ⟨tb, 1, none⟩ = some vm := cell_blk ham.blk 1
      have Hvm := Lib.hid (show RowU wr vm (fiatD c inp V) by rw [← Hds.out]; exact ham.row.row)
      have Hvc := Lib.hid ham.row.cap
      have Hbk := Lib.hid (fun W (hB : Below wr.heap.size wr W) => below_two H3.out (HBj.out.trans (hB.mono HBj.out.size)))
      have Htl := Lib.hid ham.lt.1
      clear ham
      have CP := Lib.hid (fun W (hB : Below wr.heap.size wr W) => (gkr_ProveN (.agg #[.int .i64 c.log, .slice ac c.layers.length cc]) c vi vm inp (fiatD c inp V) W (HT.out.below (Hbk.out W hB)) (HC.out.go (Hbk.out W hB)) (Hi.out.go (Hbk.out W hB)) (Hvm.out.go hB) Hvc.out Hc0.out Hil.out (fiatD_length _ _ _)).mono
        (show ∀ (e : Ending) (w' : World), _ → ∃ a n cp, e = .returned (.tuple #[.agg #[.slice a n cp], .int .i64 0]) ∧ Far (fun b => b < W.heap.size) (fun X => IsP X (.agg #[.slice a n cp]) (proveI c inp (fiatD c inp V))) w' ∧ Below W.heap.size W w' from fun e w' ⟨vp, he, hf, hb⟩ => by
          obtain ⟨vs, e2, _, aP, cP, e3, -⟩ := hf.now
          subst e2; subst e3
          exact ⟨_, _, _, he, hf, hb⟩))
      have K3 := Lib.hid (show ∀ X, Below wr.heap.size wr X → Below wr.heap.size wr X ∧ X.cell? ⟨cb, 0, none⟩ = some (.int .i64 c.log) ∧ X.cell? ⟨cb, 1, none⟩ = some (.slice ac c.layers.length cc) ∧ X.cell? ⟨tb, 1, none⟩ = some vm from fun X hz => ⟨hz, (HXj.out.go hz).c0, (HXj.out.go hz).c1, (hz.cell (p := ⟨tb, 1, none⟩) Htl.out).trans tc1⟩)
      have hal := Lib.hid (show Below wr.heap.size wr (wr.alloc (.cells #[.slice none 0 0] 93)).drew from below_drewN ((Below.refl _ _).alloc (Nat.le_refl _) _) 1)
      have halc := Lib.hid (alloc_blk wr (.cells #[.slice none 0 0] 93))
      have hdw := Lib.hid (show Below wr.heap.size wr wr.drew from below_drewN (Below.refl wr.heap.size wr) 1)
      obtain ⟨PS, hPS⟩ : ∃ PS, PS = proveI c inp (fiatD c inp V) := ⟨_, rfl⟩
      rw [← hPS] at CP
      go_wp2_with (fail)
      go_cut [18] (fun x wx => ∃ (b : Nat) (ap : Option Addr) (np cp : Nat), x = .pointer (some ⟨b, 0, none⟩) ∧ Hid (PBox wr wx b (.slice ap np cp) PS))
      case first =>
        go_region_held3 (fun w' => Below wr.heap.size wr w' ∧ w'.cell? ⟨cb, 0, none⟩ = some (.int .i64 c.log) ∧ w'.cell? ⟨cb, 1, none⟩ = some (.slice ac c.layers.length cc) ∧ w'.cell? ⟨tb, 1, none⟩ = some vm)
          (first
            | exact K3.out _ HK.out.below
            | (refine K3.out _ ?_; (repeat (first | assumption | (with_reducible exact Below.refl _ _) | (with_reducible refine below_dw ?_) | (with_reducible refine below_al' ?_) | (with_reducible refine below_two ?_ (by assumption))))))
          (first
            | (go_at_call 102; (with_reducible refine (CP.out wr.drew hdw.out).mono ?_); rintro e wf ⟨aP, nP, cP, rfl, hfar, hbF⟩; have HK := Lib.hid (show PBox wr (wf.alloc (.cells #[.slice aP nP cP] 93)) wf.heap.size (.slice aP nP cP) PS from PBox.last hfar hdw.out hbF); clear hfar)
            | (go_at_call 102; (with_reducible refine (CP.out (wr.alloc (.cells #[.slice none 0 0] 93)).drew hal.out).mono ?_); rintro e wf ⟨aP, nP, cP, rfl, hfar, hbF⟩; have gO := (hbF.block wr.heap.size (by show wr.heap.size < (wr.alloc _).heap.size; simp)).trans halc.out; have HK := Lib.hid (show PBox wr (wf.setCell ⟨wr.heap.size, 0, none⟩ (.slice aP nP cP)) wr.heap.size (.slice aP nP cP) PS from PBox.set (Nat.le_refl _) gO (by show wr.heap.size < (wr.alloc _).heap.size; simp) hfar hal.out hbF); have gO0 := cell_blk gO 0; have gf := free_blk gO 0; clear gO hfar))
        all_goals
          go_wp2_with fail
          go_meet
          case rel => exact ⟨_, _, _, _, rfl, HK.out⟩
      case rest =>
        obtain ⟨b, ap, np, cp, rfl, HP⟩ := hcut
        have HBc := Lib.hid (HBj.out.trans (HP.out.below.mono HBj.out.size))
        have g0 := HP.out.c0
        have hR := (HBc.out.block _ Hlow.out).trans HR3.out
        have f0 : wc.cell? ⟨cb + 1, 0, none⟩ = some _ := cell_blk hR 0
        have ff := free_blk hR 0
        have HR := Lib.hid hR
        clear hR r0 r1 tc1 hdw hal halc K3 CP
        go_wp2_with (fail)
        go_region
        all_goals
          go_wp2_with (fail)
          have HRz := Lib.hid (blk_setCell HR.out 0 (.slice ap np cp))
          have Hz := Lib.hid (show Below w.heap.size w (wc.setCell ⟨cb + 1, 0, none⟩ (.slice ap np cp)).drew from below_drewN ((H3.out.trans (HBc.out.mono H3.out.size)).setCell (p := ⟨cb + 1, 0, none⟩) (by have := Hcb.out; show w.heap.size ≤ cb + 1; omega) _) 1)
          have HPz := Lib.hid (show Far (fun b => b < w.heap.size) (fun W => IsP W (.agg #[.slice ap np cp]) PS) (wc.setCell ⟨cb + 1, 0, none⟩ (.slice ap np cp)).drew from
            (HP.out.far.set (b := cb + 1) (Nat.lt_of_lt_of_le Hlow.out HBj.out.size) 0 _ |>.go (below_drw _)).less fun q _ h => Nat.lt_of_lt_of_le h (Nat.le_trans H3.out.size HBj.out.size))
          have HUz := Lib.hid (show RowU (wc.setCell ⟨cb + 1, 0, none⟩ (.slice ap np cp)).drew u V from ((HU3.out.below HBc.out (Nat.le_refl _)).setOther HR.out (fun h => by have := HVl.out; rw [h] at this; have := Nat.pow_pos (n := (belowLog c c.layers.length).toNat) (show 0 < 2 by decide); omega) _).dw)
          have d0 : (wc.setCell ⟨cb + 1, 0, none⟩ (.slice ap np cp)).drew.cell? ⟨cb + 1, 0, none⟩ = some (.slice ap np cp) := cell_blk HRz.out 0
          exact bodyPost_ret (v := .tuple #[u, .agg #[.slice ap np cp], .int .i64 0]) (by simp [results, Tryz.results65, go_sem, d0]) rfl ⟨_, _, rfl, HUz.out, by rw [← hPS]; exact HPz.out, Hz.out⟩
theorem fiat_Prove (v : Value) (c : Ci) (vi : Value) (inp : List Int) (w : World) (hT : Tab w) (h : IsC w v c) (hc0 : checkC c = 0) (hi : RowU w vi inp) (hil : inp.length = 2 ^ c.log.toNat) :
    Calls Tryz.prog 65 #[v, vi] w fun e w' => ∃ vo vp, e = .returned (.tuple #[vo, vp, .int .i64 0]) ∧ RowU w' vo ((valF c (inp.map phi) c.layers.length).map psi) ∧ IsP w' vp (proveI c inp (fiatD c inp ((valF c (inp.map phi) c.layers.length).map psi))) ∧ Below w.heap.size w w' :=
  (fiat_ProveF v c vi inp w hT h hc0 hi hil).mono fun _ _ ⟨vo, vp, he, hr, hf, hb⟩ => ⟨vo, vp, he, hr, hf.now, hb⟩
end Go.Proofs.YtlfneeobnihocaaGreatDoor

/- The walk of fiat.Verify. The circuit is right, the proof has its shape, the lists have the circuit's sizes; the table of bits lies as its initialiser lays it. -/
namespace Go.Proofs.YtlfneeobnihocaaGreatDoor
set_option maxRecDepth 100000
set_option linter.unusedVariables false
open Go.RowKit Tally
open Go.Sort (grow)
theorem shaped_len {c : Ci} {ps : List Pi} (hG : Good c) (h : ShapedI c ps) {j : Nat} (hj : j < c.layers.length) : (atp ps j).rounds.length ≤ 8 ∧ (∀ i, i < (atp ps j).rounds.length → (atl (atp ps j).rounds i).length ≤ 1000) ∧ (atp ps j).line.length ≤ 1000 := by
  have hp := h.2 j (by rw [h.1]; omega)
  have h4 := hG.below4 (k := c.layers.length - 1 - j) (by omega)
  refine ⟨by rw [hp.n]; omega, fun i hi => ?_, by rw [hp.l]; omega⟩
  have := hp.r i (by rw [← hp.n]; exact hi)
  omega
/-- a made row of noughts -/
theorem row_made (w : World) (n g : Nat) (hg : g = w.heap.size) (hn : n ≤ 1000000) : RowU (w.alloc (.cells (madeCells #[.int .u64 0] n) 57)) (.slice (some ⟨g, 0, none⟩) n n) (List.replicate n 0) := by
  subst hg
  refine NewU.row (B := w.heap.size) ⟨fun x hx => by rw [List.eq_of_mem_replicate hx]; exact U64.zero, by simp; omega, ?_⟩
  have := World.ownsRow_lit w (madeCells #[.int .u64 0] n) n (e := 57) (base := w.heap.size) (size := 1) (Nat.le_refl _) (by unfold maxLen; omega) (by rw [size_madeCells, Nat.mul_one])
  rw [toList_madeCells_one] at this
  rw [List.length_replicate, List.map_replicate]
  exact this
set_option maxRecDepth 100000 in
set_option maxHeartbeats 8000000 in
theorem fiat_Verify (v : Value) (c : Ci) (vi vo vp : Value) (inp out : List Int) (ps : List Pi) (w : World) (hT : Tab w) (h : IsC w v c) (hc0 : checkC c = 0) (hi : RowU w vi inp) (ho : RowU w vo out) (hp : IsP w vp ps)
    (hil : inp.length = 2 ^ c.log.toNat) (hol : out.length = 2 ^ (belowLog c c.layers.length).toNat) (hS : ShapedI c ps) :
    Calls Tryz.prog 66 #[v, vi, vo, vp] w fun e w' => e = .returned (.tuple #[.bool (verB c inp out ps (drawnI c inp out ps)), .int .i64 0]) ∧ Below w.heap.size w w' := by
  have HT := Lib.hid hT; have HC := Lib.hid h; have HG := Lib.hid (good_of_check hc0); have Hp := Lib.hid hp; have Hc0 := Lib.hid hc0; have Hi := Lib.hid hi; have Ho := Lib.hid ho
  have Hil := Lib.hid hil; have Hol := Lib.hid hol; have HS := Lib.hid hS
  have hn4 := HG.out.n4
  have hn1 := HG.out.n1
  have HpsL := Lib.hid hS.1
  have hDN := drawsN_le HG.out
  obtain ⟨ac, cc, rfl⟩ := h.shape
  obtain ⟨vs, rfl, hps⟩ := hp
  obtain ⟨_, aP, cP, rfl, hpr⟩ := hps
  have Hpr := Lib.hid hpr
  obtain ⟨nP, hnP⟩ : ∃ nP, nP = ps.length := ⟨_, rfl⟩
  rw [← hnP] at Hp ⊢
  have HnP := Lib.hid hnP
  clear hT h hc0 hi ho hil hol hS hpr hnP
  go_enter Tryz.func66, Tryz.ntmps66
  go_wp2_with (fail)
  obtain ⟨W2, cb, hW, hcb, hb1, hb2, s1, B1⟩ := two_blocks' w #[.int .i64 c.log, .slice ac c.layers.length cc] #[.slice aP nP cP] 62 93
  rw [hW, ← hcb]
  have H2 := Lib.hid B1
  have HX2 := Lib.hid (show Boxed cb (.int .i64 c.log) (.slice ac c.layers.length cc) W2 from ⟨cell_blk hb1 0, cell_blk hb1 1, blk_lt hb1⟩)
  have KP2 := Lib.hid (show W2.cell? ⟨cb + 1, 0, none⟩ = some (.slice aP nP cP) from cell_blk hb2 0)
  have lp2 : cb + 1 < W2.heap.size := blk_lt hb2
  clear hW hb1 hb2 s1 B1 hcb
  refine (gkr_Draws _ c _ (HC.out.go H2.out) Hc0.out).mono ?_
  rintro e w3 ⟨rfl, hb3⟩
  obtain ⟨DN, hDN'⟩ : ∃ DN, DN = drawsN c := ⟨_, rfl⟩
  rw [← hDN'] at hDN ⊢
  have HDN := Lib.hid hDN'
  have H3 := Lib.hid (below_two H2.out hb3)
  have HX3 := Lib.hid (HX2.out.go hb3)
  have r0 := HX3.out.c0; have r1 := HX3.out.c1
  have kp3 := (hb3.cell (p := ⟨cb + 1, 0, none⟩) lp2).trans KP2.out
  have lp3 : cb + 1 < w3.heap.size := Nat.lt_of_lt_of_le lp2 hb3.size
  clear hb3 hDN'
  have CV := Lib.hid (fun W (hB : Below w3.heap.size w3 W) n (hn : n = DN) g (hg : RowU W (.slice (some ⟨g, 0, none⟩) n n) (List.replicate DN 0)) => show Calls Tryz.prog 106 #[.agg #[.int .i64 c.log, .slice ac c.layers.length cc], vi, vo, .agg #[.slice aP nP cP], .slice (some ⟨g, 0, none⟩) n n] W fun e w' => ∃ b, e = .returned (.tuple #[.bool b, .int .i64 0]) ∧ Below W.heap.size W w' from
    (gkr_Verify _ c _ _ _ _ inp out ps (List.replicate DN 0) W (HT.out.below (below_two H3.out hB)) (HC.out.go (below_two H3.out hB)) Hc0.out (Hi.out.go (below_two H3.out hB)) (Ho.out.go (below_two H3.out hB)) (Hp.out.go (below_two H3.out hB)) hg (CapOk.mk (Nat.le_refl _) (by omega)) Hil.out Hol.out HS.out (by rw [List.length_replicate, HDN.out])).mono fun e w' ⟨he, hb⟩ => ⟨_, he, hb⟩)
  have K3 := Lib.hid (show ∀ X, Below w3.heap.size w3 X → Below w3.heap.size w3 X ∧ X.cell? ⟨cb, 0, none⟩ = some (.int .i64 c.log) ∧ X.cell? ⟨cb, 1, none⟩ = some (.slice ac c.layers.length cc) ∧ X.cell? ⟨cb + 1, 0, none⟩ = some (.slice aP nP cP) from fun X hz =>
    ⟨hz, (HX3.out.go hz).c0, (HX3.out.go hz).c1, (hz.cell (p := ⟨cb + 1, 0, none⟩) lp3).trans kp3⟩)
  have hmk : ∀ w : World, (Instr.makeSlice 53 (.int .i64 (DN : Int)) (.int .i64 (DN : Int))).run Tryz.prog w = .ok (.slice (some ⟨w.heap.size, 0, none⟩) DN DN) (w.alloc (.cells (madeCells #[.int .u64 0] DN) 57)) := fun w =>
    run_make_row' 53 57 (.int .u64 0) 8 Tryz.underlying53 Tryz.infoU rfl .i64 .i64 DN (by omega) (by omega) w
  go_wp2_with (fail)
  go_region_held3 (fun w' => Below w3.heap.size w3 w' ∧ w'.cell? ⟨cb, 0, none⟩ = some (.int .i64 c.log) ∧ w'.cell? ⟨cb, 1, none⟩ = some (.slice ac c.layers.length cc) ∧ w'.cell? ⟨cb + 1, 0, none⟩ = some (.slice aP nP cP))
    (first
      | (refine K3.out _ ?_; (repeat (first | assumption | (with_reducible exact Below.refl _ _) | (with_reducible refine below_dw ?_) | (with_reducible refine below_al' ?_) | (with_reducible refine below_two ?_ (by assumption))))))
    (first
      | (go_at_call 106; (refine (CV.out _ (by (repeat (first | assumption | (with_reducible exact Below.refl _ _) | (with_reducible refine below_dw ?_) | (with_reducible refine below_al' ?_) | (with_reducible refine below_two ?_ (by assumption))))) _ rfl _ (by (first | exact row_made _ _ _ (by simp) (by omega)))).mono ?_); rintro e wv ⟨b, rfl, hbv⟩))
  have H4 := Lib.hid (show Below w3.heap.size w3 wv by (repeat (first | assumption | (with_reducible exact Below.refl _ _) | (with_reducible refine below_dw ?_) | (with_reducible refine below_al' ?_) | (with_reducible refine below_two ?_ (by assumption)))))
  have H5 := Lib.hid (below_two H3.out H4.out)
  have HX5 := Lib.hid (HX3.out.go H4.out)
  have r0 := HX5.out.c0; have r1 := HX5.out.c1
  have kp5 := (H4.out.cell (p := ⟨cb + 1, 0, none⟩) lp3).trans kp3
  have KP5 := Lib.hid kp5
  have LP5 := Lib.hid (show cb + 1 < wv.heap.size from Nat.lt_of_lt_of_le lp3 H4.out.size)
  clear hbv hmk kp3 lp3 kp5 CV K3
  go_wp2_with (fail)
  refine (fiat_begun _ _ _ _ c inp out (HC.out.go H5.out) HG.out (Hi.out.go H5.out) (Ho.out.go H5.out) (by rw [Hil.out]; have := (pow4 HG.out.log4).2; omega) (by rw [Hol.out]; have := (pow4 (HG.out.below4 (k := c.layers.length) (Nat.le_refl _))).2; omega)).mono ?_
  rintro e w6 ⟨tb, sb, vd, rfl, hA6, hb6⟩
  have HA6 := Lib.hid hA6
  have H6 := Lib.hid hb6
  have kp6 := (hb6.cell (p := ⟨cb + 1, 0, none⟩) LP5.out).trans KP5.out
  clear hA6 hb6 r0 r1
  go_wp2_with (fail)
  clear kp6
  have hnP4 : nP ≤ 4 := by rw [HnP.out, HpsL.out]; exact hn4
  go_loopw [45] (fun i wr => ∃ j : Nat, j ≤ nP ∧ i = .int .i64 (j : Int) ∧ Hid (∃ vd', TellA wr wv.heap.size tb sb vd' (tellL (flatP (ps.take j)) (begT c inp out))) ∧ Hid (Below wv.heap.size wv wr)) (fun i _ => nP - (intOf i).toNat)
  case atStart => exact ⟨0, by omega, rfl, ⟨vd, HA6.out⟩, H6.out⟩
  case round =>
    obtain ⟨j, hj, rfl, HAj, HBj⟩ := hrel
    have HBw := Lib.hid (H5.out.trans (HBj.out.mono H5.out.size))
    by_cases hz : j < nP
    · obtain ⟨vj, haj⟩ := HAj.out
      obtain ⟨b, off, rfl, hblt, hcell⟩ := Hpr.out (by rw [← HnP.out]; omega)
      obtain ⟨u, u2, c1, c2, hu, hu2⟩ := hcell j (by rw [← HnP.out]; exact hz)
      have Hu := Lib.hid hu; have Hu2 := Lib.hid hu2
      obtain ⟨_, aR, cR, rfl, -⟩ := hu
      obtain ⟨_, _, aL, cL, rfl, -⟩ := hu2
      obtain ⟨nR, hnR⟩ : ∃ nR, nR = (atp ps j).rounds.length := ⟨_, rfl⟩
      obtain ⟨nL, hnL⟩ : ∃ nL, nL = (atp ps j).line.length := ⟨_, rfl⟩
      rw [← hnR] at Hu c1; rw [← hnL] at Hu2 c2
      have d1 := (HBw.out.cell (p := ⟨b, off + j * 2, none⟩) hblt).trans c1
      have d2 := (HBw.out.cell (p := ⟨b, off + j * 2 + 1, none⟩) hblt).trans c2
      have HAj' := Lib.hid haj
      have HpsN := Lib.hid (show nP = c.layers.length by rw [HnP.out, HpsL.out])
      have Hlen := Lib.hid (show (tellL (flatP (ps.take j)) (begT c inp out)).ds.length + (atp ps j).rounds.length + 1 ≤ 100 by
        rw [tellL_length, begT_length, flatP_take_length HS.out j (by rw [← HpsN.out]; omega), (HS.out.2 j (by rw [← HnP.out]; exact hz)).n]
        have h1 := offP_le c (j := j) (by rw [← HpsN.out]; exact hz)
        have h2 := drawsN_le HG.out
        unfold drawsN at h2
        omega)
      have hsl := Lib.hid (shaped_len HG.out HS.out (j := j) (by rw [← HpsN.out]; exact hz))
      obtain ⟨W, hW, q0, q1, hWr, hWs⟩ := copied2' wr (.slice aR nR cR) (.slice aL nL cL) 143
      have HWr := Lib.hid hWr
      have HnR := Lib.hid hnR; have HnL := Lib.hid hnL
      clear hcell c1 c2 haj hWr hWs hnR hnL
      go_wp2_with (fail)
      try rw [hW]
      have HW := Lib.hid hW
      clear hW
      refine (fiat_part wv W tb sb _ _ _ _ (atp ps j) (HAj'.out.go HWr.out) (HBj.out.trans (HWr.out.mono HBj.out.size)) (Hu.out.go H5.out) (Hu2.out.go H5.out) Hlen.out hsl.out.2.1 hsl.out.2.2).mono ?_
      rintro e w8 ⟨rfl, ht8, hb8⟩
      have HT8 := Lib.hid (show ∃ vd', TellA w8 wv.heap.size tb sb vd' (tellL (flatP (ps.take (j + 1))) (begT c inp out)) by
        obtain ⟨v8, h8⟩ := ht8
        refine ⟨v8, ?_⟩
        rw [flatP_take_succ _ _ (by rw [← HnP.out]; exact hz), tellL_append]; exact h8)
      have HB8 := Lib.hid hb8
      clear ht8 hb8
      go_wp2
      go_roundw
      case rel => exact ⟨j + 1, by omega, by go_num, HT8.out, HB8.out⟩
      case measure => simp [intOf]; omega
    · obtain rfl : j = nP := by omega
      obtain ⟨vj, haj⟩ := HAj.out
      have Heq := Lib.hid (show (tellL (flatP (ps.take j)) (begT c inp out)).ds = drawnI c inp out ps by
        rw [List.take_of_length_le (by rw [HnP.out]; exact Nat.le_refl _)]; rfl)
      have HD := Lib.hid (show RowU wr vj (drawnI c inp out ps) by rw [← Heq.out]; exact haj.row.row)
      have hdc := haj.row.cap
      have HDc := Lib.hid hdc
      have HXr := Lib.hid (HX5.out.go HBj.out)
      have q0 := HXr.out.c0; have q1 := HXr.out.c1
      have kpr := (HBj.out.cell (p := ⟨cb + 1, 0, none⟩) LP5.out).trans KP5.out
      have tc1 : wr.cell? ⟨tb, 1, none⟩ = some vj := cell_blk haj.blk 1
      have CV := (show Calls Tryz.prog 106 #[.agg #[.int .i64 c.log, .slice ac c.layers.length cc], vi, vo, .agg #[.slice aP j cP], vj] wr.drew fun e w' => e = .returned (.tuple #[.bool (verB c inp out ps (drawnI c inp out ps)), .int .i64 0]) ∧ Below wr.drew.heap.size wr.drew w' from
        gkr_Verify _ c _ _ _ _ inp out ps (drawnI c inp out ps) wr.drew (HT.out.below (below_dw HBw.out)) ((HC.out.go HBw.out).dw) Hc0.out ((Hi.out.go HBw.out).dw) ((Ho.out.go HBw.out).dw) (Hp.out.go (below_dw HBw.out)) HD.out.dw HDc.out Hil.out Hol.out HS.out (drawnI_length _ _ HS.out))
      obtain ⟨BB, hBB⟩ : ∃ BB, BB = verB c inp out ps (drawnI c inp out ps) := ⟨_, rfl⟩
      rw [← hBB] at CV
      have HBB := Lib.hid hBB
      have HTlt := Lib.hid haj.lt.1
      have HCV := Lib.hid CV
      clear haj hdc hBB CV
      go_wp2_with (fail)
      have K9 := Lib.hid (show ∀ X, Below wr.heap.size wr X → Below wr.heap.size wr X ∧ X.cell? ⟨cb, 0, none⟩ = some (.int .i64 c.log) ∧ X.cell? ⟨cb, 1, none⟩ = some (.slice ac c.layers.length cc) ∧ X.cell? ⟨cb + 1, 0, none⟩ = some (.slice aP j cP) ∧ X.cell? ⟨tb, 1, none⟩ = some vj from fun X hz =>
        ⟨hz, (hz.cell (p := ⟨cb, 0, none⟩) HXr.out.lt).trans q0, (hz.cell (p := ⟨cb, 1, none⟩) HXr.out.lt).trans q1, (hz.cell (p := ⟨cb + 1, 0, none⟩) (Nat.lt_of_lt_of_le LP5.out HBj.out.size)).trans kpr, (hz.cell (p := ⟨tb, 1, none⟩) HTlt.out).trans tc1⟩)
      go_region_held3 (fun w' => Below wr.heap.size wr w' ∧ w'.cell? ⟨cb, 0, none⟩ = some (.int .i64 c.log) ∧ w'.cell? ⟨cb, 1, none⟩ = some (.slice ac c.layers.length cc) ∧ w'.cell? ⟨cb + 1, 0, none⟩ = some (.slice aP j cP) ∧ w'.cell? ⟨tb, 1, none⟩ = some vj)
        (first
          | (refine K9.out _ ?_; (repeat (first | assumption | (with_reducible exact Below.refl _ _) | (with_reducible refine below_dw ?_) | (with_reducible refine below_al' ?_) | (with_reducible refine below_two ?_ (by assumption))))))
        (first
          | (go_at_call 106; (refine HCV.out.mono ?_); rintro e w9 ⟨rfl, hb9⟩))
      have H9 := Lib.hid (below_two (below_dw HBw.out) hb9)
      clear hb9
      go_wp2
      go_ret2
      exact ⟨ret_b2 HBB.out, H9.out⟩
end Go.Proofs.YtlfneeobnihocaaGreatDoor

/- What the verifiers and the root of a tree answer of what isn't as it must be. No condition. -/
namespace Go.Proofs.YtlfneeobnihocaaGreatDoor
set_option maxRecDepth 100000
set_option linter.unusedVariables false
open Go.RowKit Tally
theorem verE_zero {c : Ci} {inp out : List Int} {ps : List Pi} {d : List Int} (hd : d.length = drawsN c) (h : ¬ (inp.length = 2 ^ c.log.toNat ∧ out.length = 2 ^ (belowLog c c.layers.length).toNat ∧ ShapedI c ps)) : verE c inp out ps d = 4 := by
  by_cases h1 : inp.length = 2 ^ c.log.toNat ∧ out.length = 2 ^ (belowLog c c.layers.length).toNat
  · exact verE_form h1.1 h1.2 fun e => h ⟨h1.1, h1.2, e⟩
  · exact verE_size h1
set_option maxRecDepth 100000 in
set_option maxHeartbeats 4000000 in
theorem gkr_Verify_bad (v : Value) (c : Ci) (vi vo vp vd : Value) (inp out : List Int) (ps : List Pi) (d : List Int) (w : World) (h : IsC w v c) (hc0 : checkC c = 0) (hne : (verE c inp out ps d != 0) = true) (hi : RowU w vi inp) (ho : RowU w vo out) (hp : IsP w vp ps) (hd : RowU w vd d) :
    Calls Tryz.prog 106 #[v, vi, vo, vp, vd] w fun e w' => e = .returned (.tuple #[.bool false, .int .i64 (verE c inp out ps d)]) ∧ Below w.heap.size w w' := by
  have HC := Lib.hid h; have HP := Lib.hid hp; have HN := Lib.hid hne
  have Hc0 := Lib.hid hc0; have Hi := Lib.hid hi; have Ho := Lib.hid ho; have Hd := Lib.hid hd
  obtain ⟨ac, cc, rfl⟩ := h.shape
  obtain ⟨vs, rfl, hps⟩ := hp
  obtain ⟨_, aP, cP, rfl, -⟩ := hps
  obtain ⟨E, hE⟩ : ∃ E, E = verE c inp out ps d := ⟨_, rfl⟩
  rw [← hE] at hne ⊢
  have HE := Lib.hid hE
  clear h hE hi ho hd hc0
  go_enter Tryz.func106, Tryz.ntmps106
  go_wp2_with (fail)
  obtain ⟨W, tb, hW, htb, hb1, hb2, s1, B1⟩ := two_blocks' w #[.int .i64 c.log, .slice ac c.layers.length cc] #[.slice aP ps.length cP] 62 93
  rw [hW]
  have H1 := Lib.hid B1
  clear hW htb hb1 hb2 s1 B1
  refine (gkr_form _ c _ _ _ _ inp out ps d _ (HC.out.go H1.out) Hc0.out (Hi.out.go H1.out) (Ho.out.go H1.out) (HP.out.go H1.out) (Hd.out.go H1.out)).mono ?_
  rintro e w2 ⟨rfl, bw2⟩
  rw [← HE.out]
  have H2 := Lib.hid (below_two H1.out bw2)
  clear bw2
  go_wp2
  go_ret2
  exact ⟨rfl, H2.out⟩
set_option maxRecDepth 100000 in
set_option maxHeartbeats 8000000 in
theorem fiat_Verify_bad (v : Value) (c : Ci) (vi vo vp : Value) (inp out : List Int) (ps : List Pi) (w : World) (h : IsC w v c) (hc0 : checkC c = 0) (hi : RowU w vi inp) (ho : RowU w vo out) (hp : IsP w vp ps)
    (hbad : ¬ (inp.length = 2 ^ c.log.toNat ∧ out.length = 2 ^ (belowLog c c.layers.length).toNat ∧ ShapedI c ps)) :
    Calls Tryz.prog 66 #[v, vi, vo, vp] w fun e w' => e = .returned (.tuple #[.bool false, .int .i64 4]) ∧ Below w.heap.size w w' := by
  have HC := Lib.hid h; have HG := Lib.hid (good_of_check hc0); have Hp := Lib.hid hp; have Hc0 := Lib.hid hc0; have Hi := Lib.hid hi; have Ho := Lib.hid ho
  have HB := Lib.hid hbad
  have hDN := drawsN_le HG.out
  obtain ⟨ac, cc, rfl⟩ := h.shape
  obtain ⟨vs, rfl, hps⟩ := hp
  obtain ⟨_, aP, cP, rfl, -⟩ := hps
  obtain ⟨nP, hnP⟩ : ∃ nP, nP = ps.length := ⟨_, rfl⟩
  rw [← hnP] at Hp ⊢
  clear h hc0 hi ho hbad hnP
  go_enter Tryz.func66, Tryz.ntmps66
  go_wp2_with (fail)
  obtain ⟨W2, cb, hW, hcb, hb1, hb2, s1, B1⟩ := two_blocks' w #[.int .i64 c.log, .slice ac c.layers.length cc] #[.slice aP nP cP] 62 93
  rw [hW, ← hcb]
  have H2 := Lib.hid B1
  have HX2 := Lib.hid (show Boxed cb (.int .i64 c.log) (.slice ac c.layers.length cc) W2 from ⟨cell_blk hb1 0, cell_blk hb1 1, blk_lt hb1⟩)
  have KP2 := Lib.hid (show W2.cell? ⟨cb + 1, 0, none⟩ = some (.slice aP nP cP) from cell_blk hb2 0)
  have lp2 : cb + 1 < W2.heap.size := blk_lt hb2
  clear hW hb1 hb2 s1 B1 hcb
  refine (gkr_Draws _ c _ (HC.out.go H2.out) Hc0.out).mono ?_
  rintro e w3 ⟨rfl, hb3⟩
  obtain ⟨DN, hDN'⟩ : ∃ DN, DN = drawsN c := ⟨_, rfl⟩
  rw [← hDN'] at hDN ⊢
  have HDN := Lib.hid hDN'
  have H3 := Lib.hid (below_two H2.out hb3)
  have HX3 := Lib.hid (HX2.out.go hb3)
  have r0 := HX3.out.c0; have r1 := HX3.out.c1
  have kp3 := (hb3.cell (p := ⟨cb + 1, 0, none⟩) lp2).trans KP2.out
  have lp3 : cb + 1 < w3.heap.size := Nat.lt_of_lt_of_le lp2 hb3.size
  clear hb3 hDN'
  have HV := Lib.hid (verE_zero (inp := inp) (out := out) (ps := ps) (show (List.replicate DN (0 : Int)).length = drawsN c by rw [List.length_replicate, HDN.out]) HB.out)
  have CV := Lib.hid (fun W (hB : Below w3.heap.size w3 W) n (hn : n = DN) g (hg : RowU W (.slice (some ⟨g, 0, none⟩) n n) (List.replicate DN 0)) => show Calls Tryz.prog 106 #[.agg #[.int .i64 c.log, .slice ac c.layers.length cc], vi, vo, .agg #[.slice aP nP cP], .slice (some ⟨g, 0, none⟩) n n] W fun e w' => e = .returned (.tuple #[.bool false, .int .i64 4]) ∧ Below W.heap.size W w' from by
    have := gkr_Verify_bad _ c _ _ _ _ inp out ps (List.replicate DN 0) W (HC.out.go (below_two H3.out hB)) Hc0.out (by rw [HV.out]; rfl) (Hi.out.go (below_two H3.out hB)) (Ho.out.go (below_two H3.out hB)) (Hp.out.go (below_two H3.out hB)) hg
    rwa [HV.out] at this)
  have K3 := Lib.hid (show ∀ X, Below w3.heap.size w3 X → Below w3.heap.size w3 X ∧ X.cell? ⟨cb, 0, none⟩ = some (.int .i64 c.log) ∧ X.cell? ⟨cb, 1, none⟩ = some (.slice ac c.layers.length cc) ∧ X.cell? ⟨cb + 1, 0, none⟩ = some (.slice aP nP cP) from fun X hz =>
    ⟨hz, (HX3.out.go hz).c0, (HX3.out.go hz).c1, (hz.cell (p := ⟨cb + 1, 0, none⟩) lp3).trans kp3⟩)
  have hmk : ∀ w : World, (Instr.makeSlice 53 (.int .i64 (DN : Int)) (.int .i64 (DN : Int))).run Tryz.prog w = .ok (.slice (some ⟨w.heap.size, 0, none⟩) DN DN) (w.alloc (.cells (madeCells #[.int .u64 0] DN) 57)) := fun w =>
    run_make_row' 53 57 (.int .u64 0) 8 Tryz.underlying53 Tryz.infoU rfl .i64 .i64 DN (by omega) (by omega) w
  go_wp2_with (fail)
  go_region_held3 (fun w' => Below w3.heap.size w3 w' ∧ w'.cell? ⟨cb, 0, none⟩ = some (.int .i64 c.log) ∧ w'.cell? ⟨cb, 1, none⟩ = some (.slice ac c.layers.length cc) ∧ w'.cell? ⟨cb + 1, 0, none⟩ = some (.slice aP nP cP))
    (first
      | (refine K3.out _ ?_; (repeat (first | assumption | (with_reducible exact Below.refl _ _) | (with_reducible refine below_dw ?_) | (with_reducible refine below_al' ?_) | (with_reducible refine below_two ?_ (by assumption))))))
    (first
      | (go_at_call 106; (refine (CV.out _ (by (repeat (first | assumption | (with_reducible exact Below.refl _ _) | (with_reducible refine below_dw ?_) | (with_reducible refine below_al' ?_) | (with_reducible refine below_two ?_ (by assumption))))) _ rfl _ (by (first | exact row_made _ _ _ (by simp) (by omega)))).mono ?_); rintro e wv ⟨rfl, hbv⟩))
  have H4 := Lib.hid (show Below w3.heap.size w3 wv by (repeat (first | assumption | (with_reducible exact Below.refl _ _) | (with_reducible refine below_dw ?_) | (with_reducible refine below_al' ?_) | (with_reducible refine below_two ?_ (by assumption)))))
  have H5 := Lib.hid (below_two H3.out H4.out)
  clear hbv hmk kp3 lp3 CV K3
  go_wp2
  go_ret2
  exact ⟨rfl, H5.out⟩
set_option maxHeartbeats 1000000 in
theorem tree_Root_no (t : List Int) (v : Value) (w : World) (hT : Tab w) (hp : RowU w v t) (hn : NoTab t.length) :
    Calls Tryz.prog 69 #[v] w fun e w' => e = .returned (.tuple #[.int .u64 0, .int .i64 4]) ∧ w = w' := by
  have HT := Lib.hid hT
  have Hp := Lib.hid hp
  have Hn := Lib.hid hn
  clear hT hp hn
  go_enter Tryz.func69, Tryz.ntmps69
  go_wp2_with (fail)
  refine (mle_Vars_no _ _ _ HT.out Hp.out Hn.out).mono ?_
  rintro e w' ⟨rfl, rfl⟩
  go_wp2
  go_ret2
  exact ⟨rfl, rfl⟩
end Go.Proofs.YtlfneeobnihocaaGreatDoor
