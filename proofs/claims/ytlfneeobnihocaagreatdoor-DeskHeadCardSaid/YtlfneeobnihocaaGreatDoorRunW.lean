/- The walk of circuit.Run: the values of all layers, in new memory; or the error. The circuit is a value that reads as data, the inputs are a slice of 64-bit numbers. -/
import Derived.Test.YtlfneeobnihocaaGreatDoorRCircW
import Derived.Test.YtlfneeobnihocaaGreatDoorFar
import Derived.Deep.RegionHeld3
namespace Go.Proofs.YtlfneeobnihocaaGreatDoor
set_option maxRecDepth 100000
set_option linter.unusedVariables false
open Go.RowKit Tally
/-- the values of the inputs and of the first layers -/
def valsI (c : Ci) (I : List F) (k : Nat) : List (List Int) := (List.range (k + 1)).map fun j => (valF c I j).map psi
theorem valsI_succ (c : Ci) (I : List F) (k : Nat) : valsI c I (k + 1) = valsI c I k ++ [(valF c I (k + 1)).map psi] := by
  unfold valsI; rw [List.range_succ, List.map_append]; rfl
theorem valsI_length (c : Ci) (I : List F) (k : Nat) : (valsI c I k).length = k + 1 := by simp [valsI]
theorem valsI_at (c : Ci) (I : List F) (k j : Nat) (h : j ≤ k) : atl (valsI c I k) j = (valF c I j).map psi := by
  simp [atl, valsI, show j < k + 1 by omega]
theorem at0_psi (l : List F) (k : Nat) (h : k < l.length) : phi (at0 (l.map psi) k) = atF l k := by
  simp [at0, atF, h, phi_psi]
theorem norm_snoc (inp : List Int) (k : Nat) (h : k < inp.length) : ((inp.map phi).take (k + 1)).map psi = ((inp.map phi).take k).map psi ++ [psi (phi (at0 inp k))] := by
  rw [List.take_succ_eq_append_getElem (by simpa using h)]; simp [at0, h]
theorem lay_snoc (V : List F) (gs : List Gt) (j : Nat) (h : j < gs.length) : ((layF V gs).take (j + 1)).map psi = ((layF V gs).take j).map psi ++ [psi (gateF V (atg gs j))] := by
  rw [List.take_succ_eq_append_getElem (by rw [layF_length]; exact h), List.map_append]; simp [layF, atg, h]
/-- append of one number, at a step of a region that draws its order; cells of other blocks than the row's stay -/
theorem step_appUk {ops : Array Oper} {o : Oper} {a : Act} {K : Act → World → Prop} {Q : Exit → Act → World → Prop} {E : Prop} {w0 : World} (hgd : o.guard = none) (s x : Operand)
    (ho : o.op = .call { callee := .builtin .append, args := #[s, x], argTypes := #[53, 53] })
    (B : Nat) (v : Value) (l : List Int) (hs : a.eval s = v) (hown : NewU B w0 v l) (y : Int) (hx : a.eval x = .slice (some ⟨w0.heap.size, 0, none⟩) 1 1) (hy : U64 y)
    (hlen : l.length + 1 ≤ 17592186043904) (hB : B ≤ w0.heap.size)
    (h : ∀ v' w', NewU B w' v' (l ++ [y]) → Below B w0 w' → (∀ p u, w0.cell? p = some u → (∀ g, v.ownBlock = some g → p.block ≠ g) → w'.cell? p = some u) → K (a.put o.dst v') w') :
    if Region.wanted o (yielded ops a.tmps) = true then Oper.wp Tryz.prog o a (w0.alloc (.cells #[.int .u64 y] 57)) K Q else E := by
  obtain ⟨i0, hi1, hz0, hz1, hz2⟩ := info_parts Tryz.infoU
  have hlt := hown.2.2.lt
  refine step_append_lies _ hgd s x _ ho B 57 i0 (.int .u64 0) 1 8 Tryz.underlying53 hi1 hz0 hz1 hz2 rfl (by decide) v l.length _ hs (hown.2.2.alloc _) ⟨w0.heap.size, 0, none⟩ 1 1 [.int .u64 y] hx rfl
    (World.news_of_block (cs := #[.int .u64 y]) (t := 57) (fr := (0, 0)) (alloc_blk w0 _)) (by simp [Value.oneCell']) (by decide) (by unfold maxLen; omega) (by omega) (by simp; omega) (w0.heap.size + 1) (by simp) ?_
  intro g cap w' h1 h2 _ _
  refine h _ w' ⟨?_, by simp; omega, by simpa using h1⟩ (((Below.refl B w0).alloc hB _).grown h2 (by simp; omega) fun k hk => (hlt k hk).1) ?_
  · intro z hz
    rcases List.mem_append.mp hz with hz | hz
    · exact hown.1 z hz
    · rw [List.mem_singleton.mp hz]; exact hy
  · intro p u hp hne
    have hl := block_lt_of_cell hp
    have h3 : (w0.alloc (.cells #[.int .u64 y] 57)).cell? p = some u := by
      rw [((Below.refl w0.heap.size w0).alloc (Nat.le_refl _) _).cell hl]; exact hp
    rw [World.cell?_of_block (w := w0.alloc (.cells #[.int .u64 y] 57)) (h2.block p.block (by simp; omega) (fun e => hne _ e.symm rfl))]
    exact h3
set_option maxRecDepth 100000 in
set_option maxHeartbeats 8000000 in
theorem c_Run (v : Value) (c : Ci) (vi : Value) (inp : List Int) (w : World) (h : IsC w v c) (hp : RowU w vi inp) (hG : Good c) (hc0 : checkC c = 0) (hl : inp.length = 2 ^ c.log.toNat) :
    Calls Tryz.prog 98 #[v, vi] w fun e w' => ∃ v', e = .returned (.tuple #[v', .int .i64 0]) ∧ NewUU w.heap.size w' v' (valsI c (inp.map phi) c.layers.length) ∧ Below w.heap.size w w' := by
  have HC0 := Lib.hid h
  obtain ⟨hlog, u, rfl, hL⟩ := h
  obtain ⟨hls, hll, a, cap, rfl, hr⟩ := hL
  have Hp := Lib.hid hp
  have Hc := Lib.hid hc0
  have HG := Lib.hid hG
  obtain ⟨hpl1, hpl2, ai, ci, rfl, hpr⟩ := hp
  have Hpr := Lib.hid hpr
  have Hr := Lib.hid hr
  have hat := Lib.hid (fun j => @RowU.at _ _ _ Hp.out j)
  have h0 := hG.log0
  have h4 := hG.log4
  have hln := hG.n4
  have hl16 : inp.length ≤ 16 := by rw [hl]; exact (pow4 h4).2
  have Hl := Lib.hid hl
  have hw := wrap4 h4
  rw [← hl] at hw
  obtain ⟨P, hP⟩ : ∃ P, wrap64 (2 ^ c.log.toNat) = P := ⟨_, rfl⟩
  have hbn : ((inp.length : Int) != P) = false := by rw [← hP, hw]; simp
  obtain ⟨I, hI⟩ : ∃ I, I = inp.map phi := ⟨_, rfl⟩
  rw [← hI]
  have HI := Lib.hid hI
  have Hlen := Lib.hid (fun k hk => valF_length hG I (by rw [hI, List.length_map]; exact hl) k hk)
  clear hr hls hpr hpl1 hc0 hG hl hw hI
  go_enter Tryz.func98, Tryz.ntmps98
  go_wp2_with (fail)
  obtain ⟨W1, hW, k0, k1, B1, s1⟩ := copied2' w (.int .i64 c.log) (.slice a c.layers.length cap) 62
  rw [hW]
  have L1 : w.heap.size < W1.heap.size := by omega
  have H1 := Lib.hid B1
  clear hW s1 B1
  refine (c_Check _ c _ (HC0.out.below H1.out (Nat.le_refl _))).mono ?_
  rintro e w2 ⟨rfl, hb2⟩
  rw [Hc.out]
  have H2 := Lib.hid (below_two H1.out hb2)
  have r0 := (hb2.cell (p := ⟨w.heap.size, 0, none⟩) L1).trans k0
  have r1 := (hb2.cell (p := ⟨w.heap.size, 1, none⟩) L1).trans k1
  have L2 : w.heap.size < w2.heap.size := by have := hb2.size; omega
  clear k0 k1 hb2 L1
  go_wp2
  rw [hP]
  go_loopw [7, 29] (fun o i wr => ∃ k : Nat, k ≤ inp.length ∧ i = .int .i64 (k : Int) ∧ Hid (NewU w2.heap.size wr o ((I.take k).map psi)) ∧ Below w2.heap.size w2 wr) (fun _ i _ => inp.length - (intOf i).toNat)
  case atStart => exact ⟨0, by omega, rfl, NewU.nil _ _, Below.refl _ _⟩
  case round =>
    obtain ⟨k, hk, rfl, HO, hb⟩ := hrel
    by_cases hz : k < inp.length
    · obtain ⟨b, off, rfl, hblt, hcell⟩ := Hpr.out (by omega)
      have hc := (hb.cell (p := ⟨b, off + k, none⟩) (by have := H2.out.size; exact Nat.lt_of_lt_of_le hblt this)).trans ((H2.out.cell (p := ⟨b, off + k, none⟩) hblt).trans (hcell k hz))
      have hu := hat.out k hz
      have Hs := Lib.hid (show ((I.take (k + 1)).map psi) = (I.take k).map psi ++ [psi (phi (at0 inp k))] by rw [HI.out]; exact norm_snoc inp k hz)
      have hl2 : ((I.take k).map psi).length + 1 ≤ 17592186043904 := by simp; omega
      have hsz := hb.size
      clear hcell r0 r1
      go_wp2_with (first | (go_at_call 64; (with_reducible refine (field_Norm _ _ (by first | assumption | exact U64.psi _ | exact U64.zero | exact U64.one | exact U64.mk (by decide) (by decide))).mono ?_); rintro e w' ⟨rfl, rfl⟩) | (at_builtin; refine wpList_appU rfl _ _ rfl w2.heap.size _ _ rfl HO.out _ rfl (U64.psi _) hl2 hsz ?_; intro v3 w3 hn3 hb3; have Hn3 := Lib.hid hn3; clear hn3))
      go_roundw
      case rel => exact ⟨k + 1, by omega, by go_num, by rw [Hs.out]; exact Hn3.out, hb.trans hb3⟩
      case measure => simp [intOf]; omega
    · obtain rfl : k = inp.length := by omega
      have HV := Lib.hid (show NewU w2.heap.size wr u7 ((valF c I 0).map psi) by
        have := HO.out; rw [List.take_of_length_le (by rw [HI.out, List.length_map]; exact Nat.le_refl _)] at this; exact this)
      obtain ⟨ao, co, rfl⟩ := HV.out.isSlice
      have q0 := (hb.cell (p := ⟨w.heap.size, 0, none⟩) L2).trans r0
      have q1 := (hb.cell (p := ⟨w.heap.size, 1, none⟩) L2).trans r1
      have Hb := Lib.hid hb
      have hVl := Hlen.out 0 (by omega)
      have hVl2 : ((valF c I 0).map psi).length ≤ 16 := by rw [List.length_map, hVl]; exact (pow4 h4).2
      have HVl := Lib.hid hVl
      obtain ⟨LV, hLV⟩ : ∃ L, L = (valF c I 0).map psi := ⟨_, rfl⟩
      rw [← hLV] at HV hVl2 ⊢
      have HLV := Lib.hid hLV
      clear r0 r1 hb hVl hLV
      obtain ⟨wu, rfl⟩ : ∃ x : World, x = wr := ⟨_, rfl⟩
      have q2 : (wu.alloc (.cells #[.slice ao LV.length co] 53)).cell? ⟨w.heap.size, 1, none⟩ = some (.slice a c.layers.length cap) := (((Below.refl _ _).alloc (Nat.le_refl _) _ : Below wu.heap.size wu _).cell (p := ⟨w.heap.size, 1, none⟩) (by have := Hb.out.size; exact Nat.lt_of_lt_of_le L2 this)).trans q1
      clear q0 q1
      go_wp2
      clear q2
      go_loopw [7, 10, 44] (fun now out i wq => ∃ k : Nat, k ≤ c.layers.length ∧ i = .int .i64 (k : Int) ∧ Hid (NewU w2.heap.size wq now ((valF c I k).map psi)) ∧ Hid (NewUU w2.heap.size wq out (valsI c I k)) ∧ Hid (Below w2.heap.size w2 wq)) (fun _ _ i _ => c.layers.length - (intOf i).toNat)
      case atStart => exact ⟨0, by omega, rfl, by rw [← HLV.out]; exact HV.out.below ((Below.refl _ _).alloc (Nat.le_refl _) _) (Nat.le_refl _), by rw [show valsI c I 0 = [LV] by rw [HLV.out]; rfl]; exact NewUU.lit1 _ _ _ _ HV.out Hb.out.size, Hb.out.trans (((Below.refl _ _).alloc (Nat.le_refl _) _).mono Hb.out.size)⟩
      case round =>
        obtain ⟨k, hk, rfl, HN, HOut, HB⟩ := hrel
        by_cases hz : k < c.layers.length
        · obtain ⟨b, off, rfl, hblt, hcell⟩ := Hr.out (by omega)
          obtain ⟨c1, u, c2, hg⟩ := hcell k hz
          have hbw := below_two H2.out HB.out
          have d1 := (hbw.cell (p := ⟨b, off + k * 2, none⟩) (by exact hblt)).trans c1
          have d2 := (hbw.cell (p := ⟨b, off + k * 2 + 1, none⟩) (by exact hblt)).trans c2
          obtain ⟨hgi, hgl, ag, cg, rfl, hgr⟩ := hg.below hbw (Nat.le_refl _)
          have Hg := Lib.hid hgr
          have Hok := Lib.hid (HG.out.gate k hz)
          have Hvk := Lib.hid (Hlen.out k (by omega))
          have Hvs := Lib.hid (show valF c I (k + 1) = layF (valF c I k) (aty c.layers k).gates from rfl)
          have hgl16 : (aty c.layers k).gates.length ≤ 16 := by rw [HG.out.len k hz]; exact (pow4 (HG.out.l4 k hz)).2
          have hN16 := pow4 (HG.out.below4 (k := k) (by omega))
          obtain ⟨gn, cn, rfl, hgn1, hgn2, hncell, _⟩ := HN.out.shape (by rw [List.length_map, Hvk.out]; omega)
          have Hnc := Lib.hid hncell
          have Hap := Lib.hid (at0_psi (valF c I k))
          obtain ⟨V, hV⟩ : ∃ V, V = valF c I k := ⟨_, rfl⟩
          rw [← hV] at HN Hvk Hvs Hap Hnc ⊢
          have HVk := Lib.hid hV
          have HNl := Lib.hid (show (V.map psi).length = 2 ^ (belowLog c k).toNat by rw [List.length_map]; exact Hvk.out)
          have HU0 := Lib.hid HN.out.1
          obtain ⟨LN, hLN⟩ : ∃ L, L = V.map psi := ⟨_, rfl⟩
          rw [← hLN] at HN HNl HU0 Hap Hnc ⊢
          have HLN := Lib.hid hLN
          have Hbw := Lib.hid hbw
          clear hcell c1 c2 hg hgr hgi hV hncell hLN hbw hgl
          generalize (aty c.layers k).gates = gs at *
          generalize 2 ^ (belowLog c k).toNat = N at *
          obtain ⟨hN1, hN2⟩ := hN16
          go_wp2
          obtain ⟨wo, rfl⟩ : ∃ x : World, x = wr := ⟨_, rfl⟩
          obtain ⟨W, hW, _, _, hWr, hWs⟩ := copied2' wo (.int .i64 (aty c.layers k).log) (.slice ag gs.length cg) 124
          rw [hW]
          have HWr := Lib.hid hWr
          have hgnW : gn < W.heap.size := by omega
          clear hW hWs hWr d1 d2
          go_loopw [13, 51] (fun nx i wi => ∃ j : Nat, j ≤ gs.length ∧ i = .int .i64 (j : Int) ∧ Hid (NewU W.heap.size wi nx (((layF V gs).take j).map psi)) ∧ Below W.heap.size W wi) (fun _ i _ => gs.length - (intOf i).toNat)
          case atStart => exact ⟨0, by omega, rfl, NewU.nil _ _, Below.refl _ _⟩
          case round =>
            obtain ⟨j, hj, rfl, HX, hbi⟩ := hrel
            by_cases hjz : j < gs.length
            · obtain ⟨b2, off2, rfl, hb2lt, hgc⟩ := Hg.out (by omega)
              obtain ⟨e1, e2, e3⟩ := hgc j hjz
              have hbo : Below wo.heap.size wo wr := below_two HWr.out hbi
              have f1 := (hbo.cell (p := ⟨b2, off2 + j * 3, none⟩) (by exact hb2lt)).trans e1
              have f2 := (hbo.cell (p := ⟨b2, off2 + j * 3 + 1, none⟩) (by exact hb2lt)).trans e2
              have f3 := (hbo.cell (p := ⟨b2, off2 + j * 3 + 2, none⟩) (by exact hb2lt)).trans e3
              have hok := gateOk_bd (Hok.out j hjz)
              have Hs := Lib.hid (lay_snoc V gs j hjz)
              have hjl : (j : Int) < (gs.length : Int) := by omega
              have hbsz := hbi.size
              have hcap : (((layF V gs).take j).map psi).length + 1 ≤ 17592186043904 := by simp; omega
              clear hgc e1 e2 e3
              generalize atg gs j = g at *
              obtain ⟨gm, ga, gb⟩ := g
              obtain ⟨ga0, ga1, gb0, gb1⟩ := hok
              simp only at f1 f2 f3 ga0 ga1 gb0 gb1
              obtain ⟨A, rfl⟩ : ∃ A : Nat, ga = (A : Int) := ⟨ga.toNat, by omega⟩
              obtain ⟨B, rfl⟩ : ∃ B : Nat, gb = (B : Int) := ⟨gb.toNat, by omega⟩
              have hA : A < LN.length := by rw [HNl.out]; omega
              have hB : B < LN.length := by rw [HNl.out]; omega
              have cA := (hbo.cell (p := ⟨gn, A, none⟩) hgn2).trans (Hnc.out A hA)
              have cB := (hbo.cell (p := ⟨gn, B, none⟩) hgn2).trans (Hnc.out B hB)
              have uA := HU0.out _ (at0_mem hA)
              have uB := HU0.out _ (at0_mem hB)
              have hpa := Lib.hid (Hap.out A (by rw [Hvk.out]; omega))
              have hpb := Lib.hid (Hap.out B (by rw [Hvk.out]; omega))
              have hAi : (A : Int) < (LN.length : Int) := by omega
              have hBi : (B : Int) < (LN.length : Int) := by omega
              have hA0 : (0 : Int) ≤ (A : Int) := by omega
              have hB0 : (0 : Int) ≤ (B : Int) := by omega
              have hgr : gn < wr.heap.size := by omega
              have HcA := Lib.hid cA
              have HcB := Lib.hid cB
              clear ga0 ga1 gb0 gb1 hbo cA cB
              cases gm
              case false =>
                go_wp2_with (fail)
                obtain ⟨wv, rfl⟩ : ∃ x : World, x = wr := ⟨_, rfl⟩
                obtain ⟨X, hX, _, t1, t2, hXb, hXs⟩ := copied3' wv (.bool false) (.int .i64 A) (.int .i64 B) 126
                rw [hX]
                have cA := (hXb.cell (p := ⟨gn, A, none⟩) hgr).trans HcA.out
                have cB := (hXb.cell (p := ⟨gn, B, none⟩) hgr).trans HcB.out
                have HXX := Lib.hid (HX.out.below hXb (Nat.le_refl _))
                have hXsz : W.heap.size ≤ X.heap.size := by omega
                have HbX := Lib.hid (below_two hbi hXb)
                have hvX : wv.heap.size < X.heap.size := by omega
                have hgX : gn < X.heap.size := by omega
                have hfarV : ∀ g, u13.ownBlock = some g → wv.heap.size ≠ g := fun g hg => by have := (HX.out.lt hg).2; omega
                have hfarN : ∀ g, u13.ownBlock = some g → gn ≠ g := fun g hg => by have := (HX.out.lt hg).1; omega
                clear hX hXs hXb f1 f2 f3
                go_region_held3 (fun w' => w'.cell? ⟨wv.heap.size, 1, none⟩ = some (.int .i64 A) ∧ w'.cell? ⟨wv.heap.size, 2, none⟩ = some (.int .i64 B) ∧ w'.cell? ⟨gn, A, none⟩ = some (.int .u64 (at0 LN A)) ∧ w'.cell? ⟨gn, B, none⟩ = some (.int .u64 (at0 LN B)))
                  (first
                    | go_keep
                    | exact ⟨(hb3.cell (p := ⟨wv.heap.size, 1, none⟩) hvX).trans t1, (hb3.cell (p := ⟨wv.heap.size, 2, none⟩) hvX).trans t2, (hb3.cell (p := ⟨gn, A, none⟩) hgX).trans cA, (hb3.cell (p := ⟨gn, B, none⟩) hgX).trans cB⟩
                    | exact ⟨hk4 _ _ ((hb3.cell (p := ⟨wv.heap.size, 1, none⟩) hvX).trans t1) hfarV, hk4 _ _ ((hb3.cell (p := ⟨wv.heap.size, 2, none⟩) hvX).trans t2) hfarV, hk4 _ _ ((hb3.cell (p := ⟨gn, A, none⟩) hgX).trans cA) hfarN, hk4 _ _ ((hb3.cell (p := ⟨gn, B, none⟩) hgX).trans cB) hfarN⟩)
                  (first
                    | (go_at_call 108; (with_reducible refine (field_Add _ _ _ uA uB).mono ?_); rintro e w3 ⟨rfl, hw3⟩; have hb3 : Below X.heap.size X w3 := hw3 ▸ below_drewN (Below.refl X.heap.size X) 1; clear hw3; have HN3 := Lib.hid (HXX.out.below hb3 (Nat.le_refl _)); have hsz3 : W.heap.size ≤ w3.heap.size := by have := hb3.size; omega)
                    | (refine step_appUk rfl _ _ (by rfl) W.heap.size _ _ (by rfl) HN3.out _ (by rfl) (U64.psi _) hcap hsz3 ?_; intro v4 w4 hn4 hb4 hk4; have Hn4 := Lib.hid hn4; clear hn4; have hb5 : Below W.heap.size W w4 := (below_two HbX.out hb3).trans hb4))
                clear cA cB t1 t2
                go_wp2
                go_roundw
                case rel => exact ⟨j + 1, by omega, by go_num, by rw [Hs.out]; simp only [gateF, Int.toNat_natCast]; rw [← hpa.out, ← hpb.out]; exact Hn4.out, hb5⟩
                case measure => simp [intOf]; omega
              case true =>
                go_wp2_with (fail)
                obtain ⟨wv, rfl⟩ : ∃ x : World, x = wr := ⟨_, rfl⟩
                obtain ⟨X, hX, _, t1, t2, hXb, hXs⟩ := copied3' wv (.bool true) (.int .i64 A) (.int .i64 B) 126
                rw [hX]
                have cA := (hXb.cell (p := ⟨gn, A, none⟩) hgr).trans HcA.out
                have cB := (hXb.cell (p := ⟨gn, B, none⟩) hgr).trans HcB.out
                have HXX := Lib.hid (HX.out.below hXb (Nat.le_refl _))
                have hXsz : W.heap.size ≤ X.heap.size := by omega
                have HbX := Lib.hid (below_two hbi hXb)
                have hvX : wv.heap.size < X.heap.size := by omega
                have hgX : gn < X.heap.size := by omega
                have hfarV : ∀ g, u13.ownBlock = some g → wv.heap.size ≠ g := fun g hg => by have := (HX.out.lt hg).2; omega
                have hfarN : ∀ g, u13.ownBlock = some g → gn ≠ g := fun g hg => by have := (HX.out.lt hg).1; omega
                clear hX hXs hXb f1 f2 f3
                go_region_held3 (fun w' => w'.cell? ⟨wv.heap.size, 1, none⟩ = some (.int .i64 A) ∧ w'.cell? ⟨wv.heap.size, 2, none⟩ = some (.int .i64 B) ∧ w'.cell? ⟨gn, A, none⟩ = some (.int .u64 (at0 LN A)) ∧ w'.cell? ⟨gn, B, none⟩ = some (.int .u64 (at0 LN B)))
                  (first
                    | go_keep
                    | exact ⟨(hb3.cell (p := ⟨wv.heap.size, 1, none⟩) hvX).trans t1, (hb3.cell (p := ⟨wv.heap.size, 2, none⟩) hvX).trans t2, (hb3.cell (p := ⟨gn, A, none⟩) hgX).trans cA, (hb3.cell (p := ⟨gn, B, none⟩) hgX).trans cB⟩
                    | exact ⟨hk4 _ _ ((hb3.cell (p := ⟨wv.heap.size, 1, none⟩) hvX).trans t1) hfarV, hk4 _ _ ((hb3.cell (p := ⟨wv.heap.size, 2, none⟩) hvX).trans t2) hfarV, hk4 _ _ ((hb3.cell (p := ⟨gn, A, none⟩) hgX).trans cA) hfarN, hk4 _ _ ((hb3.cell (p := ⟨gn, B, none⟩) hgX).trans cB) hfarN⟩)
                  (first
                    | (go_at_call 112; (with_reducible refine (field_Mul _ _ _ uA uB).mono ?_); rintro e w3 ⟨rfl, hw3⟩; have hb3 : Below X.heap.size X w3 := hw3 ▸ below_drewN (Below.refl X.heap.size X) 1; clear hw3; have HN3 := Lib.hid (HXX.out.below hb3 (Nat.le_refl _)); have hsz3 : W.heap.size ≤ w3.heap.size := by have := hb3.size; omega)
                    | (refine step_appUk rfl _ _ (by rfl) W.heap.size _ _ (by rfl) HN3.out _ (by rfl) (U64.psi _) hcap hsz3 ?_; intro v4 w4 hn4 hb4 hk4; have Hn4 := Lib.hid hn4; clear hn4; have hb5 : Below W.heap.size W w4 := (below_two HbX.out hb3).trans hb4))
                clear cA cB t1 t2
                go_wp2
                go_roundw
                case rel => exact ⟨j + 1, by omega, by go_num, by rw [Hs.out]; simp only [gateF, Int.toNat_natCast]; rw [← hpa.out, ← hpb.out]; exact Hn4.out, hb5⟩
                case measure => simp [intOf]; omega
            · obtain rfl : j = gs.length := by omega
              have HXl := Lib.hid (show NewU W.heap.size wr u13 ((valF c I (k + 1)).map psi) by
                have := HX.out; rw [List.take_of_length_le (by rw [layF_length]; exact Nat.le_refl _)] at this; rw [Hvs.out]; exact this)
              obtain ⟨an, cn', en⟩ := HXl.out.isSlice
              obtain ⟨ao2, co2, rfl⟩ := HOut.out.isSlice
              have hbo : Below wo.heap.size wo wr := below_two HWr.out hbi
              have HOi := Lib.hid (HOut.out.below hbo (Nat.le_refl _))
              have HNi := Lib.hid (HXl.out.mono (by have := HB.out.size; have := HWr.out.size; omega : w2.heap.size ≤ W.heap.size))
              have hlo := Lib.hid (show ∀ g, (Value.slice ao2 (valsI c I k).length co2).ownBlock = some g → u13.ownBlock ≠ some g from fun g h1 h2 => by
                have a1 := (HOut.out.lt h1).2
                have a2 := (HXl.out.lt h2).1
                have := HWr.out.size
                omega)
              have hcapo : (valsI c I k).length + 1 ≤ 5864062014634 := by rw [valsI_length]; omega
              have hszo : w2.heap.size ≤ wr.heap.size := by have := HB.out.size; have := hbo.size; omega
              have HBi := Lib.hid (below_two HB.out hbo)
              have hnl : ((valF c I (k + 1)).map psi).length ≤ 16 := by rw [List.length_map, Hvs.out, layF_length]; exact hgl16
              have Hsu := Lib.hid (valsI_succ c I k)
              generalize hLX : (valF c I (k + 1)).map psi = LX at *
              have HLX := Lib.hid hLX
              clear hLX
              subst en
              go_wp2_with (at_builtin; refine wpList_appUU rfl _ _ rfl w2.heap.size (.slice ao2 (valsI c I k).length co2) _ rfl HOi.out _ _ HNi.out hlo.out rfl hcapo hszo ?_; intro v5 w5 hn5 hu5 hb5; have Hn5 := Lib.hid hn5; have Hu5 := Lib.hid hu5; clear hn5 hu5)
              go_roundw
              case rel => exact ⟨k + 1, by omega, by go_num, by rw [HLX.out]; exact Hu5.out, by rw [Hsu.out]; exact Hn5.out, HBi.out.trans hb5⟩
              case measure => simp [intOf]; omega
        · obtain rfl : k = c.layers.length := by omega
          have HF := Lib.hid (show NewUU w.heap.size wr u10 (valsI c I c.layers.length) from HOut.out.mono H2.out.size)
          have HE := Lib.hid (below_two H2.out HB.out)
          go_wp2
          go_ret2
          exact ⟨_, rfl, HF.out, HE.out⟩
set_option maxRecDepth 100000 in
set_option maxHeartbeats 4000000 in
theorem c_Run_no (v : Value) (c : Ci) (vi : Value) (inp : List Int) (w : World) (h : IsC w v c) (hp : RowU w vi inp) (hne : (checkC c != 0) = true) :
    Calls Tryz.prog 98 #[v, vi] w fun e w' => e = .returned (.tuple #[.slice none 0 0, .int .i64 (checkC c)]) ∧ Below w.heap.size w w' := by
  obtain ⟨hlog, u, e0, hls, hll, a, cap, rfl, hr⟩ := h
  subst e0
  have HC0 := Lib.hid (show IsC w (.agg #[.int .i64 c.log, .slice a c.layers.length cap]) c from ⟨hlog, _, rfl, hls, hll, a, cap, rfl, hr⟩)
  obtain ⟨E, hE⟩ : ∃ E, E = checkC c := ⟨_, rfl⟩
  rw [← hE] at hne ⊢
  have HE := Lib.hid hE
  clear hr hls hp hE
  go_enter Tryz.func98, Tryz.ntmps98
  go_wp2_with (fail)
  obtain ⟨W1, hW, k0, k1, B1, s1⟩ := copied2' w (.int .i64 c.log) (.slice a c.layers.length cap) 62
  rw [hW]
  have H1 := Lib.hid B1
  clear hW s1 B1
  refine (c_Check _ c _ (HC0.out.below H1.out (Nat.le_refl _))).mono ?_
  rintro e w2 ⟨rfl, hb2⟩
  have H2 := Lib.hid (below_two H1.out hb2)
  clear k0 k1 hb2
  rw [← HE.out]
  go_wp2
  go_ret2
  exact ⟨rfl, H2.out⟩
set_option maxRecDepth 100000 in
set_option maxHeartbeats 4000000 in
theorem c_Run_form (v : Value) (c : Ci) (vi : Value) (inp : List Int) (w : World) (h : IsC w v c) (hp : RowU w vi inp) (hG : Good c) (hc0 : checkC c = 0) (hl : inp.length ≠ 2 ^ c.log.toNat) :
    Calls Tryz.prog 98 #[v, vi] w fun e w' => e = .returned (.tuple #[.slice none 0 0, .int .i64 4]) ∧ Below w.heap.size w w' := by
  have HC0 := Lib.hid h
  obtain ⟨hlog, u, rfl, hL⟩ := h
  obtain ⟨hls, hll, a, cap, rfl, hr⟩ := hL
  have Hc := Lib.hid hc0
  have hpl := hp.len
  obtain ⟨_, _, ai, ci, rfl, _⟩ := hp
  have h0 := hG.log0
  have h4 := hG.log4
  have hw := wrap4 h4
  obtain ⟨P, hP⟩ : ∃ P, wrap64 (2 ^ c.log.toNat) = P := ⟨_, rfl⟩
  have hbn : ((inp.length : Int) != P) = true := by rw [← hP, hw, bne_iff_ne]; exact fun e => hl (Int.ofNat_inj.mp e)
  clear hr hls hc0 hG hl hw
  go_enter Tryz.func98, Tryz.ntmps98
  go_wp2_with (fail)
  obtain ⟨W1, hW, k0, k1, B1, s1⟩ := copied2' w (.int .i64 c.log) (.slice a c.layers.length cap) 62
  rw [hW]
  have L1 : w.heap.size < W1.heap.size := by omega
  have H1 := Lib.hid B1
  clear hW s1 B1
  refine (c_Check _ c _ (HC0.out.below H1.out (Nat.le_refl _))).mono ?_
  rintro e w2 ⟨rfl, hb2⟩
  rw [Hc.out]
  have H2 := Lib.hid (below_two H1.out hb2)
  have r0 := (hb2.cell (p := ⟨w.heap.size, 0, none⟩) L1).trans k0
  have r1 := (hb2.cell (p := ⟨w.heap.size, 1, none⟩) L1).trans k1
  clear k0 k1 hb2 L1
  go_wp2
  go_ret2
  exact ⟨rfl, H2.out⟩
end Go.Proofs.YtlfneeobnihocaaGreatDoor
