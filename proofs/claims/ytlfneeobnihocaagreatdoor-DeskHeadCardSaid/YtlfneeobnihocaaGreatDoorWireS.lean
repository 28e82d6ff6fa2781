/- Several texts in one: WireW, WireS. What each says, and its conditions, stands at its head. -/
import Derived.Test.YtlfneeobnihocaaGreatDoorRCircW
import Derived.Test.YtlfneeobnihocaaGreatDoorFar
import Derived.Test.YtlfneeobnihocaaGreatDoorEq
/- The walks of package wiring: check, value, Value and Step; of the reference's Wired and Step. The circuit is a value that reads as data, the points are slices of 64-bit numbers. -/
namespace Go.Proofs.YtlfneeobnihocaaGreatDoor
set_option maxRecDepth 100000
set_option linter.unusedVariables false
open Go.RowKit Tally
/-- what check tells -/
def wcheckC (c : Ci) (i : Int) (nz nx ny : Nat) : Int := if checkC c = 0 then (if (0 ≤ i ∧ i < c.layers.length) ∧ ((nz : Int) = (aty c.layers i.toNat).log ∧ (nx : Int) = belowLog c i.toNat ∧ (ny : Int) = belowLog c i.toNat) then 0 else 1) else checkC c
theorem wcheck_arg {c : Ci} {i : Int} {nz nx ny : Nat} (h : checkC c = 0) (h2 : ¬ ((0 ≤ i ∧ i < c.layers.length) ∧ ((nz : Int) = (aty c.layers i.toNat).log ∧ (nx : Int) = belowLog c i.toNat ∧ (ny : Int) = belowLog c i.toNat))) : wcheckC c i nz nx ny = 1 := by
  unfold wcheckC; rw [if_pos h, if_neg h2]
set_option maxRecDepth 100000 in
set_option maxHeartbeats 4000000 in
theorem w_check (v : Value) (c : Ci) (i : Int) (vz vx vy : Value) (z x y : List Int) (w : World) (h : IsC w v c) (hi : I64 i) (hz : RowU w vz z) (hx : RowU w vx x) (hy : RowU w vy y) :
    Calls Tryz.prog 174 #[v, .int .i64 i, vz, vx, vy] w fun e w' => e = .returned (.int .i64 (wcheckC c i z.length x.length y.length)) ∧ Below w.heap.size w w' := by
  have HC0 := Lib.hid h
  obtain ⟨hlog, u, rfl, hL⟩ := h
  obtain ⟨hls, hll, a, cap, rfl, hr⟩ := hL
  have Hr := Lib.hid hr
  have hzl := hz.len; have hxl := hx.len; have hyl := hy.len
  obtain ⟨_, _, az, cz, rfl, _⟩ := hz
  obtain ⟨_, _, ax, cx, rfl, _⟩ := hx
  obtain ⟨_, _, ay, cy, rfl, _⟩ := hy
  obtain ⟨hi1, hi2⟩ := hi
  clear hr hls
  go_enter Tryz.func174, Tryz.ntmps174
  go_wp2_with (fail)
  obtain ⟨W1, hW, k0, k1, B1, s1⟩ := copied2' w (.int .i64 c.log) (.slice a c.layers.length cap) 62
  rw [hW]
  have L1 : w.heap.size < W1.heap.size := by omega
  have H1 := Lib.hid B1
  clear hW s1
  refine (c_Check _ c _ (HC0.out.below H1.out (Nat.le_refl _))).mono ?_
  rintro e w2 ⟨rfl, hb2⟩
  have H2 := Lib.hid (below_two H1.out hb2)
  have r0 := (hb2.cell (p := ⟨w.heap.size, 0, none⟩) L1).trans k0
  have r1 := (hb2.cell (p := ⟨w.heap.size, 1, none⟩) L1).trans k1
  have L2 : w.heap.size < w2.heap.size := by have := hb2.size; omega
  clear k0 k1 hb2 B1
  by_cases hc : checkC c = 0
  · have G := Lib.hid (good_of_check hc)
    have Hc := Lib.hid hc
    rw [hc]
    clear hc
    by_cases hi0 : i < 0
    · have HR := Lib.hid (wcheck_arg (nz := z.length) (nx := x.length) (ny := y.length) Hc.out (i := i) (fun hh => by omega))
      go_wp2
      go_ret
      exact ⟨ret_i _ _ HR.out.symm, H2.out⟩
    · by_cases hik : (c.layers.length : Int) ≤ i
      · have HR := Lib.hid (wcheck_arg (nz := z.length) (nx := x.length) (ny := y.length) Hc.out (i := i) (fun hh => by omega))
        go_wp2
        go_ret
        exact ⟨ret_i _ _ HR.out.symm, H2.out⟩
      · obtain ⟨k, rfl⟩ : ∃ k : Nat, i = (k : Int) := ⟨i.toNat, by omega⟩
        have hk : k < c.layers.length := by omega
        have hki : (k : Int) < (c.layers.length : Int) := by omega
        have hi3 : decide ((c.layers.length : Int) ≤ (k : Int)) = false := by simp; omega
        obtain ⟨b, off, rfl, hblt, hcell⟩ := Hr.out (by omega)
        obtain ⟨c1, _⟩ := hcell k hk
        have d1 := (H2.out.cell (p := ⟨b, off + k * 2, none⟩) (by exact hblt)).trans c1
        have hti : ((k : Int)).toNat = k := by omega
        have Hti := Lib.hid hti
        clear hcell c1 hik hi0 hi1 hi2 hti
        by_cases hzz : (z.length : Int) = (aty c.layers k).log
        · have hzb : ((z.length : Int) != (aty c.layers k).log) = false := by rw [hzz]; simp
          have Hzz := Lib.hid hzz
          clear hzz
          go_wp2_with (fail)
          refine (wiring_Below _ c k _ (HC0.out.below H2.out (Nat.le_refl _)) (by omega) G.out.n4).mono ?_
          rintro e w3 ⟨rfl, hb3⟩
          have H3 := Lib.hid (below_two H2.out hb3)
          have q0 := (hb3.cell (p := ⟨w.heap.size, 0, none⟩) L2).trans r0
          have q1 := (hb3.cell (p := ⟨w.heap.size, 1, none⟩) L2).trans r1
          clear r0 r1 hb3 d1
          by_cases hxx : (x.length : Int) = belowLog c k
          · have hxb : ((x.length : Int) != belowLog c k) = false := by rw [hxx]; simp
            have Hxx := Lib.hid hxx
            clear hxx
            go_wp2_with (fail)
            refine (wiring_Below _ c k _ (HC0.out.below H3.out (Nat.le_refl _)) (by omega) G.out.n4).mono ?_
            rintro e w4 ⟨rfl, hb4⟩
            have H4 := Lib.hid (below_two H3.out hb4)
            clear hb4
            by_cases hyy : (y.length : Int) = belowLog c k
            · have hyb : ((y.length : Int) != belowLog c k) = false := by rw [hyy]; simp
              have HR := Lib.hid (show wcheckC c (k : Int) z.length x.length y.length = 0 by
                unfold wcheckC; rw [if_pos Hc.out, if_pos]; rw [Hti.out]; exact ⟨⟨by omega, by omega⟩, Hzz.out, Hxx.out, hyy⟩)
              clear hyy
              go_wp2
              go_ret
              exact ⟨ret_i _ _ HR.out.symm, H4.out⟩
            · have hyb : ((y.length : Int) != belowLog c k) = true := by rw [bne_iff_ne]; exact hyy
              have HR := Lib.hid (wcheck_arg (nz := z.length) (nx := x.length) (ny := y.length) Hc.out (i := (k : Int)) (fun hh => hyy (by rw [Hti.out] at hh; exact hh.2.2.2)))
              clear hyy
              go_wp2
              go_ret
              exact ⟨ret_i _ _ HR.out.symm, H4.out⟩
          · have hxb : ((x.length : Int) != belowLog c k) = true := by rw [bne_iff_ne]; exact hxx
            have HR := Lib.hid (wcheck_arg (nz := z.length) (nx := x.length) (ny := y.length) Hc.out (i := (k : Int)) (fun hh => hxx (by rw [Hti.out] at hh; exact hh.2.2.1)))
            clear hxx
            go_wp2
            go_ret
            exact ⟨ret_i _ _ HR.out.symm, H3.out⟩
        · have hzb : ((z.length : Int) != (aty c.layers k).log) = true := by rw [bne_iff_ne]; exact hzz
          have HR := Lib.hid (wcheck_arg (nz := z.length) (nx := x.length) (ny := y.length) Hc.out (i := (k : Int)) (fun hh => hzz (by rw [Hti.out] at hh; exact hh.2.1)))
          clear hzz
          go_wp2
          go_ret
          exact ⟨ret_i _ _ HR.out.symm, H2.out⟩
  · have hcb : (checkC c != 0) = true := by rw [bne_iff_ne]; exact hc
    have HR := Lib.hid (show wcheckC c i z.length x.length y.length = checkC c by unfold wcheckC; rw [if_neg hc])
    clear hc
    go_wp2
    go_ret
    exact ⟨ret_i _ _ HR.out.symm, H2.out⟩
theorem eqs_at0 (p : List F) (b : Nat) (h : b < 2 ^ p.length) : at0 ((eqs p).map psi) b = psi (eqAt p b) := by
  simp [at0, eqs_get p b h]
theorem eqs_len' (p : List Int) : ((eqs (p.map phi)).map psi).length = 2 ^ p.length := by rw [List.length_map, eqs_length, List.length_map]
/-- one round of value, of a gate of the sort -/
theorem wire_yes {gs : List Gt} {mul : Bool} {z x y : List F} {j : Nat} {c : Int} (hm : (atg gs j).mul = mul) (H : c = psi (sumTo (wireT gs mul z x y) j)) :
    psi (phi c + phi (psi (phi (psi (eqAt z j)) * phi (psi (phi (psi (eqAt x (atg gs j).a.toNat)) * phi (psi (eqAt y (atg gs j).b.toNat))))))) = psi (sumTo (wireT gs mul z x y) (j + 1)) := by
  rw [H]; simp only [phi_psi]; show _ = psi (sumTo _ j + wireT gs mul z x y j); unfold wireT; rw [if_pos hm]
theorem wire_yes' {gs : List Gt} {mul : Bool} {z x y : List F} {j : Nat} {c : Int} (hm : (atg gs j).mul = mul) (H : c = psi (sumTo (wireT gs mul z x y) j)) :
    psi (phi c + phi (psi (phi (psi (phi (psi (eqAt z j)) * phi (psi (eqAt x (atg gs j).a.toNat)))) * phi (psi (eqAt y (atg gs j).b.toNat))))) = psi (sumTo (wireT gs mul z x y) (j + 1)) := by
  rw [H]; simp only [phi_psi]; show _ = psi (sumTo _ j + wireT gs mul z x y j); unfold wireT; rw [if_pos hm]; congr 1; grind
theorem wire_no {gs : List Gt} {mul : Bool} {z x y : List F} {j : Nat} {c : Int} (hm : ¬ (atg gs j).mul = mul) (H : c = psi (sumTo (wireT gs mul z x y) j)) : c = psi (sumTo (wireT gs mul z x y) (j + 1)) := by
  rw [H]; show _ = psi (sumTo _ j + wireT gs mul z x y j); unfold wireT; rw [if_neg hm]; congr 1; grind
theorem u64_of_psi {c : Int} {a : F} (h : c = psi a) : U64 c := by rw [h]; exact U64.psi a
set_option maxRecDepth 100000 in
set_option maxHeartbeats 8000000 in
theorem w_value (v : Value) (c : Ci) (k : Nat) (mul : Bool) (vz vx vy : Value) (z x y : List Int) (w : World) (h : IsC w v c) (hG : Good c) (hk : k < c.layers.length) (hz : RowU w vz z) (hx : RowU w vx x) (hy : RowU w vy y)
    (nz : (z.length : Int) = (aty c.layers k).log) (nx : (x.length : Int) = belowLog c k) (ny : (y.length : Int) = belowLog c k) :
    Calls Tryz.prog 175 #[v, .int .i64 k, .bool mul, vz, vx, vy] w fun e w' => e = .returned (.int .u64 (psi (wiredF (aty c.layers k).gates mul (z.map phi) (x.map phi) (y.map phi)))) ∧ Below w.heap.size w w' := by
  have HC0 := Lib.hid h
  obtain ⟨hlog, u, rfl, hL⟩ := h
  obtain ⟨hls, hll, a, cap, rfl, hr⟩ := hL
  have hz8 : z.length ≤ 8 := by have := hG.l4 k hk; omega
  have hx8 : x.length ≤ 8 := by have := hG.below4 (k := k) (by omega); omega
  have hy8 : y.length ≤ 8 := by have := hG.below4 (k := k) (by omega); omega
  have Hnz := Lib.hid nz; have Hnx := Lib.hid nx; have Hny := Lib.hid ny
  have Hz := Lib.hid hz; have Hx := Lib.hid hx; have Hy := Lib.hid hy
  have hki : (k : Int) < (c.layers.length : Int) := by omega
  obtain ⟨b, off, rfl, hblt, hcell⟩ := hr (by omega)
  obtain ⟨c1, u, c2, hg⟩ := hcell k hk
  have Hg := Lib.hid hg
  have HG := Lib.hid hG
  obtain ⟨R, hR⟩ : ∃ R, R = wiredF (aty c.layers k).gates mul (z.map phi) (x.map phi) (y.map phi) := ⟨_, rfl⟩
  rw [← hR]
  have HR := Lib.hid hR
  clear hr hls hz hx hy nz nx ny hG hcell c1 hg hR
  go_enter Tryz.func175, Tryz.ntmps175
  go_wp2_with (fail)
  obtain ⟨W1, hW, k0, k1, B1, s1⟩ := copied2' w (.int .i64 c.log) (.slice (some ⟨b, off, none⟩) c.layers.length cap) 62
  rw [hW]
  have L1 : w.heap.size < W1.heap.size := by omega
  have H1 := Lib.hid B1
  clear hW s1 B1
  refine (mle_Eq z _ _ (Hz.out.go H1.out) hz8).mono ?_
  rintro e w2 ⟨ez, rfl, hnz, hb2⟩
  have H12 := Lib.hid hb2
  have H2 := Lib.hid (below_two H1.out hb2)
  have HN2 := Lib.hid hnz
  clear hb2 hnz
  go_wp2_with (fail)
  refine (mle_Eq x _ _ (Hx.out.go H2.out) hx8).mono ?_
  rintro e w3 ⟨ex, rfl, hnx, hb3⟩
  have H13 := Lib.hid (below_two H12.out hb3)
  have H3 := Lib.hid (below_two H2.out hb3)
  have H23 := Lib.hid hb3
  have HN3 := Lib.hid hnx
  clear hb3 hnx
  go_wp2_with (fail)
  refine (mle_Eq y _ _ (Hy.out.go H3.out) hy8).mono ?_
  rintro e w4 ⟨ey, rfl, hny, hb4⟩
  have H14 := Lib.hid (below_two H13.out hb4)
  have H4 := Lib.hid (below_two H3.out hb4)
  have HZ := Lib.hid ((HN2.out.row.go H23.out).go hb4)
  have HX := Lib.hid (HN3.out.row.go hb4)
  have HY := Lib.hid hny.row
  clear hb4 hny
  have Lz := Lib.hid (eqs_len' z)
  have Lx := Lib.hid (eqs_len' x)
  have Ly := Lib.hid (eqs_len' y)
  have Az := Lib.hid (fun b h => eqs_at0 (z.map phi) b h)
  have Ax := Lib.hid (fun b h => eqs_at0 (x.map phi) b h)
  have Ay := Lib.hid (fun b h => eqs_at0 (y.map phi) b h)
  generalize (eqs (z.map phi)).map psi = EZ at *
  generalize (eqs (x.map phi)).map psi = EX at *
  generalize (eqs (y.map phi)).map psi = EY at *
  have uz := Lib.hid HZ.out.1; have ux := Lib.hid HX.out.1; have uy := Lib.hid HY.out.1
  obtain ⟨bz, oz, cz, rfl, sz⟩ : ∃ b off cap, ez = .slice (some ⟨b, off, none⟩) EZ.length cap ∧ b < w4.heap.size ∧ ∀ j, j < EZ.length → w4.cell? ⟨b, off + j, none⟩ = some (.int .u64 (at0 EZ j)) := by
    obtain ⟨_, _, a, cp, rfl, hh⟩ := HZ.out
    obtain ⟨b, o, rfl, h1, h2⟩ := hh (by rw [Lz.out]; exact Nat.pow_pos (by decide))
    exact ⟨b, o, cp, rfl, h1, h2⟩
  obtain ⟨bx, ox, cx, rfl, sx⟩ : ∃ b off cap, ex = .slice (some ⟨b, off, none⟩) EX.length cap ∧ b < w4.heap.size ∧ ∀ j, j < EX.length → w4.cell? ⟨b, off + j, none⟩ = some (.int .u64 (at0 EX j)) := by
    obtain ⟨_, _, a, cp, rfl, hh⟩ := HX.out
    obtain ⟨b, o, rfl, h1, h2⟩ := hh (by rw [Lx.out]; exact Nat.pow_pos (by decide))
    exact ⟨b, o, cp, rfl, h1, h2⟩
  obtain ⟨by', oy, cy, rfl, sy⟩ : ∃ b off cap, ey = .slice (some ⟨b, off, none⟩) EY.length cap ∧ b < w4.heap.size ∧ ∀ j, j < EY.length → w4.cell? ⟨b, off + j, none⟩ = some (.int .u64 (at0 EY j)) := by
    obtain ⟨_, _, a, cp, rfl, hh⟩ := HY.out
    obtain ⟨b, o, rfl, h1, h2⟩ := hh (by rw [Ly.out]; exact Nat.pow_pos (by decide))
    exact ⟨b, o, cp, rfl, h1, h2⟩
  have Sz := Lib.hid sz; have Sx := Lib.hid sx; have Sy := Lib.hid sy
  have r0 := (H14.out.cell (p := ⟨w.heap.size, 0, none⟩) L1).trans k0
  have r1 := (H14.out.cell (p := ⟨w.heap.size, 1, none⟩) L1).trans k1
  have d2 := (H4.out.cell (p := ⟨b, off + k * 2 + 1, none⟩) (by exact hblt)).trans c2
  have hg4 := Hg.out.below H4.out (Nat.le_refl _)
  have Hgl := Lib.hid (HG.out.len k hk)
  have Hok := Lib.hid (HG.out.gate k hk)
  have Bx := Lib.hid (show 2 ^ x.length = 2 ^ (belowLog c k).toNat by congr 1; have := Hnx.out; omega)
  have By := Lib.hid (show 2 ^ y.length = 2 ^ (belowLog c k).toNat by congr 1; have := Hny.out; omega)
  have Bz := Lib.hid (show 2 ^ z.length = 2 ^ (aty c.layers k).log.toNat by congr 1; have := Hnz.out; omega)
  obtain ⟨hgi, hgll, ag, cg, rfl, hgr⟩ := hg4
  have Hgr := Lib.hid hgr
  have Hgll := Lib.hid hgll
  clear hgr hgi sz sx sy k0 k1 c2
  have hglen : (aty c.layers k).gates.length ≤ 16 := by rw [Hgl.out]; exact (pow4 (HG.out.l4 k hk)).2
  generalize (aty c.layers k).gates = gs at *
  generalize 2 ^ (belowLog c k).toNat = N at *
  go_wp2_with (fail)
  clear r0 r1 d2 hgll
  go_loopw [19, 44] (fun o i wr => ∃ (j : Nat) (s : Int), j ≤ gs.length ∧ i = .int .i64 (j : Int) ∧ o = .int .u64 s ∧ Below w4.heap.size w4 wr ∧ Hid (s = psi (sumTo (wireT gs mul (z.map phi) (x.map phi) (y.map phi)) j))) (fun _ i _ => gs.length - (intOf i).toNat)
  case atStart => exact ⟨0, 0, by omega, rfl, rfl, Below.refl _ _, psi_zero.symm⟩
  case round =>
    obtain ⟨j, s, hj, rfl, rfl, hbr, Hs⟩ := hrel
    by_cases hjz : j < gs.length
    · obtain ⟨b2, off2, rfl, hb2lt, hgc⟩ := Hgr.out (by omega)
      obtain ⟨e1, e2, e3⟩ := hgc j hjz
      have f1 := (hbr.cell (p := ⟨b2, off2 + j * 3, none⟩) (by exact hb2lt)).trans e1
      have f2 := (hbr.cell (p := ⟨b2, off2 + j * 3 + 1, none⟩) (by exact hb2lt)).trans e2
      have f3 := (hbr.cell (p := ⟨b2, off2 + j * 3 + 2, none⟩) (by exact hb2lt)).trans e3
      have hok := gateOk_bd (Hok.out j hjz)
      have hjl : (j : Int) < (gs.length : Int) := by omega
      have us := u64_of_psi Hs.out
      have Hno := Lib.hid (fun hm => wire_no (z := z.map phi) (x := x.map phi) (y := y.map phi) (j := j) (gs := gs) (mul := mul) hm Hs.out)
      have Hyes := Lib.hid (fun hm => wire_yes (z := z.map phi) (x := x.map phi) (y := y.map phi) (j := j) (gs := gs) (mul := mul) hm Hs.out)
      have ha1 : j < EZ.length := by rw [Lz.out, Bz.out, ← Hgl.out]; exact hjz
      have hsz := (hbr.cell (p := ⟨bz, oz + j, none⟩) (by exact Sz.out.1)).trans (Sz.out.2 j ha1)
      have uz1 := uz.out _ (at0_mem ha1)
      have azj := Az.out j (by rw [List.length_map, Bz.out, ← Hgl.out]; exact hjz)
      rw [azj] at hsz uz1
      clear hgc e1 e2 e3 azj
      have Hsz := Lib.hid hsz
      clear hsz
      generalize atg gs j = g at *
      obtain ⟨gm, ga, gb⟩ := g
      obtain ⟨ga0, ga1, gb0, gb1⟩ := hok
      simp only at f1 f2 f3 ga0 ga1 gb0 gb1
      obtain ⟨A, rfl⟩ : ∃ A : Nat, ga = (A : Int) := ⟨ga.toNat, by omega⟩
      obtain ⟨B, rfl⟩ : ∃ B : Nat, gb = (B : Int) := ⟨gb.toNat, by omega⟩
      by_cases hm : gm = mul
      · have hmb : (gm == mul) = true := by rw [hm]; simp
        have Hfin := Lib.hid (Hyes.out hm)
        have hA : A < EX.length := by rw [Lx.out, Bx.out]; omega
        have hB : B < EY.length := by rw [Ly.out, By.out]; omega
        have hsx := (hbr.cell (p := ⟨bx, ox + A, none⟩) (by exact Sx.out.1)).trans (Sx.out.2 A hA)
        have hsy := (hbr.cell (p := ⟨by', oy + B, none⟩) (by exact Sy.out.1)).trans (Sy.out.2 B hB)
        have axj := Ax.out A (by rw [List.length_map, Bx.out]; omega)
        have ayj := Ay.out B (by rw [List.length_map, By.out]; omega)
        rw [axj] at hsx
        rw [ayj] at hsy
        have hAi : (A : Int) < (EX.length : Int) := by omega
        have hBi : (B : Int) < (EY.length : Int) := by omega
        have hji : (j : Int) < (EZ.length : Int) := by omega
        clear hm axj ayj ga0 ga1 gb0 gb1
        have Hsx := Lib.hid hsx
        have Hsy := Lib.hid hsy
        clear hsx hsy
        go_wp2_with (fail)
        obtain ⟨wo, rfl⟩ : ∃ x : World, x = wr := ⟨_, rfl⟩
        obtain ⟨W, hW, t0, t1, t2, hWb, hWs⟩ := copied3' wo (.bool gm) (.int .i64 A) (.int .i64 B) 126
        rw [hW]
        have q1 := (hWb.cell (p := ⟨bz, oz + j, none⟩) (by have := hbr.size; exact Nat.lt_of_lt_of_le Sz.out.1 this)).trans Hsz.out
        have q2 := (hWb.cell (p := ⟨bx, ox + A, none⟩) (by have := hbr.size; exact Nat.lt_of_lt_of_le Sx.out.1 this)).trans Hsx.out
        have q3 := (hWb.cell (p := ⟨by', oy + B, none⟩) (by have := hbr.size; exact Nat.lt_of_lt_of_le Sy.out.1 this)).trans Hsy.out
        have HWb := Lib.hid (show Below w4.heap.size w4 W from hbr.trans (hWb.mono hbr.size))
        clear hW hWs hWb f1 f2 f3
        go_quiet (first | (go_at_call 112; exact flip (field_Mul _ _ _ (by first | assumption | exact U64.psi _ | exact U64.zero | exact U64.one | exact U64.mk (by decide) (by decide)) (by first | assumption | exact U64.psi _ | exact U64.zero | exact U64.one | exact U64.mk (by decide) (by decide)))) | (go_at_call 108; exact flip (field_Add _ _ _ (by first | assumption | exact U64.psi _ | exact U64.zero | exact U64.one | exact U64.mk (by decide) (by decide)) (by first | assumption | exact U64.psi _ | exact U64.zero | exact U64.one | exact U64.mk (by decide) (by decide)))))
        go_wp2
        go_roundw
        case rel => exact ⟨j + 1, _, by omega, by go_num, rfl, below_drewN HWb.out _, Hfin.out⟩
        case measure => simp [intOf]; omega
      · have hmb : (gm == mul) = false := by rw [beq_eq_false_iff_ne]; exact hm
        have Hfin := Lib.hid (Hno.out hm)
        clear hm ga0 ga1 gb0 gb1
        go_wp2
        go_roundw
        case rel => exact ⟨j + 1, s, by omega, by go_num, rfl, hbr.alloc hbr.size _, Hfin.out⟩
        case measure => simp [intOf]; omega
    · obtain rfl : j = gs.length := by omega
      have HF := Lib.hid (show s = psi R by rw [Hs.out, HR.out]; rfl)
      go_wp2
      go_ret
      exact ⟨ret_u64 HF.out, H4.out.trans (hbr.mono H4.out.size)⟩
end Go.Proofs.YtlfneeobnihocaaGreatDoor

/- The walks of wiring.Value and wiring.Step; of the reference's Wired and Step. The circuit is a value that reads as data, the points are slices of 64-bit numbers. -/
namespace Go.Proofs.YtlfneeobnihocaaGreatDoor
set_option maxRecDepth 100000
set_option linter.unusedVariables false
open Go.RowKit Tally
open Go.Sort (grow)
/-- a layer, a point, two points of the layer below -/
structure Wire (c : Ci) (k : Nat) (z x y : List Int) : Prop where
  good : Good c
  lt : k < c.layers.length
  nz : (z.length : Int) = (aty c.layers k).log
  nx : (x.length : Int) = belowLog c k
  ny : (y.length : Int) = belowLog c k
theorem wcheck_ok {c : Ci} {i : Int} {z x y : List Int} (h : wcheckC c i z.length x.length y.length = 0) : ∃ k : Nat, i = (k : Int) ∧ Wire c k z x y := by
  unfold wcheckC at h
  split at h
  · rename_i h0
    split at h
    · rename_i h1
      obtain ⟨⟨a, b⟩, d, e, f⟩ := h1
      exact ⟨i.toNat, by omega, good_of_check h0, by omega, d, e, f⟩
    · omega
  · rename_i h0; exact absurd h h0
theorem Wire.check {c : Ci} {k : Nat} {z x y : List Int} (h : Wire c k z x y) (hc : checkC c = 0) : wcheckC c (k : Int) z.length x.length y.length = 0 := by
  have e : ((k : Int)).toNat = k := by omega
  unfold wcheckC; rw [if_pos hc, if_pos]; rw [e]; have := h.lt; exact ⟨⟨by omega, by omega⟩, h.nz, h.nx, h.ny⟩
theorem ret_two {k : IntKind} {a b c : Int} (h : a = b) : Ending.returned (.tuple #[.int k a, .int .i64 c]) = .returned (.tuple #[.int k b, .int .i64 c]) := by rw [h]
abbrev wiredI (c : Ci) (k : Nat) (mul : Bool) (z x y : List Int) : F := wiredF (aty c.layers k).gates mul (z.map phi) (x.map phi) (y.map phi)
abbrev stepI (c : Ci) (k : Nat) (z x y : List Int) (a b : F) : F := stepF (aty c.layers k).gates (z.map phi) (x.map phi) (y.map phi) a b
theorem IsC.shape {w : World} {v : Value} {c : Ci} (h : IsC w v c) : ∃ a cap, v = .agg #[.int .i64 c.log, .slice a c.layers.length cap] := by
  obtain ⟨_, u, rfl, _, _, a, cap, rfl, _⟩ := h
  exact ⟨a, cap, rfl⟩
theorem IsC.go {w w' : World} {v : Value} {c : Ci} (h : IsC w v c) (hb : Below w.heap.size w w') : IsC w' v c := h.below hb (Nat.le_refl _)
set_option maxRecDepth 100000 in
set_option maxHeartbeats 4000000 in
theorem w_Step (v : Value) (c : Ci) (i : Int) (vz vx vy : Value) (z x y : List Int) (a1 b1 : Int) (w : World) (h : IsC w v c) (hi : I64 i) (hz : RowU w vz z) (hx : RowU w vx x) (hy : RowU w vy y) (ua : U64 a1) (ub : U64 b1) (k : Nat) (hik : i = (k : Int)) (hW : Wire c k z x y) (hc0 : checkC c = 0) :
    Calls Tryz.prog 168 #[v, .int .i64 i, vz, vx, vy, .int .u64 a1, .int .u64 b1] w fun e w' => e = .returned (.tuple #[.int .u64 (psi (stepI c k z x y (phi a1) (phi b1))), .int .i64 0]) ∧ Below w.heap.size w w' := by
  subst hik
  obtain ⟨a, cap, rfl⟩ := h.shape
  have HC0 := Lib.hid h; have Hi := Lib.hid hi; have Hz := Lib.hid hz; have Hx := Lib.hid hx; have Hy := Lib.hid hy; have HW := Lib.hid hW
  have Hc := Lib.hid hc0
  clear h hi hz hx hy hW hc0
  go_enter Tryz.func168, Tryz.ntmps168
  go_wp2_with (fail)
  obtain ⟨W1, hW, k0, k1, B1, s1⟩ := copied2' w (.int .i64 c.log) (.slice a c.layers.length cap) 62
  rw [hW]
  have L1 : w.heap.size < W1.heap.size := by omega
  have H1 := Lib.hid B1
  clear hW s1 B1
  refine (w_check _ c k vz vx vy z x y _ (HC0.out.go H1.out) Hi.out (Hz.out.go H1.out) (Hx.out.go H1.out) (Hy.out.go H1.out)).mono ?_
  rintro e w2 ⟨rfl, hb2⟩
  rw [HW.out.check Hc.out]
  have H2 := Lib.hid (below_two H1.out hb2)
  have r0 := (hb2.cell (p := ⟨w.heap.size, 0, none⟩) L1).trans k0
  have r1 := (hb2.cell (p := ⟨w.heap.size, 1, none⟩) L1).trans k1
  have L2 : w.heap.size < w2.heap.size := by have := hb2.size; omega
  clear k0 k1 hb2
  go_wp2_with (fail)
  refine (w_value _ c k false vz vx vy z x y _ (HC0.out.go H2.out) HW.out.good HW.out.lt (Hz.out.go H2.out) (Hx.out.go H2.out) (Hy.out.go H2.out) HW.out.nz HW.out.nx HW.out.ny).mono ?_
  rintro e w3 ⟨rfl, hb3⟩
  have H3 := Lib.hid (below_two H2.out hb3)
  have q0 := (hb3.cell (p := ⟨w.heap.size, 0, none⟩) L2).trans r0
  have q1 := (hb3.cell (p := ⟨w.heap.size, 1, none⟩) L2).trans r1
  clear r0 r1 hb3
  go_wp2_with (first | (go_at_call 112; (with_reducible refine (field_Mul _ _ _ (by first | assumption | exact U64.psi _ | exact U64.zero | exact U64.one | exact U64.mk (by decide) (by decide)) (by first | assumption | exact U64.psi _ | exact U64.zero | exact U64.one | exact U64.mk (by decide) (by decide))).mono ?_); rintro e w' ⟨rfl, rfl⟩) | (go_at_call 108; (with_reducible refine (field_Add _ _ _ (by first | assumption | exact U64.psi _ | exact U64.zero | exact U64.one | exact U64.mk (by decide) (by decide)) (by first | assumption | exact U64.psi _ | exact U64.zero | exact U64.one | exact U64.mk (by decide) (by decide))).mono ?_); rintro e w' ⟨rfl, rfl⟩))
  refine (w_value _ c k true vz vx vy z x y _ (HC0.out.go H3.out) HW.out.good HW.out.lt (Hz.out.go H3.out) (Hx.out.go H3.out) (Hy.out.go H3.out) HW.out.nz HW.out.nx HW.out.ny).mono ?_
  rintro e w4 ⟨rfl, hb4⟩
  have H4 := Lib.hid (below_two H3.out hb4)
  clear q0 q1 hb4
  go_wp2_with (first | (go_at_call 112; (with_reducible refine (field_Mul _ _ _ (by first | assumption | exact U64.psi _ | exact U64.zero | exact U64.one | exact U64.mk (by decide) (by decide)) (by first | assumption | exact U64.psi _ | exact U64.zero | exact U64.one | exact U64.mk (by decide) (by decide))).mono ?_); rintro e w' ⟨rfl, rfl⟩) | (go_at_call 108; (with_reducible refine (field_Add _ _ _ (by first | assumption | exact U64.psi _ | exact U64.zero | exact U64.one | exact U64.mk (by decide) (by decide)) (by first | assumption | exact U64.psi _ | exact U64.zero | exact U64.one | exact U64.mk (by decide) (by decide))).mono ?_); rintro e w' ⟨rfl, rfl⟩))
  go_ret2
  exact ⟨ret_two (by simp only [phi_psi]; rfl), H4.out⟩
set_option maxRecDepth 100000 in
set_option maxHeartbeats 4000000 in
theorem w_Step_no (v : Value) (c : Ci) (i : Int) (vz vx vy : Value) (z x y : List Int) (a1 b1 : Int) (w : World) (h : IsC w v c) (hi : I64 i) (hz : RowU w vz z) (hx : RowU w vx x) (hy : RowU w vy y) (hne : (wcheckC c i z.length x.length y.length != 0) = true) :
    Calls Tryz.prog 168 #[v, .int .i64 i, vz, vx, vy, .int .u64 a1, .int .u64 b1] w fun e w' => e = .returned (.tuple #[.int .u64 0, .int .i64 (wcheckC c i z.length x.length y.length)]) ∧ Below w.heap.size w w' := by
  obtain ⟨a, cap, rfl⟩ := h.shape
  have HC0 := Lib.hid h; have Hi := Lib.hid hi; have Hz := Lib.hid hz; have Hx := Lib.hid hx; have Hy := Lib.hid hy
  obtain ⟨E, hE⟩ : ∃ E, E = wcheckC c i z.length x.length y.length := ⟨_, rfl⟩
  rw [← hE] at hne ⊢
  have HE := Lib.hid hE
  clear h hi hz hx hy hE
  go_enter Tryz.func168, Tryz.ntmps168
  go_wp2_with (fail)
  obtain ⟨W1, hW, k0, k1, B1, s1⟩ := copied2' w (.int .i64 c.log) (.slice a c.layers.length cap) 62
  rw [hW]
  have H1 := Lib.hid B1
  clear hW s1 B1
  refine (w_check _ c i vz vx vy z x y _ (HC0.out.go H1.out) Hi.out (Hz.out.go H1.out) (Hx.out.go H1.out) (Hy.out.go H1.out)).mono ?_
  rintro e w2 ⟨rfl, hb2⟩
  have H2 := Lib.hid (below_two H1.out hb2)
  clear k0 k1 hb2
  rw [← HE.out]
  go_wp2
  go_ret2
  exact ⟨rfl, H2.out⟩
set_option maxRecDepth 100000 in
set_option maxHeartbeats 8000000 in
theorem ref_Wired (v : Value) (c : Ci) (k : Nat) (mul : Bool) (vz vx vy : Value) (z x y : List Int) (w : World) (h : IsC w v c) (hz : RowU w vz z) (hx : RowU w vx x) (hy : RowU w vy y) (hW : Wire c k z x y) :
    Calls Tryz.prog 154 #[v, .int .i64 k, .bool mul, vz, vx, vy] w fun e w' => e = .returned (.int .u64 (psi (wiredI c k mul z x y))) ∧ Below w.heap.size w w' := by
  have hG := hW.good
  have hk := hW.lt
  obtain ⟨hlog, u, rfl, hL⟩ := h
  obtain ⟨hls, hll, a, cap, rfl, hr⟩ := hL
  have Hz := Lib.hid hz; have Hx := Lib.hid hx; have Hy := Lib.hid hy
  have hki : (k : Int) < (c.layers.length : Int) := by omega
  obtain ⟨b, off, rfl, hblt, hcell⟩ := hr (by omega)
  obtain ⟨c1, u, c2, hg⟩ := hcell k hk
  have Hgl := Lib.hid (hG.len k hk)
  have Hok := Lib.hid (hG.gate k hk)
  have hN16 := (pow4 (hG.below4 (k := k) (by omega))).2
  have hglen : (aty c.layers k).gates.length ≤ 16 := by rw [Hgl.out]; exact (pow4 (hG.l4 k hk)).2
  obtain ⟨hgi, hgll, ag, cg, rfl, hgr⟩ := hg
  have Hgr := Lib.hid hgr
  obtain ⟨R, hR⟩ : ∃ R, R = wiredI c k mul z x y := ⟨_, rfl⟩
  rw [← hR]
  have HR := Lib.hid hR
  clear hr hls hz hx hy hG hcell c1 hgi hgr hR hW
  unfold wiredI at HR
  generalize (aty c.layers k).gates = gs at *
  generalize 2 ^ (belowLog c k).toNat = N at *
  go_enter Tryz.func154, Tryz.ntmps154
  go_wp2_with (fail)
  obtain ⟨W1, hW, k0, k1, B1, s1⟩ := copied2' w (.int .i64 c.log) (.slice (some ⟨b, off, none⟩) c.layers.length cap) 62
  rw [hW]
  have L1 : w.heap.size < W1.heap.size := by omega
  have H1 := Lib.hid B1
  have d2 := (B1.cell (p := ⟨b, off + k * 2 + 1, none⟩) (by exact hblt)).trans c2
  have hbW1 : b < W1.heap.size := by omega
  clear hW s1 B1 c2
  go_loopw [13, 14] (fun o i wr => ∃ (j : Nat) (s : Int), j ≤ gs.length ∧ i = .int .i64 (j : Int) ∧ o = .int .u64 s ∧ Below W1.heap.size W1 wr ∧ Hid (s = psi (sumTo (wireT gs mul (z.map phi) (x.map phi) (y.map phi)) j))) (fun _ i _ => gs.length - (intOf i).toNat)
  case atStart => exact ⟨0, 0, by omega, rfl, rfl, Below.refl _ _, psi_zero.symm⟩
  case round =>
    obtain ⟨j, s, hj, rfl, rfl, hbr, Hs⟩ := hrel
    have r0 := (hbr.cell (p := ⟨w.heap.size, 0, none⟩) L1).trans k0
    have r1 := (hbr.cell (p := ⟨w.heap.size, 1, none⟩) L1).trans k1
    have r2 := (hbr.cell (p := ⟨b, off + k * 2 + 1, none⟩) hbW1).trans d2
    by_cases hjz : j < gs.length
    · obtain ⟨b2, off2, rfl, hb2lt, hgc⟩ := Hgr.out (by omega)
      obtain ⟨e1, e2, e3⟩ := hgc j hjz
      have hbw := below_two H1.out hbr
      have f1 := (hbw.cell (p := ⟨b2, off2 + j * 3, none⟩) (by exact hb2lt)).trans e1
      have f2 := (hbw.cell (p := ⟨b2, off2 + j * 3 + 1, none⟩) (by exact hb2lt)).trans e2
      have f3 := (hbw.cell (p := ⟨b2, off2 + j * 3 + 2, none⟩) (by exact hb2lt)).trans e3
      have hok := gateOk_bd (Hok.out j hjz)
      have hjl : (j : Int) < (gs.length : Int) := by omega
      have us := u64_of_psi Hs.out
      have Hno := Lib.hid (fun hm => wire_no (z := z.map phi) (x := x.map phi) (y := y.map phi) (j := j) (gs := gs) (mul := mul) hm Hs.out)
      have Hyes := Lib.hid (fun hm => wire_yes' (z := z.map phi) (x := x.map phi) (y := y.map phi) (j := j) (gs := gs) (mul := mul) hm Hs.out)
      have Hbw := Lib.hid hbw
      clear hgc e1 e2 e3 hbw
      generalize atg gs j = g at *
      obtain ⟨gm, ga, gb⟩ := g
      obtain ⟨ga0, ga1, gb0, gb1⟩ := hok
      simp only at f1 f2 f3 ga0 ga1 gb0 gb1
      obtain ⟨A, rfl⟩ : ∃ A : Nat, ga = (A : Int) := ⟨ga.toNat, by omega⟩
      obtain ⟨B, rfl⟩ : ∃ B : Nat, gb = (B : Int) := ⟨gb.toNat, by omega⟩
      by_cases hm : gm = mul
      · have hmb : (gm == mul) = true := by rw [hm]; simp
        have Hfin := Lib.hid (Hyes.out hm)
        have hA63 : (A : Int) < 9223372036854775808 := by omega
        have hB63 : (B : Int) < 9223372036854775808 := by omega
        have hj63 : (j : Int) < 9223372036854775808 := by omega
        have HA := Lib.hid hA63; have HB := Lib.hid hB63; have HJ := Lib.hid hj63
        clear hm ga1 gb1 hA63 hB63 hj63
        go_wp2_with (fail)
        obtain ⟨wo, rfl⟩ : ∃ x : World, x = wr := ⟨_, rfl⟩
        obtain ⟨W, hW, t0, t1, t2, hWb, hWs⟩ := copied3' wo (.bool gm) (.int .i64 A) (.int .i64 B) 126
        rw [hW]
        have HWb := Lib.hid (show Below W1.heap.size W1 W from hbr.trans (hWb.mono hbr.size))
        have HWw := Lib.hid (below_two Hbw.out hWb)
        clear hW hWs hWb f1 f2 f3 r0 r1 r2
        have Cz := Lib.hid (fun n => flip (ref_Eq z vz (j : Int) (W.drewN n) ((Hz.out.go HWw.out).drewN n) (Int.natCast_nonneg j) HJ.out))
        have Cx := Lib.hid (fun n => flip (ref_Eq x vx (A : Int) (W.drewN n) ((Hx.out.go HWw.out).drewN n) (Int.natCast_nonneg A) HA.out))
        have Cy := Lib.hid (fun n => flip (ref_Eq y vy (B : Int) (W.drewN n) ((Hy.out.go HWw.out).drewN n) (Int.natCast_nonneg B) HB.out))
        go_quiet (first | (go_at_call 79; with_reducible exact Cz.out _) | (go_at_call 79; with_reducible exact Cx.out _) | (go_at_call 79; with_reducible exact Cy.out _) | (go_at_call 45; exact flip (ref_Mul _ _ _ (by first | assumption | exact U64.psi _ | exact U64.zero | exact U64.one | exact U64.mk (by decide) (by decide)) (by first | assumption | exact U64.psi _ | exact U64.zero | exact U64.one | exact U64.mk (by decide) (by decide)))) | (go_at_call 43; exact flip (ref_Add _ _ _ (by first | assumption | exact U64.psi _ | exact U64.zero | exact U64.one | exact U64.mk (by decide) (by decide)) (by first | assumption | exact U64.psi _ | exact U64.zero | exact U64.one | exact U64.mk (by decide) (by decide)))))
        go_wp2
        go_roundw
        case rel => exact ⟨j + 1, _, by omega, by go_num, rfl, below_drewN HWb.out _, Hfin.out⟩
        case measure => simp [intOf]; omega
      · have hmb : (gm == mul) = false := by rw [beq_eq_false_iff_ne]; exact hm
        have Hfin := Lib.hid (Hno.out hm)
        clear hm ga0 ga1 gb0 gb1
        go_wp2
        go_roundw
        case rel => exact ⟨j + 1, s, by omega, by go_num, rfl, hbr.alloc hbr.size _, Hfin.out⟩
        case measure => simp [intOf]; omega
    · obtain rfl : j = gs.length := by omega
      have HF := Lib.hid (show s = psi R by rw [Hs.out, HR.out]; rfl)
      have Hbw := Lib.hid (below_two H1.out hbr)
      go_wp2
      go_ret
      exact ⟨ret_u64 HF.out, Hbw.out⟩
set_option maxRecDepth 100000 in
set_option maxHeartbeats 4000000 in
theorem ref_Step (v : Value) (c : Ci) (k : Nat) (vz vx vy : Value) (z x y : List Int) (a1 b1 : Int) (w : World) (h : IsC w v c) (hz : RowU w vz z) (hx : RowU w vx x) (hy : RowU w vy y) (ua : U64 a1) (ub : U64 b1) (hW : Wire c k z x y) :
    Calls Tryz.prog 123 #[v, .int .i64 k, vz, vx, vy, .int .u64 a1, .int .u64 b1] w fun e w' => e = .returned (.int .u64 (psi (stepI c k z x y (phi a1) (phi b1)))) ∧ Below w.heap.size w w' := by
  obtain ⟨a, cap, rfl⟩ := h.shape
  obtain ⟨W1, hW1, k0, k1, B1, s1⟩ := copied2' w (.int .i64 c.log) (.slice a c.layers.length cap) 62
  have cW : ∀ mul d os, Calls Tryz.prog 154 #[.agg #[.int .i64 c.log, .slice a c.layers.length cap], .int .i64 k, .bool mul, vz, vx, vy] (grow (redrawn W1 d) os) fun e w'' => e = .returned (.int .u64 (psi (wiredI c k mul z x y))) ∧ ∃ p : Regrown, w'' = grow (redrawn W1 p.d) p.os :=
    fun mul d os => Calls.regrown_of (ref_Wired _ c k mul vz vx vy z x y _ (h.go (below_two B1 (below_regrown W1 d os))) (hz.go (below_two B1 (below_regrown W1 d os))) (hx.go (below_two B1 (below_regrown W1 d os))) (hy.go (below_two B1 (below_regrown W1 d os))) hW)
  have g0 := cell_regrown k0
  have g1 := cell_regrown k1
  have HB := Lib.hid B1
  have HcW := Lib.hid cW
  have HW1 := Lib.hid hW1
  clear h hz hx hy hW k0 k1 B1 s1 cW hW1
  go_enter Tryz.func123, Tryz.ntmps123
  go_wp2_with (fail)
  rw [HW1.out]
  refine wp_region_quiet_below (by kernel_rfl) (by kernel_rfl) ?_
  repeat (any_goals (first | go_big_quiet_step (first | (go_at_call 154; with_reducible exact HcW.out _ _ _) | (go_at_call 45; exact regrown_same (ref_Mul _ _ _ (by first | assumption | exact U64.psi _ | exact U64.zero | exact U64.one | exact U64.mk (by decide) (by decide)) (by first | assumption | exact U64.psi _ | exact U64.zero | exact U64.one | exact U64.mk (by decide) (by decide)))) | (go_at_call 43; exact regrown_same (ref_Add _ _ _ (by first | assumption | exact U64.psi _ | exact U64.zero | exact U64.one | exact U64.mk (by decide) (by decide)) (by first | assumption | exact U64.psi _ | exact U64.zero | exact U64.one | exact U64.mk (by decide) (by decide))))) | quiet_step (first | (go_at_call 154; with_reducible exact HcW.out _ _ _) | (go_at_call 45; exact regrown_same (ref_Mul _ _ _ (by first | assumption | exact U64.psi _ | exact U64.zero | exact U64.one | exact U64.mk (by decide) (by decide)) (by first | assumption | exact U64.psi _ | exact U64.zero | exact U64.one | exact U64.mk (by decide) (by decide)))) | (go_at_call 43; exact regrown_same (ref_Add _ _ _ (by first | assumption | exact U64.psi _ | exact U64.zero | exact U64.one | exact U64.mk (by decide) (by decide)) (by first | assumption | exact U64.psi _ | exact U64.zero | exact U64.one | exact U64.mk (by decide) (by decide)))))))
  refine wpQuiet_nil ?_; intro _ hw'; obtain ⟨⟨dq, osq⟩, hw''⟩ := hw'; subst hw''
  have HE := Lib.hid (below_two HB.out (below_regrown W1 dq osq))
  go_wp2
  go_ret
  exact ⟨ret_u64 (by simp only [phi_psi]; rfl), HE.out⟩
end Go.Proofs.YtlfneeobnihocaaGreatDoor
