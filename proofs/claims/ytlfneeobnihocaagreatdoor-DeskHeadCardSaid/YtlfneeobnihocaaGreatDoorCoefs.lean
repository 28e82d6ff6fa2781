/- The walks of package uni: NEWTON's coefficients, and the value at a place. The list is a slice of 1 to 8 numbers. -/
import Derived.Test.YtlfneeobnihocaaGreatDoorUni
import Derived.StillTailTactics
namespace Go.Proofs.YtlfneeobnihocaaGreatDoor
set_option maxRecDepth 100000
set_option linter.unusedVariables false
open Go.RowKit Tally
set_option maxHeartbeats 400000 in
theorem uni_Check (a : List Int) (v : Value) (w : World) (hp : RowU w v a) (h1 : 1 ≤ a.length) (h8 : a.length ≤ 8) :
    Calls Tryz.prog 176 #[v] w fun e w' => e = .returned (.int .i64 0) ∧ w = w' := by
  obtain ⟨_, h2, ad, cap, rfl, hr⟩ := hp
  clear hr
  go_enter Tryz.func176, Tryz.ntmps176
  go_wp2
  go_ret
  exact ⟨rfl, rfl⟩
set_option maxHeartbeats 400000 in
theorem uni_Check_no (a : List Int) (v : Value) (w : World) (hp : RowU w v a) (h : a.length < 1 ∨ 8 < a.length) :
    Calls Tryz.prog 176 #[v] w fun e w' => e = .returned (.int .i64 4) ∧ w = w' := by
  obtain ⟨_, h2, ad, cap, rfl, hr⟩ := hp
  clear hr
  rcases h with h | h
  · go_enter Tryz.func176, Tryz.ntmps176
    go_wp2
    go_ret
    exact ⟨rfl, rfl⟩
  · go_enter Tryz.func176, Tryz.ntmps176
    go_wp2
    go_ret
    exact ⟨rfl, rfl⟩
/-- where NEWTON stands at round i -/
def CInv (a : List Int) (i : Nat) (O B : List Int) : Prop :=
  (∀ y, horTo (fun k => phi (at0 B k)) (a.length + 1) y = prodTo i y) ∧ (∀ k, i < k → k ≤ a.length → phi (at0 B k) = 0) ∧ (∀ j : Nat, j < i → horTo (fun k => phi (at0 O k)) a.length (phi j) = phi (at0 a j)) ∧ O.length = a.length ∧ B.length = a.length + 1
theorem hor_fn (l : List Int) (x : F) : hor (l.map phi) x = horTo (fun k => phi (at0 l k)) l.length x := by
  rw [hor_horTo, List.length_map]
  exact horTo_congr _ _ _ _ fun k hk => atF_map l k hk
theorem cinv_start (a : List Int) : CInv a 0 (List.replicate a.length 0) ((List.replicate (a.length + 1) 0).set 0 1) := by
  refine ⟨fun y => ?_, fun k hk hk2 => ?_, fun j hj => by omega, by simp, by simp⟩
  · rw [horTo_tail _ 1 _ _ (by omega)]
    · simp only [horTo, prodTo, pow_zero', at0]; rw [List.getElem?_set_self (by simp)]; simp only [Option.getD_some, phi_one]; exact (by decide : (0 : F) + 1 * 1 = 1)
    · intro k h1 h2
      simp only [at0]; rw [List.getElem?_set_ne (by omega), List.getElem?_replicate]
      split <;> simp [phi_zero]
  · simp only [at0]; rw [List.getElem?_set_ne (by omega), List.getElem?_replicate]
    split <;> simp [phi_zero]
theorem cinv_ne (a : List Int) {k : Nat} {O B : List Int} (h : CInv a k O B) (hk : k < a.length) (h8 : a.length ≤ 8) : phi (psi (hor (B.map phi) (phi k))) ≠ 0 := by
  rw [phi_psi, hor_fn, h.2.2.2.2, h.1]
  exact prodTo_ne k k (Nat.le_refl _) (by omega)
theorem cinv_end (a : List Int) {O B : List Int} (hl : a.length = O.length) (h : CInv a a.length O B) : ∀ i : Nat, i < a.length → hor (O.map phi) (phi i) = phi (at0 a i) := by
  intro i hi
  rw [hor_fn, ← hl]; exact h.2.2.1 i hi
def OStep (O B : List Int) (c : Int) (j : Nat) (O1 : List Int) : Prop :=
  O1.length = O.length ∧ (∀ q, q < j → phi (at0 O1 q) = phi (at0 O q) + phi c * phi (at0 B q)) ∧ (∀ q, j ≤ q → at0 O1 q = at0 O q)
theorem ostep_start (O B : List Int) (c : Int) : OStep O B c 0 O := ⟨rfl, fun q hq => by omega, fun q _ => rfl⟩
theorem ostep_step (O B : List Int) (c : Int) (j : Nat) (O1 : List Int) (hj : j < O1.length) (h : OStep O B c j O1) : OStep O B c (j + 1) (O1.set j (psi (phi (at0 O1 j) + phi (psi (phi c * phi (at0 B j)))))) := by
  obtain ⟨h1, h2, h3⟩ := h
  refine ⟨by rw [List.length_set]; exact h1, fun q hq => ?_, fun q hq => ?_⟩
  · by_cases e : q = j
    · subst e
      rw [at0_set_self _ _ _ hj, phi_psi, phi_psi, h3 q (Nat.le_refl _)]
    · rw [at0_set_ne _ _ _ _ (by omega)]; exact h2 q (by omega)
  · rw [at0_set_ne _ _ _ _ (by omega)]; exact h3 q (by omega)
def BStep (B : List Int) (x : Int) (j : Nat) (B1 : List Int) : Prop :=
  B1.length = B.length ∧ (∀ q, j ≤ q → q < B.length → phi (at0 B1 q) = phi (at0 B q) * (0 - phi x) + (if q = 0 then 0 else phi (at0 B (q - 1)))) ∧ (∀ q, q < j → at0 B1 q = at0 B q)
theorem bstep_start (B : List Int) (x : Int) (j : Nat) (hj : B.length ≤ j) : BStep B x j B := ⟨rfl, fun q h1 h2 => by omega, fun q _ => rfl⟩
theorem bstep_step (B : List Int) (x : Int) (j : Nat) (B1 : List Int) (h0 : 0 < j) (hj : j - 1 < B1.length) (h : BStep B x j B1) {v : Int} (hv : phi v = phi (at0 B1 (j - 1)) * (0 - phi x) + (if j - 1 = 0 then 0 else phi (at0 B1 (j - 1 - 1)))) : BStep B x (j - 1) (B1.set (j - 1) v) := by
  obtain ⟨h1, h2, h3⟩ := h
  refine ⟨by rw [List.length_set]; exact h1, fun q hq hq2 => ?_, fun q hq => ?_⟩
  · by_cases e : q = j - 1
    · subst e
      rw [at0_set_self _ _ _ hj, hv, h3 (j - 1) (by omega)]
      by_cases e2 : j - 1 = 0
      · rw [if_pos e2, if_pos e2]
      · rw [if_neg e2, if_neg e2, h3 (j - 1 - 1) (by omega)]
    · rw [at0_set_ne _ _ _ _ (by omega)]; exact h2 q (by omega) hq2
  · rw [at0_set_ne _ _ _ _ (by omega)]; exact h3 q (by omega)
theorem bstep_step' (B : List Int) (x m : Int) (B1 : List Int) (h0 : 0 ≤ m) (hj : m.toNat < B1.length) (h : BStep B x (m + 1).toNat B1) {v : Int} (hv : phi v = phi (at0 B1 m.toNat) * (0 - phi x) + (if m = 0 then 0 else phi (at0 B1 (m - 1).toNat))) : BStep B x (m - 1 + 1).toNat (B1.set m.toNat v) := by
  have e1 : (m + 1).toNat - 1 = m.toNat := by omega
  have e2 : (m - 1 + 1).toNat = (m + 1).toNat - 1 := by omega
  have e3 : m.toNat - 1 = (m - 1).toNat := by omega
  have := bstep_step B x (m + 1).toNat B1 (by omega) (by omega) h (v := v) (by
    rw [e1, hv, e3]; congr 1
    by_cases hm : m = 0
    · rw [if_pos hm, if_pos (by omega)]
    · rw [if_neg hm, if_neg (by omega)])
  rw [e2]; rw [e1] at this ⊢; exact this
theorem bstep_pos (B : List Int) (x : Int) (j : Nat) (B1 : List Int) (hj : j + 1 < B1.length) (h : BStep B x ((j : Int) + 1 + 1).toNat B1) :
    BStep B x ((j : Int) + 1).toNat (B1.set (j + 1) (psi (phi (psi (phi (at0 B1 (j + 1)) * phi (psi (phi 0 - phi x)))) + phi (at0 B1 j)))) := by
  have e1 : ((j : Int) + 1 + 1).toNat = j + 2 := by omega
  have e2 : ((j : Int) + 1).toNat = j + 1 := by omega
  rw [e1] at h; rw [e2]
  refine bstep_step B x (j + 2) B1 (by omega) hj h ?_
  rw [phi_psi, phi_psi, phi_psi, phi_zero, if_neg (by omega)]; rfl
theorem cinv_step (a : List Int) {k : Nat} {O B O1 B1 : List Int} {c : Int} (hk : k < a.length) (h8 : a.length ≤ 8) (h : CInv a k O B)
    (hc : phi c = (phi (at0 a k) - hor (O.map phi) (phi k)) * inv (hor (B.map phi) (phi k))) (hS : OStep O B c a.length O1) (hT : BStep B (k : Int) 0 B1) : CInv a (k + 1) O1 B1 := by
  obtain ⟨i1, i2, i3, i4, i5⟩ := h
  obtain ⟨s1, s2, _⟩ := hS
  obtain ⟨t1, t2, _⟩ := hT
  have hBn : horTo (fun q => phi (at0 B q)) a.length = fun y => prodTo k y := by
    funext y
    rw [← i1 y, horTo_tail _ a.length (a.length + 1) y (by omega)]
    intro q h1 h2; exact i2 q (by omega) (by omega)
  refine ⟨fun y => ?_, fun q hq hq2 => ?_, fun j hj => ?_, by omega, by omega⟩
  · rw [horTo_congr _ (fun q => phi (at0 B q) * (0 - phi k) + (if q = 0 then 0 else phi (at0 B (q - 1)))) _ _ (fun q hq => t2 q (by omega) (by omega))]
    rw [horTo_shift (fun q => phi (at0 B q)) (phi k) a.length y (i2 a.length (by omega) (by omega)), i1 y, prodTo]
    grind
  · rw [t2 q (by omega) (by omega), if_neg (by omega), i2 q (by omega) (by omega), i2 (q - 1) (by omega) (by omega)]
    rw [zero_mul', add_zero']
  · rw [horTo_congr _ (fun q => phi (at0 O q) + phi c * phi (at0 B q)) _ _ (fun q hq => s2 q hq)]
    rw [horTo_lin, hBn]
    by_cases e : j = k
    · subst e
      rw [hc, hor_fn, hor_fn, i4, i5, i1]
      have := mul_inv _ (prodTo_ne j j (Nat.le_refl _) (by omega))
      have e3 : (fun y => prodTo j y) (phi j) = prodTo j (phi j) := rfl
      rw [e3]
      generalize prodTo j (phi j) = p at *; generalize inv p = q at *; generalize phi (at0 a j) = u
      generalize horTo (fun k => phi (at0 O k)) a.length (phi j) = t
      have e2 : (u - t) * q * p = (u - t) * (p * q) := by grind
      rw [e2, this]; grind
    · show _ + phi c * prodTo k (phi j) = _
      rw [i3 j (by omega), prodTo_zero k j (by omega), mul_zero', add_zero']
set_option maxRecDepth 100000 in
set_option maxHeartbeats 1000000 in
theorem uni_Coefs (a : List Int) (v : Value) (w : World) (hp : RowU w v a) (h1 : 1 ≤ a.length) (h8 : a.length ≤ 8) :
    Calls Tryz.prog 172 #[v] w fun e w' => ∃ v' l, e = .returned (.tuple #[v', .int .i64 0]) ∧ NewU w.heap.size w' v' l ∧ l.length = a.length ∧ (∀ i : Nat, i < a.length → hor (l.map phi) (phi i) = phi (at0 a i)) ∧ Below w.heap.size w w' := by
  have Hp := Lib.hid hp
  have hat := Lib.hid (fun j => @RowU.at _ _ _ hp j)
  obtain ⟨_, h2, ad, cap, rfl, hr⟩ := hp
  have Hr := Lib.hid hr
  clear hr
  have tok1 : True := trivial
  have tok2 : True := trivial
  go_enter Tryz.func172, Tryz.ntmps172
  go_wp2_with (first
    | (go_at_call 176; (with_reducible refine (uni_Check _ _ _ Hp.out h1 h8).mono ?_); rintro e w' ⟨rfl, rfl⟩)
    | (at_make; have _t := tok1; refine wpList_makeU _ rfl _ _ rfl _ _ a.length rfl rfl rfl rfl (by omega) ?_; intro w1 hn1 hb1; clear tok1 _t)
    | (at_make; have _t := tok2; refine wpList_makeU _ rfl _ _ rfl _ _ (a.length + 1) rfl rfl (by omega) (by omega) (by omega) ?_; intro w2 hn2 hb2; have hc2 := hn2.cellAt 0 (by simp); have hf2 := hn2.freeAt 0; clear tok2 _t))
  have hB0 := hn2.set 0 1 U64.one
  have hO0 := (hn1.below hb2 (Nat.le_refl _)).other (g' := w1.heap.size) 0 (.int .u64 1) (by have := hn1.blk; omega)
  have hlt1 := hn1.blk.2
  have hbw : Below w.heap.size w (w2.setCell ⟨w1.heap.size, 0, none⟩ (.int .u64 1)) := (hb1.trans (hb2.mono hb1.size)).setCell (by exact hb1.size) _
  clear hc2 hf2
  go_loopw [31] (fun i wr => ∃ (k : Nat) (O Bs : List Int), k ≤ a.length ∧ i = .int .i64 (k : Int) ∧ NewU w.heap.size wr (.slice (some ⟨w.heap.size, 0, none⟩) a.length a.length) O ∧ NewU w1.heap.size wr (.slice (some ⟨w1.heap.size, 0, none⟩) (a.length + 1) (a.length + 1)) Bs ∧ Below w.heap.size w wr ∧ Hid (CInv a k O Bs)) (fun i _ => a.length - (intOf i).toNat)
  case atStart => exact ⟨0, _, _, by omega, rfl, hO0, hB0, hbw, cinv_start a⟩
  case round =>
    obtain ⟨k, O, Bs, hk, rfl, hO, hB, hbr, HI⟩ := hrel
    by_cases hz : k < a.length
    · obtain ⟨b, off, rfl, hblt, hcell⟩ := Hr.out (by omega)
      have hcj := (hbr.cell (p := ⟨b, off + k, none⟩) hblt).trans (hcell k hz)
      have hu := hat.out k hz
      have uk : U64 (k : Int) := ⟨by omega, by omega⟩
      have HO := Lib.hid hO
      have HB := Lib.hid hB
      clear hcell hO hB
      go_wp2_with (fail)
      refine (uni_eval _ _ _ _ HB.out.row uk).mono ?_
      rintro e wa ⟨rfl, hda⟩
      have Hne := Lib.hid (cinv_ne a HI.out hz h8)
      have HOa := Lib.hid (HO.out.below hda.below (Nat.le_refl _))
      have hcj' := (hda.below.cell (p := ⟨b, off + k, none⟩) (by have := hbr.size; show b < _; omega)).trans hcj
      have hba := hbr.trans (hda.below.mono hbr.size)
      go_wp2_with (go_at_call 72; (with_reducible refine (field_Inv _ _ (U64.psi _) Hne.out).mono ?_); rintro e w' ⟨rfl, rfl⟩)
      go_quiet (first | (go_at_call 173; exact flipD (uni_eval _ _ _ _ (RowU.drewN HOa.out.row _) uk)) | (go_at_call 111; exact flip (field_Sub _ _ _ hu (U64.psi _))) | (go_at_call 112; exact flip (field_Mul _ _ _ (U64.psi _) (U64.psi _))))
      go_wp2
      have HOw := Lib.hid (HOa.out.below (below_drewN (Below.refl wa.heap.size wa) nq) (Nat.le_refl _))
      have HBw := Lib.hid ((HB.out.below hda.below (Nat.le_refl _)).below (below_drewN (Below.refl wa.heap.size wa) nq) (Nat.le_refl _))
      have hbw2 := below_drewN hba nq
      clear HOa HO HB hcj hcj' hda hba
      generalize wa.drewN nq = W at *
      have Hc : Hid (phi (psi (phi (psi (phi (at0 a k) - phi (psi (hor (O.map phi) (phi k))))) * phi (psi (inv (phi (psi (hor (Bs.map phi) (phi k)))))))) = (phi (at0 a k) - hor (O.map phi) (phi k)) * inv (hor (Bs.map phi) (phi k))) := by
        show _ = _
        rw [phi_psi, phi_psi, phi_psi, phi_psi, phi_psi]
      have uc : U64 (psi (phi (psi (phi (at0 a k) - phi (psi (hor (O.map phi) (phi k))))) * phi (psi (inv (phi (psi (hor (Bs.map phi) (phi k)))))))) := U64.psi _
      generalize psi (phi (psi (phi (at0 a k) - phi (psi (hor (O.map phi) (phi k))))) * phi (psi (inv (phi (psi (hor (Bs.map phi) (phi k))))))) = c at *
      go_wp2
      go_loopw [55] (fun i wr => ∃ (j : Nat) (O1 : List Int), j ≤ a.length ∧ i = .int .i64 (j : Int) ∧ NewU w.heap.size wr (.slice (some ⟨w.heap.size, 0, none⟩) a.length a.length) O1 ∧ NewU w1.heap.size wr (.slice (some ⟨w1.heap.size, 0, none⟩) (a.length + 1) (a.length + 1)) Bs ∧ Below w.heap.size w wr ∧ Hid (OStep O Bs c j O1)) (fun i _ => a.length - (intOf i).toNat)
      case atStart => exact ⟨0, O, by omega, rfl, HOw.out, HBw.out, hbw2, ostep_start O Bs c⟩
      case round =>
        obtain ⟨j, O1, hj, rfl, hO1, hB1, hbr1, HS⟩ := hrel
        by_cases hzj : j < a.length
        · have ho := hO1.cellAt j (by have := hO1.lenEq; omega)
          have hf := hO1.freeAt j
          have hbj := hB1.cellAt j (by have := hB1.lenEq; omega)
          have huo : U64 (at0 O1 j) := hO1.1 _ (at0_mem (by have := hO1.lenEq; omega))
          have hub : U64 (at0 Bs j) := hB1.1 _ (at0_mem (by have := hB1.lenEq; omega))
          have hjb : (j : Int) < (a.length : Int) + 1 := by omega
          have hjb0 : (j : Int) < (a.length : Int) := by omega
          have HO1 := Lib.hid hO1
          have HB1 := Lib.hid hB1
          clear hO1 hB1
          go_wp2
          refine wp_region_still_tail 14 (by kernel_rfl) (by kernel_rfl) ?_
          simp only [List.take_succ_cons, List.take_zero, List.drop_succ_cons, List.drop_zero]
          repeat (first | still_step | still_call (still_of (field_Mul _ _ _ uc hub)) | still_call (still_of (field_Add _ _ _ huo (U64.psi _))))
          try refine wpStill_nil ?_
          change wpList _ _ _ _ _ (World.drew _)
          go_wp2
          go_roundw
          case rel => exact ⟨j + 1, _, by omega, by go_num, (HO1.out.set j _ (U64.psi _)).drewN 1, (HB1.out.other j _ (by omega)).drewN 1, below_drewN (hbr1.setCell (by exact Nat.le_refl _) _) 1, ostep_step O Bs c j O1 (by have := HO1.out.lenEq; omega) HS.out⟩
          case measure => simp [intOf]; omega
        · obtain rfl : j = a.length := by omega
          go_wp2
          have Hlen1 : O1.length = a.length := by have := hO1.lenEq; omega
          have HlenB : Bs.length = a.length + 1 := by have := hB1.lenEq; omega
          have Hl := Lib.hid (And.intro Hlen1 HlenB)
          clear Hlen1 HlenB
          go_loopw [13] (fun i wr => ∃ (m : Int) (B2 : List Int), -1 ≤ m ∧ m ≤ (a.length : Int) ∧ i = .int .i64 m ∧ NewU w.heap.size wr (.slice (some ⟨w.heap.size, 0, none⟩) a.length a.length) O1 ∧ NewU w1.heap.size wr (.slice (some ⟨w1.heap.size, 0, none⟩) (a.length + 1) (a.length + 1)) B2 ∧ Below w.heap.size w wr ∧ Hid (BStep Bs (k : Int) (m + 1).toNat B2)) (fun i _ => (intOf i + 1).toNat)
          case atStart => exact ⟨a.length, Bs, by omega, by omega, rfl, hO1, hB1, hbr1, bstep_start Bs k _ (by have := Hl.out.2; omega)⟩
          case round =>
            obtain ⟨m, B2, hm0, hm1, rfl, hO2, hB2, hbr2, HT⟩ := hrel
            by_cases hmn : m < 0
            · obtain rfl : m = -1 := by omega
              go_wp2
              go_roundw
              case rel => exact ⟨k + 1, O1, B2, by omega, by go_num, hO2, hB2, hbr2, cinv_step a hz h8 HI.out Hc.out HS.out HT.out⟩
              case measure => simp [intOf]; omega
            · have hjl : m.toNat < B2.length := by have := hB2.lenEq; omega
              have hbj := hB2.cellAt m.toNat hjl
              have hf := hB2.freeAt m.toNat
              have hub : U64 (at0 B2 m.toNat) := hB2.1 _ (at0_mem hjl)
              have hmb : m < (a.length : Int) + 1 := by omega
              have hm2 : 0 ≤ m := by omega
              by_cases hm3 : 0 < m
              · clear hbj hf hub
                obtain ⟨j', rfl⟩ : ∃ j' : Nat, m = (j' : Int) + 1 := ⟨m.toNat - 1, by omega⟩
                have hjl1 : j' + 1 < B2.length := by omega
                have hbj := hB2.cellAt (j' + 1) hjl1
                have hf := hB2.freeAt (j' + 1)
                have hub : U64 (at0 B2 (j' + 1)) := hB2.1 _ (at0_mem hjl1)
                have hbj2 := hB2.cellAt j' (by omega)
                have hub2 : U64 (at0 B2 j') := hB2.1 _ (at0_mem (by omega))
                have HO2 := Lib.hid hO2
                have HB2 := Lib.hid hB2
                clear hO2 hB2
                go_wp2
                go_quiet (first | (go_at_call 111; exact flip (field_Sub _ _ _ U64.zero uk)) | (go_at_call 112; exact flip (field_Mul _ _ _ hub (U64.psi _))))
                go_wp2_with (first | (go_at_call 108; (with_reducible refine (field_Add _ _ _ (U64.psi _) hub2).mono ?_); rintro e w' ⟨rfl, rfl⟩))
                go_roundw
                case rel => exact ⟨(j' : Int), _, by omega, by omega, by go_num, (HO2.out.drewN nq).other (j' + 1) _ (by omega), (HB2.out.drewN nq).set (j' + 1) _ (U64.psi _), (below_drewN hbr2 nq).setCell (by exact hb1.size) _, bstep_pos Bs k j' B2 hjl1 HT.out⟩
                case measure => simp [intOf]; omega
              · obtain rfl : m = 0 := by omega
                clear hbj hf hub
                have hbj := hB2.cellAt 0 hjl
                have hf := hB2.freeAt 0
                have hub : U64 (at0 B2 0) := hB2.1 _ (at0_mem hjl)
                have HO2 := Lib.hid hO2
                have HB2 := Lib.hid hB2
                clear hO2 hB2
                go_wp2
                go_quiet (first | (go_at_call 111; exact flip (field_Sub _ _ _ U64.zero uk)) | (go_at_call 112; exact flip (field_Mul _ _ _ hub (U64.psi _))))
                go_wp2
                go_roundw
                case rel => exact ⟨-1, _, by omega, by omega, rfl, (HO2.out.drewN nq).other 0 _ (by omega), (HB2.out.drewN nq).set 0 _ (U64.psi _), (below_drewN hbr2 nq).setCell (by exact hb1.size) _, bstep_step' Bs k 0 B2 hm2 hjl HT.out (by rw [if_pos rfl, phi_psi, phi_psi, phi_zero, add_zero']; rfl)⟩
                case measure => simp [intOf]
    · obtain rfl : k = a.length := by omega
      go_wp2
      go_ret2
      exact ⟨_, O, rfl, hO, hO.lenEq.symm, cinv_end a hO.lenEq HI.out, hbr⟩

theorem coefs_lag (a l : List Int) (h8 : a.length ≤ 8) (hl : l.length = a.length) (h : ∀ i : Nat, i < a.length → hor (l.map phi) (phi i) = phi (at0 a i)) (x : F) : hor (l.map phi) x = lag (a.map phi) x := by
  refine hor_lag (a.map phi) (l.map phi) (by simp; omega) (by simp; omega) (fun i hi => ?_) x
  rw [List.length_map] at hi
  rw [h i hi, atF_map a i hi]
set_option maxHeartbeats 400000 in
theorem uni_At (a : List Int) (v : Value) (x : Int) (w : World) (hp : RowU w v a) (h1 : 1 ≤ a.length) (h8 : a.length ≤ 8) (hx : U64 x) :
    Calls Tryz.prog 167 #[v, .int .u64 x] w fun e w' => e = .returned (.tuple #[.int .u64 (psi (lag (a.map phi) (phi x))), .int .i64 0]) ∧ Below w.heap.size w w' := by
  have Hp := Lib.hid hp
  clear hp
  go_enter Tryz.func167, Tryz.ntmps167
  go_wp2_with (fail)
  refine (uni_Coefs _ _ _ Hp.out h1 h8).mono ?_
  rintro e w1 ⟨v1, l, rfl, hn, hl, hv, hb⟩
  have Hl := Lib.hid (coefs_lag a l h8 hl hv (phi x))
  have HR := Lib.hid hn.row
  clear hn hv hl
  go_wp2_with (go_at_call 173; (with_reducible refine (uni_eval _ _ _ _ HR.out hx).mono ?_); rintro e w2 ⟨rfl, hd⟩)
  go_ret2
  exact ⟨by rw [← Hl.out]; rfl, hb.trans (hd.below.mono hb.size)⟩
set_option maxHeartbeats 400000 in
theorem uni_Coefs_no (a : List Int) (v : Value) (w : World) (hp : RowU w v a) (h : a.length < 1 ∨ 8 < a.length) :
    Calls Tryz.prog 172 #[v] w fun e w' => e = .returned (.tuple #[.slice none 0 0, .int .i64 4]) ∧ w = w' := by
  have Hp := Lib.hid hp
  have H := Lib.hid h
  clear h hp
  go_enter Tryz.func172, Tryz.ntmps172
  go_wp2_with (go_at_call 176; (with_reducible refine (uni_Check_no _ _ _ Hp.out H.out).mono ?_); rintro e w' ⟨rfl, rfl⟩)
  go_ret2
  exact ⟨rfl, rfl⟩
set_option maxHeartbeats 400000 in
theorem uni_At_no (a : List Int) (v : Value) (x : Int) (w : World) (hp : RowU w v a) (h : a.length < 1 ∨ 8 < a.length) :
    Calls Tryz.prog 167 #[v, .int .u64 x] w fun e w' => e = .returned (.tuple #[.int .u64 0, .int .i64 4]) ∧ w = w' := by
  have Hp := Lib.hid hp
  have H := Lib.hid h
  clear h hp
  go_enter Tryz.func167, Tryz.ntmps167
  go_wp2_with (go_at_call 172; (with_reducible refine (uni_Coefs_no _ _ _ Hp.out H.out).mono ?_); rintro e w' ⟨rfl, rfl⟩)
  go_ret2
  exact ⟨rfl, rfl⟩
end Go.Proofs.YtlfneeobnihocaaGreatDoor
