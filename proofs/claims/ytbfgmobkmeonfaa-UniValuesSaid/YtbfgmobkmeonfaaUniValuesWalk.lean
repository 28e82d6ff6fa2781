/- The walk of the law UniValues: it returns true, whatever is handed in. -/
import Derived.Test.YtbfgmobkmeonfaaCoefs
import Derived.Test.YtbfgmobkmeonfaaClone
import Derived.Test.YtbfgmobkmeonfaaLag2
import Derived.StillTailTactics
namespace Go.Proofs.Ytbfgmobkmeonfaa
open Go.RowKit Tally
theorem NewU.lit3 (w : World) (x y z : Int) (hx : U64 x) (hy : U64 y) (hz : U64 z) : NewU w.heap.size (w.alloc (.cells #[.int .u64 x, .int .u64 y, .int .u64 z] 28)) (.slice (some ⟨w.heap.size, 0, none⟩) 3 3) [x, y, z] :=
  ⟨by simpa using ⟨hx, hy, hz⟩, by simp, World.ownsRow_lit w #[.int .u64 x, .int .u64 y, .int .u64 z] 3 (Nat.le_refl _) (by unfold maxLen; omega) rfl⟩
theorem ten : psi (lag ([1, 2, 5].map phi) (phi 3)) = 10 := by
  have e : ([1, 2, 5] : List Int).map phi = [1, 2, 5] := by decide
  have e3 : phi 3 = 3 := by decide
  rw [e, e3, lag_125]; decide
theorem lag_val (a : List Int) (k : Nat) (hk : k < a.length) (h8 : a.length ≤ 8) : psi (lag (a.map phi) (phi k)) = psi (phi (at0 a k)) := by
  rw [lag_at _ (by simp; omega) k (by simpa using hk), atF_map a k hk]
theorem vals_step (a b L : List Int) (j : Nat) (hj : j < L.length) (h : ∀ q, q < j → at0 L q = psi (phi (at0 a q) + phi (at0 b q))) : ∀ q, q < j + 1 → at0 (L.set j (psi (phi (at0 a j) + phi (at0 b j)))) q = psi (phi (at0 a q) + phi (at0 b q)) := by
  intro q hq
  by_cases e : q = j
  · subst e; rw [at0_set_self _ _ _ hj]
  · rw [at0_set_ne _ _ _ _ (by omega)]; exact h q (by omega)
theorem add_val (a b L : List Int) (x : Int) (hab : a.length = b.length) (h8 : a.length ≤ 8) (hl : L.length = a.length) (h : ∀ q, q < a.length → at0 L q = psi (phi (at0 a q) + phi (at0 b q))) :
    psi (lag (L.map phi) (phi x)) = psi (phi (psi (lag (a.map phi) (phi x))) + phi (psi (lag (b.map phi) (phi x)))) := by
  rw [phi_psi, phi_psi]
  congr 1
  refine lag_add (a.map phi) (b.map phi) (by simpa using hab) (by simp; omega) (L.map phi) (by simpa using hl) (fun i hi => ?_) _
  rw [List.length_map] at hi
  rw [atF_map L i (by omega), atF_map a i hi, atF_map b i (by omega), h i hi, phi_psi]
theorem more_val (a : List Int) (x : Int) (h8 : a.length ≤ 8) : psi (lag ((a ++ [psi (lag (a.map phi) (phi a.length))]).map phi) (phi x)) = psi (lag (a.map phi) (phi x)) := by
  have e : (a ++ [psi (lag (a.map phi) (phi a.length))]).map phi = a.map phi ++ [lag (a.map phi) (phi (a.map phi).length)] := by
    rw [List.map_append, List.map_cons, List.map_nil, phi_psi, List.length_map]
  rw [e, lag_more _ (by simp; omega)]
theorem at125 (w : World) (v : Value) (h : RowU w v [1, 2, 5]) : Calls Try.prog 36 #[v, .int .u64 3] w fun e w' => e = .returned (.tuple #[.int .u64 10, .int .i64 0]) ∧ Below w.heap.size w w' := by
  have := uni_At _ _ 3 _ h (by simp) (by simp) (U64.mk (by decide) (by decide))
  rwa [ten] at this
set_option maxRecDepth 100000 in
set_option maxHeartbeats 2000000 in
theorem uniValues_walk (w : World) (v : Value) (a : List Int) (hp : RowU w v a) (v2 : Value) (b : List Int) (hp2 : RowU w v2 b) (x : Int) (hx : U64 x) :
    Calls Try.prog 11 #[v, v2, .int .u64 x] w fun e w' => e = .returned (.bool true) ∧ Below w.heap.size w w' := by
  have Hp := Lib.hid hp
  have Hp2 := Lib.hid hp2
  have hat := Lib.hid (fun j => @RowU.at _ _ _ hp j)
  have hat2 := Lib.hid (fun j => @RowU.at _ _ _ hp2 j)
  obtain ⟨_, h2, ad, cap, rfl, hr⟩ := hp
  obtain ⟨_, h22, ad2, cap2, rfl, hr2⟩ := hp2
  have Hr := Lib.hid hr
  have Hr2 := Lib.hid hr2
  have H3 := Lib.hid (NewU.lit3 w 1 2 5 U64.one (U64.mk (by decide) (by decide)) (U64.mk (by decide) (by decide))).row
  clear hr hr2
  go_enter Try.func11, Try.ntmps11
  go_wp2_with (fail)
  refine (at125 _ _ H3.out).mono ?_
  rintro e w1 ⟨rfl, hb1⟩
  have hb01 : Below w.heap.size w w1 := ((Below.refl _ _).alloc (Nat.le_refl _) _).trans (hb1.mono (by simp))
  have Hp1 := Lib.hid (Hp.out.below hb01 (Nat.le_refl _))
  by_cases h1 : a.length < 1 ∨ 8 < a.length
  · have hno := Lib.hid h1
    clear h1
    go_wp2_with (first
        | (go_at_call 36; (with_reducible refine (uni_At_no _ _ _ _ Hp1.out hno.out).mono ?_); rintro e w' ⟨rfl, rfl⟩)
        | (go_at_call 38; (with_reducible refine (uni_Check_no _ _ _ Hp1.out hno.out).mono ?_); rintro e w' ⟨rfl, rfl⟩))
    go_ret
    exact ⟨rfl, hb01⟩
  · have h1' : 1 ≤ a.length := by omega
    have h8' : a.length ≤ 8 := by omega
    clear h1
    go_wp2_with (first
        | (go_at_call 38; (with_reducible refine (uni_Check _ _ _ Hp1.out h1' h8').mono ?_); rintro e w' ⟨rfl, rfl⟩))
    go_loopw [50] (fun i wr => ∃ (k : Nat), k ≤ a.length ∧ i = .int .i64 (k : Int) ∧ Below w.heap.size w wr) (fun i _ => a.length - (intOf i).toNat)
    case atStart => exact ⟨0, by omega, rfl, hb01⟩
    case round =>
      obtain ⟨k, hk, rfl, hbr⟩ := hrel
      have Hpr := Lib.hid (Hp.out.below hbr (Nat.le_refl _))
      by_cases hz : k < a.length
      · obtain ⟨bl, off, rfl, hblt, hcell⟩ := Hr.out (by omega)
        have hcj := hcell k hz
        have hu := hat.out k hz
        have uk : U64 (k : Int) := ⟨by omega, by omega⟩
        have he := Lib.hid (lag_val a k hz h8')
        clear hcell
        go_wp2_with (fail)
        refine (uni_At _ _ _ _ Hpr.out h1' h8' uk).mono ?_
        rintro e w2 ⟨rfl, hb2⟩
        have hb02 := hbr.trans (hb2.mono hbr.size)
        have hcj2 := (hb02.cell (p := ⟨bl, off + k, none⟩) hblt).trans hcj
        rw [he.out]
        clear hcj
        go_wp2_with (first | (go_at_call 19; (with_reducible refine (field_Norm _ _ (by first | assumption | exact U64.psi _ | exact U64.zero | exact U64.one | exact U64.mk (by decide) (by decide))).mono ?_); rintro e w' ⟨rfl, rfl⟩))
        go_roundw
        case rel => exact ⟨k + 1, by omega, by go_num, hb02⟩
        case measure => simp [intOf]; omega
      · obtain rfl : k = a.length := by omega
        go_wp2_with (fail)
        refine (uni_At _ _ _ _ Hpr.out h1' h8' hx).mono ?_
        rintro e w2 ⟨rfl, hb2⟩
        have hb02 := hbr.trans (hb2.mono hbr.size)
        have Hp2a := Lib.hid (Hp.out.below hb02 (Nat.le_refl _))
        have Hp2b := Lib.hid (Hp2.out.below hb02 (Nat.le_refl _))
        by_cases hab : a.length = b.length
        · have hq : ((a.length : Int) == (b.length : Int)) = true := by simp [hab]
          have Hab := Lib.hid hab
          clear hab
          go_wp2_with (at_make; refine wpList_makeU _ rfl _ _ rfl _ _ a.length rfl rfl rfl rfl (by omega) ?_; intro w3 hn3 hb3)
          have hb03 := hb02.trans (hb3.mono hb02.size)
          go_loopw [88] (fun i wr => ∃ (j : Nat) (L : List Int), j ≤ a.length ∧ i = .int .i64 (j : Int) ∧ NewU w2.heap.size wr (.slice (some ⟨w2.heap.size, 0, none⟩) a.length a.length) L ∧ Below w.heap.size w wr ∧ Hid (∀ q, q < j → at0 L q = psi (phi (at0 a q) + phi (at0 b q)))) (fun i _ => a.length - (intOf i).toNat)
          case atStart => exact ⟨0, _, by omega, rfl, hn3, hb03, fun q hq => absurd hq (by omega)⟩
          case round =>
            obtain ⟨j, L, hj, rfl, hL, hbs, HQ⟩ := hrel
            by_cases hzj : j < a.length
            · obtain ⟨bl, off, rfl, hblt, hcell⟩ := Hr.out (by omega)
              obtain ⟨bl2, off2, rfl, hblt2, hcell2⟩ := Hr2.out (by have := Hab.out; omega)
              have hjb : j < b.length := by have := Hab.out; omega
              have hcj := (hbs.cell (p := ⟨bl, off + j, none⟩) hblt).trans (hcell j hzj)
              have hcj2 := (hbs.cell (p := ⟨bl2, off2 + j, none⟩) hblt2).trans (hcell2 j hjb)
              have hu := hat.out j hzj
              have hu2 := hat2.out j hjb
              have ho := hL.cellAt j (by have := hL.lenEq; omega)
              have hf := hL.freeAt j
              have hja : (j : Int) < (a.length : Int) := by omega
              have hjb' : (j : Int) < (b.length : Int) := by omega
              have HL := Lib.hid hL
              clear hL hcell hcell2
              go_wp2
              refine wp_region_still_tail 12 (by kernel_rfl) (by kernel_rfl) ?_
              simp only [List.take_succ_cons, List.take_zero, List.drop_succ_cons, List.drop_zero]
              repeat (first | still_step | still_call (still_of (field_Add _ _ _ hu hu2)))
              try refine wpStill_nil ?_
              change wpList _ _ _ _ _ (World.drew _)
              go_wp2
              go_roundw
              case rel => exact ⟨j + 1, _, by omega, by go_num, (HL.out.set j _ (U64.psi _)).drewN 1, below_drewN (hbs.setCell (by exact hb02.size) _) 1, vals_step a b L j (by have := HL.out.lenEq; omega) HQ.out⟩
              case measure => simp [intOf]; omega
            · obtain rfl : j = a.length := by omega
              have Hpz := Lib.hid (Hp2.out.below hbs (Nat.le_refl _))
              have hbl : 1 ≤ b.length ∧ b.length ≤ 8 := by have := Hab.out; omega
              have Hll := Lib.hid hL.lenEq.symm
              go_wp2_with (fail)
              refine (uni_At _ _ _ _ Hpz.out hbl.1 hbl.2 hx).mono ?_
              rintro e w4 ⟨rfl, hb4⟩
              have hL4 := Lib.hid (hL.below hb4 (Nat.le_refl _)).row
              have hb04 := hbs.trans (hb4.mono hbs.size)
              have HA := Lib.hid (add_val a b L x Hab.out h8' Hll.out HQ.out)
              clear hL
              go_wp2_with (fail)
              refine (uni_At _ _ _ _ hL4.out (by have := Hll.out; omega) (by have := Hll.out; omega) hx).mono ?_
              rintro e w5 ⟨rfl, hb5⟩
              have hb05 := hb04.trans (hb5.mono hb04.size)
              rw [HA.out]
              by_cases h88 : (a.length : Int) = 8
              · have h88' : ((a.length : Int) == 8) = true := by simp [h88]
                have H88 := Lib.hid h88
                clear h88
                go_wp2_with (first | (go_at_call 20; (with_reducible refine (field_Add _ _ _ (by first | assumption | exact U64.psi _ | exact U64.zero | exact U64.one | exact U64.mk (by decide) (by decide)) (by first | assumption | exact U64.psi _ | exact U64.zero | exact U64.one | exact U64.mk (by decide) (by decide))).mono ?_); rintro e w' ⟨rfl, rfl⟩))
                go_ret
                exact ⟨rfl, hb05⟩
              · have h88' : ((a.length : Int) == 8) = false := by simp [h88]
                have Hpt := Lib.hid (Hp.out.below hb05 (Nat.le_refl _))
                have un : U64 (a.length : Int) := ⟨by omega, by omega⟩
                go_wp2_with (first | (go_at_call 20; (with_reducible refine (field_Add _ _ _ (by first | assumption | exact U64.psi _ | exact U64.zero | exact U64.one | exact U64.mk (by decide) (by decide)) (by first | assumption | exact U64.psi _ | exact U64.zero | exact U64.one | exact U64.mk (by decide) (by decide))).mono ?_); rintro e w' ⟨rfl, rfl⟩))
                refine (uni_At _ _ _ _ Hpt.out h1' h8' un).mono ?_
                rintro e w7 ⟨rfl, hb7⟩
                have hb07 := (hb05).trans (hb7.mono (hb05).size)
                have Hp7 := Lib.hid (Hp.out.below hb07 (Nat.le_refl _))
                go_wp2_with (fail)
                refine (clone_U _ _ _ Hp7.out h1' (by omega)).mono ?_
                rintro e w8 ⟨v8, rfl, hn8, hb8⟩
                have hb08 := hb07.trans (hb8.mono hb07.size)
                go_wp2_with (at_builtin; refine wpList_appU rfl _ _ rfl w7.heap.size _ _ rfl hn8 _ rfl (U64.psi _) (by omega) hb8.size ?_; intro v9 w9 hn9 hb9)
                have hb09 := hb08.trans (hb9.mono hb07.size)
                have HM := Lib.hid (more_val a x h8')
                go_wp2_with (fail)
                refine (uni_At _ _ _ _ hn9.row (by simp) (by simp; omega) hx).mono ?_
                rintro e w10 ⟨rfl, hb10⟩
                rw [HM.out]
                go_wp2
                go_ret
                exact ⟨rfl, hb09.trans (hb10.mono hb09.size)⟩
        · have hq : ((a.length : Int) == (b.length : Int)) = false := by simp; omega
          have Hab := Lib.hid hab
          clear hab
          by_cases h88 : (a.length : Int) = 8
          · have h88' : ((a.length : Int) == 8) = true := by simp [h88]
            have H88 := Lib.hid h88
            clear h88
            go_wp2_with (first | (go_at_call 20; (with_reducible refine (field_Add _ _ _ (by first | assumption | exact U64.psi _ | exact U64.zero | exact U64.one | exact U64.mk (by decide) (by decide)) (by first | assumption | exact U64.psi _ | exact U64.zero | exact U64.one | exact U64.mk (by decide) (by decide))).mono ?_); rintro e w' ⟨rfl, rfl⟩))
            go_ret
            exact ⟨rfl, hb02⟩
          · have h88' : ((a.length : Int) == 8) = false := by simp [h88]
            have Hpt := Lib.hid (Hp.out.below hb02 (Nat.le_refl _))
            have un : U64 (a.length : Int) := ⟨by omega, by omega⟩
            go_wp2_with (first | (go_at_call 20; (with_reducible refine (field_Add _ _ _ (by first | assumption | exact U64.psi _ | exact U64.zero | exact U64.one | exact U64.mk (by decide) (by decide)) (by first | assumption | exact U64.psi _ | exact U64.zero | exact U64.one | exact U64.mk (by decide) (by decide))).mono ?_); rintro e w' ⟨rfl, rfl⟩))
            refine (uni_At _ _ _ _ Hpt.out h1' h8' un).mono ?_
            rintro e w7 ⟨rfl, hb7⟩
            have hb07 := (hb02).trans (hb7.mono (hb02).size)
            have Hp7 := Lib.hid (Hp.out.below hb07 (Nat.le_refl _))
            go_wp2_with (fail)
            refine (clone_U _ _ _ Hp7.out h1' (by omega)).mono ?_
            rintro e w8 ⟨v8, rfl, hn8, hb8⟩
            have hb08 := hb07.trans (hb8.mono hb07.size)
            go_wp2_with (at_builtin; refine wpList_appU rfl _ _ rfl w7.heap.size _ _ rfl hn8 _ rfl (U64.psi _) (by omega) hb8.size ?_; intro v9 w9 hn9 hb9)
            have hb09 := hb08.trans (hb9.mono hb07.size)
            have HM := Lib.hid (more_val a x h8')
            go_wp2_with (fail)
            refine (uni_At _ _ _ _ hn9.row (by simp) (by simp; omega) hx).mono ?_
            rintro e w10 ⟨rfl, hb10⟩
            rw [HM.out]
            go_wp2
            go_ret
            exact ⟨rfl, hb09.trans (hb10.mono hb09.size)⟩
end Go.Proofs.Ytbfgmobkmeonfaa
