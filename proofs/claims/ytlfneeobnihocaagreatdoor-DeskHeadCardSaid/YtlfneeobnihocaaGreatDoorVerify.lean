/- The walks of sum.Verify and of the reference's Told: what is claimed at last. No condition but that the arguments read as lists. -/
import Derived.Test.YtlfneeobnihocaaGreatDoorCoefs
namespace Go.Proofs.YtlfneeobnihocaaGreatDoor
set_option maxRecDepth 100000
set_option linter.unusedVariables false
open Go.RowKit Tally
/-- what is claimed behind k rounds, if they fit -/
def toldTo (c : F) (R : List (List F)) (D : List F) : Nat → Option F
  | 0 => some c
  | k + 1 => match toldTo c R D k with
    | some x => if atF (R[k]?.getD []) 0 + atF (R[k]?.getD []) 1 = x then some (lag (R[k]?.getD []) (atF D k)) else none
    | none => none
def told (c : F) (R : List (List F)) (D : List F) : Option F := toldTo c R D R.length
theorem toldTo_none {c : F} {R : List (List F)} {D : List F} {k n : Nat} (hk : k ≤ n) (h : toldTo c R D k = none) : toldTo c R D n = none := by
  induction n with
  | zero => obtain rfl : k = 0 := by omega
            exact h
  | succ n ih =>
    by_cases e : k = n + 1
    · subst e; exact h
    · simp only [toldTo]; rw [ih (by omega)]
/-- the number that is told at last, and whether all fits -/
def toldV (o : Option F) : Int := match o with | some x => psi x | none => 0
def toldB (o : Option F) : Bool := o.isSome
/-- rounds and draws as numbers of the field -/
abbrev phis (ll : List (List Int)) : List (List F) := ll.map (·.map phi)
theorem phis_at (ll : List (List Int)) (k : Nat) (h : k < ll.length) : (phis ll)[k]?.getD [] = (atl ll k).map phi := by
  simp [atl, h]
theorem told_step {c x : F} {ll : List (List Int)} {ds : List Int} {k : Nat} (h : toldTo c (phis ll) (ds.map phi) k = some x) (hk : k < ll.length) (hd : k < ds.length) (h2 : 2 ≤ (atl ll k).length)
    (he : phi (at0 (atl ll k) 0) + phi (at0 (atl ll k) 1) = x) : toldTo c (phis ll) (ds.map phi) (k + 1) = some (lag ((atl ll k).map phi) (phi (at0 ds k))) := by
  simp only [toldTo]; rw [h]; simp only []
  rw [phis_at ll k hk, atF_map _ 0 (by omega), atF_map _ 1 (by omega), if_pos he, atF_map ds k hd]
theorem told_no {c x : F} {ll : List (List Int)} {ds : List Int} {k : Nat} (h : toldTo c (phis ll) (ds.map phi) k = some x) (hk : k < ll.length) (h2 : 2 ≤ (atl ll k).length)
    (he : ¬ phi (at0 (atl ll k) 0) + phi (at0 (atl ll k) 1) = x) : told c (phis ll) (ds.map phi) = none := by
  refine toldTo_none (k := k + 1) (by simp; omega) ?_
  simp only [toldTo]; rw [h]; simp only []
  rw [phis_at ll k hk, atF_map _ 0 (by omega), atF_map _ 1 (by omega), if_neg he]
theorem psi_ne {a b : F} (h : ¬ a = b) : (psi a != psi b) = true := by
  rw [bne_iff_ne]; exact fun e => h (psi_inj e)
/-- rounds as they must be -/
def good (ll : List (List Int)) : Prop := ∀ j, j < ll.length → 2 ≤ (atl ll j).length ∧ (atl ll j).length ≤ 8 ∧ (atl ll j).length = (atl ll 0).length
open Classical in
/-- what Verify's error is -/
noncomputable def formE (ll : List (List Int)) (ds : List Int) : Int := if ll.length = ds.length then (if good ll then 0 else 4) else 1
theorem formE_arg {ll : List (List Int)} {ds : List Int} (h : ¬ ll.length = ds.length) : formE ll ds = 1 := by unfold formE; rw [if_neg h]
theorem formE_bad {ll : List (List Int)} {ds : List Int} (h : ll.length = ds.length) (h2 : ¬ good ll) : formE ll ds = 4 := by unfold formE; rw [if_pos h, if_neg h2]
theorem formE_ok {ll : List (List Int)} {ds : List Int} (h : ll.length = ds.length) (h2 : good ll) : formE ll ds = 0 := by unfold formE; rw [if_pos h, if_pos h2]
theorem ret_i64 {a b : Int} (h : a = b) : Ending.returned (.int .i64 a) = .returned (.int .i64 b) := by rw [h]
set_option maxRecDepth 100000 in
set_option maxHeartbeats 1000000 in
theorem sum_form (v : Value) (ll : List (List Int)) (v2 : Value) (ds : List Int) (w : World) (hp : RowUU w v ll) (hp2 : RowU w v2 ds) :
    Calls Tryz.prog 171 #[v, v2] w fun e w' => e = .returned (.int .i64 (formE ll ds)) ∧ w = w' := by
  obtain ⟨h2, a, cap, rfl, hr⟩ := hp
  obtain ⟨_, h22, ad2, cap2, rfl, hr2⟩ := hp2
  have Hr := Lib.hid hr
  clear hr hr2
  by_cases hq : ll.length = ds.length
  · have hqb : ((ll.length : Int) != (ds.length : Int)) = false := by simp [hq]
    have Hq := Lib.hid hq
    clear hq
    go_enter Tryz.func171, Tryz.ntmps171
    go_wp2
    go_loop [17] (fun i => ∃ k : Nat, k ≤ ll.length ∧ i = .int .i64 (k : Int) ∧ Hid (∀ j, j < k → 1 ≤ (atl ll j).length ∧ (atl ll j).length ≤ 8)) (fun i => ll.length - (intOf i).toNat)
    case atStart => exact ⟨0, by omega, rfl, fun j hj => absurd hj (by omega)⟩
    case round =>
      obtain ⟨k, hk, rfl, HK⟩ := hrel
      by_cases hz : k < ll.length
      · obtain ⟨b, off, rfl, hblt, hcell⟩ := Hr.out (by omega)
        obtain ⟨u, hu, hrow⟩ := hcell k hz
        have Hrow := Lib.hid hrow
        obtain ⟨_, hul, au, cu, rfl, _⟩ := hrow
        by_cases h8 : 1 ≤ (atl ll k).length ∧ (atl ll k).length ≤ 8
        · obtain ⟨h81, h88⟩ := h8
          clear hcell
          go_wp2_with (go_at_call 176; (with_reducible refine (uni_Check _ _ _ Hrow.out h81 h88).mono ?_); rintro e w' ⟨rfl, rfl⟩)
          go_round
          case rel => exact ⟨k + 1, by omega, by go_num, fun j hj => if e : j = k then by subst e; exact ⟨h81, h88⟩ else HK.out j (by omega)⟩
          case measure => simp [intOf]; omega
        · have Hno := Lib.hid (show (atl ll k).length < 1 ∨ 8 < (atl ll k).length by omega)
          have Hbad := Lib.hid (formE_bad Hq.out (fun hg => h8 ⟨by have := (hg k hz).1; omega, (hg k hz).2.1⟩))
          clear h8 hcell
          go_wp2_with (go_at_call 176; (with_reducible refine (uni_Check_no _ _ _ Hrow.out Hno.out).mono ?_); rintro e w' ⟨rfl, rfl⟩)
          go_ret
          exact ⟨ret_i64 Hbad.out.symm, rfl⟩
      · obtain rfl : k = ll.length := by omega
        go_wp2
        go_loop [29] (fun i => ∃ k : Nat, k ≤ ll.length ∧ i = .int .i64 (k : Int) ∧ Hid (∀ j, j < k → 2 ≤ (atl ll j).length ∧ (atl ll j).length = (atl ll 0).length)) (fun i => ll.length - (intOf i).toNat)
        case atStart => exact ⟨0, by omega, rfl, fun j hj => absurd hj (by omega)⟩
        case round =>
          obtain ⟨k, hk, rfl, HG⟩ := hrel
          by_cases hz : k < ll.length
          · obtain ⟨b, off, rfl, hblt, hcell⟩ := Hr.out (by omega)
            obtain ⟨u, hu, hrow⟩ := hcell k hz
            obtain ⟨u0, hu0, hrow0⟩ := hcell 0 (by omega)
            obtain ⟨_, hul, au, cu, rfl, _⟩ := hrow
            obtain ⟨_, hul0, au0, cu0, rfl, _⟩ := hrow0
            rw [Nat.add_zero] at hu0
            have h0l : (0 : Int) < (ll.length : Int) := by omega
            clear hcell
            by_cases hg : 2 ≤ (atl ll k).length ∧ (atl ll k).length = (atl ll 0).length
            · have hne : (((atl ll k).length : Int) != ((atl ll 0).length : Int)) = false := by simp [hg.2]
              have hl2 : ¬ ((atl ll k).length : Int) < 2 := by omega
              have HG2 := Lib.hid hg
              clear hg
              go_wp2
              go_round
              case rel => exact ⟨k + 1, by omega, by go_num, fun j hj => if e : j = k then by subst e; exact HG2.out else HG.out j (by omega)⟩
              case measure => simp [intOf]; omega
            · have Hbad := Lib.hid (formE_bad Hq.out (fun hg' => hg ⟨(hg' k hz).1, (hg' k hz).2.2⟩))
              by_cases hne' : (atl ll k).length = (atl ll 0).length
              · have hne : (((atl ll k).length : Int) != ((atl ll 0).length : Int)) = false := by simp [hne']
                have hl2 : ((atl ll k).length : Int) < 2 := by omega
                clear hg hne'
                go_wp2
                go_ret
                exact ⟨ret_i64 Hbad.out.symm, rfl⟩
              · have hne : (((atl ll k).length : Int) != ((atl ll 0).length : Int)) = true := by simp; omega
                clear hg hne'
                go_wp2
                go_ret
                exact ⟨ret_i64 Hbad.out.symm, rfl⟩
          · obtain rfl : k = ll.length := by omega
            have Hok := Lib.hid (formE_ok Hq.out (fun j hj => ⟨(HG.out j hj).1, (HK.out j hj).2, (HG.out j hj).2⟩))
            go_wp2
            go_ret
            exact ⟨ret_i64 Hok.out.symm, rfl⟩
  · have hqb : ((ll.length : Int) != (ds.length : Int)) = true := by simp; omega
    have Hq := Lib.hid (formE_arg hq)
    clear hq
    go_enter Tryz.func171, Tryz.ntmps171
    go_wp2
    go_ret
    exact ⟨ret_i64 Hq.out.symm, rfl⟩

set_option maxRecDepth 100000 in
set_option maxHeartbeats 1000000 in
theorem ref_Told (c : Int) (hc : U64 c) (v : Value) (ll : List (List Int)) (v2 : Value) (ds : List Int) (w : World) (hp : RowUU w v ll) (hp2 : RowU w v2 ds) (hl : ll.length = ds.length) (hg : good ll) :
    Calls Tryz.prog 122 #[.int .u64 c, v, v2] w fun e w' => e = .returned (.tuple #[.int .u64 (toldV (told (phi c) (phis ll) (ds.map phi))), .bool (toldB (told (phi c) (phis ll) (ds.map phi)))]) ∧ Drawn w w' := by
  have hat2 := Lib.hid (fun j => @RowU.at _ _ _ hp2 j)
  obtain ⟨h2, a, cap, rfl, hr⟩ := hp
  obtain ⟨_, h22, ad2, cap2, rfl, hr2⟩ := hp2
  have Hr := Lib.hid hr
  have Hr2 := Lib.hid hr2
  have Hl := Lib.hid hl
  have Hg := Lib.hid hg
  clear hr hr2 hl hg
  go_enter Tryz.func122, Tryz.ntmps122
  go_wp2
  go_loopw [0, 8] (fun o i wr => ∃ (k : Nat) (x : Int), k ≤ ll.length ∧ U64 x ∧ i = .int .i64 (k : Int) ∧ o = .int .u64 x ∧ Hid (toldTo (phi c) (phis ll) (ds.map phi) k = some (phi x)) ∧ Drawn w wr) (fun _ i _ => ll.length - (intOf i).toNat)
  case atStart => exact ⟨0, c, by omega, hc, rfl, rfl, rfl, Drawn.refl _⟩
  case round =>
    obtain ⟨k, x, hk, hx, rfl, rfl, HT, hd⟩ := hrel
    by_cases hz : k < ll.length
    · obtain ⟨b, off, rfl, hblt, hcell⟩ := Hr.out (by omega)
      obtain ⟨b2, off2, rfl, hblt2, hcell2⟩ := Hr2.out (by have := Hl.out; omega)
      obtain ⟨u, hu, hrow⟩ := hcell k hz
      have hkd : k < ds.length := by have := Hl.out; omega
      have hkd' : (k : Int) < (ds.length : Int) := by omega
      have hcj := (hd.below.cell (p := ⟨b, off + k, none⟩) hblt).trans hu
      have hcd := (hd.below.cell (p := ⟨b2, off2 + k, none⟩) hblt2).trans (hcell2 k hkd)
      have hud := hat2.out k hkd
      obtain ⟨g1, g2, -⟩ := Hg.out k hz
      have Hrow := Lib.hid (hrow.below hd.below (Nat.le_refl _))
      have hat := Lib.hid (fun j => @RowU.at _ _ _ hrow j)
      obtain ⟨_, hul, au, cu, rfl, hr3⟩ := hrow
      obtain ⟨b3, off3, rfl, hblt3, hcell3⟩ := hr3 (by omega)
      have hr0 := (hd.below.cell (p := ⟨b3, off3, none⟩) hblt3).trans (hcell3 0 (by omega))
      have hr1 := (hd.below.cell (p := ⟨b3, off3 + 1, none⟩) hblt3).trans (hcell3 1 (by omega))
      have hu0 := hat.out 0 (by omega)
      have hu1 := hat.out 1 (by omega)
      have hl0 : (0 : Int) < ((atl ll k).length : Int) := by omega
      have hl1 : (1 : Int) < ((atl ll k).length : Int) := by omega
      clear hcell hcell2 hcell3 hr3 hu
      by_cases he : phi (at0 (atl ll k) 0) + phi (at0 (atl ll k) 1) = phi x
      · have Hs := Lib.hid (told_step HT.out hz hkd g1 he)
        have He := Lib.hid (show psi (phi (at0 (atl ll k) 0) + phi (at0 (atl ll k) 1)) = psi (phi x) by rw [he])
        clear he
        generalize atl ll k = L at *
        go_wp2
        go_quiet (first | (go_at_call 43; exact flip (ref_Add _ _ _ hu0 hu1)) | (go_at_call 47; exact flip (ref_Norm _ _ hx)))
        rw [He.out]
        go_wp2
        have HrowW := Lib.hid (Hrow.out.drewN nq)
        have hcjW : (wr.drewN nq).cell? ⟨b, off + k, none⟩ = some (.slice (some ⟨b3, off3, none⟩) L.length cu) := hcj
        have hcdW : (wr.drewN nq).cell? ⟨b2, off2 + k, none⟩ = some (.int .u64 (at0 ds k)) := hcd
        have hdW := hd.more nq
        clear hcj hcd Hrow hr0 hr1 hd
        generalize wr.drewN nq = W at *
        go_quiet ((go_at_call 124; exact flip (ref_At _ _ _ _ (RowU.drewN HrowW.out _) hud (Nat.le_trans g2 (by decide)))))
        go_wp2
        go_roundw
        case rel => exact ⟨k + 1, _, by omega, U64.psi _, by go_num, rfl, by rw [phi_psi]; exact Hs.out, hdW.more _⟩
        case measure => simp [intOf]; omega
      · have Hn := Lib.hid (told_no HT.out hz g1 he)
        have He := psi_ne he
        clear he
        go_wp2
        go_quiet (first | (go_at_call 43; exact flip (ref_Add _ _ _ hu0 hu1)) | (go_at_call 47; exact flip (ref_Norm _ _ hx)))
        go_wp2
        go_ret2
        rw [Hn.out]
        exact ⟨rfl, hd.more _⟩
    · obtain rfl : k = ll.length := by omega
      go_wp2_with (first | (go_at_call 47; (with_reducible refine (ref_Norm _ _ (by first | assumption | exact U64.psi _ | exact U64.zero | exact U64.one | exact U64.mk (by decide) (by decide))).mono ?_); rintro e w' ⟨rfl, rfl⟩))
      go_ret2
      have hT : told (phi c) (phis ll) (ds.map phi) = some (phi x) := by unfold told; rw [List.length_map]; exact HT.out
      rw [hT]
      exact ⟨rfl, hd⟩

set_option maxRecDepth 100000 in
set_option maxHeartbeats 1000000 in
theorem sum_Verify_no (c : Int) (v : Value) (ll : List (List Int)) (v2 : Value) (ds : List Int) (w : World) (hp : RowUU w v ll) (hp2 : RowU w v2 ds) (h : (formE ll ds != 0) = true) :
    Calls Tryz.prog 166 #[.int .u64 c, v, v2] w fun e w' => e = .returned (.tuple #[.int .u64 0, .bool false, .int .i64 (formE ll ds)]) ∧ w = w' := by
  go_enter Tryz.func166, Tryz.ntmps166
  go_wp2_with (go_at_call 171; (with_reducible refine (sum_form _ _ _ _ _ hp hp2).mono ?_); rintro e w' ⟨rfl, rfl⟩)
  go_ret3
  exact ⟨rfl, rfl⟩
set_option maxRecDepth 100000 in
set_option maxHeartbeats 1000000 in
theorem sum_Verify (c : Int) (hc : U64 c) (v : Value) (ll : List (List Int)) (v2 : Value) (ds : List Int) (w : World) (hp : RowUU w v ll) (hp2 : RowU w v2 ds) (hl : ll.length = ds.length) (hg : good ll) :
    Calls Tryz.prog 166 #[.int .u64 c, v, v2] w fun e w' => e = .returned (.tuple #[.int .u64 (toldV (told (phi c) (phis ll) (ds.map phi))), .bool (toldB (told (phi c) (phis ll) (ds.map phi))), .int .i64 0]) ∧ Below w.heap.size w w' := by
  have hat2 := Lib.hid (fun j => @RowU.at _ _ _ hp2 j)
  have Hf := Lib.hid (formE_ok hl hg)
  have Hp := Lib.hid hp
  have Hp2 := Lib.hid hp2
  obtain ⟨h2, a, cap, rfl, hr⟩ := hp
  obtain ⟨_, h22, ad2, cap2, rfl, hr2⟩ := hp2
  have Hr := Lib.hid hr
  have Hr2 := Lib.hid hr2
  have Hl := Lib.hid hl
  have Hg := Lib.hid hg
  clear hr hr2 hl hg
  go_enter Tryz.func166, Tryz.ntmps166
  go_wp2_with (fail)
  refine (sum_form _ _ _ _ _ Hp.out Hp2.out).mono ?_
  rintro e w' ⟨rfl, rfl⟩
  rw [Hf.out]
  go_wp2_with (first | (go_at_call 64; (with_reducible refine (field_Norm _ _ (by first | assumption | exact U64.psi _ | exact U64.zero | exact U64.one | exact U64.mk (by decide) (by decide))).mono ?_); rintro e w' ⟨rfl, rfl⟩))
  go_loopw [0, 22] (fun o i wr => ∃ (k : Nat) (x : F), k ≤ ll.length ∧ i = .int .i64 (k : Int) ∧ o = .int .u64 (psi x) ∧ Hid (toldTo (phi c) (phis ll) (ds.map phi) k = some x) ∧ Below w.heap.size w wr) (fun _ i _ => ll.length - (intOf i).toNat)
  case atStart => exact ⟨0, _, by omega, rfl, rfl, rfl, Below.refl _ _⟩
  case round =>
    obtain ⟨k, x, hk, rfl, rfl, HT, hd⟩ := hrel
    by_cases hz : k < ll.length
    · obtain ⟨b, off, rfl, hblt, hcell⟩ := Hr.out (by omega)
      obtain ⟨b2, off2, rfl, hblt2, hcell2⟩ := Hr2.out (by have := Hl.out; omega)
      obtain ⟨u, hu, hrow⟩ := hcell k hz
      have hkd : k < ds.length := by have := Hl.out; omega
      have hkd' : (k : Int) < (ds.length : Int) := by omega
      have hcj := (hd.cell (p := ⟨b, off + k, none⟩) hblt).trans hu
      have hcd := (hd.cell (p := ⟨b2, off2 + k, none⟩) hblt2).trans (hcell2 k hkd)
      have hud := hat2.out k hkd
      obtain ⟨g1, g2, -⟩ := Hg.out k hz
      have Hrow := Lib.hid (hrow.below hd (Nat.le_refl _))
      have hat := Lib.hid (fun j => @RowU.at _ _ _ hrow j)
      obtain ⟨_, hul, au, cu, rfl, hr3⟩ := hrow
      obtain ⟨b3, off3, rfl, hblt3, hcell3⟩ := hr3 (by omega)
      have hr0 := (hd.cell (p := ⟨b3, off3, none⟩) hblt3).trans (hcell3 0 (by omega))
      have hr1 := (hd.cell (p := ⟨b3, off3 + 1, none⟩) hblt3).trans (hcell3 1 (by omega))
      have hu0 := hat.out 0 (by omega)
      have hu1 := hat.out 1 (by omega)
      have hl0 : (0 : Int) < ((atl ll k).length : Int) := by omega
      have hl1 : (1 : Int) < ((atl ll k).length : Int) := by omega
      clear hcell hcell2 hcell3 hr3 hu
      by_cases he : phi (at0 (atl ll k) 0) + phi (at0 (atl ll k) 1) = x
      · have Hs := Lib.hid (told_step HT.out hz hkd g1 he)
        have He := Lib.hid (show psi (phi (at0 (atl ll k) 0) + phi (at0 (atl ll k) 1)) = psi x by rw [he])
        clear he
        generalize atl ll k = L at *
        go_wp2
        go_quiet ((go_at_call 108; exact flip (field_Add _ _ _ hu0 hu1)))
        rw [He.out]
        have HrowW := Lib.hid (Hrow.out.drewN nq)
        have hcdW : (wr.drewN nq).cell? ⟨b2, off2 + k, none⟩ = some (.int .u64 (at0 ds k)) := hcd
        have hdW := below_drewN hd nq
        clear hcj hcd Hrow hr0 hr1 hd
        generalize wr.drewN nq = W at *
        go_wp2_with (fail)
        refine (uni_At _ _ _ _ HrowW.out (by omega) g2 hud).mono ?_
        rintro e w2 ⟨rfl, hb2⟩
        go_wp2
        go_roundw
        case rel => exact ⟨k + 1, _, by omega, by go_num, rfl, Hs.out, hdW.trans (hb2.mono hdW.size)⟩
        case measure => simp [intOf]; omega
      · have Hn := Lib.hid (told_no HT.out hz g1 he)
        have He := psi_ne he
        clear he
        go_wp2
        go_quiet ((go_at_call 108; exact flip (field_Add _ _ _ hu0 hu1)))
        go_wp2
        go_ret3
        rw [Hn.out]
        exact ⟨rfl, below_drewN hd _⟩
    · obtain rfl : k = ll.length := by omega
      go_wp2
      go_ret3
      have hT : told (phi c) (phis ll) (ds.map phi) = some x := by unfold told; rw [List.length_map]; exact HT.out
      rw [hT]
      exact ⟨rfl, hd⟩
end Go.Proofs.YtlfneeobnihocaaGreatDoor
