/- The walks of open's stands and holds. The place lies in the table, the look has its form, there are 1 to 8 variables. -/
import Derived.Test.YtokggifjcbkmnaaDoorOpenForm
import Derived.Deep.DeepCutAuto
namespace Go.Proofs.YtokggifjcbkmnaaDoor
set_option maxRecDepth 100000
set_option linter.unusedVariables false
open Go.RowKit Tally
theorem psiO_eq {a b : F} (h : a = b) : (psi a == psi b) = true := by rw [h]; simp
theorem psiO_ne {a b : F} (h : ¬ a = b) : (psi a == psi b) = false := by rw [beq_eq_false_iff_ne]; exact fun e => h (psi_inj e)
theorem psiO_nee {a b : F} (h : a = b) : (psi a != psi b) = false := by rw [h]; simp
theorem psiO_nne {a b : F} (h : ¬ a = b) : (psi a != psi b) = true := by rw [bne_iff_ne]; exact fun e => h (psi_inj e)
theorem two_blocksO (w : World) (cs1 cs2 : Array Value) (t1 t2 : Nat) : ∃ W, (w.alloc (.cells cs1 t1)).alloc (.cells cs2 t2) = W ∧ W.heap[w.heap.size]? = some (.cells cs1 t1 (0, 0)) ∧ W.heap[w.heap.size + 1]? = some (.cells cs2 t2 (0, 0)) ∧ W.heap.size = w.heap.size + 2 ∧ Below w.heap.size w W := by
  refine ⟨_, rfl, ?_, ?_, by simp, ((Below.refl _ _).alloc (Nat.le_refl _) _).alloc (by simp <;> omega) _⟩
  · show ((w.heap.push _).push _)[w.heap.size]? = _
    rw [Array.getElem?_push, if_neg (by simp), Array.getElem?_push, if_pos rfl]
  · show ((w.heap.push _).push _)[w.heap.size + 1]? = _
    rw [Array.getElem?_push, if_pos (by simp)]
theorem pow_wrapI {n : Nat} (h : n ≤ 8) : IntKind.i64.wrap (2 ^ n) = ((2 ^ n : Nat) : Int) := by
  have h1 := pow_le8 h
  have e : ((2 : Int) ^ n) = ((2 ^ n : Nat) : Int) := by simp
  rw [e]; generalize 2 ^ n = m at *; exact IntWalk.i64_in _ (by omega)
theorem below_dwO (w : World) : Below w.heap.size w w.drew := below_drewN (Below.refl _ _) 1
set_option maxRecDepth 100000 in
set_option maxHeartbeats 4000000 in
theorem open_stands (root : Int) (hr : U64 root) (m p : Nat) (h7 : m ≤ 7) (hp : p < 2 ^ m) (pr : Int × Int) (hx : U64 pr.1) (hy : U64 pr.2) (pt : List Int × List Int) (v1 v2 : Value) (w : World) (h1 : RowU w v1 pt.1) (h2 : RowU w v2 pt.2) (e1 : pt.1.length = m + 1) (e2 : pt.2.length = m + 1) :
    Calls Tryd.prog 59 #[.int .u64 root, .int .i64 ((m + 1 : Nat) : Int), .int .i64 (p : Int), .agg #[.int .u64 pr.1, .int .u64 pr.2], .agg #[v1, v2]] w fun e w' => e = .returned (.bool (standB root (m + 1) p pr pt)) ∧ Below w.heap.size w w' := by
  have Hpw := Lib.hid (pow_wrap8 (n := m) (by omega))
  have Hpw2 := Lib.hid (pow_wrapI (n := m) (by omega))
  have q2 := (pow_le8 (n := m) (by omega)).2
  have Hlt := Lib.hid (show p < 2 ^ pt.1.length ∧ p + 2 ^ m < 2 ^ pt.2.length by rw [e1, e2, Nat.pow_succ]; omega)
  have Hle := Lib.hid (show pt.1.length ≤ 8 ∧ pt.2.length ≤ 8 by omega)
  have sM : IntKind.i64.wrap (((m + 1 : Nat) : Int) - 1) = (m : Int) := by rw [IntWalk.i64_in _ (by omega)]; omega
  have hmin : min m 64 = m := by omega
  have Hst := Lib.hid (show standB root (m + 1) p pr pt = (decide (climbF pr.1 pt.1 p = phi root) && decide (climbF pr.2 pt.2 (p + 2 ^ m) = phi root)) from rfl)
  have H1 := Lib.hid h1; have H2 := Lib.hid h2
  obtain ⟨_, _, a1, c1, rfl, _⟩ := h1
  obtain ⟨_, _, a2, c2, rfl, _⟩ := h2
  obtain ⟨M, hM⟩ : ∃ M : Nat, M = m + 1 := ⟨_, rfl⟩
  rw [← hM] at sM Hst ⊢
  obtain ⟨h, hh⟩ : ∃ h, h = 2 ^ m := ⟨_, rfl⟩
  rw [← hh] at Hpw Hpw2 q2 hp Hlt Hst
  have hsum : IntKind.i64.wrap ((p : Int) + (h : Int)) = ((p + h : Nat) : Int) := by rw [IntWalk.i64_in _ (by omega)]; omega
  obtain ⟨ph, hph⟩ : ∃ ph, ph = p + h := ⟨_, rfl⟩
  rw [← hph] at hsum Hlt Hst
  obtain ⟨l1, hl1⟩ : ∃ l1, l1 = pt.1.length := ⟨_, rfl⟩
  obtain ⟨l2, hl2⟩ : ∃ l2, l2 = pt.2.length := ⟨_, rfl⟩
  have C1 := Lib.hid (fun X (hX : Below w.heap.size w X) => tree_Climb p pr.1 pt.1 (.slice a1 l1 c1) X hx (by rw [hl1]; exact H1.out.go hX) Hle.out.1 Hlt.out.1)
  have C2 := Lib.hid (fun X (hX : Below w.heap.size w X) => tree_Climb ph pr.2 pt.2 (.slice a2 l2 c2) X hy (by rw [hl2]; exact H2.out.go hX) Hle.out.2 Hlt.out.2)
  rw [← hl1, ← hl2]
  clear hM hh hph e1 e2 hl1 hl2 hp
  obtain ⟨x, hxx⟩ : ∃ x, x = pr.1 := ⟨_, rfl⟩
  obtain ⟨y, hyy⟩ : ∃ y, y = pr.2 := ⟨_, rfl⟩
  rw [← hxx] at hx C1 Hst ⊢; rw [← hyy] at hy C2 Hst ⊢
  generalize climbF x pt.1 p = A at *
  generalize climbF y pt.2 ph = B at *
  clear hxx hyy
  obtain ⟨W, hW, b1, b2, s1, B1⟩ := two_blocksO w #[.int .u64 x, .int .u64 y] #[.slice a1 l1 c1, .slice a2 l2 c2] 67 66
  have k0 : W.cell? ⟨w.heap.size, 0, none⟩ = some (.int .u64 x) := cell_blk b1 0
  have k2 : W.cell? ⟨w.heap.size + 1, 0, none⟩ = some (.slice a1 l1 c1) := cell_blk b2 0
  have HB := Lib.hid B1
  have l0 : w.heap.size < W.heap.size := by omega
  have l00 : w.heap.size + 1 < W.heap.size := by omega
  have K := Lib.hid (show ∀ X, Below W.heap.size W X → Below W.heap.size W X ∧ X.cell? ⟨w.heap.size, 1, none⟩ = some (.int .u64 y) ∧ X.cell? ⟨w.heap.size + 1, 1, none⟩ = some (.slice a2 l2 c2) from fun X hX =>
    ⟨hX, (hX.cell (p := ⟨w.heap.size, 1, none⟩) l0).trans (cell_blk b1 1), (hX.cell (p := ⟨w.heap.size + 1, 1, none⟩) l00).trans (cell_blk b2 1)⟩)
  clear b1 b2 B1 s1
  go_enter Tryd.func59, Tryd.ntmps59
  go_wp2_with (fail)
  refine (C1.out W HB.out).mono ?_
  rintro e w2 ⟨rfl, hb2⟩
  have H2' := Lib.hid (below_two HB.out hb2)
  have HB2 := Lib.hid hb2
  have q1 := (K.out w2 hb2).2.1
  have q3 := (K.out w2 hb2).2.2
  have hpw := Hpw.out
  have hpw2 : IntKind.i64.wrap (2 ^ m) = (h : Int) := Hpw2.out
  have K2 := Lib.hid (show ∀ X, Below w2.heap.size w2 X → Below w2.heap.size w2 X ∧ X.cell? ⟨w.heap.size, 1, none⟩ = some (.int .u64 y) ∧ X.cell? ⟨w.heap.size + 1, 1, none⟩ = some (.slice a2 l2 c2) from fun X hX => ⟨hX, (K.out X (below_two HB2.out hX)).2⟩)
  clear k0 k2 hW hb2 l0 l00
  go_wp2_with (fail)
  have hdw := Lib.hid (below_dwO w2)
  go_region_held3 (fun w' => Below w2.heap.size w2 w' ∧ w'.cell? ⟨w.heap.size, 1, none⟩ = some (.int .u64 y) ∧ w'.cell? ⟨w.heap.size + 1, 1, none⟩ = some (.slice a2 l2 c2))
    (first
      | exact K2.out _ hdw.out
      | exact K2.out _ hbB)
    (first
      | (go_at_call 74; (with_reducible refine (C2.out _ (below_two H2'.out hdw.out)).mono ?_); rintro e w3 ⟨rfl, hb3⟩; have hbB := below_two hdw.out hb3))
  have H3 := Lib.hid (below_two H2'.out hbB)
  clear hb3 hbB hpw hpw2
  by_cases hA : A = phi root
  · have b1 := psiO_eq hA
    by_cases hB : B = phi root
    · have b2 := psiO_eq hB
      have HR := Lib.hid (show standB root M p pr pt = true by rw [Hst.out, decide_eq_true hA, decide_eq_true hB]; rfl)
      clear hA hB
      go_wp2_with ((go_at_call 13; (with_reducible refine (field_Norm _ _ (by first | assumption | exact U64.psi _ | exact U64.zero | exact U64.one | exact U64.mk (by decide) (by decide))).mono ?_); rintro e w' ⟨rfl, rfl⟩))
      go_ret
      exact ⟨ret_bool HR.out.symm, H3.out⟩
    · have b2 := psiO_ne hB
      have HR := Lib.hid (show standB root M p pr pt = false by rw [Hst.out, decide_eq_false hB, Bool.and_false])
      clear hA hB
      go_wp2_with ((go_at_call 13; (with_reducible refine (field_Norm _ _ (by first | assumption | exact U64.psi _ | exact U64.zero | exact U64.one | exact U64.mk (by decide) (by decide))).mono ?_); rintro e w' ⟨rfl, rfl⟩))
      go_ret
      exact ⟨ret_bool HR.out.symm, H3.out⟩
  · have b1 := psiO_ne hA
    have HR := Lib.hid (show standB root M p pr pt = false by rw [Hst.out, decide_eq_false hA]; rfl)
    clear hA
    go_wp2_with ((go_at_call 13; (with_reducible refine (field_Norm _ _ (by first | assumption | exact U64.psi _ | exact U64.zero | exact U64.one | exact U64.mk (by decide) (by decide))).mono ?_); rintro e w' ⟨rfl, rfl⟩))
    go_ret
    exact ⟨ret_bool HR.out.symm, H3.out⟩

theorem stepB_eq {root : Int} {pt : List Int} {o : Oi} {x : Lk} {p k a M N1 q : Nat} (hM : pt.length = M) (ha : M = k + a + 1) (hN : N1 = a + 1) (hq : q = p % 2 ^ a) :
    stepB root pt o x p k = (standB (rootI root o k) N1 q (ata x.pairs k) (atb x.paths k) && decide (btw (phi (ata x.pairs k).1) (phi (ata x.pairs k).2) (phi (at0 pt k)) = phi (nextI o x M p k))) := by
  unfold stepB
  rw [hM, show M - k = N1 by omega, show N1 - 1 = a by omega, hq]
theorem nextI_hi {o : Oi} {x : Lk} {p k a M : Nat} (ha : M = k + a + 1) (h1 : k + 1 < M) (h2 : 2 ^ a ≤ 2 * (p % 2 ^ a)) : nextI o x M p k = (ata x.pairs (k + 1)).2 := by
  unfold nextI; rw [if_pos h1, show M - k - 1 = a by omega, if_pos h2]
theorem nextI_lo {o : Oi} {x : Lk} {p k a M : Nat} (ha : M = k + a + 1) (h1 : k + 1 < M) (h2 : ¬ 2 ^ a ≤ 2 * (p % 2 ^ a)) : nextI o x M p k = (ata x.pairs (k + 1)).1 := by
  unfold nextI; rw [if_pos h1, show M - k - 1 = a by omega, if_neg h2]
theorem nextI_end {o : Oi} {x : Lk} {p k M : Nat} (h1 : ¬ k + 1 < M) : nextI o x M p k = o.value := by
  unfold nextI; rw [if_neg h1]
theorem rootI_succ (root : Int) (o : Oi) (k : Nat) : rootI root o (k + 1) = at0 o.roots k := rfl
set_option maxRecDepth 100000 in
set_option maxHeartbeats 8000000 in
theorem open_holds_w (root : Int) (hr : U64 root) (pt : List Int) (p M : Nat) (hM1 : 1 ≤ M) (hM8 : M ≤ 8) (hp : p < 256) (hpl : pt.length = M) (o : Oi) (x : Lk) (hx : lkForm M x) (hrl : o.roots.length = M) (vt vo : Value) (w : World) (ht : RowU w vt pt) (ho : IsO w vo o) (u u2 : Value) (hA : RowA w u x.pairs) (hB : RowB w u2 x.paths) :
    Calls Tryd.prog 34 #[.int .u64 root, vt, .int .i64 (p : Int), vo, .agg #[u, u2]] w fun e w' => e = .returned (.bool (holdB root pt o x p M)) ∧ Below w.heap.size w w' := by
  obtain ⟨ur, uk, rfl, uv, hrr, hkk⟩ := ho
  obtain ⟨ak, ck, rfl⟩ := hkk.isSlice
  clear hkk
  have Hx3 := Lib.hid hx.2.2
  have Hx1 := hx.1
  have Hx2 := hx.2.1
  clear hx
  obtain ⟨ut, _, at', ct, rfl, htr⟩ := ht
  obtain ⟨urr, _, ar, cr, rfl, hrc⟩ := hrr
  obtain ⟨_, aA, cA, rfl, hAc⟩ := hA
  obtain ⟨_, aB, cB, rfl, hBc⟩ := hB
  obtain ⟨bt, ot, rfl, hbt, htc⟩ := htr (by omega)
  obtain ⟨br, or', rfl, hbr, hrc⟩ := hrc (by omega)
  obtain ⟨ba, oa, rfl, hba, hac⟩ := hAc (by omega)
  obtain ⟨bb, ob, rfl, hbb, hbc⟩ := hBc (by omega)
  have KU := Lib.hid (show ∀ j, j < M → U64 (at0 pt j) ∧ U64 (at0 o.roots j) ∧ U64 (ata x.pairs j).1 ∧ U64 (ata x.pairs j).2 from fun j hj =>
    ⟨ut _ (at0_mem (by omega)), urr _ (at0_mem (by omega)), (hac j (by omega)).1⟩)
  have KC := Lib.hid (show ∀ X, Below w.heap.size w X → ∀ j, j < M → X.cell? ⟨bt, ot + j, none⟩ = some (.int .u64 (at0 pt j)) ∧ X.cell? ⟨br, or' + j, none⟩ = some (.int .u64 (at0 o.roots j)) ∧ X.cell? ⟨ba, oa + j * 2, none⟩ = some (.int .u64 (ata x.pairs j).1) ∧ X.cell? ⟨ba, oa + j * 2 + 1, none⟩ = some (.int .u64 (ata x.pairs j).2) from fun X hX j hj =>
    ⟨(hX.cell (p := ⟨bt, ot + j, none⟩) hbt).trans (htc j (by omega)), (hX.cell (p := ⟨br, or' + j, none⟩) hbr).trans (hrc j (by omega)), (hX.cell (p := ⟨ba, oa + j * 2, none⟩) hba).trans (hac j (by omega)).2.1, (hX.cell (p := ⟨ba, oa + j * 2 + 1, none⟩) hba).trans (hac j (by omega)).2.2⟩)
  have KP := Lib.hid (show ∀ j, j < M → ∃ v1 v2, ∀ X, Below w.heap.size w X → X.cell? ⟨bb, ob + j * 2, none⟩ = some v1 ∧ X.cell? ⟨bb, ob + j * 2 + 1, none⟩ = some v2 ∧ RowU X v1 (atb x.paths j).1 ∧ RowU X v2 (atb x.paths j).2 from fun j hj => by
    obtain ⟨v1, v2, c1, c2, ⟨r1, _⟩, r2, _⟩ := hbc j (by omega)
    exact ⟨v1, v2, fun X hX => ⟨(hX.cell (p := ⟨bb, ob + j * 2, none⟩) hbb).trans c1, (hX.cell (p := ⟨bb, ob + j * 2 + 1, none⟩) hbb).trans c2, r1.go hX, r2.go hX⟩⟩)
  rw [hpl, hrl, Hx1, Hx2]
  have Hpl := Lib.hid hpl
  clear hpl hrl Hx1 Hx2 htr hrc htc hac hbc hAc hBc ut urr
  obtain ⟨W, hW, b1, b2, s1, B1⟩ := two_blocksO w #[.slice (some ⟨br, or', none⟩) M cr, .int .u64 o.value, .slice ak o.looks.length ck] #[.slice (some ⟨ba, oa, none⟩) M cA, .slice (some ⟨bb, ob, none⟩) M cB] 40 64
  have HB := Lib.hid B1
  have l0 : w.heap.size < W.heap.size := by omega
  have l00 : w.heap.size + 1 < W.heap.size := by omega
  have K := Lib.hid (show ∀ X, Below W.heap.size W X → X.cell? ⟨w.heap.size, 0, none⟩ = some (.slice (some ⟨br, or', none⟩) M cr) ∧ X.cell? ⟨w.heap.size, 1, none⟩ = some (.int .u64 o.value) ∧ X.cell? ⟨w.heap.size + 1, 0, none⟩ = some (.slice (some ⟨ba, oa, none⟩) M cA) ∧ X.cell? ⟨w.heap.size + 1, 1, none⟩ = some (.slice (some ⟨bb, ob, none⟩) M cB) from fun X hX =>
    ⟨(hX.cell (p := ⟨w.heap.size, 0, none⟩) l0).trans (cell_blk b1 0), (hX.cell (p := ⟨w.heap.size, 1, none⟩) l0).trans (cell_blk b1 1), (hX.cell (p := ⟨w.heap.size + 1, 0, none⟩) l00).trans (cell_blk b2 0), (hX.cell (p := ⟨w.heap.size + 1, 1, none⟩) l00).trans (cell_blk b2 1)⟩)
  have k0 : W.cell? ⟨w.heap.size + 1, 0, none⟩ = some (.slice (some ⟨ba, oa, none⟩) M cA) := (K.out W (Below.refl _ _)).2.2.1
  clear b1 b2 B1 s1
  go_enter Tryd.func34, Tryd.ntmps34
  go_wp2_with (fail)
  clear k0
  go_loopw [0, 2, 22] (fun rv pv iv wr => ∃ k q : Nat, k ≤ M ∧ q < 256 ∧ iv = .int .i64 (k : Int) ∧ pv = .int .i64 (q : Int) ∧ rv = .int .u64 (rootI root o k) ∧ U64 (rootI root o k) ∧ Hid (∀ j, j + k + 1 ≤ M → q % 2 ^ j = p % 2 ^ j) ∧ Hid (holdB root pt o x p k = true) ∧ Hid (Below W.heap.size W wr)) (fun _ _ iv _ => M - (intOf iv).toNat)
  case atStart => exact ⟨0, p, by omega, hp, rfl, rfl, rfl, hr, fun j _ => rfl, rfl, Below.refl _ _⟩
  case round =>
    clear hW
    obtain ⟨k, q, hk, hq, rfl, rfl, rfl, hrk, HQ, HH, HBr⟩ := hrel
    have HBw := Lib.hid (below_two HB.out HBr.out)
    by_cases hz : k < M
    · obtain ⟨a, ha⟩ : ∃ a, M = k + a + 1 := ⟨M - k - 1, by omega⟩
      have Ha := Lib.hid ha
      obtain ⟨v1, v2, hpc⟩ := KP.out k hz
      have HPC := Lib.hid hpc
      have hk1 : (k : Int) < (M : Int) := by omega
      have hk9 : k < 8 := by omega
      obtain ⟨N1, hN⟩ : ∃ N1, N1 = a + 1 := ⟨_, rfl⟩
      have HN := Lib.hid hN
      obtain ⟨h, hh⟩ : ∃ h, h = 2 ^ a := ⟨_, rfl⟩
      have Hh := Lib.hid hh
      have hh256 : h ≤ 256 := by rw [hh]; exact (pow_le8 (n := a) (by omega)).2
      have hh1 : 1 ≤ h := by rw [hh]; exact (pow_le8 (n := a) (by omega)).1
      obtain ⟨q2, hq2⟩ : ∃ q2, q2 = p % h := ⟨_, rfl⟩
      have hqh : q % h = q2 := by rw [hq2, hh]; exact HQ.out a (by omega)
      have hq2h : q2 < h := by rw [hq2]; exact Nat.mod_lt _ hh1
      have HQ2 := Lib.hid (show ∀ j, j + (k + 1) + 1 ≤ M → q2 % 2 ^ j = p % 2 ^ j from fun j hj => by
        rw [hq2, hh]; exact Nat.mod_mod_of_dvd _ (Nat.pow_dvd_pow 2 (by omega)))
      have Hq2 := Lib.hid (show q2 = p % 2 ^ a by rw [hq2, hh])
      have hrem : Int.tmod (q : Int) (h : Int) = (q2 : Int) := by rw [← hqh]; exact (Int.ofNat_tmod q h).symm
      have hh0 : ((h : Int) == 0) = false := by rw [beq_eq_false_iff_ne]; omega
      have hh0' : (h : Int) ≠ 0 := by omega
      have sNk : IntKind.i64.wrap ((M : Int) - (k : Int)) = (N1 : Int) := by rw [IntWalk.i64_in _ (by omega)]; omega
      have sA : IntKind.i64.wrap ((N1 : Int) - 1) = (a : Int) := by rw [IntWalk.i64_in _ (by omega)]; omega
      have hmin : min a 64 = a := by omega
      have HS := Lib.hid (@stepB_eq root pt o x p k a M N1 q2 Hpl.out ha hN Hq2.out)
      have HPW := Lib.hid (show wrap64 (2 ^ a) = (h : Int) by rw [hh]; exact pow_wrap8 (by omega))
      obtain ⟨uT, uR, uX, uY⟩ := KU.out k hz
      obtain ⟨cT, cR, cX, cY⟩ := KC.out wr HBw.out k hz
      obtain ⟨X, hX⟩ : ∃ X, X = (ata x.pairs k).1 := ⟨_, rfl⟩
      obtain ⟨Y, hY⟩ : ∃ Y, Y = (ata x.pairs k).2 := ⟨_, rfl⟩
      have HXY := Lib.hid (And.intro hX hY)
      rw [← hX] at uX cX; rw [← hY] at uY cY
      rw [← hX, ← hY] at HS
      obtain ⟨W4, hW4, p0, p1, B4, s4⟩ := copied2' wr (.int .u64 X) (.int .u64 Y) 67
      obtain ⟨xb, hxb⟩ : ∃ xb, xb = wr.heap.size := ⟨_, rfl⟩
      have hxl : xb < W4.heap.size := by omega
      rw [← hxb] at p0 p1
      have HB4 := Lib.hid (below_two HBr.out B4)
      have HW4 := Lib.hid (below_two HBw.out B4)
      obtain ⟨ST, hST⟩ : ∃ ST, ST = standB (rootI root o k) N1 q2 (ata x.pairs k) (atb x.paths k) := ⟨_, rfl⟩
      have CS := Lib.hid (fun Z (hZ : Below w.heap.size w Z) => show Calls Tryd.prog 59 #[.int .u64 (rootI root o k), .int .i64 (N1 : Int), .int .i64 (q2 : Int), .agg #[.int .u64 X, .int .u64 Y], .agg #[v1, v2]] Z fun e w' => e = .returned (.bool ST) ∧ Below Z.heap.size Z w' from by
        obtain ⟨_, _, r1, r2⟩ := HPC.out Z hZ
        have hl := Hx3.out k hz
        have := open_stands (rootI root o k) hrk a q2 (by omega) (by rw [← hh]; exact hq2h) (ata x.pairs k) (by rw [← hX]; exact uX) (by rw [← hY]; exact uY) (atb x.paths k) v1 v2 Z r1 r2 (by omega) (by omega)
        rw [← hN, ← hX, ← hY] at this
        rw [hST]; exact this)
      rw [← hST] at HS
      have K4 := Lib.hid (show ∀ Z, Below W4.heap.size W4 Z → Below W4.heap.size W4 Z ∧ Z.cell? ⟨xb, 0, none⟩ = some (.int .u64 X) ∧ Z.cell? ⟨xb, 1, none⟩ = some (.int .u64 Y) ∧ Z.cell? ⟨w.heap.size + 1, 1, none⟩ = some (.slice (some ⟨bb, ob, none⟩) M cB) ∧ Z.cell? ⟨bb, ob + k * 2, none⟩ = some v1 ∧ Z.cell? ⟨bb, ob + k * 2 + 1, none⟩ = some v2 from fun Z hZ => by
        obtain ⟨r1, r2, _, _⟩ := HPC.out Z (below_two HW4.out hZ)
        exact ⟨hZ, (hZ.cell (p := ⟨xb, 0, none⟩) hxl).trans p0, (hZ.cell (p := ⟨xb, 1, none⟩) hxl).trans p1, (K.out Z (below_two HB4.out hZ)).2.2.2, r1, r2⟩)
      have hxb' : wr.heap.size = xb := hxb.symm
      have HpN := Lib.hid hpc
      clear hpc ha hN hh hq2 hqh hX hY hST hxb B4 s4 cT cR
      go_upto_region 6 with fail
      rw [HPW.out]
      clear HPW hmin
      go_wp2_with (fail)
      clear hrem hh0 hh0' hW4 p0 p1 cX cY
      have hdw := Lib.hid (below_dwO W4)
      go_region_held3 (fun w' => Below W4.heap.size W4 w' ∧ w'.cell? ⟨xb, 0, none⟩ = some (.int .u64 X) ∧ w'.cell? ⟨xb, 1, none⟩ = some (.int .u64 Y) ∧ w'.cell? ⟨w.heap.size + 1, 1, none⟩ = some (.slice (some ⟨bb, ob, none⟩) M cB) ∧ w'.cell? ⟨bb, ob + k * 2, none⟩ = some v1 ∧ w'.cell? ⟨bb, ob + k * 2 + 1, none⟩ = some v2)
        (first
          | exact K4.out _ hdw.out
          | exact K4.out _ hbB)
        (first
          | (go_at_call 59; (with_reducible refine (CS.out _ (below_two HW4.out hdw.out)).mono ?_); rintro e w5 ⟨rfl, hb5⟩; have hbB := below_two hdw.out hb5))
      have HB5 := Lib.hid (below_two HB4.out hbB)
      have HW5 := Lib.hid (below_two HW4.out hbB)
      have x0 := (K4.out w5 hbB).2.1
      have x1 := (K4.out w5 hbB).2.2.1
      clear hb5 hbB sNk sA
      obtain ⟨y0, y1, y2, -⟩ := K.out w5 HB5.out
      obtain ⟨cT, cR, -, -⟩ := KC.out w5 HW5.out k hz
      cases ST with
      | false =>
        have HNo := Lib.hid (holdB_false (n := M) hz (show stepB root pt o x p k = false by rw [HS.out]; rfl))
        go_wp2
        go_ret
        exact ⟨ret_bool HNo.out.symm, HW5.out⟩
      | true =>
        rw [Bool.true_and] at HS
        by_cases hk2 : k + 1 < M
        · have d1 : decide ((k : Int) + 1 < (M : Int)) = true := decide_eq_true (by omega)
          have hk3 : (k : Int) + 1 < (M : Int) := by omega
          obtain ⟨-, -, uX2, uY2⟩ := KU.out (k + 1) hk2
          obtain ⟨-, -, z0, z1⟩ := KC.out w5 HW5.out (k + 1) hk2
          obtain ⟨h2, hh2⟩ : ∃ h2, h = 2 * h2 := by
            obtain ⟨c, hc⟩ : ∃ c, a = c + 1 := ⟨a - 1, by have := Ha.out; omega⟩
            exact ⟨2 ^ c, by rw [Hh.out, hc, Nat.pow_succ]; omega⟩
          have hquo : Int.tdiv (h : Int) 2 = (h2 : Int) := by rw [hh2]; show Int.tdiv ((2 * h2 : Nat) : Int) ((2 : Nat) : Int) = _; rw [← Int.ofNat_tdiv]; congr 1; omega
          have ht1 : ((k : Int) + 1).toNat = k + 1 := by omega
          have HH2 := Lib.hid hh2
          have HW2 := Lib.hid (show wrap64 (h2 : Int) = (h2 : Int) by unfold wrap64; omega)
          obtain ⟨n0, hn0⟩ : ∃ n0, n0 = (ata x.pairs (k + 1)).1 := ⟨_, rfl⟩
          obtain ⟨n1, hn1⟩ : ∃ n1, n1 = (ata x.pairs (k + 1)).2 := ⟨_, rfl⟩
          have HN1 := Lib.hid (show h ≤ 2 * q2 → nextI o x M p k = n1 from fun e => by rw [hn1]; exact nextI_hi Ha.out hk2 (by rw [← Hq2.out, ← Hh.out]; exact e))
          have HN0 := Lib.hid (show ¬ h ≤ 2 * q2 → nextI o x M p k = n0 from fun e => by rw [hn0]; exact nextI_lo Ha.out hk2 (by rw [← Hq2.out, ← Hh.out]; exact e))
          rw [← hn0] at z0 uX2; rw [← hn1] at z1 uY2
          clear hk2 hn0 hn1 hh2
          go_wp2_with (fail)
          clear d1 hquo y1 y2
          all_goals
            first
              | (have hcc : (q2 : Int) < wrap64 (h2 : Int) := by assumption
                 have HNX := Lib.hid (HN0.out (by rw [HW2.out] at hcc; have := HH2.out; omega))
                 have uN := uX2
                 clear hcc
                 clear ‹(q2 : Int) < wrap64 (h2 : Int)›
                 clear z0 z1 uX2 uY2 HN0 HN1 HW2
                 generalize n0 = nx at *)
              | (have hcc : wrap64 (h2 : Int) ≤ (q2 : Int) := by assumption
                 have HNX := Lib.hid (HN1.out (by rw [HW2.out] at hcc; have := HH2.out; omega))
                 have uN := uY2
                 clear hcc
                 clear ‹wrap64 (h2 : Int) ≤ (q2 : Int)›
                 clear z0 z1 uX2 uY2 HN0 HN1 HW2
                 generalize n1 = nx at *)
            obtain ⟨bw, hbw⟩ : ∃ bw, bw = btw (phi X) (phi Y) (phi (at0 pt k)) := ⟨_, rfl⟩
            rw [HNX.out, ← hbw] at HS
            have Cb := Lib.hid (fun Z => show Calls Tryd.prog 58 #[.int .u64 X, .int .u64 Y, .int .u64 (at0 pt k)] Z fun e w' => e = .returned (.int .u64 (psi bw)) ∧ Z = w' from by rw [hbw]; exact mle_Between X Y (at0 pt k) Z uX uY uT)
            clear hbw
            by_cases hE : bw = phi nx
            · have bE := psiO_nee hE
              have HYes := Lib.hid (show holdB root pt o x p (k + 1) = true by rw [holdB_succ, HH.out, HS.out, decide_eq_true hE]; rfl)
              clear hE
              go_quiet (first | (go_at_call 58; exact flip (Cb.out _)) | (go_at_call 13; exact flip (field_Norm _ _ uN)))
              have hq := below_drewN (Below.refl w5.heap.size w5) nq
              have y0' := (K.out _ (below_two HB5.out hq)).1
              have cR' := (KC.out _ (below_two HW5.out hq) k hz).2.1
              have HB6 := Lib.hid (below_two HB5.out hq)
              clear x0 x1 y0 cT cR hq
              generalize w5.drewN nq = w6 at *
              go_wp2
              go_roundw
              case rel => exact ⟨k + 1, q2, by omega, by omega, by go_num, rfl, by rw [rootI_succ], by rw [rootI_succ]; exact uR, HQ2.out, HYes.out, HB6.out⟩
              case measure => simp [intOf]; omega
            · have bE := psiO_nne hE
              have HNo := Lib.hid (holdB_false (n := M) hz (show stepB root pt o x p k = false by rw [HS.out, decide_eq_false hE]))
              clear hE
              go_quiet (first | (go_at_call 58; exact flip (Cb.out _)) | (go_at_call 13; exact flip (field_Norm _ _ uN)))
              have HW6 := Lib.hid (below_two HW5.out (below_drewN (Below.refl w5.heap.size w5) nq))
              go_wp2
              go_ret
              exact ⟨ret_bool HNo.out.symm, HW6.out⟩
        · have d1 : decide ((k : Int) + 1 < (M : Int)) = false := decide_eq_false (by omega)
          obtain ⟨nx, hnx⟩ : ∃ nx, nx = o.value := ⟨_, rfl⟩
          have HNX := Lib.hid ((nextI_end (o := o) (x := x) (p := p) hk2).trans hnx.symm)
          rw [← hnx] at y1
          have uN : U64 nx := by rw [hnx]; exact uv
          clear hk2 hnx
          go_wp2_with (fail)
          clear d1 y1 y2
          obtain ⟨bw, hbw⟩ : ∃ bw, bw = btw (phi X) (phi Y) (phi (at0 pt k)) := ⟨_, rfl⟩
          rw [HNX.out, ← hbw] at HS
          have Cb := Lib.hid (fun Z => show Calls Tryd.prog 58 #[.int .u64 X, .int .u64 Y, .int .u64 (at0 pt k)] Z fun e w' => e = .returned (.int .u64 (psi bw)) ∧ Z = w' from by rw [hbw]; exact mle_Between X Y (at0 pt k) Z uX uY uT)
          clear hbw
          by_cases hE : bw = phi nx
          · have bE := psiO_nee hE
            have HYes := Lib.hid (show holdB root pt o x p (k + 1) = true by rw [holdB_succ, HH.out, HS.out, decide_eq_true hE]; rfl)
            clear hE
            go_quiet (first | (go_at_call 58; exact flip (Cb.out _)) | (go_at_call 13; exact flip (field_Norm _ _ uN)))
            have hq := below_drewN (Below.refl w5.heap.size w5) nq
            have y0' := (K.out _ (below_two HB5.out hq)).1
            have cR' := (KC.out _ (below_two HW5.out hq) k hz).2.1
            have HB6 := Lib.hid (below_two HB5.out hq)
            clear x0 x1 y0 cT cR hq
            generalize w5.drewN nq = w6 at *
            go_wp2
            go_roundw
            case rel => exact ⟨k + 1, q2, by omega, by omega, by go_num, rfl, by rw [rootI_succ], by rw [rootI_succ]; exact uR, HQ2.out, HYes.out, HB6.out⟩
            case measure => simp [intOf]; omega
          · have bE := psiO_nne hE
            have HNo := Lib.hid (holdB_false (n := M) hz (show stepB root pt o x p k = false by rw [HS.out, decide_eq_false hE]))
            clear hE
            go_quiet (first | (go_at_call 58; exact flip (Cb.out _)) | (go_at_call 13; exact flip (field_Norm _ _ uN)))
            have HW6 := Lib.hid (below_two HW5.out (below_drewN (Below.refl w5.heap.size w5) nq))
            go_wp2
            go_ret
            exact ⟨ret_bool HNo.out.symm, HW6.out⟩
    · obtain rfl : k = M := by omega
      go_wp2
      go_ret
      exact ⟨ret_bool HH.out.symm, HBw.out⟩

end Go.Proofs.YtokggifjcbkmnaaDoor
