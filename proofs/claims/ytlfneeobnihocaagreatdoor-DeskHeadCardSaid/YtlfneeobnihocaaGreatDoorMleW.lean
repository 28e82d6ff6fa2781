/- The walks of package mle: Vars, Sum, Between, fix, Fix, Eval. The table of bits lies as its initialiser lays it; the lists are slices of 64-bit numbers. -/
import Derived.Test.YtlfneeobnihocaaGreatDoorTZ
import Derived.Test.YtlfneeobnihocaaGreatDoorEq
import Derived.Test.YtlfneeobnihocaaGreatDoorPoly
import Derived.StillTailTactics
import Derived.IntWalk
namespace Go.Proofs.YtlfneeobnihocaaGreatDoor
set_option maxRecDepth 100000
set_option linter.unusedVariables false
open Go.RowKit Tally
theorem ctz_pow (n : Nat) (h : n ≤ 8) : Lib.ctz 64 (2 ^ n) = n := by
  have : n = 0 ∨ n = 1 ∨ n = 2 ∨ n = 3 ∨ n = 4 ∨ n = 5 ∨ n = 6 ∨ n = 7 ∨ n = 8 := by omega
  rcases this with rfl | rfl | rfl | rfl | rfl | rfl | rfl | rfl | rfl <;> decide
theorem pow_le8 {n : Nat} (h : n ≤ 8) : 1 ≤ 2 ^ n ∧ 2 ^ n ≤ 256 := ⟨Nat.pow_pos (by decide), Nat.pow_le_pow_right (by decide) h⟩
theorem pow_wrap8 {n : Nat} (h : n ≤ 8) : wrap64 (2 ^ n) = ((2 ^ n : Nat) : Int) := by
  have h1 := pow_le8 h
  have e : ((2 : Int) ^ n) = ((2 ^ n : Nat) : Int) := by simp
  rw [e]; generalize 2 ^ n = m at *; exact IntWalk.wrap64_in _ ⟨by omega, by omega⟩
theorem wrapLen {n : Nat} (h : n ≤ 9223372036854775807) : IntKind.u64.wrap (n : Int) = (n : Int) := by rw [IntKind.wrap_u64]; omega
/-- no table -/
def NoTab (n : Nat) : Prop := ∀ k, k ≤ 8 → n ≠ 2 ^ k
set_option maxHeartbeats 1000000 in
theorem mle_Vars (l : List Int) (n : Nat) (v : Value) (w : World) (hT : Tab w) (hp : RowU w v l) (hn : l.length = 2 ^ n) (h8 : n ≤ 8) :
    Calls Tryz.prog 62 #[v] w fun e w' => e = .returned (.tuple #[.int .i64 n, .int .i64 0]) ∧ w = w' := by
  obtain ⟨_, h2, ad, cap, rfl, hr⟩ := hp
  clear hr
  have hw := wrapLen h2
  have HT := Lib.hid hT
  obtain ⟨g1, g2⟩ := pow_le8 h8
  have hz : ((l.length : Int) == 0) = false := beq_false_of_ne (by omega)
  have Hc := Lib.hid (show Lib.ctz 64 l.length = n by rw [hn, ctz_pow n h8])
  have hq : wrap64 (2 ^ n) = (l.length : Int) := by rw [pow_wrap8 h8, hn]
  have h8' : ¬ (8 : Int) < (n : Int) := by omega
  clear hn
  go_enter Tryz.func62, Tryz.ntmps62
  go_wp2_with (fail)
  refine (bits_TZ _ (by omega) _ HT.out).mono ?_
  rintro e w' ⟨rfl, rfl⟩
  rw [Hc.out]
  go_wp2
  go_ret2
  exact ⟨rfl, rfl⟩
set_option maxHeartbeats 1000000 in
theorem mle_Vars_no (l : List Int) (v : Value) (w : World) (hT : Tab w) (hp : RowU w v l) (hn : NoTab l.length) :
    Calls Tryz.prog 62 #[v] w fun e w' => e = .returned (.tuple #[.int .i64 0, .int .i64 4]) ∧ w = w' := by
  obtain ⟨_, h2, ad, cap, rfl, hr⟩ := hp
  clear hr
  have hw := wrapLen h2
  have HT := Lib.hid hT
  by_cases h0 : l.length = 0
  · have hz : ((l.length : Int) == 0) = true := by simp [h0]
    clear hn h0
    go_enter Tryz.func62, Tryz.ntmps62
    go_wp2_with (fail)
    refine (bits_TZ _ (by omega) _ HT.out).mono ?_
    rintro e w' ⟨rfl, rfl⟩
    generalize Lib.ctz 64 l.length = c
    go_wp2
    go_ret2
    exact ⟨rfl, rfl⟩
  · have hz : ((l.length : Int) == 0) = false := beq_false_of_ne (by omega)
    have Hn := Lib.hid hn
    clear hn h0
    go_enter Tryz.func62, Tryz.ntmps62
    go_wp2_with (fail)
    refine (bits_TZ _ (by omega) _ HT.out).mono ?_
    rintro e w' ⟨rfl, rfl⟩
    generalize Lib.ctz 64 l.length = c
    by_cases h8 : c ≤ 8
    · have h8' : ¬ (8 : Int) < (c : Int) := by omega
      have hq := pow_wrap8 h8
      have hne : ((l.length : Int) != ((2 ^ c : Nat) : Int)) = true := by
        have := Hn.out c h8
        rw [bne_iff_ne]; intro e; exact this (Int.ofNat_inj.mp e)
      generalize ((2 ^ c : Nat) : Int) = q at *
      go_wp2
      go_ret2
      exact ⟨rfl, rfl⟩
    · have h8' : (8 : Int) < (c : Int) := by omega
      go_wp2
      go_ret2
      exact ⟨rfl, rfl⟩
set_option maxHeartbeats 1000000 in
theorem mle_Between (a b x : Int) (w : World) (ha : U64 a) (hb : U64 b) (hx : U64 x) :
    Calls Tryz.prog 97 #[.int .u64 a, .int .u64 b, .int .u64 x] w fun e w' => e = .returned (.int .u64 (psi (btw (phi a) (phi b) (phi x)))) ∧ w = w' := by
  go_enter Tryz.func97, Tryz.ntmps97
  go_wp2_with (first | (go_at_call 111; (with_reducible refine (field_Sub _ _ _ (by first | assumption | exact U64.psi _ | exact U64.zero | exact U64.one | exact U64.mk (by decide) (by decide)) (by first | assumption | exact U64.psi _ | exact U64.zero | exact U64.one | exact U64.mk (by decide) (by decide))).mono ?_); rintro e w' ⟨rfl, rfl⟩) | (go_at_call 112; (with_reducible refine (field_Mul _ _ _ (by first | assumption | exact U64.psi _ | exact U64.zero | exact U64.one | exact U64.mk (by decide) (by decide)) (by first | assumption | exact U64.psi _ | exact U64.zero | exact U64.one | exact U64.mk (by decide) (by decide))).mono ?_); rintro e w' ⟨rfl, rfl⟩) | (go_at_call 108; (with_reducible refine (field_Add _ _ _ (by first | assumption | exact U64.psi _ | exact U64.zero | exact U64.one | exact U64.mk (by decide) (by decide)) (by first | assumption | exact U64.psi _ | exact U64.zero | exact U64.one | exact U64.mk (by decide) (by decide))).mono ?_); rintro e w' ⟨rfl, rfl⟩))
  go_ret
  exact ⟨ret_u64 (by rw [phi_psi, phi_psi]; rfl), rfl⟩
/-- where fix stands -/
def FStep (T : List F) (x : F) (k : Nat) (L : List Int) : Prop := ∀ j, j < k → at0 L j = psi (atF (fixF T x) j)
theorem fstep_step {T : List F} {x : F} {k : Nat} {L : List Int} (hk : k < L.length) (h : FStep T x k L) {v : Int} (hv : v = psi (atF (fixF T x) k)) : FStep T x (k + 1) (L.set k v) := by
  intro j hj
  by_cases e : j = k
  · subst e; rw [at0_set_self _ _ _ hk]; exact hv
  · rw [at0_set_ne _ _ _ _ (by omega)]; exact h j (by omega)
theorem fstep_end {T : List F} {x : F} {L : List Int} (hl : L.length = T.length / 2) (h : FStep T x L.length L) : L = (fixF T x).map psi := by
  refine List.ext_getElem (by rw [List.length_map, fixF_length]; exact hl) fun i h1 h2 => ?_
  have := h i h1
  have h3 : i < (fixF T x).length := by rw [fixF_length]; omega
  simpa [at0, atF, h1, h3] using this
theorem fixF_val (t : List Int) (x : Int) (k : Nat) (hk : k < t.length / 2) : psi (btw (phi (at0 t k)) (phi (at0 t (k + t.length / 2))) (phi x)) = psi (atF (fixF (t.map phi) (phi x)) k) := by
  rw [fixF_at _ _ _ (by simpa using hk), List.length_map, atF_map t k (by omega), atF_map t _ (by omega)]
set_option maxRecDepth 100000 in
set_option maxHeartbeats 1000000 in
theorem mle_fix (t : List Int) (v : Value) (x : Int) (w : World) (hp : RowU w v t) (hx : U64 x) (hs : t.length ≤ 256) :
    Calls Tryz.prog 63 #[v, .int .u64 x] w fun e w' => ∃ v', e = .returned v' ∧ NewU w.heap.size w' v' ((fixF (t.map phi) (phi x)).map psi) ∧ Below w.heap.size w w' := by
  have hat := Lib.hid (fun j => @RowU.at _ _ _ hp j)
  obtain ⟨_, h2, ad, cap, rfl, hr⟩ := hp
  have Hr := Lib.hid hr
  clear hr
  obtain ⟨h, hh⟩ : ∃ h, h = t.length / 2 := ⟨_, rfl⟩
  have hq : (t.length : Int) / 2 = (h : Int) := by omega
  have Hh := Lib.hid hh
  have hle : 2 * h ≤ t.length := by omega
  clear hh
  go_enter Tryz.func63, Tryz.ntmps63
  go_wp2_with (at_make; refine wpList_makeU _ rfl _ _ rfl _ _ h rfl rfl rfl rfl (by omega) ?_; intro w1 hn1 hb1)
  go_loopw [15] (fun i wr => ∃ (k : Nat) (L : List Int), k ≤ h ∧ i = .int .i64 (k : Int) ∧ NewU w.heap.size wr (.slice (some ⟨w.heap.size, 0, none⟩) h h) L ∧ Below w.heap.size w wr ∧ Hid (FStep (t.map phi) (phi x) k L)) (fun i _ => h - (intOf i).toNat)
  case atStart => exact ⟨0, _, by omega, rfl, hn1, hb1, fun j hj => absurd hj (by omega)⟩
  case round =>
    obtain ⟨k, L, hk, rfl, hL, hbr, HS⟩ := hrel
    by_cases hz : k < h
    · obtain ⟨b, off, rfl, hblt, hcell⟩ := Hr.out (by omega)
      have hc1 := (hbr.cell (p := ⟨b, off + k, none⟩) hblt).trans (hcell k (by omega))
      have hc2 := (hbr.cell (p := ⟨b, off + (k + h), none⟩) hblt).trans (hcell (k + h) (by omega))
      have u1 := hat.out k (by omega)
      have u2 := hat.out (k + h) (by omega)
      have ho := hL.cellAt k (by have := hL.lenEq; omega)
      have hf := hL.freeAt k
      have hk1 : (k : Int) < (h : Int) := by omega
      have hk2 : (k : Int) < (t.length : Int) := by omega
      have hk3 : (k : Int) + (h : Int) < (t.length : Int) := by omega
      have HL := Lib.hid hL
      clear hL hcell
      go_wp2
      have s1 : IntKind.i64.wrap ((k : Int) + (h : Int)) = (k : Int) + (h : Int) := IntWalk.i64_in _ (by omega)
      have s2 : (0 : Int) ≤ (k : Int) + (h : Int) := by omega
      have s3 : ((k : Int) + (h : Int)).toNat = k + h := by omega
      refine wp_region_still_tail 15 (by kernel_rfl) (by kernel_rfl) ?_
      simp only [List.take_succ_cons, List.take_zero, List.drop_succ_cons, List.drop_zero]
      repeat (first | still_step | still_call (still_of (mle_Between _ _ _ _ u1 u2 hx)))
      try refine wpStill_nil ?_
      change wpList _ _ _ _ _ (World.drew _)
      clear s1 s2 s3
      go_wp2
      go_roundw
      case rel => exact ⟨k + 1, _, by omega, by go_num, (HL.out.set k _ (U64.psi _)).drewN 1, below_drewN (hbr.setCell (by exact Nat.le_refl _) _) 1, fstep_step (by have := HL.out.lenEq; omega) HS.out (by have := Hh.out; subst this; exact fixF_val t x k hz)⟩
      case measure => simp [intOf]; omega
    · obtain rfl : k = h := by omega
      go_wp2
      go_ret
      have hLl := hL.lenEq
      have e := fstep_end (T := t.map phi) (x := phi x) (L := L) (by rw [List.length_map, ← Hh.out]; exact hLl.symm) (by rw [← hLl]; exact HS.out)
      exact ⟨_, rfl, by rw [← e]; exact hL, hbr⟩
theorem ret2 {k : IntKind} {a b c : Int} (h : a = b) : Ending.returned (.tuple #[.int k a, .int .i64 c]) = .returned (.tuple #[.int k b, .int .i64 c]) := by rw [h]
set_option maxHeartbeats 1000000 in
theorem mle_Fix (t : List Int) (n : Nat) (v : Value) (x : Int) (w : World) (hT : Tab w) (hp : RowU w v t) (hx : U64 x) (hn : t.length = 2 ^ (n + 1)) (h8 : n + 1 ≤ 8) :
    Calls Tryz.prog 170 #[v, .int .u64 x] w fun e w' => ∃ v', e = .returned (.tuple #[v', .int .i64 0]) ∧ NewU w.heap.size w' v' ((fixF (t.map phi) (phi x)).map psi) ∧ Below w.heap.size w w' := by
  have Hp := Lib.hid hp
  have Hn := Lib.hid hn
  have HT := Lib.hid hT
  have hz : ((((n + 1 : Nat) : Int)) == 0) = false := beq_false_of_ne (by omega)
  clear hn hp hT
  go_enter Tryz.func170, Tryz.ntmps170
  go_wp2_with (fail)
  refine (mle_Vars _ _ _ _ HT.out Hp.out Hn.out h8).mono ?_
  rintro e w' ⟨rfl, rfl⟩
  generalize ((n + 1 : Nat) : Int) = m at *
  go_wp2_with (fail)
  refine (mle_fix _ _ _ _ Hp.out hx (by have := pow_le8 h8; rw [Hn.out]; omega)).mono ?_
  rintro e w1 ⟨v1, rfl, hn1, hb1⟩
  have Hn1 := Lib.hid hn1
  clear hn1
  go_wp2
  go_ret2
  exact ⟨_, rfl, Hn1.out, hb1⟩
set_option maxHeartbeats 1000000 in
theorem mle_Fix_one (t : List Int) (v : Value) (x : Int) (w : World) (hT : Tab w) (hp : RowU w v t) (hn : t.length = 2 ^ 0) :
    Calls Tryz.prog 170 #[v, .int .u64 x] w fun e w' => e = .returned (.tuple #[.slice none 0 0, .int .i64 4]) ∧ w = w' := by
  have Hp := Lib.hid hp
  have Hn := Lib.hid hn
  have HT := Lib.hid hT
  clear hn hp hT
  go_enter Tryz.func170, Tryz.ntmps170
  go_wp2_with (fail)
  refine (mle_Vars _ 0 _ _ HT.out Hp.out Hn.out (by decide)).mono ?_
  rintro e w' ⟨rfl, rfl⟩
  go_wp2
  go_ret2
  exact ⟨rfl, rfl⟩
set_option maxHeartbeats 1000000 in
theorem mle_Fix_no (t : List Int) (v : Value) (x : Int) (w : World) (hT : Tab w) (hp : RowU w v t) (hn : NoTab t.length) :
    Calls Tryz.prog 170 #[v, .int .u64 x] w fun e w' => e = .returned (.tuple #[.slice none 0 0, .int .i64 4]) ∧ w = w' := by
  have Hp := Lib.hid hp
  have Hn := Lib.hid hn
  have HT := Lib.hid hT
  clear hn hp hT
  go_enter Tryz.func170, Tryz.ntmps170
  go_wp2_with (fail)
  refine (mle_Vars_no _ _ _ HT.out Hp.out Hn.out).mono ?_
  rintro e w' ⟨rfl, rfl⟩
  go_wp2
  go_ret2
  exact ⟨rfl, rfl⟩
theorem sum_step (t : List Int) (k : Nat) (c : Int) (hk : k < t.length) (H : c = psi (sumTo (atF (t.map phi)) k)) : psi (phi c + phi (at0 t k)) = psi (sumTo (atF (t.map phi)) (k + 1)) := by
  rw [H, phi_psi, sumTo, atF_map t k hk]
set_option maxHeartbeats 1000000 in
theorem mle_Sum (t : List Int) (n : Nat) (v : Value) (w : World) (hT : Tab w) (hp : RowU w v t) (hn : t.length = 2 ^ n) (h8 : n ≤ 8) :
    Calls Tryz.prog 68 #[v] w fun e w' => e = .returned (.tuple #[.int .u64 (psi (sumTo (atF (t.map phi)) t.length)), .int .i64 0]) ∧ w = w' := by
  have Hp := Lib.hid hp
  have Hn := Lib.hid hn
  have HT := Lib.hid hT
  have hat := Lib.hid (fun j => @RowU.at _ _ _ hp j)
  obtain ⟨_, h2, ad, cap, rfl, hr⟩ := hp
  have Hr := Lib.hid hr
  clear hn hr hT
  go_enter Tryz.func68, Tryz.ntmps68
  go_wp2_with (fail)
  refine (mle_Vars _ _ _ _ HT.out Hp.out Hn.out h8).mono ?_
  rintro e w' ⟨rfl, rfl⟩
  go_wp2
  go_loop [6, 19] (fun o i => ∃ (k : Nat) (c : Int), k ≤ t.length ∧ i = .int .i64 (k : Int) ∧ o = .int .u64 c ∧ U64 c ∧ Hid (c = psi (sumTo (atF (t.map phi)) k))) (fun _ i => t.length - (intOf i).toNat)
  case atStart => exact ⟨0, 0, by omega, rfl, rfl, U64.zero, psi_zero.symm⟩
  case round =>
    obtain ⟨k, c, hk, rfl, rfl, uc, HC⟩ := hrel
    by_cases hz : k < t.length
    · obtain ⟨b, off, rfl, hblt, hcell⟩ := Hr.out (by omega)
      have hc := hcell k hz
      have hu := hat.out k hz
      have Hs := Lib.hid (sum_step t k c hz HC.out)
      clear hcell
      go_wp2_with (first | (go_at_call 108; (with_reducible refine (field_Add _ _ _ (by first | assumption | exact U64.psi _ | exact U64.zero | exact U64.one | exact U64.mk (by decide) (by decide)) (by first | assumption | exact U64.psi _ | exact U64.zero | exact U64.one | exact U64.mk (by decide) (by decide))).mono ?_); rintro e w' ⟨rfl, rfl⟩))
      go_round
      case rel => exact ⟨k + 1, _, by omega, by go_num, rfl, U64.psi _, Hs.out⟩
      case measure => simp [intOf]; omega
    · obtain rfl : k = t.length := by omega
      go_wp2
      go_ret2
      exact ⟨ret2 HC.out, rfl⟩
set_option maxHeartbeats 1000000 in
theorem mle_Sum_no (t : List Int) (v : Value) (w : World) (hT : Tab w) (hp : RowU w v t) (hn : NoTab t.length) :
    Calls Tryz.prog 68 #[v] w fun e w' => e = .returned (.tuple #[.int .u64 0, .int .i64 4]) ∧ w = w' := by
  have Hp := Lib.hid hp
  have Hn := Lib.hid hn
  have HT := Lib.hid hT
  clear hn hp hT
  go_enter Tryz.func68, Tryz.ntmps68
  go_wp2_with (fail)
  refine (mle_Vars_no _ _ _ HT.out Hp.out Hn.out).mono ?_
  rintro e w' ⟨rfl, rfl⟩
  go_wp2
  go_ret2
  exact ⟨rfl, rfl⟩
theorem mapphi_psi (l : List F) : (l.map psi).map phi = l := by
  rw [List.map_map]; conv => rhs; rw [← List.map_id l]
  exact List.map_congr_left fun a _ => phi_psi a
/-- where Eval stands -/
def EvAt (t p : List Int) (k : Nat) (L : List Int) : Prop := L.map phi = fixes (t.map phi) ((p.map phi).take k)
theorem evAt_len {t p : List Int} {k : Nat} {L : List Int} (hn : t.length = 2 ^ p.length) (hk : k ≤ p.length) (h : EvAt t p k L) : L.length = 2 ^ (p.length - k) := by
  have := congrArg List.length h
  rw [List.length_map, fixes_length _ _ (p.length - k) (by rw [List.length_map, hn, List.length_take, List.length_map]; congr 1; omega)] at this
  exact this
theorem evAt_step {t p : List Int} {k : Nat} {L : List Int} (hk : k < p.length) (h : EvAt t p k L) : EvAt t p (k + 1) ((fixF (L.map phi) (phi (at0 p k))).map psi) := by
  unfold EvAt at *
  rw [mapphi_psi, take_map_snoc p k hk, fixes_snoc, h]
theorem evAt_end {t p : List Int} {L : List Int} (h1 : 0 < L.length) (h : EvAt t p p.length L) : psi (phi (at0 L 0)) = psi (evalF (t.map phi) (p.map phi)) := by
  unfold EvAt at h
  rw [List.take_of_length_le (by simp)] at h
  unfold evalF; rw [← h, atF_map L 0 h1]
set_option maxHeartbeats 1000000 in
theorem mle_Eval (t p : List Int) (v v2 : Value) (w : World) (hT : Tab w) (hp : RowU w v t) (hp2 : RowU w v2 p) (hn : t.length = 2 ^ p.length) (h8 : p.length ≤ 8) :
    Calls Tryz.prog 34 #[v, v2] w fun e w' => e = .returned (.tuple #[.int .u64 (psi (evalF (t.map phi) (p.map phi))), .int .i64 0]) ∧ Below w.heap.size w w' := by
  have Hp := Lib.hid hp
  have Hn := Lib.hid hn
  have HT := Lib.hid hT
  have hat := Lib.hid (fun j => @RowU.at _ _ _ hp2 j)
  obtain ⟨_, h2, ad, cap, rfl, hr⟩ := hp2
  have Hr := Lib.hid hr
  clear hn hr hT hp
  go_enter Tryz.func34, Tryz.ntmps34
  go_wp2_with (fail)
  refine (mle_Vars _ _ _ _ HT.out Hp.out Hn.out h8).mono ?_
  rintro e w' ⟨rfl, rfl⟩
  go_wp2
  go_loopw [0, 26] (fun o i wr => ∃ (k : Nat) (L : List Int), k ≤ p.length ∧ i = .int .i64 (k : Int) ∧ Hid (RowU wr o L) ∧ Hid (EvAt t p k L) ∧ Below w.heap.size w wr) (fun _ i _ => p.length - (intOf i).toNat)
  case atStart => exact ⟨0, t, by omega, rfl, Hp.out, rfl, Below.refl _ _⟩
  case round =>
    obtain ⟨k, L, hk, rfl, HL, HE, hb⟩ := hrel
    have hLl := evAt_len Hn.out hk HE.out
    have hL2 := pow_le8 (n := p.length - k) (by omega)
    rw [← hLl] at hL2
    obtain ⟨hL0, hL256⟩ := hL2
    clear hLl
    by_cases hz : k < p.length
    · obtain ⟨b, off, rfl, hblt, hcell⟩ := Hr.out (by omega)
      have hc := (hb.cell (p := ⟨b, off + k, none⟩) hblt).trans (hcell k hz)
      have hu := hat.out k hz
      clear hcell
      go_wp2_with (fail)
      refine (mle_fix _ _ _ _ HL.out hu hL256).mono ?_
      rintro e w1 ⟨v1, rfl, hn1, hb1⟩
      have Hn1 := Lib.hid hn1
      clear hn1
      go_wp2
      go_roundw
      case rel => exact ⟨k + 1, _, by omega, by go_num, Hn1.out.row, evAt_step hz HE.out, hb.trans (hb1.mono hb.size)⟩
      case measure => simp [intOf]; omega
    · obtain rfl : k = p.length := by omega
      obtain ⟨hLu, hL3, ad3, cap3, rfl, hr3⟩ := HL.out
      obtain ⟨b, off, rfl, hblt, hcell⟩ := hr3 hL0
      have hc := hcell 0 hL0
      rw [Nat.add_zero] at hc
      have hu : U64 (at0 L 0) := hLu _ (at0_mem hL0)
      have hL0' : (0 : Int) < (L.length : Int) := by omega
      have He := Lib.hid (evAt_end hL0 HE.out)
      clear hcell hr3 hLu
      go_wp2_with (first | (go_at_call 64; (with_reducible refine (field_Norm _ _ (by first | assumption | exact U64.psi _ | exact U64.zero | exact U64.one | exact U64.mk (by decide) (by decide))).mono ?_); rintro e w' ⟨rfl, rfl⟩))
      go_ret2
      exact ⟨ret2 He.out, hb⟩
set_option maxHeartbeats 1000000 in
theorem mle_Eval_arg (t p : List Int) (n : Nat) (v v2 : Value) (w : World) (hT : Tab w) (hp : RowU w v t) (hp2 : RowU w v2 p) (hn : t.length = 2 ^ n) (h8 : n ≤ 8) (hne : p.length ≠ n) :
    Calls Tryz.prog 34 #[v, v2] w fun e w' => e = .returned (.tuple #[.int .u64 0, .int .i64 1]) ∧ w = w' := by
  have Hp := Lib.hid hp
  have Hn := Lib.hid hn
  have HT := Lib.hid hT
  obtain ⟨_, h2, ad, cap, rfl, hr⟩ := hp2
  have hq : ((p.length : Int) != (n : Int)) = true := by rw [bne_iff_ne]; exact fun e => hne (Int.ofNat_inj.mp e)
  clear hn hr hT hp hne
  go_enter Tryz.func34, Tryz.ntmps34
  go_wp2_with (fail)
  refine (mle_Vars _ _ _ _ HT.out Hp.out Hn.out h8).mono ?_
  rintro e w' ⟨rfl, rfl⟩
  go_wp2
  go_ret2
  exact ⟨rfl, rfl⟩
set_option maxHeartbeats 1000000 in
theorem mle_Eval_no (t : List Int) (v v2 : Value) (w : World) (hT : Tab w) (hp : RowU w v t) (hn : NoTab t.length) :
    Calls Tryz.prog 34 #[v, v2] w fun e w' => e = .returned (.tuple #[.int .u64 0, .int .i64 4]) ∧ w = w' := by
  have Hp := Lib.hid hp
  have Hn := Lib.hid hn
  have HT := Lib.hid hT
  clear hn hT hp
  go_enter Tryz.func34, Tryz.ntmps34
  go_wp2_with (fail)
  refine (mle_Vars_no _ _ _ HT.out Hp.out Hn.out).mono ?_
  rintro e w' ⟨rfl, rfl⟩
  go_wp2
  go_ret2
  exact ⟨rfl, rfl⟩
end Go.Proofs.YtlfneeobnihocaaGreatDoor
