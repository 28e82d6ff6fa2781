/- Several texts in one: Eq, TZ, MleW, KeepM. What each says, and its conditions, stands at its head. -/
import Derived.Test.YtlfneeobnihocaaGreatDoorUni
import Derived.Lib.TrailingZeros
import Derived.Laws.Bits64b
import Derived.StillTailTactics
import Derived.IntWalk
import Derived.Laws.CopyOwn
/- The walks of Eq: the program's list and the reference's number; the point is a slice of 64-bit numbers. -/
namespace Go.Proofs.YtlfneeobnihocaaGreatDoor
set_option maxRecDepth 100000
set_option linter.unusedVariables false
open Go.RowKit Tally
theorem take_map_snoc (p : List Int) (k : Nat) (h : k < p.length) : (p.map phi).take (k + 1) = (p.map phi).take k ++ [phi (at0 p k)] := by
 rw [take_snoc _ k 0 (by simpa using h)]; simp [at0, h]
theorem take_map_pred (p : List Int) (k : Nat) (h0 : 0 < k) (h : k ≤ p.length) : (p.map phi).take k = (p.map phi).take (k - 1) ++ [phi (at0 p (k - 1))] := by
 rw [← take_map_snoc p (k - 1) (by omega)]; congr 1; omega
theorem toNat_half {b : Int} (h : 0 ≤ b) : (b / 2).toNat = b.toNat / 2 := by omega
theorem eq_odd (p : List Int) (k : Nat) (b c : Int) (r : F) (h0 : 0 < k) (h : k ≤ p.length) (hb : 0 ≤ b) (ho : (b % 2 == 1) = true) (H : phi c * eqAt ((p.map phi).take k) b.toNat = r) :
  phi (psi (phi c * phi (at0 p (k - 1)))) * eqAt ((p.map phi).take (k - 1)) (b / 2).toNat = r := by
 have hb2 : b.toNat % 2 = 1 := by have := of_decide_eq_true ho; omega
 rw [take_map_pred p k h0 h, eqAt_snoc, if_pos hb2] at H
 rw [phi_psi, toNat_half hb, ← H]; grind
theorem eq_even (p : List Int) (k : Nat) (b c : Int) (r : F) (h0 : 0 < k) (h : k ≤ p.length) (hb : 0 ≤ b) (ho : (b % 2 == 1) = false) (H : phi c * eqAt ((p.map phi).take k) b.toNat = r) :
  phi (psi (phi c * phi (psi (phi 1 - phi (at0 p (k - 1)))))) * eqAt ((p.map phi).take (k - 1)) (b / 2).toNat = r := by
 have hb2 : ¬ b.toNat % 2 = 1 := by have := beq_eq_false_iff_ne.mp ho; omega
 rw [take_map_pred p k h0 h, eqAt_snoc, if_neg hb2] at H
 rw [phi_psi, phi_psi, phi_one, toNat_half hb, ← H]; grind
theorem eq_start (p : List Int) (b : Int) : phi 1 * eqAt ((p.map phi).take p.length) b.toNat = eqAt (p.map phi) b.toNat := by
 rw [List.take_of_length_le (by simp), phi_one]; grind
theorem eq_end (p : List Int) (b c : Int) (r : F) (hc : U64 c) (hlt : c < P) (H : phi c * eqAt ((p.map phi).take 0) b.toNat = r) : c = psi r := by
 refine eq_psi ?_ hc.1 hlt
 rw [← H, List.take_zero, eqAt_nil]; grind
set_option maxHeartbeats 400000 in
theorem ref_Eq (p : List Int) (v : Value) (b : Int) (w : World) (hp : RowU w v p) (hb0 : 0 ≤ b) (hb : b < 9223372036854775808) :
  Calls Tryz.prog 79 #[v, .int .i64 b] w fun e w' => e = .returned (.int .u64 (psi (eqAt (p.map phi) b.toNat))) ∧ w = w' := by
 have hl := hp.len
 have hat := zH (fun j => @RowU.at _ _ _ hp j)
 obtain ⟨h1, h2, a, cap, rfl, hr⟩ := hp
 have Hr := zH hr
 clear hr
 go_enter Tryz.func79, Tryz.ntmps79
 go_wp2
 go_loop [5, 1, 6] (fun o b' i => ∃ (k : Nat) (b1 c : Int), k ≤ p.length ∧ 0 ≤ b1 ∧ b1 < 9223372036854775808 ∧ U64 c ∧ c < P ∧ o = .int .u64 c ∧ b' = .int .i64 b1 ∧ i = .int .i64 ((k : Int) - 1) ∧ Hid (phi c * eqAt ((p.map phi).take k) b1.toNat = eqAt (p.map phi) b.toNat)) (fun _ _ i => (intOf i + 1).toNat)
 case atStart => exact ⟨p.length, b, 1, by omega, by omega, by omega, U64.one, by decide, rfl, rfl, rfl, eq_start p b⟩
 case round =>
  obtain ⟨k, b1, c, hk, hb10, hb1, hc, hlt, rfl, rfl, rfl, H⟩ := hrel
  by_cases hz : 0 < k
  ·obtain ⟨bl, off, rfl, _, hcell⟩ := Hr.out (by omega)
   have hcj := hcell (k - 1) (by omega)
   have hu := hat.out (k - 1) (by omega)
   clear hcell
   go_wp2_with (first | (go_at_call 45; (with_reducible refine (ref_Mul _ _ _ (by first | assumption | exact U64.psi _ | exact U64.zero | exact U64.one | exact U64.mk (by decide) (by decide)) (by first | assumption | exact U64.psi _ | exact U64.zero | exact U64.one | exact U64.mk (by decide) (by decide))).mono ?_); rintro e w' ⟨rfl, rfl⟩) | (go_at_call 44; (with_reducible refine (ref_Sub _ _ _ (by first | assumption | exact U64.psi _ | exact U64.zero | exact U64.one | exact U64.mk (by decide) (by decide)) (by first | assumption | exact U64.psi _ | exact U64.zero | exact U64.one | exact U64.mk (by decide) (by decide))).mono ?_); rintro e w' ⟨rfl, rfl⟩))
   all_goals go_round
   case rel => exact ⟨k - 1, _, _, by omega, by omega, by omega, U64.psi _, psi_lt _, rfl, rfl, by congr 1; omega, eq_odd p k b1 c _ hz hk hb10 ‹_› H.out⟩
   case measure => simp [intOf]; omega
   case rel => exact ⟨k - 1, _, _, by omega, by omega, by omega, U64.psi _, psi_lt _, rfl, rfl, by congr 1; omega, eq_even p k b1 c _ hz hk hb10 ‹_› H.out⟩
   case measure => simp [intOf]; omega
  ·obtain rfl : k = 0 := by omega
   go_wp2
   go_ret
   exact ⟨ret_u64 (eq_end p b1 c _ hc hlt H.out), rfl⟩
def eqI (x v : Int) : List Int := [psi (phi v * phi (psi (phi 1 - phi x))), psi (phi v * phi x)]
theorem eqI_len (x : Int) (L : List Int) : (L.flatMap (eqI x)).length = 2 * L.length := by
 induction L with
 | nil => rfl
 | cons a L ih => rw [List.flatMap_cons, List.length_append, ih, List.length_cons]; simp only [eqI, List.length_cons, List.length_nil]; omega
theorem eqI_snoc (x : Int) (L : List Int) (j : Nat) (h : j < L.length) : (L.take (j + 1)).flatMap (eqI x) = (L.take j).flatMap (eqI x) ++ [psi (phi (at0 L j) * phi (psi (phi 1 - phi x))), psi (phi (at0 L j) * phi x)] := by
 rw [take_snoc L j 0 h, List.flatMap_append]; simp [eqI]
theorem eqI_all (x : Int) (l : List F) : (l.map psi).flatMap (eqI x) = (eqStep l (phi x)).map psi := by
 unfold eqStep eqI
 induction l with
 | nil => rfl
 | cons a l ih => rw [List.map_cons, List.flatMap_cons, ih]; simp only [List.flatMap_cons, List.map_append, List.map_cons, List.map_nil, phi_psi, phi_one]
theorem eqs_start : [1] = (eqs (([] : List F))).map psi := by
 show [1] = [psi 1]; rw [psi_one]
theorem eqs_step (p : List Int) (k : Nat) (h : k < p.length) (L : List Int) (H : L = (eqs ((p.map phi).take k)).map psi) : L.flatMap (eqI (at0 p k)) = (eqs ((p.map phi).take (k + 1))).map psi := by
 rw [H, eqI_all, take_map_snoc p k h, eqs_snoc]
theorem eqs_len (p : List Int) (k : Nat) (h : k ≤ p.length) (h8 : p.length ≤ 8) (L : List Int) (H : L = (eqs ((p.map phi).take k)).map psi) : 0 < L.length ∧ L.length ≤ 256 := by
 rw [H, List.length_map, eqs_length, List.length_take, List.length_map, Nat.min_eq_left h]
 exact ⟨Nat.pow_pos (by decide), Nat.pow_le_pow_right (by decide) (by omega : k ≤ 8)⟩
set_option maxHeartbeats 400000 in
theorem mle_Eq (p : List Int) (v : Value) (w : World) (hp : RowU w v p) (hb : p.length ≤ 8) :
  Calls Tryz.prog 169 #[v] w fun e w' => ∃ v', e = .returned (.tuple #[v', .int .i64 0]) ∧ NewU w.heap.size w' v' ((eqs (p.map phi)).map psi) ∧ Below w.heap.size w w' := by
 have hl := hp.len
 have hb' : ¬ (8 : Int) < (p.length : Int) := by omega
 have hat := zH (fun j => @RowU.at _ _ _ hp j)
 obtain ⟨h1, h2, a, cap, rfl, hr⟩ := hp
 have Hr := zH hr
 clear hr h1
 go_enter Tryz.func169, Tryz.ntmps169
 go_wp2
 go_loopw [4, 16] (fun o i wr => ∃ (k : Nat) (L : List Int), k ≤ p.length ∧ i = .int .i64 (k : Int) ∧ Hid (L = (eqs ((p.map phi).take k)).map psi) ∧ NewU w.heap.size wr o L ∧ Below w.heap.size w wr) (fun _ i _ => p.length - (intOf i).toNat)
 case atStart => exact ⟨0, [1], by omega, rfl, eqs_start, NewU.lit1 w 1 U64.one, (Below.refl _ _).alloc (Nat.le_refl _) _⟩
 case round =>
  obtain ⟨k, L, hk, rfl, HL, hown, hbel⟩ := hrel
  obtain ⟨hL0, hL⟩ := eqs_len p k hk hb L HL.out
  by_cases hz : k < p.length
  ·obtain ⟨bl, off, rfl, hblt, hcell⟩ := Hr.out (by omega)
   have hcj := (hbel.cell (p := ⟨bl, off + k, none⟩) hblt).trans (hcell k (by omega))
   have hu := hat.out k (by omega)
   clear hcell
   have hLU := zH hown.1
   obtain ⟨g, c1, rfl, hg, hgl, hoc, hof⟩ := hown.shape hL0
   have Hoc := zH hoc
   clear hoc hof
   obtain ⟨wo, rfl⟩ : ∃ wo : World, wo = wr := ⟨_, rfl⟩
   go_wp2_with (at_make; refine wpList_makeU0 _ rfl _ _ rfl _ (2 * L.length) rfl rfl (by omega) (by omega) ?_; intro v0 w0 hn0 hb0)
   go_loopw [7, 26] (fun nx i wi => ∃ (j : Nat), j ≤ L.length ∧ i = .int .i64 (j : Int) ∧ NewU wo.heap.size wi nx ((L.take j).flatMap (eqI (at0 p k))) ∧ Below wo.heap.size wo wi) (fun _ i _ => L.length - (intOf i).toNat)
   case atStart => exact ⟨0, by omega, rfl, hn0, hb0⟩
   case round =>
    obtain ⟨j, hj, rfl, hni, hbi⟩ := hrel
    have hlj := eqI_len (at0 p k) (L.take j)
    have hlj2 : (L.take j).length ≤ L.length := List.length_take_le' _ _
    have hsz := hbi.size
    by_cases hzj : j < L.length
    ·have hcl := (hbi.cell (p := ⟨g, j, none⟩) hgl).trans (Hoc.out j hzj)
     have huj : U64 (at0 L j) := hLU.out _ (at0_mem hzj)
     have Hs := zH (eqI_snoc (at0 p k) L j hzj)
     have hcap : ((L.take j).flatMap (eqI (at0 p k))).length + 2 ≤ 17592186043904 := by omega
     clear hlj
     go_wp2_with (first | (go_at_call 111; (with_reducible refine (field_Sub _ _ _ (by first | assumption | exact U64.psi _ | exact U64.zero | exact U64.one | exact U64.mk (by decide) (by decide)) (by first | assumption | exact U64.psi _ | exact U64.zero | exact U64.one | exact U64.mk (by decide) (by decide))).mono ?_); rintro e w' ⟨rfl, rfl⟩) | (go_at_call 112; (with_reducible refine (field_Mul _ _ _ (by first | assumption | exact U64.psi _ | exact U64.zero | exact U64.one | exact U64.mk (by decide) (by decide)) (by first | assumption | exact U64.psi _ | exact U64.zero | exact U64.one | exact U64.mk (by decide) (by decide))).mono ?_); rintro e w' ⟨rfl, rfl⟩) | (at_builtin; refine wpList_appU2 rfl _ _ rfl wo.heap.size _ _ rfl hni _ _ rfl (U64.psi _) (U64.psi _) hcap hsz ?_; intro v1 w1 hn1 hb1))
     go_roundw
     case rel => exact ⟨j + 1, by omega, by go_num, by rw [Hs.out]; exact hn1, hbi.trans hb1⟩
     case measure => simp [intOf]; omega
    ·obtain rfl : j = L.length := by omega
     go_wp2
     go_roundw
     case rel => exact ⟨k + 1, _, by omega, by go_num, eqs_step p k hz L HL.out, NewU.mono (by rw [List.take_of_length_le (Nat.le_refl L.length)] at hni; exact hni) hbel.size, hbel.trans (hbi.mono hbel.size)⟩
     case measure => simp [intOf]; omega
  ·obtain rfl : k = p.length := by omega
   go_wp2
   go_ret2
   refine ⟨_, rfl, ?_, hbel⟩
   have := HL.out
   rw [List.take_of_length_le (by simp)] at this
   rw [← this]; exact hown
end Go.Proofs.YtlfneeobnihocaaGreatDoor
/- The table that math/bits.TrailingZeros reads, and its contract: it lies as its initialiser lays it. -/
namespace Go.Proofs.YtlfneeobnihocaaGreatDoor
set_option maxRecDepth 100000
set_option linter.unusedVariables false
open Go.RowKit Tally
def Tab (w : World) : Prop := ∀ j, j < 64 → w.cell? ⟨5, j, none⟩ = some (.int .u8 ((Lib.deBruijn64tab.getD j 0 : Nat) : Int))
theorem Tab.lt {w : World} (h : Tab w) : 5 < w.heap.size := by
 have := h 0 (by decide)
 rcases Nat.lt_or_ge 5 w.heap.size with h' | h'
 ·exact h'
 ·simp [World.cell?, Array.getElem?_eq_none h'] at this
theorem Tab.below {w w' : World} (h : Tab w) (hb : Below w.heap.size w w') : Tab w' := fun j hj => (hb.cell (p := ⟨5, j, none⟩) h.lt).trans (h j hj)
theorem Tab.drawn {w w' : World} (h : Tab w) (hd : Drawn w w') : Tab w' := h.below hd.below
theorem Tab.drewN {w : World} (h : Tab w) (n : Nat) : Tab (w.drewN n) := h.drawn ⟨n, rfl⟩
theorem tz64_key (x a : Nat) (hx : x < 18446744073709551616) (hx0 : x ≠ 0) (hlow : x &&& (18446744073709551616 - x) = a) :
  IntKind.u64.wrap (bits BinOp.and IntKind.u64 (x : Int) (IntKind.u64.wrap (-(x : Int))) * 285870213051353865) / 288230376151711744 = ((a * 285870213051353865 % 18446744073709551616 / 288230376151711744 : Nat) : Int) := by
 have e1 : IntKind.u64.wrap (-(x : Int)) = ((18446744073709551616 - x : Nat) : Int) := by rw [IntKind.wrap_u64]; omega
 rw [e1, bits_and_u64_nat x _ hx (by omega), hlow, IntKind.wrap_u64]
 omega
set_option maxHeartbeats 1000000 in
theorem tz64_core (x k idx : Nat) (w : World) (hx0 : ((x : Int) == 0) = false)
  (key : IntKind.u64.wrap (bits BinOp.and IntKind.u64 (x : Int) (IntKind.u64.wrap (-(x : Int))) * 285870213051353865) / 288230376151711744 = (idx : Int))
  (hi : idx < 64) (hk : k < 64) (hcell : w.cell? ⟨5, idx, none⟩ = some (.int .u8 (k : Int))) :
  Calls Tryz.prog 139 #[.int .u64 x] w fun e w' => e = .returned (.int .i64 k) ∧ w = w' := by
 go_enter Tryz.func139, Tryz.ntmps139
 go_wp2_with (simp only [key])
 go_ret
 exact ⟨rfl, rfl⟩
set_option maxHeartbeats 1000000 in
theorem tz64_zero (w : World) :
  Calls Tryz.prog 139 #[.int .u64 0] w fun e w' => e = .returned (.int .i64 64) ∧ w = w' := by
 go_enter Tryz.func139, Tryz.ntmps139
 go_wp2
 go_ret
 exact ⟨rfl, rfl⟩
theorem bits_TZ64 (x : Nat) (hx : x < 18446744073709551616) (w : World) (hT : Tab w) :
  Calls Tryz.prog 139 #[.int .u64 x] w fun e w' => e = .returned (.int .i64 (Lib.ctz 64 x)) ∧ w = w' := by
 by_cases hx0 : x = 0
 ·subst hx0; exact tz64_zero w
 ·obtain ⟨hlow, hk⟩ := Lib.lowest_bit 64 x hx0 hx
  obtain ⟨hi, htab⟩ := Lib.deBruijn64_at _ hk
  have hcell := hT _ hi
  rw [htab] at hcell
  exact tz64_core x _ _ w (by simp; omega) (tz64_key x _ hx hx0 hlow) hi hk hcell
set_option maxHeartbeats 1000000 in
theorem bits_TZ (x : Nat) (hx : x < 18446744073709551616) (w : World) (hT : Tab w) :
  Calls Tryz.prog 96 #[.int .u64 x] w fun e w' => e = .returned (.int .i64 (Lib.ctz 64 x)) ∧ w = w' := by
 have hw : IntKind.u64.wrap (x : Int) = (x : Int) := by rw [IntKind.wrap_u64]; omega
 go_enter Tryz.func96, Tryz.ntmps96
 go_wp2_with (go_at_call 139; (with_reducible refine (bits_TZ64 _ hx _ hT).mono ?_); rintro e w' ⟨rfl, rfl⟩)
 go_ret
 exact ⟨rfl, rfl⟩
end Go.Proofs.YtlfneeobnihocaaGreatDoor
/- The walks of package mle: Vars, Sum, Between, fix, Fix, Eval. The table of bits lies as its initialiser lays it; the lists are slices of 64-bit numbers. -/
namespace Go.Proofs.YtlfneeobnihocaaGreatDoor
set_option maxRecDepth 100000
set_option linter.unusedVariables false
open Go.RowKit Tally
theorem ctz_pow (n : Nat) (h : n ≤ 8) : Lib.ctz 64 (2 ^ n) = n := by
 have : n = 0 ∨ n = 1 ∨ n = 2 ∨ n = 3 ∨ n = 4 ∨ n = 5 ∨ n = 6 ∨ n = 7 ∨ n = 8 := by omega
 rcases this with rfl | rfl | rfl | rfl | rfl | rfl | rfl | rfl | rfl <;> decide
theorem pow_le8 {n : Nat} (h : n ≤ 8) : 1 ≤ 2 ^ n ∧ 2 ^ n ≤ 256 := ⟨Nat.pow_pos (by decide), Nat.pow_le_pow_right (by decide) h⟩
theorem pow_wrap8 {n : Nat} (h : n ≤ 8) : wrap64 (2 ^ n) = ((2 ^ n : Nat) : Int) := by
 have h1 := pow_le8 h
 have e : ((2 : Int) ^ n) = ((2 ^ n : Nat) : Int) := by simp
 rw [e]; generalize 2 ^ n = m at *; exact IntWalk.wrap64_in _ ⟨by omega, by omega⟩
theorem wrapLen {n : Nat} (h : n ≤ 9223372036854775807) : IntKind.u64.wrap (n : Int) = (n : Int) := by rw [IntKind.wrap_u64]; omega
def NoTab (n : Nat) : Prop := ∀ k, k ≤ 8 → n ≠ 2 ^ k
set_option maxHeartbeats 1000000 in
theorem mle_Vars (l : List Int) (n : Nat) (v : Value) (w : World) (hT : Tab w) (hp : RowU w v l) (hn : l.length = 2 ^ n) (h8 : n ≤ 8) :
  Calls Tryz.prog 62 #[v] w fun e w' => e = .returned (.tuple #[.int .i64 n, .int .i64 0]) ∧ w = w' := by
 obtain ⟨_, h2, ad, cap, rfl, hr⟩ := hp
 clear hr
 have hw := wrapLen h2
 have HT := zH hT
 obtain ⟨g1, g2⟩ := pow_le8 h8
 have hz : ((l.length : Int) == 0) = false := beq_false_of_ne (by omega)
 have Hc := zH (show Lib.ctz 64 l.length = n by rw [hn, ctz_pow n h8])
 have hq : wrap64 (2 ^ n) = (l.length : Int) := by rw [pow_wrap8 h8, hn]
 have h8' : ¬ (8 : Int) < (n : Int) := by omega
 clear hn
 go_enter Tryz.func62, Tryz.ntmps62
 go_wp2_with (fail)
 refine (bits_TZ _ (by omega) _ HT.out).mono ?_
 rintro e w' ⟨rfl, rfl⟩
 rw [Hc.out]
 go_wp2
 go_ret2
 exact ⟨rfl, rfl⟩
set_option maxHeartbeats 1000000 in
theorem mle_Vars_no (l : List Int) (v : Value) (w : World) (hT : Tab w) (hp : RowU w v l) (hn : NoTab l.length) :
  Calls Tryz.prog 62 #[v] w fun e w' => e = .returned (.tuple #[.int .i64 0, .int .i64 4]) ∧ w = w' := by
 obtain ⟨_, h2, ad, cap, rfl, hr⟩ := hp
 clear hr
 have hw := wrapLen h2
 have HT := zH hT
 by_cases h0 : l.length = 0
 ·have hz : ((l.length : Int) == 0) = true := by simp [h0]
  clear hn h0
  go_enter Tryz.func62, Tryz.ntmps62
  go_wp2_with (fail)
  refine (bits_TZ _ (by omega) _ HT.out).mono ?_
  rintro e w' ⟨rfl, rfl⟩
  generalize Lib.ctz 64 l.length = c
  go_wp2
  go_ret2
  exact ⟨rfl, rfl⟩
 ·have hz : ((l.length : Int) == 0) = false := beq_false_of_ne (by omega)
  have Hn := zH hn
  clear hn h0
  go_enter Tryz.func62, Tryz.ntmps62
  go_wp2_with (fail)
  refine (bits_TZ _ (by omega) _ HT.out).mono ?_
  rintro e w' ⟨rfl, rfl⟩
  generalize Lib.ctz 64 l.length = c
  by_cases h8 : c ≤ 8
  ·have h8' : ¬ (8 : Int) < (c : Int) := by omega
   have hq := pow_wrap8 h8
   have hne : ((l.length : Int) != ((2 ^ c : Nat) : Int)) = true := by
    have := Hn.out c h8
    rw [bne_iff_ne]; intro e; exact this (Int.ofNat_inj.mp e)
   generalize ((2 ^ c : Nat) : Int) = q at *
   go_wp2
   go_ret2
   exact ⟨rfl, rfl⟩
  ·have h8' : (8 : Int) < (c : Int) := by omega
   go_wp2
   go_ret2
   exact ⟨rfl, rfl⟩
set_option maxHeartbeats 1000000 in
theorem mle_Between (a b x : Int) (w : World) (ha : U64 a) (hb : U64 b) (hx : U64 x) :
  Calls Tryz.prog 97 #[.int .u64 a, .int .u64 b, .int .u64 x] w fun e w' => e = .returned (.int .u64 (psi (btw (phi a) (phi b) (phi x)))) ∧ w = w' := by
 go_enter Tryz.func97, Tryz.ntmps97
 go_wp2_with (first | (go_at_call 111; (with_reducible refine (field_Sub _ _ _ (by first | assumption | exact U64.psi _ | exact U64.zero | exact U64.one | exact U64.mk (by decide) (by decide)) (by first | assumption | exact U64.psi _ | exact U64.zero | exact U64.one | exact U64.mk (by decide) (by decide))).mono ?_); rintro e w' ⟨rfl, rfl⟩) | (go_at_call 112; (with_reducible refine (field_Mul _ _ _ (by first | assumption | exact U64.psi _ | exact U64.zero | exact U64.one | exact U64.mk (by decide) (by decide)) (by first | assumption | exact U64.psi _ | exact U64.zero | exact U64.one | exact U64.mk (by decide) (by decide))).mono ?_); rintro e w' ⟨rfl, rfl⟩) | (go_at_call 108; (with_reducible refine (field_Add _ _ _ (by first | assumption | exact U64.psi _ | exact U64.zero | exact U64.one | exact U64.mk (by decide) (by decide)) (by first | assumption | exact U64.psi _ | exact U64.zero | exact U64.one | exact U64.mk (by decide) (by decide))).mono ?_); rintro e w' ⟨rfl, rfl⟩))
 go_ret
 exact ⟨ret_u64 (by rw [phi_psi, phi_psi]; rfl), rfl⟩
def FStep (T : List F) (x : F) (k : Nat) (L : List Int) : Prop := ∀ j, j < k → at0 L j = psi (atF (fixF T x) j)
theorem fstep_step {T : List F} {x : F} {k : Nat} {L : List Int} (hk : k < L.length) (h : FStep T x k L) {v : Int} (hv : v = psi (atF (fixF T x) k)) : FStep T x (k + 1) (L.set k v) := by
 intro j hj
 by_cases e : j = k
 ·subst e; rw [at0_set_self _ _ _ hk]; exact hv
 ·rw [at0_set_ne _ _ _ _ (by omega)]; exact h j (by omega)
theorem fstep_end {T : List F} {x : F} {L : List Int} (hl : L.length = T.length / 2) (h : FStep T x L.length L) : L = (fixF T x).map psi := by
 refine List.ext_getElem (by rw [List.length_map, fixF_length]; exact hl) fun i h1 h2 => ?_
 have := h i h1
 have h3 : i < (fixF T x).length := by rw [fixF_length]; omega
 simpa [at0, atF, h1, h3] using this
theorem fixF_val (t : List Int) (x : Int) (k : Nat) (hk : k < t.length / 2) : psi (btw (phi (at0 t k)) (phi (at0 t (k + t.length / 2))) (phi x)) = psi (atF (fixF (t.map phi) (phi x)) k) := by
 rw [fixF_at _ _ _ (by simpa using hk), List.length_map, atF_map t k (by omega), atF_map t _ (by omega)]
set_option maxHeartbeats 1000000 in
theorem mle_fix (t : List Int) (v : Value) (x : Int) (w : World) (hp : RowU w v t) (hx : U64 x) (hs : t.length ≤ 256) :
  Calls Tryz.prog 63 #[v, .int .u64 x] w fun e w' => ∃ v', e = .returned v' ∧ NewU w.heap.size w' v' ((fixF (t.map phi) (phi x)).map psi) ∧ Below w.heap.size w w' := by
 have hat := zH (fun j => @RowU.at _ _ _ hp j)
 obtain ⟨_, h2, ad, cap, rfl, hr⟩ := hp
 have Hr := zH hr
 clear hr
 obtain ⟨h, hh⟩ : ∃ h, h = t.length / 2 := ⟨_, rfl⟩
 have hq : (t.length : Int) / 2 = (h : Int) := by omega
 have Hh := zH hh
 have hle : 2 * h ≤ t.length := by omega
 clear hh
 go_enter Tryz.func63, Tryz.ntmps63
 go_wp2_with (at_make; refine wpList_makeU _ rfl _ _ rfl _ _ h rfl rfl rfl rfl (by omega) ?_; intro w1 hn1 hb1)
 go_loopw [15] (fun i wr => ∃ (k : Nat) (L : List Int), k ≤ h ∧ i = .int .i64 (k : Int) ∧ NewU w.heap.size wr (.slice (some ⟨w.heap.size, 0, none⟩) h h) L ∧ Below w.heap.size w wr ∧ Hid (FStep (t.map phi) (phi x) k L)) (fun i _ => h - (intOf i).toNat)
 case atStart => exact ⟨0, _, by omega, rfl, hn1, hb1, fun j hj => absurd hj (by omega)⟩
 case round =>
  obtain ⟨k, L, hk, rfl, hL, hbr, HS⟩ := hrel
  by_cases hz : k < h
  ·obtain ⟨b, off, rfl, hblt, hcell⟩ := Hr.out (by omega)
   have hc1 := (hbr.cell (p := ⟨b, off + k, none⟩) hblt).trans (hcell k (by omega))
   have hc2 := (hbr.cell (p := ⟨b, off + (k + h), none⟩) hblt).trans (hcell (k + h) (by omega))
   have u1 := hat.out k (by omega)
   have u2 := hat.out (k + h) (by omega)
   have ho := hL.cellAt k (by have := hL.lenEq; omega)
   have hf := hL.freeAt k
   have hk1 : (k : Int) < (h : Int) := by omega
   have hk2 : (k : Int) < (t.length : Int) := by omega
   have hk3 : (k : Int) + (h : Int) < (t.length : Int) := by omega
   have HL := zH hL
   clear hL hcell
   go_wp2
   have s1 : IntKind.i64.wrap ((k : Int) + (h : Int)) = (k : Int) + (h : Int) := IntWalk.i64_in _ (by omega)
   have s2 : (0 : Int) ≤ (k : Int) + (h : Int) := by omega
   have s3 : ((k : Int) + (h : Int)).toNat = k + h := by omega
   refine wp_region_still_tail 15 (by kernel_rfl) (by kernel_rfl) ?_
   simp only [List.take_succ_cons, List.take_zero, List.drop_succ_cons, List.drop_zero]
   repeat (first | still_step | still_call (still_of (mle_Between _ _ _ _ u1 u2 hx)))
   try refine wpStill_nil ?_
   change wpList _ _ _ _ _ (World.drew _)
   clear s1 s2 s3
   go_wp2
   go_roundw
   case rel => exact ⟨k + 1, _, by omega, by go_num, (HL.out.set k _ (U64.psi _)).drewN 1, below_drewN (hbr.setCell (by exact Nat.le_refl _) _) 1, fstep_step (by have := HL.out.lenEq; omega) HS.out (by have := Hh.out; subst this; exact fixF_val t x k hz)⟩
   case measure => simp [intOf]; omega
  ·obtain rfl : k = h := by omega
   go_wp2
   go_ret
   have hLl := hL.lenEq
   have e := fstep_end (T := t.map phi) (x := phi x) (L := L) (by rw [List.length_map, ← Hh.out]; exact hLl.symm) (by rw [← hLl]; exact HS.out)
   exact ⟨_, rfl, by rw [← e]; exact hL, hbr⟩
theorem ret2 {k : IntKind} {a b c : Int} (h : a = b) : Ending.returned (.tuple #[.int k a, .int .i64 c]) = .returned (.tuple #[.int k b, .int .i64 c]) := by rw [h]
set_option maxHeartbeats 1000000 in
theorem mle_Fix (t : List Int) (n : Nat) (v : Value) (x : Int) (w : World) (hT : Tab w) (hp : RowU w v t) (hx : U64 x) (hn : t.length = 2 ^ (n + 1)) (h8 : n + 1 ≤ 8) :
  Calls Tryz.prog 170 #[v, .int .u64 x] w fun e w' => ∃ v', e = .returned (.tuple #[v', .int .i64 0]) ∧ NewU w.heap.size w' v' ((fixF (t.map phi) (phi x)).map psi) ∧ Below w.heap.size w w' := by
 have Hp := zH hp
 have Hn := zH hn
 have HT := zH hT
 have hz : ((((n + 1 : Nat) : Int)) == 0) = false := beq_false_of_ne (by omega)
 clear hn hp hT
 go_enter Tryz.func170, Tryz.ntmps170
 go_wp2_with (fail)
 refine (mle_Vars _ _ _ _ HT.out Hp.out Hn.out h8).mono ?_
 rintro e w' ⟨rfl, rfl⟩
 generalize ((n + 1 : Nat) : Int) = m at *
 go_wp2_with (fail)
 refine (mle_fix _ _ _ _ Hp.out hx (by have := pow_le8 h8; rw [Hn.out]; omega)).mono ?_
 rintro e w1 ⟨v1, rfl, hn1, hb1⟩
 have Hn1 := zH hn1
 clear hn1
 go_wp2
 go_ret2
 exact ⟨_, rfl, Hn1.out, hb1⟩
theorem sum_step (t : List Int) (k : Nat) (c : Int) (hk : k < t.length) (H : c = psi (sumTo (atF (t.map phi)) k)) : psi (phi c + phi (at0 t k)) = psi (sumTo (atF (t.map phi)) (k + 1)) := by
 rw [H, phi_psi, sumTo, atF_map t k hk]
set_option maxHeartbeats 1000000 in
theorem mle_Sum (t : List Int) (n : Nat) (v : Value) (w : World) (hT : Tab w) (hp : RowU w v t) (hn : t.length = 2 ^ n) (h8 : n ≤ 8) :
  Calls Tryz.prog 68 #[v] w fun e w' => e = .returned (.tuple #[.int .u64 (psi (sumTo (atF (t.map phi)) t.length)), .int .i64 0]) ∧ w = w' := by
 have Hp := zH hp
 have Hn := zH hn
 have HT := zH hT
 have hat := zH (fun j => @RowU.at _ _ _ hp j)
 obtain ⟨_, h2, ad, cap, rfl, hr⟩ := hp
 have Hr := zH hr
 clear hn hr hT
 go_enter Tryz.func68, Tryz.ntmps68
 go_wp2_with (fail)
 refine (mle_Vars _ _ _ _ HT.out Hp.out Hn.out h8).mono ?_
 rintro e w' ⟨rfl, rfl⟩
 go_wp2
 go_loop [6, 19] (fun o i => ∃ (k : Nat) (c : Int), k ≤ t.length ∧ i = .int .i64 (k : Int) ∧ o = .int .u64 c ∧ U64 c ∧ Hid (c = psi (sumTo (atF (t.map phi)) k))) (fun _ i => t.length - (intOf i).toNat)
 case atStart => exact ⟨0, 0, by omega, rfl, rfl, U64.zero, psi_zero.symm⟩
 case round =>
  obtain ⟨k, c, hk, rfl, rfl, uc, HC⟩ := hrel
  by_cases hz : k < t.length
  ·obtain ⟨b, off, rfl, hblt, hcell⟩ := Hr.out (by omega)
   have hc := hcell k hz
   have hu := hat.out k hz
   have Hs := zH (sum_step t k c hz HC.out)
   clear hcell
   go_wp2_with (first | (go_at_call 108; (with_reducible refine (field_Add _ _ _ (by first | assumption | exact U64.psi _ | exact U64.zero | exact U64.one | exact U64.mk (by decide) (by decide)) (by first | assumption | exact U64.psi _ | exact U64.zero | exact U64.one | exact U64.mk (by decide) (by decide))).mono ?_); rintro e w' ⟨rfl, rfl⟩))
   go_round
   case rel => exact ⟨k + 1, _, by omega, by go_num, rfl, U64.psi _, Hs.out⟩
   case measure => simp [intOf]; omega
  ·obtain rfl : k = t.length := by omega
   go_wp2
   go_ret2
   exact ⟨ret2 HC.out, rfl⟩
set_option maxHeartbeats 1000000 in
theorem mle_Sum_no (t : List Int) (v : Value) (w : World) (hT : Tab w) (hp : RowU w v t) (hn : NoTab t.length) :
  Calls Tryz.prog 68 #[v] w fun e w' => e = .returned (.tuple #[.int .u64 0, .int .i64 4]) ∧ w = w' := by
 have Hp := zH hp
 have Hn := zH hn
 have HT := zH hT
 clear hn hp hT
 go_enter Tryz.func68, Tryz.ntmps68
 go_wp2_with (fail)
 refine (mle_Vars_no _ _ _ HT.out Hp.out Hn.out).mono ?_
 rintro e w' ⟨rfl, rfl⟩
 go_wp2
 go_ret2
 exact ⟨rfl, rfl⟩
theorem mapphi_psi (l : List F) : (l.map psi).map phi = l := by
 rw [List.map_map]; conv => rhs; rw [← List.map_id l]
 exact List.map_congr_left fun a _ => phi_psi a
def EvAt (t p : List Int) (k : Nat) (L : List Int) : Prop := L.map phi = fixes (t.map phi) ((p.map phi).take k)
theorem evAt_len {t p : List Int} {k : Nat} {L : List Int} (hn : t.length = 2 ^ p.length) (hk : k ≤ p.length) (h : EvAt t p k L) : L.length = 2 ^ (p.length - k) := by
 have := congrArg List.length h
 rw [List.length_map, fixes_length _ _ (p.length - k) (by rw [List.length_map, hn, List.length_take, List.length_map]; congr 1; omega)] at this
 exact this
theorem evAt_step {t p : List Int} {k : Nat} {L : List Int} (hk : k < p.length) (h : EvAt t p k L) : EvAt t p (k + 1) ((fixF (L.map phi) (phi (at0 p k))).map psi) := by
 unfold EvAt at *
 rw [mapphi_psi, take_map_snoc p k hk, fixes_snoc, h]
theorem evAt_end {t p : List Int} {L : List Int} (h1 : 0 < L.length) (h : EvAt t p p.length L) : psi (phi (at0 L 0)) = psi (evalF (t.map phi) (p.map phi)) := by
 unfold EvAt at h
 rw [List.take_of_length_le (by simp)] at h
 unfold evalF; rw [← h, atF_map L 0 h1]
set_option maxHeartbeats 1000000 in
theorem mle_Eval (t p : List Int) (v v2 : Value) (w : World) (hT : Tab w) (hp : RowU w v t) (hp2 : RowU w v2 p) (hn : t.length = 2 ^ p.length) (h8 : p.length ≤ 8) :
  Calls Tryz.prog 34 #[v, v2] w fun e w' => e = .returned (.tuple #[.int .u64 (psi (evalF (t.map phi) (p.map phi))), .int .i64 0]) ∧ Below w.heap.size w w' := by
 have Hp := zH hp
 have Hn := zH hn
 have HT := zH hT
 have hat := zH (fun j => @RowU.at _ _ _ hp2 j)
 obtain ⟨_, h2, ad, cap, rfl, hr⟩ := hp2
 have Hr := zH hr
 clear hn hr hT hp
 go_enter Tryz.func34, Tryz.ntmps34
 go_wp2_with (fail)
 refine (mle_Vars _ _ _ _ HT.out Hp.out Hn.out h8).mono ?_
 rintro e w' ⟨rfl, rfl⟩
 go_wp2
 go_loopw [0, 26] (fun o i wr => ∃ (k : Nat) (L : List Int), k ≤ p.length ∧ i = .int .i64 (k : Int) ∧ Hid (RowU wr o L) ∧ Hid (EvAt t p k L) ∧ Below w.heap.size w wr) (fun _ i _ => p.length - (intOf i).toNat)
 case atStart => exact ⟨0, t, by omega, rfl, Hp.out, rfl, Below.refl _ _⟩
 case round =>
  obtain ⟨k, L, hk, rfl, HL, HE, hb⟩ := hrel
  have hLl := evAt_len Hn.out hk HE.out
  have hL2 := pow_le8 (n := p.length - k) (by omega)
  rw [← hLl] at hL2
  obtain ⟨hL0, hL256⟩ := hL2
  clear hLl
  by_cases hz : k < p.length
  ·obtain ⟨b, off, rfl, hblt, hcell⟩ := Hr.out (by omega)
   have hc := (hb.cell (p := ⟨b, off + k, none⟩) hblt).trans (hcell k hz)
   have hu := hat.out k hz
   clear hcell
   go_wp2_with (fail)
   refine (mle_fix _ _ _ _ HL.out hu hL256).mono ?_
   rintro e w1 ⟨v1, rfl, hn1, hb1⟩
   have Hn1 := zH hn1
   clear hn1
   go_wp2
   go_roundw
   case rel => exact ⟨k + 1, _, by omega, by go_num, Hn1.out.row, evAt_step hz HE.out, hb.trans (hb1.mono hb.size)⟩
   case measure => simp [intOf]; omega
  ·obtain rfl : k = p.length := by omega
   obtain ⟨hLu, hL3, ad3, cap3, rfl, hr3⟩ := HL.out
   obtain ⟨b, off, rfl, hblt, hcell⟩ := hr3 hL0
   have hc := hcell 0 hL0
   rw [Nat.add_zero] at hc
   have hu : U64 (at0 L 0) := hLu _ (at0_mem hL0)
   have hL0' : (0 : Int) < (L.length : Int) := by omega
   have He := zH (evAt_end hL0 HE.out)
   clear hcell hr3 hLu
   go_wp2_with (first | (go_at_call 64; (with_reducible refine (field_Norm _ _ (by first | assumption | exact U64.psi _ | exact U64.zero | exact U64.one | exact U64.mk (by decide) (by decide))).mono ?_); rintro e w' ⟨rfl, rfl⟩))
   go_ret2
   exact ⟨ret2 He.out, hb⟩
set_option maxHeartbeats 1000000 in
theorem mle_Eval_arg (t p : List Int) (n : Nat) (v v2 : Value) (w : World) (hT : Tab w) (hp : RowU w v t) (hp2 : RowU w v2 p) (hn : t.length = 2 ^ n) (h8 : n ≤ 8) (hne : p.length ≠ n) :
  Calls Tryz.prog 34 #[v, v2] w fun e w' => e = .returned (.tuple #[.int .u64 0, .int .i64 1]) ∧ w = w' := by
 have Hp := zH hp
 have Hn := zH hn
 have HT := zH hT
 obtain ⟨_, h2, ad, cap, rfl, hr⟩ := hp2
 have hq : ((p.length : Int) != (n : Int)) = true := by rw [bne_iff_ne]; exact fun e => hne (Int.ofNat_inj.mp e)
 clear hn hr hT hp hne
 go_enter Tryz.func34, Tryz.ntmps34
 go_wp2_with (fail)
 refine (mle_Vars _ _ _ _ HT.out Hp.out Hn.out h8).mono ?_
 rintro e w' ⟨rfl, rfl⟩
 go_wp2
 go_ret2
 exact ⟨rfl, rfl⟩
set_option maxHeartbeats 1000000 in
theorem mle_Eval_no (t : List Int) (v v2 : Value) (w : World) (hT : Tab w) (hp : RowU w v t) (hn : NoTab t.length) :
  Calls Tryz.prog 34 #[v, v2] w fun e w' => e = .returned (.tuple #[.int .u64 0, .int .i64 4]) ∧ w = w' := by
 have Hp := zH hp
 have Hn := zH hn
 have HT := zH hT
 clear hn hT hp
 go_enter Tryz.func34, Tryz.ntmps34
 go_wp2_with (fail)
 refine (mle_Vars_no _ _ _ HT.out Hp.out Hn.out).mono ?_
 rintro e w' ⟨rfl, rfl⟩
 go_wp2
 go_ret2
 exact ⟨rfl, rfl⟩
end Go.Proofs.YtlfneeobnihocaaGreatDoor
/- Several texts in one: Lists, KeepM. What each says, and its conditions, stands at its head. -/
/- Lists: slices.Equal at equal lists, copy into a new list, the helpers Rest, point and table of the laws. No condition but that the arguments read as lists. -/
namespace Go.Proofs.YtlfneeobnihocaaGreatDoor
set_option maxRecDepth 100000
set_option linter.unusedVariables false
open Go.RowKit Tally
def padTo (n : Nat) (l : List Int) : List Int := l.take n ++ List.replicate (n - l.length) 0
theorem padTo_length (n : Nat) (l : List Int) : (padTo n l).length = n := by simp [padTo]; omega
theorem splice_pad (n : Nat) (l : List Int) : splice ((List.replicate n (0 : Int)).map (Value.int .u64)) 0 ((l.take n).map (Value.int .u64)) = (padTo n l).map (Value.int .u64) := by
 unfold splice padTo
 rw [List.map_append]
 simp only [List.take_zero, List.nil_append, List.map_replicate, List.drop_replicate, List.length_map, List.length_take, Nat.zero_add]
 congr 2; omega
theorem wpList_copyU {ops : Array Oper} {rest : List Oper} {o : Oper} {a : Act} {Q : Exit → Act → World → Prop} {w : World} (hgd : o.guard = none) (d s : Operand)
  (ho : o.op = .call { callee := .builtin .copy, args := #[d, s], argTypes := #[53, 53] })
  (B g n : Nat) (hd : a.eval d = .slice (some ⟨g, 0, none⟩) n n) (hown : NewU B w (.slice (some ⟨g, 0, none⟩) n n) (List.replicate n 0)) (v : Value) (l : List Int) (hs : a.eval s = v) (hp : RowU w v l)
  (B0 : Nat) (w0 : World) (hb : Below B0 w0 w) (hB : B0 ≤ g)
  (h : ∀ k w', NewU B w' (.slice (some ⟨g, 0, none⟩) n n) (padTo n l) → Below B0 w0 w' → wpList Tryz.prog ops Q rest (a.put o.dst (goInt k)) w') : wpList Tryz.prog ops Q (o :: rest) a w := by
 obtain ⟨hu, hll, ad, cap, rfl, hr⟩ := hp
 obtain ⟨o1, o2, o3⟩ := hown
 have o3' : w.ownsRow B 57 1 (.slice (some ⟨g, 0, none⟩) n n) n ((List.replicate n (0 : Int)).map (Value.int .u64)) := by simpa using o3
 obtain ⟨-, o4⟩ := o3'
 rcases o4 with ⟨r, _⟩ | ⟨g', cap', cur, rv, r2, r3, r4, r5, r6, r7⟩
 ·cases r
 ·cases rv
  have hcur : cur.toList = (List.replicate n (0 : Int)).map (Value.int .u64) := by
   rw [← r7, List.take_of_length_le (by simp; omega)]
  have hbk : w.heap[g]? = some (.cells (((List.replicate n (0 : Int)).map (Value.int .u64)).toArray) 57 (0, 0)) := by rw [r3, ← hcur]
  obtain ⟨i0, hi1, hz0, hz1, hz2⟩ := info_parts Tryz.infoU
  refine wpList_copy_splice hgd d s _ _ ho 57 Tryz.underlying53 (by rw [hi1]; simp [hz1]) _ _ _ _ _ _ hd hs g 0 _ _ hbk ((l.take n).map (Value.int .u64)) (by simp [Nat.min_comm]) ?_ (by simp; omega) (by intro u hu'; obtain ⟨x, _, rfl⟩ := List.mem_map.mp hu'; rfl) B0 w0 hb hB ?_
  ·intro hpos
   refine ⟨rfl, ?_⟩
   have hl0 : 0 < l.length := by simp at hpos; omega
   obtain ⟨b, off, rfl, hlt, hc⟩ := hr hl0
   refine ⟨_, rfl, fun j u hj => ?_⟩
   have hj2 : j < l.length := by
    rcases Nat.lt_or_ge j l.length with h' | h'
    ·exact h'
    ·rw [List.getElem?_eq_none (by simp; omega)] at hj; cases hj
   rw [Addr.add_lit, hc j hj2]
   simp only [List.getElem?_map, List.getElem?_take] at hj
   split at hj
   ·simpa [at0, hj2] using hj
   ·cases hj
  ·intro w' hw' hb'
   refine h _ w' ⟨?_, by rw [padTo_length]; simpa using o2, ?_⟩ hb'
   ·intro x hx
    rcases List.mem_append.mp hx with hx | hx
    ·exact hu x (List.mem_of_mem_take hx)
    ·rw [List.eq_of_mem_replicate hx]; exact U64.zero
   ·rw [splice_pad] at hw'
    refine ⟨by simp, .inr ⟨g, n, _, by rw [padTo_length], r2, hw'.out, by rw [padTo_length]; exact Nat.le_refl _, r5, by simp [padTo_length], ?_⟩⟩
    rw [List.take_of_length_le (by simp [padTo_length])]
end Go.Proofs.YtlfneeobnihocaaGreatDoor
/- The helpers of the laws over tables: the reference's Vars, between; the law MleEqs. The table of bits lies as its initialiser lays it. -/
namespace Go.Proofs.YtlfneeobnihocaaGreatDoor
set_option maxRecDepth 100000
set_option linter.unusedVariables false
open Go.RowKit Tally
theorem below_alloc (w : World) (o : Obj) : Below w.heap.size w (w.alloc o) := (Below.refl _ _).alloc (Nat.le_refl _) _
theorem NewU.more {B : Nat} {w : World} {v : Value} {l : List Int} (h : NewU B w v l) (o : Obj) : NewU B (w.alloc o) v l := h.below (below_alloc w o) (Nat.le_refl _)
theorem RowU.more {w : World} {v : Value} {l : List Int} (h : RowU w v l) (o : Obj) : RowU (w.alloc o) v l := h.below (below_alloc w o) (Nat.le_refl _)
theorem Tab.more {w : World} (h : Tab w) (o : Obj) : Tab (w.alloc o) := h.below (below_alloc w o)
theorem RowU.step {w w' : World} {v : Value} {l : List Int} (h : RowU w v l) (hb : Below w.heap.size w w') : RowU w' v l := h.below hb (Nat.le_refl _)
theorem below_chain {a b c : World} (h : Below a.heap.size a b) (k : Below b.heap.size b c) : Below a.heap.size a c := h.trans (k.mono h.size)
theorem row1 (w : World) (n : Nat) (x : Int) (hx : U64 x) (hn : w.heap.size = n) : RowU (w.alloc (.cells #[.int .u64 x] 57)) (.slice (some ⟨n, 0, none⟩) 1 1) [x] := by
 subst hn; exact (NewU.lit1 w x hx).row
theorem pow_ne {k n : Nat} (h : k ≠ n) : (2 : Nat) ^ n ≠ 2 ^ k := fun e => h ((Nat.pow_right_inj (by decide : 1 < 2)).mp e).symm
set_option maxHeartbeats 1000000 in
theorem ref_Vars (l : List Int) (n : Nat) (v : Value) (w : World) (hp : RowU w v l) (hn : l.length = 2 ^ n) (h8 : n ≤ 8) :
  Calls Tryz.prog 49 #[v] w fun e w' => e = .returned (.int .i64 n) ∧ w = w' := by
 obtain ⟨_, h2, ad, cap, rfl, hr⟩ := hp
 have Hn := zH hn
 clear hr hn
 go_enter Tryz.func49, Tryz.ntmps49
 go_wp2
 go_loop [3] (fun i => ∃ k : Nat, k ≤ n ∧ i = .int .i64 (k : Int)) (fun i => 9 - (intOf i).toNat)
 case atStart => exact ⟨0, by omega, rfl⟩
 case round =>
  obtain ⟨k, hk, rfl⟩ := hrel
  have hk8 : (k : Int) ≤ 8 := by omega
  have hq := pow_wrap8 (n := k) (by omega)
  by_cases hz : k < n
  ·have hb : ((l.length : Int) == ((2 ^ k : Nat) : Int)) = false := by
    rw [beq_eq_false_iff_ne, Hn.out]; exact fun e => pow_ne (by omega) (Int.ofNat_inj.mp e)
   generalize ((2 ^ k : Nat) : Int) = q at *
   go_wp2
   go_round
   case rel => exact ⟨k + 1, by omega, by go_num⟩
   case measure => simp [intOf]; omega
  ·obtain rfl : n = k := by omega
   have hb : ((l.length : Int) == ((2 ^ n : Nat) : Int)) = true := by
    rw [beq_iff_eq, Hn.out]
   generalize ((2 ^ n : Nat) : Int) = q at *
   go_wp2
   go_ret
   exact ⟨rfl, rfl⟩
set_option maxHeartbeats 1000000 in
theorem ref_Vars_no (l : List Int) (v : Value) (w : World) (hp : RowU w v l) (hn : NoTab l.length) :
  Calls Tryz.prog 49 #[v] w fun e w' => e = .returned (.int .i64 (-1)) ∧ w = w' := by
 obtain ⟨_, h2, ad, cap, rfl, hr⟩ := hp
 have Hn := zH hn
 clear hr hn
 go_enter Tryz.func49, Tryz.ntmps49
 go_wp2
 go_loop [3] (fun i => ∃ k : Nat, k ≤ 9 ∧ i = .int .i64 (k : Int)) (fun i => 9 - (intOf i).toNat)
 case atStart => exact ⟨0, by omega, rfl⟩
 case round =>
  obtain ⟨k, hk, rfl⟩ := hrel
  by_cases hz : k < 9
  ·have hk8 : (k : Int) ≤ 8 := by omega
   have hq := pow_wrap8 (n := k) (by omega)
   have hb : ((l.length : Int) == ((2 ^ k : Nat) : Int)) = false := by
    rw [beq_eq_false_iff_ne]; exact fun e => Hn.out k (by omega) (Int.ofNat_inj.mp e)
   generalize ((2 ^ k : Nat) : Int) = q at *
   go_wp2
   go_round
   case rel => exact ⟨k + 1, by omega, by go_num⟩
   case measure => simp [intOf]; omega
  ·obtain rfl : k = 9 := by omega
   go_wp2
   go_ret
   exact ⟨rfl, rfl⟩
end Go.Proofs.YtlfneeobnihocaaGreatDoor
