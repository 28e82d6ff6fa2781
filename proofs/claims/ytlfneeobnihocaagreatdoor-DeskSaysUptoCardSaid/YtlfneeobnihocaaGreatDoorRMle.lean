/- The walks of the reference's tables: Eval, bits, joined, Fix, Partial. The lists are slices of 64-bit numbers; tables have 2^n numbers, n to 8. -/
import Derived.Test.YtlfneeobnihocaaGreatDoorKeepM
import Derived.Test.YtlfneeobnihocaaGreatDoorFar
import Derived.Test.YtlfneeobnihocaaGreatDoorUni
import Derived.IntWalk
import Derived.Laws.AppendOwnNone
import Derived.Deep.RegionHeld3
namespace Go.Proofs.YtlfneeobnihocaaGreatDoor
set_option maxRecDepth 100000
set_option linter.unusedVariables false
open Go.RowKit Tally
theorem wpList_appL {ops : Array Oper} {rest : List Oper} {o : Oper} {a : Act} {Q : Exit → Act → World → Prop} {w : World} (hgd : o.guard = none) (s x : Operand)
  (ho : o.op = .call { callee := .builtin .append, args := #[s, x], argTypes := #[53, 53] })
  (B : Nat) (v : Value) (l : List Int) (hs : a.eval s = v) (hown : NewU B w v l) (u : Value) (m : List Int) (hx : a.eval x = u) (hu : RowU w u m) (hnil : NilOk u)
  (hlen : l.length + m.length ≤ 17592186043904) (hB : B ≤ w.heap.size)
  (h : ∀ v' w', NewU B w' v' (l ++ m) → Below B w w' → wpList Tryz.prog ops Q rest (a.put o.dst v') w') : wpList Tryz.prog ops Q (o :: rest) a w := by
 obtain ⟨i0, hi1, hz0, hz1, hz2⟩ := info_parts Tryz.infoU
 obtain ⟨hu1, hu2, ad, cap, rfl, hu3⟩ := hu
 have hU : ∀ x ∈ l ++ m, U64 x := fun x hx => by
  rcases List.mem_append.mp hx with hx | hx
  ·exact hown.1 x hx
  ·exact hu1 x hx
 have hlt := hown.2.2.lt
 have main : ∀ (ad : Addr), (a.eval x = .slice (some ad) m.length cap) → (∀ j u, (m.map (Value.int .u64))[j]? = some u → w.cell? (ad.add j) = some u) → wpList Tryz.prog ops Q (o :: rest) a w := by
  intro ad hx hnews
  refine wpList_append_own _ hgd s x _ ho B 57 i0 (.int .u64 0) 1 8 Tryz.underlying53 hi1 hz0 hz1 hz2 rfl (by decide) v l.length _ hs hown.2.2 ad m.length cap (m.map (Value.int .u64)) hx (by simp) hnews
   (by intro y hy; obtain ⟨x, _, rfl⟩ := List.mem_map.mp hy; rfl) (by unfold maxLen; omega) (by omega) hB ?_
  intro v' w' h1 h2 _
  exact h v' w' ⟨hU, by simp; omega, by simpa using h1⟩ ((Below.refl B w).grown h2 hB fun k hk => (hlt k hk).1)
 rcases Nat.eq_zero_or_pos m.length with h0 | h0
 ·have hm : m = [] := List.eq_nil_of_length_eq_zero h0
  subst hm
  cases ad with
  | none =>
   obtain rfl : cap = 0 := hnil _ _ rfl
   refine wpList_append_own_none hgd s x _ ho B 57 i0 1 Tryz.underlying53 hi1 v l.length _ hs hown.2.2 hx ?_
   exact h v w (by rw [List.append_nil]; exact hown) (Below.refl _ _)
  | some ad => exact main ad hx (fun j u hu => by simp at hu)
 ·obtain ⟨b, off, rfl, _, hc⟩ := hu3 h0
  refine main _ hx fun j u hu => ?_
  have hj : j < m.length := by
   rcases Nat.lt_or_ge j m.length with h' | h'
   ·exact h'
   ·rw [List.getElem?_eq_none (by simp; omega)] at hu; cases hu
  rw [Addr.add_lit, hc j hj]
  simpa [at0, hj] using hu
theorem eval_step (t p : List Int) (b : Nat) (c : Int) (hb : b < t.length) (h : c = psi (sumTo (fun b => atF (t.map phi) b * eqAt (p.map phi) b) b)) :
  psi (phi c + phi (psi (phi (at0 t b) * phi (psi (eqAt (p.map phi) b))))) = psi (sumTo (fun b => atF (t.map phi) b * eqAt (p.map phi) b) (b + 1)) := by
 rw [h, phi_psi, phi_psi, phi_psi, sumTo, atF_map t b hb]
set_option maxHeartbeats 1000000 in
theorem ref_Eval (t p : List Int) (v v2 : Value) (w : World) (hp : RowU w v t) (hp2 : RowU w v2 p) :
  Calls Tryz.prog 52 #[v, v2] w fun e w' => e = .returned (.int .u64 (psi (dotEq (t.map phi) (p.map phi)))) ∧ Drawn w w' := by
 have Hp2 := zH hp2
 have hat := zH (fun j => @RowU.at _ _ _ hp j)
 obtain ⟨_, h2, ad, cap, rfl, hr⟩ := hp
 have Hr := zH hr
 have HE := zH (show dotEq (t.map phi) (p.map phi) = sumTo (fun b => atF (t.map phi) b * eqAt (p.map phi) b) t.length by unfold dotEq; rw [List.length_map])
 clear hr hp2
 go_enter Tryz.func52, Tryz.ntmps52
 go_wp2
 go_loopw [5, 6] (fun o i wr => ∃ (k : Nat) (c : Int), k ≤ t.length ∧ i = .int .i64 (k : Int) ∧ o = .int .u64 c ∧ U64 c ∧ Hid (c = psi (sumTo (fun b => atF (t.map phi) b * eqAt (p.map phi) b) k)) ∧ Drawn w wr) (fun _ i _ => t.length - (intOf i).toNat)
 case atStart => exact ⟨0, 0, by omega, rfl, rfl, U64.zero, psi_zero.symm, Drawn.refl _⟩
 case round =>
  obtain ⟨k, c, hk, rfl, rfl, uc, HC, hd⟩ := hrel
  by_cases hz : k < t.length
  ·obtain ⟨b, off, rfl, hblt, hcell⟩ := Hr.out (by omega)
   have hc := (hd.below.cell (p := ⟨b, off + k, none⟩) hblt).trans (hcell k hz)
   have hu := hat.out k hz
   have hk1 : (k : Int) < (t.length : Int) := by omega
   have HP := zH (Hp2.out.below hd.below (Nat.le_refl _))
   have Hs := zH (eval_step t p k c hz HC.out)
   clear hcell
   go_wp2
   go_quiet (first | (go_at_call 79; exact flip (ref_Eq p _ (k : Int) _ (RowU.drewN HP.out _) (by omega) (by omega))) | (go_at_call 45; exact flip (ref_Mul _ _ _ hu (U64.psi _))) | (go_at_call 43; exact flip (ref_Add _ _ _ uc (U64.psi _))))
   go_wp2
   go_roundw
   case rel => exact ⟨k + 1, _, by omega, by go_num, rfl, U64.psi _, Hs.out, hd.more _⟩
   case measure => simp [intOf]; omega
  ·obtain rfl : k = t.length := by omega
   go_wp2
   go_ret
   exact ⟨ret_u64 (by rw [HE.out]; exact HC.out), hd⟩
def bitsI (b n : Nat) : List Int := (bitsF b n).map psi
theorem bitsI_step (b j n : Nat) (h0 : 0 < j) (hj : j ≤ n) : bitsI (b / 2 ^ (j - 1)) (n - (j - 1)) = bitsI (b / 2 ^ j) (n - j) ++ [((b / 2 ^ (j - 1) % 2 : Nat) : Int)] := by
 unfold bitsI
 rw [show n - (j - 1) = (n - j) + 1 by omega, bitsF, List.map_append]
 have e : b / 2 ^ (j - 1) / 2 = b / 2 ^ j := by rw [Nat.div_div_eq_div_mul, ← Nat.pow_succ, show (j - 1).succ = j by omega]
 rw [e]
 congr 1
 rw [List.map_cons, List.map_nil]
 congr 1
 split <;> rename_i hc
 ·rw [hc]; exact psi_one
 ·rw [show b / 2 ^ (j - 1) % 2 = 0 by omega]; exact psi_zero
theorem shr_bit (b k : Nat) : ((b : Int) / 2 ^ k).tmod 2 = ((b / 2 ^ k % 2 : Nat) : Int) := by
 have e : ((b : Int) / 2 ^ k) = ((b / 2 ^ k : Nat) : Int) := by simp
 rw [e]; generalize b / 2 ^ k = m
 rw [Int.tmod_eq_emod_of_nonneg (by omega)]; omega
set_option maxHeartbeats 1000000 in
theorem ref_bits (b n : Nat) (w : World) (hb : b < 1000000) (hn : n ≤ 8) :
  Calls Tryz.prog 78 #[.int .i64 b, .int .i64 n] w fun e w' => ∃ v', e = .returned v' ∧ NewU w.heap.size w' v' (bitsI b n) ∧ Below w.heap.size w w' := by
 go_enter Tryz.func78, Tryz.ntmps78
 go_wp2
 go_loopw [5, 6] (fun o i wr => ∃ (j : Nat), j ≤ n ∧ i = .int .i64 ((j : Int) - 1) ∧ Hid (NewU w.heap.size wr o (bitsI (b / 2 ^ j) (n - j))) ∧ Below w.heap.size w wr) (fun _ i _ => (intOf i + 1).toNat)
 case atStart => exact ⟨n, by omega, rfl, by rw [Nat.sub_self]; exact NewU.nil _ _, Below.refl _ _⟩
 case round =>
  obtain ⟨j, hj, rfl, HO, hbl⟩ := hrel
  by_cases hz : 0 < j
  ·have hsz := hbl.size
   have hv := shr_bit b (j - 1)
   have Hs := zH (bitsI_step b j n hz hj)
   have hl : (bitsI (b / 2 ^ j) (n - j)).length + 1 ≤ 17592186043904 := by simp [bitsI, bitsF_length]; omega
   have hb2 : b / 2 ^ (j - 1) % 2 < 2 := Nat.mod_lt _ (by decide)
   generalize b / 2 ^ (j - 1) % 2 = c at *
   have uc : U64 (c : Int) := ⟨by omega, by omega⟩
   have hwc : IntKind.u64.wrap (c : Int) = (c : Int) := by rw [IntKind.wrap_u64]; omega
   clear hb2
   go_wp2_with (at_builtin; refine wpList_appU rfl _ _ rfl w.heap.size _ _ rfl HO.out _ rfl uc hl hsz ?_; intro v4 w4 hn4 hb4; have Hn4 := zH hn4; clear hn4)
   go_roundw
   case rel => exact ⟨j - 1, by omega, by congr 1; omega, by rw [Hs.out]; exact Hn4.out, hbl.trans hb4⟩
   case measure => simp [intOf]; omega
  ·obtain rfl : j = 0 := by omega
   go_wp2
   go_ret
   exact ⟨_, rfl, by have := HO.out; simpa using this, hbl⟩
def RowUN (w : World) (v : Value) (ll : List (List Int)) : Prop :=
 ll.length ≤ 9223372036854775807 ∧ ∃ a cap, v = .slice a ll.length cap ∧
  (0 < ll.length → ∃ b off, a = some ⟨b, off, none⟩ ∧ b < w.heap.size ∧ ∀ j, j < ll.length → ∃ u, w.cell? ⟨b, off + j, none⟩ = some u ∧ RowU w u (atl ll j) ∧ NilOk u)
theorem RowUN.rows {w : World} {v : Value} {ll : List (List Int)} (h : RowUN w v ll) : RowUU w v ll := by
 obtain ⟨h1, a, cap, rfl, h2⟩ := h
 refine ⟨h1, a, cap, rfl, fun h0 => ?_⟩
 obtain ⟨b, off, e, hlt, hc⟩ := h2 h0
 exact ⟨b, off, e, hlt, fun j hj => let ⟨u, c1, c2, _⟩ := hc j hj; ⟨u, c1, c2⟩⟩
theorem RowUN.lit1 (w : World) (v : Value) (l : List Int) (n : Nat) (h : RowU w v l) (hv : NilOk v) (hn : w.heap.size = n) : RowUN (w.alloc (.cells #[v] 53)) (.slice (some ⟨n, 0, none⟩) 1 1) [l] := by
 subst hn
 refine ⟨by simp, _, 1, rfl, fun _ => ⟨w.heap.size, 0, rfl, by simp, fun j hj => ?_⟩⟩
 obtain rfl : j = 0 := by simp at hj; omega
 exact ⟨v, by rw [World.cell?_alloc_at _ _ _ _ rfl]; rfl, h.more _, hv⟩
theorem RowUN.lit2 (w : World) (v v2 : Value) (l l2 : List Int) (n : Nat) (h : RowU w v l) (hv : NilOk v) (h2 : RowU w v2 l2) (hv2 : NilOk v2) (hn : w.heap.size = n) : RowUN (w.alloc (.cells #[v, v2] 53)) (.slice (some ⟨n, 0, none⟩) 2 2) [l, l2] := by
 subst hn
 refine ⟨by simp, _, 2, rfl, fun _ => ⟨w.heap.size, 0, rfl, by simp, fun j hj => ?_⟩⟩
 have hj2 : j = 0 ∨ j = 1 := by simp at hj; omega
 rcases hj2 with rfl | rfl
 ·exact ⟨v, by rw [World.cell?_alloc_at _ _ _ _ rfl]; rfl, h.more _, hv⟩
 ·exact ⟨v2, by rw [World.cell?_alloc_at _ _ _ _ rfl]; rfl, h2.more _, hv2⟩
theorem flat_snoc (ll : List (List Int)) (k : Nat) (h : k < ll.length) : (ll.take (k + 1)).flatten = (ll.take k).flatten ++ atl ll k := by
 rw [List.take_succ_eq_append_getElem h, List.flatten_append]
 simp [atl, List.getElem?_eq_getElem h]
theorem flat_le (ll : List (List Int)) (k m : Nat) (h : ∀ j, j < ll.length → (atl ll j).length ≤ m) (hk : k ≤ ll.length) : ((ll.take k).flatten).length ≤ k * m := by
 induction k with
 | zero => simp
 | succ k ih =>
  rw [flat_snoc ll k (by omega), List.length_append, Nat.succ_mul]
  have := h k (by omega)
  have := ih (by omega)
  omega
set_option maxHeartbeats 1000000 in
theorem ref_joined (ll : List (List Int)) (v : Value) (w : World) (hp : RowUN w v ll) (h10 : ll.length ≤ 10) (hm : ∀ j, j < ll.length → (atl ll j).length ≤ 1000) :
  Calls Tryz.prog 77 #[v] w fun e w' => ∃ v', e = .returned v' ∧ NewU w.heap.size w' v' ll.flatten ∧ Below w.heap.size w w' := by
 obtain ⟨h2, ad, cap, rfl, hr⟩ := hp
 have Hr := zH hr
 have Hm := zH hm
 clear hr hm
 go_enter Tryz.func77, Tryz.ntmps77
 go_wp2
 go_loopw [3, 4] (fun o i wr => ∃ (k : Nat), k ≤ ll.length ∧ i = .int .i64 (k : Int) ∧ Hid (NewU w.heap.size wr o (ll.take k).flatten) ∧ Below w.heap.size w wr) (fun _ i _ => ll.length - (intOf i).toNat)
 case atStart => exact ⟨0, by omega, rfl, NewU.nil _ _, Below.refl _ _⟩
 case round =>
  obtain ⟨k, hk, rfl, HO, hb⟩ := hrel
  by_cases hz : k < ll.length
  ·obtain ⟨b, off, rfl, hblt, hcell⟩ := Hr.out (by omega)
   obtain ⟨u, hu, hru, hun⟩ := hcell k hz
   have hc := (hb.cell (p := ⟨b, off + k, none⟩) hblt).trans hu
   have HU := zH (hru.below hb (Nat.le_refl _))
   have HN := zH hun
   have Hs := zH (flat_snoc ll k hz)
   have hl : ((ll.take k).flatten).length + (atl ll k).length ≤ 17592186043904 := by
    have := flat_le ll k 1000 Hm.out (by omega)
    have := Hm.out k hz
    have : k * 1000 ≤ 10 * 1000 := Nat.mul_le_mul_right _ (by omega)
    omega
   have hsz := hb.size
   obtain ⟨_, _, au, cu, rfl, _⟩ := hru
   clear hcell hu hun
   go_wp2_with (at_builtin; refine wpList_appL rfl _ _ rfl w.heap.size _ _ rfl HO.out _ _ rfl HU.out HN.out hl hsz ?_; intro v4 w4 hn4 hb4; have Hn4 := zH hn4; clear hn4)
   go_roundw
   case rel => exact ⟨k + 1, by omega, by go_num, by rw [Hs.out]; exact Hn4.out, hb.trans hb4⟩
   case measure => simp [intOf]; omega
  ·obtain rfl : k = ll.length := by omega
   go_wp2
   go_ret
   exact ⟨_, rfl, by have := HO.out; rwa [List.take_of_length_le (Nat.le_refl _)] at this, hb⟩
theorem two_le {a b : List Int} (ha : a.length ≤ 1000) (hb : b.length ≤ 1000) : ∀ j, j < [a, b].length → (atl [a, b] j).length ≤ 1000 := by
 intro j hj
 have hj2 : j = 0 ∨ j = 1 := by simp at hj; omega
 rcases hj2 with rfl | rfl
 ·exact ha
 ·exact hb
theorem below_dr (w : World) : Below w.heap.size w w.drew := below_drewN (Below.refl _ _) 1
def fixed (ll : List (List Int)) (p : List Int) : List (List F) := ll.map fun t => fixes (t.map phi) (p.map phi)
theorem part_elem (t p : List Int) (d b : Nat) (hn : t.length = 2 ^ (p.length + d)) (hb : b < 2 ^ d) : dotEq (t.map phi) (p.map phi ++ (bitsI b d).map phi) = atF (fixes (t.map phi) (p.map phi)) b := by
 rw [show (bitsI b d).map phi = bitsF b d from mapphi_psi _, ← eval_dot _ _ (by simp [bitsF_length, hn]), eval_ahead (t.map phi) (p.map phi) b d (by simp [hn]) hb]
theorem prod_step (ll : List (List Int)) (p : List Int) (i b : Nat) (hi : i < ll.length) : prodAt ((fixed ll p).take (i + 1)) b = prodAt ((fixed ll p).take i) b * atF (fixes ((atl ll i).map phi) (p.map phi)) b := by
 rw [take_snoc _ i [] (by simpa [fixed] using hi), prodAt_snoc]
 congr 2
 simp [fixed, atl, hi]
set_option maxHeartbeats 2000000 in
theorem ref_Partial (ll : List (List Int)) (n d : Nat) (p : List Int) (v v2 : Value) (w : World) (hp : RowUU w v ll) (hp2 : RowU w v2 p) (hnil : NilOk v2) (h1 : 1 ≤ ll.length) (h3 : ll.length ≤ 3)
  (hn : ∀ j, j < ll.length → (atl ll j).length = 2 ^ n) (h8 : n ≤ 8) (hk : p.length + d = n) :
  Calls Tryz.prog 51 #[v, v2] w fun e w' => e = .returned (.int .u64 (psi (claimF (fixed ll p) (2 ^ d)))) ∧ Below w.heap.size w w' := by
 have Hp2 := zH hp2
 have Hnil := zH hnil
 have Hn := zH hn
 have Hk := zH hk
 obtain ⟨h2, ad, cap, rfl, hr⟩ := hp
 obtain ⟨_, h22, ad2, cap2, rfl, _⟩ := hp2
 obtain ⟨bl, off, rfl, hblt, hcell⟩ := hr (by omega)
 have Hcell := zH hcell
 obtain ⟨u0, hu0, hr0⟩ := hcell 0 (by omega)
 rw [Nat.add_zero] at hu0
 have Hr0 := zH hr0
 have hd8 : d ≤ 8 := by omega
 have hpl : p.length ≤ 8 := by omega
 obtain ⟨q1, q2⟩ := pow_le8 hd8
 have hw := pow_wrap8 hd8
 obtain ⟨D, hD⟩ : ∃ D, D = 2 ^ d := ⟨_, rfl⟩
 rw [← hD] at q1 q2 hw ⊢
 have HD := zH hD
 have Hw := zH hw
 have hs : (n : Int) - (p.length : Int) = (d : Int) := by omega
 have hs0 : IntKind.i64.wrap (d : Int) = (d : Int) := IntWalk.i64_in _ (by omega)
 have hl0 : (0 : Int) < (ll.length : Int) := by omega
 clear hnil hn hk hcell hr hr0 hD hw
 go_enter Tryz.func51, Tryz.ntmps51
 go_wp2_with (fail)
 refine (ref_Vars (atl ll 0) n _ _ Hr0.out (Hn.out 0 (by omega)) h8).mono ?_
 rintro e w' ⟨rfl, rfl⟩
 go_wp2
 go_loopw [6, 7] (fun o i wr => ∃ (b : Nat) (c : Int), b ≤ D ∧ i = .int .i64 (b : Int) ∧ o = .int .u64 c ∧ U64 c ∧ Hid (c = psi (sumTo (prodAt (fixed ll p)) b)) ∧ Below w.heap.size w wr) (fun _ i _ => D - (intOf i).toNat)
 case atStart => exact ⟨0, 0, by omega, rfl, rfl, U64.zero, psi_zero.symm, Below.refl _ _⟩
 case round =>
  obtain ⟨b, c, hb, rfl, rfl, uc, HC, hbw⟩ := hrel
  by_cases hz : b < D
  ·have Hz := zH hz
   have hlt : (b : Int) < wrap64 (2 ^ d) := by rw [Hw.out]; omega
   obtain ⟨w1, rfl⟩ : ∃ x : World, x = wr := ⟨_, rfl⟩
   go_wp2
   go_loopw [8, 9] (fun o i wr => ∃ (j : Nat) (c2 : Int), j ≤ ll.length ∧ i = .int .i64 (j : Int) ∧ o = .int .u64 c2 ∧ U64 c2 ∧ Hid (c2 = psi (prodAt ((fixed ll p).take j) b)) ∧ Below w.heap.size w wr) (fun _ i _ => ll.length - (intOf i).toNat)
   case atStart => exact ⟨0, 1, by omega, rfl, rfl, U64.one, psi_one.symm, hbw⟩
   case round =>
    obtain ⟨j, c2, hj, rfl, rfl, uc2, HC2, hbr⟩ := hrel
    by_cases hzj : j < ll.length
    ·obtain ⟨u, hu, hru⟩ := Hcell.out j hzj
     have hcw := (hbr.cell (p := ⟨bl, off + j, none⟩) hblt).trans hu
     have Hru := zH hru
     have hj1 : (j : Int) < (ll.length : Int) := by omega
     have hj2 : (0 : Int) ≤ (j : Int) := by omega
     have hbltr : bl < wr.heap.size := by have := hbr.size; omega
     have Hs := zH (prod_step ll p j b hzj)
     have Hel := zH (part_elem (atl ll j) p d b (by rw [Hn.out j hzj, Hk.out]) (by rw [← HD.out]; exact Hz.out))
     have Hbl := zH (show (bitsI b d).length = d by simp [bitsI, bitsF_length])
     clear hu hru
     go_wp2
     go_region_held3 (fun w' => Below wr.heap.size wr w' ∧ w'.cell? ⟨bl, off + j, none⟩ = some u)
      (first
       | exact ⟨below_dr _, hcw⟩
       | exact ⟨by assumption, by assumption⟩
       | (go_split_ands; have hz := below_chain (a := wr) (by assumption) hbA; exact ⟨hz, (hz.cell (p := ⟨bl, off + j, none⟩) hbltr).trans hcw⟩)
       | (go_split_ands; have hz := below_chain (a := wr) (by assumption) hbC; exact ⟨hz, (hz.cell (p := ⟨bl, off + j, none⟩) hbltr).trans hcw⟩)
       | (go_split_ands; have hz := below_chain (a := wr) (by assumption) hbD; exact ⟨hz, (hz.cell (p := ⟨bl, off + j, none⟩) hbltr).trans hcw⟩)
       | exact ⟨below_chain hzA (below_alloc wA _), ((below_chain hzA (below_alloc wA _)).cell (p := ⟨bl, off + j, none⟩) hbltr).trans hcw⟩)
      (first
       | (go_at_call 78; go_split_ands; (with_reducible refine (ref_bits b d _ (by omega) hd8).mono ?_); rintro e wA ⟨vA, rfl, hnA, hbA⟩; have HnA := zH hnA.row; have HnN := zH hnA.nilOk; have hzA := below_chain (a := wr) (by assumption) hbA; obtain ⟨aA, cA, eA⟩ := hnA.isSlice; rw [Hbl.out] at eA; subst eA; clear hnA)
       | (go_at_call 77; go_split_ands; (with_reducible refine (ref_joined [p, bitsI b d] _ _ (RowUN.lit2 wA _ _ _ _ wA.heap.size (Hp2.out.below (hbr.trans (hzA.mono hbr.size)) (Nat.le_refl _)) Hnil.out HnA.out HnN.out rfl) (by simp) (two_le (by omega) (by rw [Hbl.out]; omega))).mono ?_); rintro e wC ⟨vC, rfl, hnC, hbC⟩; have HnC := zH hnC.row; have hzC := below_chain (below_chain hzA (below_alloc wA _)) hbC; clear hnC)
       | (go_at_call 52; go_split_ands; (with_reducible refine (ref_Eval (atl ll j) _ _ _ _ (Hru.out.below (hbr.trans (hzC.mono hbr.size)) (Nat.le_refl _)) HnC.out).mono ?_); rintro e wD ⟨rfl, hdD⟩; have hbD := hdD.below)
       | (go_at_call 45; go_split_ands; (with_reducible refine (ref_Mul _ _ _ uc2 (U64.psi _)).mono ?_); rintro e wE ⟨rfl, rfl⟩))
     all_goals
      go_split_ands
      have hfin := below_chain hzC hbD
      rw [Hel.out]
      go_wp2
      go_roundw
      case rel => exact ⟨j + 1, _, by omega, by go_num, rfl, U64.psi _, by rw [phi_psi, HC2.out, phi_psi]; exact congrArg psi Hs.out.symm, hbr.trans (hfin.mono hbr.size)⟩
      case measure => simp [intOf]; omega
    ·obtain rfl : j = ll.length := by omega
     have Hc2 := HC2
     rw [List.take_of_length_le (by simp [fixed])] at Hc2
     go_wp2_with (first | (go_at_call 43; (with_reducible refine (ref_Add _ _ _ (by first | assumption | exact U64.psi _ | exact U64.zero | exact U64.one | exact U64.mk (by decide) (by decide)) (by first | assumption | exact U64.psi _ | exact U64.zero | exact U64.one | exact U64.mk (by decide) (by decide))).mono ?_); rintro e w' ⟨rfl, rfl⟩))
     go_roundw
     case rel => exact ⟨b + 1, _, by omega, by go_num, rfl, U64.psi _, by rw [HC.out, Hc2.out, phi_psi, phi_psi]; rfl, hbr⟩
     case measure => simp [intOf]; omega
  ·obtain rfl : b = D := by omega
   have hlt : ¬ (b : Int) < wrap64 (2 ^ d) := by rw [Hw.out]; omega
   go_wp2
   go_ret
   exact ⟨ret_u64 HC.out, hbw⟩
end Go.Proofs.YtlfneeobnihocaaGreatDoor
