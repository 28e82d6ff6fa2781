/- The walks of the reference's tables: Eval, bits, joined, Fix, Partial. The lists are slices of 64-bit numbers; tables have 2^n numbers, n to 8. -/
import Derived.Test.YtokggifjcbkmnaaDoorKeepM
import Derived.Test.YtokggifjcbkmnaaDoorFar
import Derived.Test.YtokggifjcbkmnaaDoorOpen
import Derived.IntWalk
import Derived.Laws.AppendOwnNone
import Derived.Deep.RegionHeld3
namespace Go.Proofs.YtokggifjcbkmnaaDoor
set_option maxRecDepth 100000
set_option linter.unusedVariables false
open Go.RowKit Tally
/-- append of a list -/
theorem wpList_appL {ops : Array Oper} {rest : List Oper} {o : Oper} {a : Act} {Q : Exit → Act → World → Prop} {w : World} (hgd : o.guard = none) (s x : Operand)
    (ho : o.op = .call { callee := .builtin .append, args := #[s, x], argTypes := #[22, 22] })
    (B : Nat) (v : Value) (l : List Int) (hs : a.eval s = v) (hown : NewU B w v l) (u : Value) (m : List Int) (hx : a.eval x = u) (hu : RowU w u m) (hnil : NilOk u)
    (hlen : l.length + m.length ≤ 17592186043904) (hB : B ≤ w.heap.size)
    (h : ∀ v' w', NewU B w' v' (l ++ m) → Below B w w' → wpList Tryd.prog ops Q rest (a.put o.dst v') w') : wpList Tryd.prog ops Q (o :: rest) a w := by
  obtain ⟨i0, hi1, hz0, hz1, hz2⟩ := info_parts Tryd.infoU
  obtain ⟨hu1, hu2, ad, cap, rfl, hu3⟩ := hu
  have hU : ∀ x ∈ l ++ m, U64 x := fun x hx => by
    rcases List.mem_append.mp hx with hx | hx
    · exact hown.1 x hx
    · exact hu1 x hx
  have hlt := hown.2.2.lt
  have main : ∀ (ad : Addr), (a.eval x = .slice (some ad) m.length cap) → (∀ j u, (m.map (Value.int .u64))[j]? = some u → w.cell? (ad.add j) = some u) → wpList Tryd.prog ops Q (o :: rest) a w := by
    intro ad hx hnews
    refine wpList_append_own _ hgd s x _ ho B 23 i0 (.int .u64 0) 1 8 Tryd.underlying22 hi1 hz0 hz1 hz2 rfl (by decide) v l.length _ hs hown.2.2 ad m.length cap (m.map (Value.int .u64)) hx (by simp) hnews
      (by intro y hy; obtain ⟨x, _, rfl⟩ := List.mem_map.mp hy; rfl) (by unfold maxLen; omega) (by omega) hB ?_
    intro v' w' h1 h2 _
    exact h v' w' ⟨hU, by simp; omega, by simpa using h1⟩ ((Below.refl B w).grown h2 hB fun k hk => (hlt k hk).1)
  rcases Nat.eq_zero_or_pos m.length with h0 | h0
  · have hm : m = [] := List.eq_nil_of_length_eq_zero h0
    subst hm
    cases ad with
    | none =>
      obtain rfl : cap = 0 := hnil _ _ rfl
      refine wpList_append_own_none hgd s x _ ho B 23 i0 1 Tryd.underlying22 hi1 v l.length _ hs hown.2.2 hx ?_
      exact h v w (by rw [List.append_nil]; exact hown) (Below.refl _ _)
    | some ad => exact main ad hx (fun j u hu => by simp at hu)
  · obtain ⟨b, off, rfl, _, hc⟩ := hu3 h0
    refine main _ hx fun j u hu => ?_
    have hj : j < m.length := by
      rcases Nat.lt_or_ge j m.length with h' | h'
      · exact h'
      · rw [List.getElem?_eq_none (by simp; omega)] at hu; cases hu
    rw [Addr.add_lit, hc j hj]
    simpa [at0, hj] using hu
theorem eval_step (t p : List Int) (b : Nat) (c : Int) (hb : b < t.length) (h : c = psi (sumTo (fun b => atF (t.map phi) b * eqAt (p.map phi) b) b)) :
    psi (phi c + phi (psi (phi (at0 t b) * phi (psi (eqAt (p.map phi) b))))) = psi (sumTo (fun b => atF (t.map phi) b * eqAt (p.map phi) b) (b + 1)) := by
  rw [h, phi_psi, phi_psi, phi_psi, sumTo, atF_map t b hb]
set_option maxHeartbeats 1000000 in
theorem ref_Eval (t p : List Int) (v v2 : Value) (w : World) (hp : RowU w v t) (hp2 : RowU w v2 p) :
    Calls Tryd.prog 63 #[v, v2] w fun e w' => e = .returned (.int .u64 (psi (dotEq (t.map phi) (p.map phi)))) ∧ Drawn w w' := by
  have Hp2 := Lib.hid hp2
  have hat := Lib.hid (fun j => @RowU.at _ _ _ hp j)
  obtain ⟨_, h2, ad, cap, rfl, hr⟩ := hp
  have Hr := Lib.hid hr
  have HE := Lib.hid (show dotEq (t.map phi) (p.map phi) = sumTo (fun b => atF (t.map phi) b * eqAt (p.map phi) b) t.length by unfold dotEq; rw [List.length_map])
  clear hr hp2
  go_enter Tryd.func63, Tryd.ntmps63
  go_wp2
  go_loopw [5, 6] (fun o i wr => ∃ (k : Nat) (c : Int), k ≤ t.length ∧ i = .int .i64 (k : Int) ∧ o = .int .u64 c ∧ U64 c ∧ Hid (c = psi (sumTo (fun b => atF (t.map phi) b * eqAt (p.map phi) b) k)) ∧ Drawn w wr) (fun _ i _ => t.length - (intOf i).toNat)
  case atStart => exact ⟨0, 0, by omega, rfl, rfl, U64.zero, psi_zero.symm, Drawn.refl _⟩
  case round =>
    obtain ⟨k, c, hk, rfl, rfl, uc, HC, hd⟩ := hrel
    by_cases hz : k < t.length
    · obtain ⟨b, off, rfl, hblt, hcell⟩ := Hr.out (by omega)
      have hc := (hd.below.cell (p := ⟨b, off + k, none⟩) hblt).trans (hcell k hz)
      have hu := hat.out k hz
      have hk1 : (k : Int) < (t.length : Int) := by omega
      have HP := Lib.hid (Hp2.out.below hd.below (Nat.le_refl _))
      have Hs := Lib.hid (eval_step t p k c hz HC.out)
      clear hcell
      go_wp2
      go_quiet (first | (go_at_call 76; exact flip (ref_Eq p _ (k : Int) _ (RowU.drewN HP.out _) (by omega) (by omega))) | (go_at_call 40; exact flip (ref_Mul _ _ _ hu (U64.psi _))) | (go_at_call 39; exact flip (ref_Add _ _ _ uc (U64.psi _))))
      go_wp2
      go_roundw
      case rel => exact ⟨k + 1, _, by omega, by go_num, rfl, U64.psi _, Hs.out, hd.more _⟩
      case measure => simp [intOf]; omega
    · obtain rfl : k = t.length := by omega
      go_wp2
      go_ret
      exact ⟨ret_u64 (by rw [HE.out]; exact HC.out), hd⟩
/-- bits as numbers -/
def bitsI (b n : Nat) : List Int := (bitsF b n).map psi
theorem bitsI_step (b j n : Nat) (h0 : 0 < j) (hj : j ≤ n) : bitsI (b / 2 ^ (j - 1)) (n - (j - 1)) = bitsI (b / 2 ^ j) (n - j) ++ [((b / 2 ^ (j - 1) % 2 : Nat) : Int)] := by
  unfold bitsI
  rw [show n - (j - 1) = (n - j) + 1 by omega, bitsF, List.map_append]
  have e : b / 2 ^ (j - 1) / 2 = b / 2 ^ j := by rw [Nat.div_div_eq_div_mul, ← Nat.pow_succ, show (j - 1).succ = j by omega]
  rw [e]
  congr 1
  rw [List.map_cons, List.map_nil]
  congr 1
  split <;> rename_i hc
  · rw [hc]; exact psi_one
  · rw [show b / 2 ^ (j - 1) % 2 = 0 by omega]; exact psi_zero
theorem shr_bit (b k : Nat) : ((b : Int) / 2 ^ k).tmod 2 = ((b / 2 ^ k % 2 : Nat) : Int) := by
  have e : ((b : Int) / 2 ^ k) = ((b / 2 ^ k : Nat) : Int) := by simp
  rw [e]; generalize b / 2 ^ k = m
  rw [Int.tmod_eq_emod_of_nonneg (by omega)]; omega
set_option maxHeartbeats 1000000 in
theorem ref_bits (b n : Nat) (w : World) (hb : b < 1000000) (hn : n ≤ 8) :
    Calls Tryd.prog 65 #[.int .i64 b, .int .i64 n] w fun e w' => ∃ v', e = .returned v' ∧ NewU w.heap.size w' v' (bitsI b n) ∧ Below w.heap.size w w' := by
  go_enter Tryd.func65, Tryd.ntmps65
  go_wp2
  go_loopw [5, 6] (fun o i wr => ∃ (j : Nat), j ≤ n ∧ i = .int .i64 ((j : Int) - 1) ∧ Hid (NewU w.heap.size wr o (bitsI (b / 2 ^ j) (n - j))) ∧ Below w.heap.size w wr) (fun _ i _ => (intOf i + 1).toNat)
  case atStart => exact ⟨n, by omega, rfl, by rw [Nat.sub_self]; exact NewU.nil _ _, Below.refl _ _⟩
  case round =>
    obtain ⟨j, hj, rfl, HO, hbl⟩ := hrel
    by_cases hz : 0 < j
    · have hsz := hbl.size
      have hv := shr_bit b (j - 1)
      have Hs := Lib.hid (bitsI_step b j n hz hj)
      have hl : (bitsI (b / 2 ^ j) (n - j)).length + 1 ≤ 17592186043904 := by simp [bitsI, bitsF_length]; omega
      have hb2 : b / 2 ^ (j - 1) % 2 < 2 := Nat.mod_lt _ (by decide)
      generalize b / 2 ^ (j - 1) % 2 = c at *
      have uc : U64 (c : Int) := ⟨by omega, by omega⟩
      have hwc : IntKind.u64.wrap (c : Int) = (c : Int) := by rw [IntKind.wrap_u64]; omega
      clear hb2
      go_wp2_with (at_builtin; refine wpList_appU rfl _ _ rfl w.heap.size _ _ rfl HO.out _ rfl uc hl hsz ?_; intro v4 w4 hn4 hb4; have Hn4 := Lib.hid hn4; clear hn4)
      go_roundw
      case rel => exact ⟨j - 1, by omega, by congr 1; omega, by rw [Hs.out]; exact Hn4.out, hbl.trans hb4⟩
      case measure => simp [intOf]; omega
    · obtain rfl : j = 0 := by omega
      go_wp2
      go_ret
      exact ⟨_, rfl, by have := HO.out; simpa using this, hbl⟩
/-- v is a slice of slices that reads as ll; what has no memory has no room -/
def RowUN (w : World) (v : Value) (ll : List (List Int)) : Prop :=
  ll.length ≤ 9223372036854775807 ∧ ∃ a cap, v = .slice a ll.length cap ∧
    (0 < ll.length → ∃ b off, a = some ⟨b, off, none⟩ ∧ b < w.heap.size ∧ ∀ j, j < ll.length → ∃ u, w.cell? ⟨b, off + j, none⟩ = some u ∧ RowU w u (atl ll j) ∧ NilOk u)
theorem RowUN.rows {w : World} {v : Value} {ll : List (List Int)} (h : RowUN w v ll) : RowUU w v ll := by
  obtain ⟨h1, a, cap, rfl, h2⟩ := h
  refine ⟨h1, a, cap, rfl, fun h0 => ?_⟩
  obtain ⟨b, off, e, hlt, hc⟩ := h2 h0
  exact ⟨b, off, e, hlt, fun j hj => let ⟨u, c1, c2, _⟩ := hc j hj; ⟨u, c1, c2⟩⟩
theorem RowUN.lit1 (w : World) (v : Value) (l : List Int) (n : Nat) (h : RowU w v l) (hv : NilOk v) (hn : w.heap.size = n) : RowUN (w.alloc (.cells #[v] 22)) (.slice (some ⟨n, 0, none⟩) 1 1) [l] := by
  subst hn
  refine ⟨by simp, _, 1, rfl, fun _ => ⟨w.heap.size, 0, rfl, by simp, fun j hj => ?_⟩⟩
  obtain rfl : j = 0 := by simp at hj; omega
  exact ⟨v, by rw [World.cell?_alloc_at _ _ _ _ rfl]; rfl, h.more _, hv⟩
theorem RowUN.lit2 (w : World) (v v2 : Value) (l l2 : List Int) (n : Nat) (h : RowU w v l) (hv : NilOk v) (h2 : RowU w v2 l2) (hv2 : NilOk v2) (hn : w.heap.size = n) : RowUN (w.alloc (.cells #[v, v2] 22)) (.slice (some ⟨n, 0, none⟩) 2 2) [l, l2] := by
  subst hn
  refine ⟨by simp, _, 2, rfl, fun _ => ⟨w.heap.size, 0, rfl, by simp, fun j hj => ?_⟩⟩
  have hj2 : j = 0 ∨ j = 1 := by simp at hj; omega
  rcases hj2 with rfl | rfl
  · exact ⟨v, by rw [World.cell?_alloc_at _ _ _ _ rfl]; rfl, h.more _, hv⟩
  · exact ⟨v2, by rw [World.cell?_alloc_at _ _ _ _ rfl]; rfl, h2.more _, hv2⟩
theorem flat_snoc (ll : List (List Int)) (k : Nat) (h : k < ll.length) : (ll.take (k + 1)).flatten = (ll.take k).flatten ++ atl ll k := by
  rw [List.take_succ_eq_append_getElem h, List.flatten_append]
  simp [atl, List.getElem?_eq_getElem h]
theorem flat_le (ll : List (List Int)) (k m : Nat) (h : ∀ j, j < ll.length → (atl ll j).length ≤ m) (hk : k ≤ ll.length) : ((ll.take k).flatten).length ≤ k * m := by
  induction k with
  | zero => simp
  | succ k ih =>
    rw [flat_snoc ll k (by omega), List.length_append, Nat.succ_mul]
    have := h k (by omega)
    have := ih (by omega)
    omega
set_option maxHeartbeats 1000000 in
theorem ref_joined (ll : List (List Int)) (v : Value) (w : World) (hp : RowUN w v ll) (h10 : ll.length ≤ 10) (hm : ∀ j, j < ll.length → (atl ll j).length ≤ 1000) :
    Calls Tryd.prog 64 #[v] w fun e w' => ∃ v', e = .returned v' ∧ NewU w.heap.size w' v' ll.flatten ∧ Below w.heap.size w w' := by
  obtain ⟨h2, ad, cap, rfl, hr⟩ := hp
  have Hr := Lib.hid hr
  have Hm := Lib.hid hm
  clear hr hm
  go_enter Tryd.func64, Tryd.ntmps64
  go_wp2
  go_loopw [3, 4] (fun o i wr => ∃ (k : Nat), k ≤ ll.length ∧ i = .int .i64 (k : Int) ∧ Hid (NewU w.heap.size wr o (ll.take k).flatten) ∧ Below w.heap.size w wr) (fun _ i _ => ll.length - (intOf i).toNat)
  case atStart => exact ⟨0, by omega, rfl, NewU.nil _ _, Below.refl _ _⟩
  case round =>
    obtain ⟨k, hk, rfl, HO, hb⟩ := hrel
    by_cases hz : k < ll.length
    · obtain ⟨b, off, rfl, hblt, hcell⟩ := Hr.out (by omega)
      obtain ⟨u, hu, hru, hun⟩ := hcell k hz
      have hc := (hb.cell (p := ⟨b, off + k, none⟩) hblt).trans hu
      have HU := Lib.hid (hru.below hb (Nat.le_refl _))
      have HN := Lib.hid hun
      have Hs := Lib.hid (flat_snoc ll k hz)
      have hl : ((ll.take k).flatten).length + (atl ll k).length ≤ 17592186043904 := by
        have := flat_le ll k 1000 Hm.out (by omega)
        have := Hm.out k hz
        have : k * 1000 ≤ 10 * 1000 := Nat.mul_le_mul_right _ (by omega)
        omega
      have hsz := hb.size
      obtain ⟨_, _, au, cu, rfl, _⟩ := hru
      clear hcell hu hun
      go_wp2_with (at_builtin; refine wpList_appL rfl _ _ rfl w.heap.size _ _ rfl HO.out _ _ rfl HU.out HN.out hl hsz ?_; intro v4 w4 hn4 hb4; have Hn4 := Lib.hid hn4; clear hn4)
      go_roundw
      case rel => exact ⟨k + 1, by omega, by go_num, by rw [Hs.out]; exact Hn4.out, hb.trans hb4⟩
      case measure => simp [intOf]; omega
    · obtain rfl : k = ll.length := by omega
      go_wp2
      go_ret
      exact ⟨_, rfl, by have := HO.out; rwa [List.take_of_length_le (Nat.le_refl _)] at this, hb⟩
theorem two_le {a b : List Int} (ha : a.length ≤ 1000) (hb : b.length ≤ 1000) : ∀ j, j < [a, b].length → (atl [a, b] j).length ≤ 1000 := by
  intro j hj
  have hj2 : j = 0 ∨ j = 1 := by simp at hj; omega
  rcases hj2 with rfl | rfl
  · exact ha
  · exact hb
theorem fix_elem (t : List Int) (x : Int) (n b : Nat) (hn : t.length = 2 ^ (n + 1)) (hb : b < 2 ^ n) : dotEq (t.map phi) (([[x], bitsI b n].flatten).map phi) = atF (fixF (t.map phi) (phi x)) b := by
  have e : ([[x], bitsI b n].flatten).map phi = [phi x] ++ bitsF b n := by
    simp only [bitsI, List.flatten_cons, List.flatten_nil, List.append_nil, List.map_append, List.map_cons, List.map_nil, mapphi_psi]
  rw [e, ← eval_dot _ _ (by simp [bitsF_length, hn]), eval_ahead (t.map phi) [phi x] b n (by simp [hn]; congr 1; omega) hb]; rfl
theorem fixF_take_snoc (T : List F) (x : F) (k : Nat) (h : k < T.length / 2) : ((fixF T x).take (k + 1)).map psi = ((fixF T x).take k).map psi ++ [psi (atF (fixF T x) k)] := by
  rw [take_snoc _ k 0 (by rw [fixF_length]; exact h), List.map_append]; rfl
set_option maxHeartbeats 1000000 in
theorem ref_Fix (t : List Int) (n : Nat) (v : Value) (x : Int) (w : World) (hp : RowU w v t) (hx : U64 x) (hn : t.length = 2 ^ (n + 1)) (h8 : n + 1 ≤ 8) :
    Calls Tryd.prog 42 #[v, .int .u64 x] w fun e w' => ∃ v', e = .returned v' ∧ NewU w.heap.size w' v' ((fixF (t.map phi) (phi x)).map psi) ∧ Below w.heap.size w w' := by
  have Hp := Lib.hid hp
  have Hn := Lib.hid hn
  obtain ⟨q1, q2⟩ := pow_le8 (n := n) (by omega)
  have h2 : t.length = 2 * 2 ^ n := by rw [hn, Nat.pow_succ]; omega
  obtain ⟨h, hh⟩ : ∃ h, h = 2 ^ n := ⟨_, rfl⟩
  rw [← hh] at h2 q1 q2
  have Hh := Lib.hid hh
  have HT := Lib.hid (show (t.map phi).length / 2 = h by rw [List.length_map]; omega)
  have hq : (t.length : Int) / 2 = (h : Int) := by omega
  obtain ⟨_, hl, ad, cap, rfl, _⟩ := hp
  have hn8 : n ≤ 7 := by omega
  clear hn h2 hh
  go_enter Tryd.func42, Tryd.ntmps42
  go_wp2_with (fail)
  refine (ref_Vars t (n + 1) _ _ Hp.out Hn.out h8).mono ?_
  rintro e w' ⟨rfl, rfl⟩
  have hs : ((n + 1 : Nat) : Int) - 1 = (n : Int) := by omega
  generalize hM : ((n + 1 : Nat) : Int) = M at *
  have hM1 : M ≤ 8 := by omega
  have hM0 : 1 ≤ M := by omega
  clear hM
  go_wp2
  go_loopw [6, 7] (fun o i wr => ∃ (k : Nat), k ≤ h ∧ i = .int .i64 (k : Int) ∧ Hid (NewU w.heap.size wr o (((fixF (t.map phi) (phi x)).take k).map psi)) ∧ Below w.heap.size w wr) (fun _ i _ => h - (intOf i).toNat)
  case atStart => exact ⟨0, by omega, rfl, NewU.nil _ _, Below.refl _ _⟩
  case round =>
    obtain ⟨k, hk, rfl, HO, hb⟩ := hrel
    by_cases hz : k < h
    · have Hz := Lib.hid hz
      have Hs := Lib.hid (fixF_take_snoc (t.map phi) (phi x) k (by rw [HT.out]; exact hz))
      have hcap : (((fixF (t.map phi) (phi x)).take k).map psi).length + 1 ≤ 17592186043904 := by simp; omega
      go_wp2_with (fail)
      refine (ref_bits k n _ (by omega) (by omega)).mono ?_
      rintro e w1 ⟨vb, rfl, hnb, hb1⟩
      obtain ⟨ab, cb, evb⟩ := hnb.isSlice
      have hbl : (bitsI k n).length = n := by simp [bitsI, bitsF_length]
      rw [hbl] at evb
      subst evb
      have hnil := Lib.hid hnb.nilOk
      have Hnb := Lib.hid hnb.row
      have hsz1 := hb1.size
      have H1 := Lib.hid (row1 wr wr.heap.size x hx rfl |>.below hb1 (by simp))
      have hbw1 : Below w.heap.size w w1 := hb.trans (((below_alloc wr _).trans (hb1.mono (by simp))).mono hb.size)
      have HO1 := Lib.hid (HO.out.below ((below_alloc wr _).trans (hb1.mono (by simp))) (Nat.le_refl _))
      clear hb1 hnb
      go_wp2_with (fail)
      refine (ref_joined [[x], bitsI k n] _ _ (RowUN.lit2 w1 _ _ _ _ w1.heap.size H1.out (NilOk.some _ _ _) Hnb.out hnil.out rfl) (by simp) (two_le (by simp) (by omega))).mono ?_
      rintro e w2 ⟨vj, rfl, hnj, hb2⟩
      have Hnj := Lib.hid hnj.row
      have hbw2 : Below w.heap.size w w2 := hbw1.trans (((below_alloc w1 _).trans (hb2.mono (by simp))).mono hbw1.size)
      have HO2 := Lib.hid (HO1.out.below ((below_alloc w1 _).trans (hb2.mono (by simp))) (Nat.le_refl _))
      clear hb2 hnj
      go_wp2_with (fail)
      refine (ref_Eval t _ _ _ _ (Hp.out.below hbw2 (Nat.le_refl _)) Hnj.out).mono ?_
      rintro e w3 ⟨rfl, hd3⟩
      rw [fix_elem t x n k Hn.out (by rw [← Hh.out]; exact hz)]
      have hbw3 : Below w.heap.size w w3 := hbw2.trans (hd3.below.mono hbw2.size)
      have HO3 := Lib.hid (HO2.out.below hd3.below (Nat.le_refl _))
      have hsz3 := hbw3.size
      clear hd3
      go_wp2_with (at_builtin; refine wpList_appU rfl _ _ rfl w.heap.size _ _ rfl HO3.out _ rfl (U64.psi _) hcap hsz3 ?_; intro v4 w4 hn4 hb4; have Hn4 := Lib.hid hn4; clear hn4)
      go_roundw
      case rel => exact ⟨k + 1, by omega, by go_num, by rw [Hs.out]; exact Hn4.out, hbw3.trans hb4⟩
      case measure => simp [intOf]; omega
    · obtain rfl : k = h := by omega
      go_wp2
      go_ret
      exact ⟨_, rfl, by have := HO.out; rwa [List.take_of_length_le (by rw [fixF_length, HT.out]; exact Nat.le_refl _)] at this, hb⟩
theorem below_dr (w : World) : Below w.heap.size w w.drew := below_drewN (Below.refl _ _) 1
/-- the tables with the first variables at some numbers -/
def fixed (ll : List (List Int)) (p : List Int) : List (List F) := ll.map fun t => fixes (t.map phi) (p.map phi)
theorem part_elem (t p : List Int) (d b : Nat) (hn : t.length = 2 ^ (p.length + d)) (hb : b < 2 ^ d) : dotEq (t.map phi) (p.map phi ++ (bitsI b d).map phi) = atF (fixes (t.map phi) (p.map phi)) b := by
  rw [show (bitsI b d).map phi = bitsF b d from mapphi_psi _, ← eval_dot _ _ (by simp [bitsF_length, hn]), eval_ahead (t.map phi) (p.map phi) b d (by simp [hn]) hb]
theorem prod_step (ll : List (List Int)) (p : List Int) (i b : Nat) (hi : i < ll.length) : prodAt ((fixed ll p).take (i + 1)) b = prodAt ((fixed ll p).take i) b * atF (fixes ((atl ll i).map phi) (p.map phi)) b := by
  rw [take_snoc _ i [] (by simpa [fixed] using hi), prodAt_snoc]
  congr 2
  simp [fixed, atl, hi]
end Go.Proofs.YtokggifjcbkmnaaDoor
