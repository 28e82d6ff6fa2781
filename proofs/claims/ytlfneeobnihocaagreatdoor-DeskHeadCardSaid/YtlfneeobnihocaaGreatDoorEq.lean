/- The walks of Eq: the program's list and the reference's number; the point is a slice of 64-bit numbers. -/
import Derived.Test.YtlfneeobnihocaaGreatDoorMem
import Derived.Test.YtlfneeobnihocaaGreatDoorPoly
namespace Go.Proofs.YtlfneeobnihocaaGreatDoor
set_option maxRecDepth 100000
set_option linter.unusedVariables false
open Go.RowKit Tally
theorem take_map_snoc (p : List Int) (k : Nat) (h : k < p.length) : (p.map phi).take (k + 1) = (p.map phi).take k ++ [phi (at0 p k)] := by
  rw [take_snoc _ k 0 (by simpa using h)]; simp [at0, h]
theorem take_map_pred (p : List Int) (k : Nat) (h0 : 0 < k) (h : k ≤ p.length) : (p.map phi).take k = (p.map phi).take (k - 1) ++ [phi (at0 p (k - 1))] := by
  rw [← take_map_snoc p (k - 1) (by omega)]; congr 1; omega
theorem toNat_half {b : Int} (h : 0 ≤ b) : (b / 2).toNat = b.toNat / 2 := by omega
theorem eq_odd (p : List Int) (k : Nat) (b c : Int) (r : F) (h0 : 0 < k) (h : k ≤ p.length) (hb : 0 ≤ b) (ho : (b % 2 == 1) = true) (H : phi c * eqAt ((p.map phi).take k) b.toNat = r) :
    phi (psi (phi c * phi (at0 p (k - 1)))) * eqAt ((p.map phi).take (k - 1)) (b / 2).toNat = r := by
  have hb2 : b.toNat % 2 = 1 := by have := of_decide_eq_true ho; omega
  rw [take_map_pred p k h0 h, eqAt_snoc, if_pos hb2] at H
  rw [phi_psi, toNat_half hb, ← H]; grind
theorem eq_even (p : List Int) (k : Nat) (b c : Int) (r : F) (h0 : 0 < k) (h : k ≤ p.length) (hb : 0 ≤ b) (ho : (b % 2 == 1) = false) (H : phi c * eqAt ((p.map phi).take k) b.toNat = r) :
    phi (psi (phi c * phi (psi (phi 1 - phi (at0 p (k - 1)))))) * eqAt ((p.map phi).take (k - 1)) (b / 2).toNat = r := by
  have hb2 : ¬ b.toNat % 2 = 1 := by have := beq_eq_false_iff_ne.mp ho; omega
  rw [take_map_pred p k h0 h, eqAt_snoc, if_neg hb2] at H
  rw [phi_psi, phi_psi, phi_one, toNat_half hb, ← H]; grind
theorem eq_start (p : List Int) (b : Int) : phi 1 * eqAt ((p.map phi).take p.length) b.toNat = eqAt (p.map phi) b.toNat := by
  rw [List.take_of_length_le (by simp), phi_one]; grind
theorem eq_end (p : List Int) (b c : Int) (r : F) (hc : U64 c) (hlt : c < P) (H : phi c * eqAt ((p.map phi).take 0) b.toNat = r) : c = psi r := by
  refine eq_psi ?_ hc.1 hlt
  rw [← H, List.take_zero, eqAt_nil]; grind
set_option maxHeartbeats 400000 in
theorem ref_Eq (p : List Int) (v : Value) (b : Int) (w : World) (hp : RowU w v p) (hb0 : 0 ≤ b) (hb : b < 9223372036854775808) :
    Calls Tryz.prog 79 #[v, .int .i64 b] w fun e w' => e = .returned (.int .u64 (psi (eqAt (p.map phi) b.toNat))) ∧ w = w' := by
  have hl := hp.len
  have hat := Lib.hid (fun j => @RowU.at _ _ _ hp j)
  obtain ⟨h1, h2, a, cap, rfl, hr⟩ := hp
  have Hr := Lib.hid hr
  clear hr
  go_enter Tryz.func79, Tryz.ntmps79
  go_wp2
  go_loop [5, 1, 6] (fun o b' i => ∃ (k : Nat) (b1 c : Int), k ≤ p.length ∧ 0 ≤ b1 ∧ b1 < 9223372036854775808 ∧ U64 c ∧ c < P ∧ o = .int .u64 c ∧ b' = .int .i64 b1 ∧ i = .int .i64 ((k : Int) - 1) ∧ Hid (phi c * eqAt ((p.map phi).take k) b1.toNat = eqAt (p.map phi) b.toNat)) (fun _ _ i => (intOf i + 1).toNat)
  case atStart => exact ⟨p.length, b, 1, by omega, by omega, by omega, U64.one, by decide, rfl, rfl, rfl, eq_start p b⟩
  case round =>
    obtain ⟨k, b1, c, hk, hb10, hb1, hc, hlt, rfl, rfl, rfl, H⟩ := hrel
    by_cases hz : 0 < k
    · obtain ⟨bl, off, rfl, _, hcell⟩ := Hr.out (by omega)
      have hcj := hcell (k - 1) (by omega)
      have hu := hat.out (k - 1) (by omega)
      clear hcell
      go_wp2_with (first | (go_at_call 45; (with_reducible refine (ref_Mul _ _ _ (by first | assumption | exact U64.psi _ | exact U64.zero | exact U64.one | exact U64.mk (by decide) (by decide)) (by first | assumption | exact U64.psi _ | exact U64.zero | exact U64.one | exact U64.mk (by decide) (by decide))).mono ?_); rintro e w' ⟨rfl, rfl⟩) | (go_at_call 44; (with_reducible refine (ref_Sub _ _ _ (by first | assumption | exact U64.psi _ | exact U64.zero | exact U64.one | exact U64.mk (by decide) (by decide)) (by first | assumption | exact U64.psi _ | exact U64.zero | exact U64.one | exact U64.mk (by decide) (by decide))).mono ?_); rintro e w' ⟨rfl, rfl⟩))
      all_goals go_round
      case rel => exact ⟨k - 1, _, _, by omega, by omega, by omega, U64.psi _, psi_lt _, rfl, rfl, by congr 1; omega, eq_odd p k b1 c _ hz hk hb10 ‹_› H.out⟩
      case measure => simp [intOf]; omega
      case rel => exact ⟨k - 1, _, _, by omega, by omega, by omega, U64.psi _, psi_lt _, rfl, rfl, by congr 1; omega, eq_even p k b1 c _ hz hk hb10 ‹_› H.out⟩
      case measure => simp [intOf]; omega
    · obtain rfl : k = 0 := by omega
      go_wp2
      go_ret
      exact ⟨ret_u64 (eq_end p b1 c _ hc hlt H.out), rfl⟩

/-- what one number of Eq becomes -/
def eqI (x v : Int) : List Int := [psi (phi v * phi (psi (phi 1 - phi x))), psi (phi v * phi x)]
theorem eqI_len (x : Int) (L : List Int) : (L.flatMap (eqI x)).length = 2 * L.length := by
  induction L with
  | nil => rfl
  | cons a L ih => rw [List.flatMap_cons, List.length_append, ih, List.length_cons]; simp only [eqI, List.length_cons, List.length_nil]; omega
theorem eqI_snoc (x : Int) (L : List Int) (j : Nat) (h : j < L.length) : (L.take (j + 1)).flatMap (eqI x) = (L.take j).flatMap (eqI x) ++ [psi (phi (at0 L j) * phi (psi (phi 1 - phi x))), psi (phi (at0 L j) * phi x)] := by
  rw [take_snoc L j 0 h, List.flatMap_append]; simp [eqI]
theorem eqI_all (x : Int) (l : List F) : (l.map psi).flatMap (eqI x) = (eqStep l (phi x)).map psi := by
  unfold eqStep eqI
  induction l with
  | nil => rfl
  | cons a l ih => rw [List.map_cons, List.flatMap_cons, ih]; simp only [List.flatMap_cons, List.map_append, List.map_cons, List.map_nil, phi_psi, phi_one]
theorem eqs_start : [1] = (eqs (([] : List F))).map psi := by
  show [1] = [psi 1]; rw [psi_one]
theorem eqs_step (p : List Int) (k : Nat) (h : k < p.length) (L : List Int) (H : L = (eqs ((p.map phi).take k)).map psi) : L.flatMap (eqI (at0 p k)) = (eqs ((p.map phi).take (k + 1))).map psi := by
  rw [H, eqI_all, take_map_snoc p k h, eqs_snoc]
theorem eqs_len (p : List Int) (k : Nat) (h : k ≤ p.length) (h8 : p.length ≤ 8) (L : List Int) (H : L = (eqs ((p.map phi).take k)).map psi) : 0 < L.length ∧ L.length ≤ 256 := by
  rw [H, List.length_map, eqs_length, List.length_take, List.length_map, Nat.min_eq_left h]
  exact ⟨Nat.pow_pos (by decide), Nat.pow_le_pow_right (by decide) (by omega : k ≤ 8)⟩
set_option maxHeartbeats 400000 in
theorem mle_Eq (p : List Int) (v : Value) (w : World) (hp : RowU w v p) (hb : p.length ≤ 8) :
    Calls Tryz.prog 169 #[v] w fun e w' => ∃ v', e = .returned (.tuple #[v', .int .i64 0]) ∧ NewU w.heap.size w' v' ((eqs (p.map phi)).map psi) ∧ Below w.heap.size w w' := by
  have hl := hp.len
  have hb' : ¬ (8 : Int) < (p.length : Int) := by omega
  have hat := Lib.hid (fun j => @RowU.at _ _ _ hp j)
  obtain ⟨h1, h2, a, cap, rfl, hr⟩ := hp
  have Hr := Lib.hid hr
  clear hr h1
  go_enter Tryz.func169, Tryz.ntmps169
  go_wp2
  go_loopw [4, 16] (fun o i wr => ∃ (k : Nat) (L : List Int), k ≤ p.length ∧ i = .int .i64 (k : Int) ∧ Hid (L = (eqs ((p.map phi).take k)).map psi) ∧ NewU w.heap.size wr o L ∧ Below w.heap.size w wr) (fun _ i _ => p.length - (intOf i).toNat)
  case atStart => exact ⟨0, [1], by omega, rfl, eqs_start, NewU.lit1 w 1 U64.one, (Below.refl _ _).alloc (Nat.le_refl _) _⟩
  case round =>
    obtain ⟨k, L, hk, rfl, HL, hown, hbel⟩ := hrel
    obtain ⟨hL0, hL⟩ := eqs_len p k hk hb L HL.out
    by_cases hz : k < p.length
    · obtain ⟨bl, off, rfl, hblt, hcell⟩ := Hr.out (by omega)
      have hcj := (hbel.cell (p := ⟨bl, off + k, none⟩) hblt).trans (hcell k (by omega))
      have hu := hat.out k (by omega)
      clear hcell
      have hLU := Lib.hid hown.1
      obtain ⟨g, c1, rfl, hg, hgl, hoc, hof⟩ := hown.shape hL0
      have Hoc := Lib.hid hoc
      clear hoc hof
      obtain ⟨wo, rfl⟩ : ∃ wo : World, wo = wr := ⟨_, rfl⟩
      go_wp2_with (at_make; refine wpList_makeU0 _ rfl _ _ rfl _ (2 * L.length) rfl rfl (by omega) (by omega) ?_; intro v0 w0 hn0 hb0)
      go_loopw [7, 26] (fun nx i wi => ∃ (j : Nat), j ≤ L.length ∧ i = .int .i64 (j : Int) ∧ NewU wo.heap.size wi nx ((L.take j).flatMap (eqI (at0 p k))) ∧ Below wo.heap.size wo wi) (fun _ i _ => L.length - (intOf i).toNat)
      case atStart => exact ⟨0, by omega, rfl, hn0, hb0⟩
      case round =>
        obtain ⟨j, hj, rfl, hni, hbi⟩ := hrel
        have hlj := eqI_len (at0 p k) (L.take j)
        have hlj2 : (L.take j).length ≤ L.length := List.length_take_le' _ _
        have hsz := hbi.size
        by_cases hzj : j < L.length
        · have hcl := (hbi.cell (p := ⟨g, j, none⟩) hgl).trans (Hoc.out j hzj)
          have huj : U64 (at0 L j) := hLU.out _ (at0_mem hzj)
          have Hs := Lib.hid (eqI_snoc (at0 p k) L j hzj)
          have hcap : ((L.take j).flatMap (eqI (at0 p k))).length + 2 ≤ 17592186043904 := by omega
          clear hlj
          go_wp2_with (first | (go_at_call 111; (with_reducible refine (field_Sub _ _ _ (by first | assumption | exact U64.psi _ | exact U64.zero | exact U64.one | exact U64.mk (by decide) (by decide)) (by first | assumption | exact U64.psi _ | exact U64.zero | exact U64.one | exact U64.mk (by decide) (by decide))).mono ?_); rintro e w' ⟨rfl, rfl⟩) | (go_at_call 112; (with_reducible refine (field_Mul _ _ _ (by first | assumption | exact U64.psi _ | exact U64.zero | exact U64.one | exact U64.mk (by decide) (by decide)) (by first | assumption | exact U64.psi _ | exact U64.zero | exact U64.one | exact U64.mk (by decide) (by decide))).mono ?_); rintro e w' ⟨rfl, rfl⟩) | (at_builtin; refine wpList_appU2 rfl _ _ rfl wo.heap.size _ _ rfl hni _ _ rfl (U64.psi _) (U64.psi _) hcap hsz ?_; intro v1 w1 hn1 hb1))
          go_roundw
          case rel => exact ⟨j + 1, by omega, by go_num, by rw [Hs.out]; exact hn1, hbi.trans hb1⟩
          case measure => simp [intOf]; omega
        · obtain rfl : j = L.length := by omega
          go_wp2
          go_roundw
          case rel => exact ⟨k + 1, _, by omega, by go_num, eqs_step p k hz L HL.out, NewU.mono (by rw [List.take_of_length_le (Nat.le_refl L.length)] at hni; exact hni) hbel.size, hbel.trans (hbi.mono hbel.size)⟩
          case measure => simp [intOf]; omega
    · obtain rfl : k = p.length := by omega
      go_wp2
      go_ret2
      refine ⟨_, rfl, ?_, hbel⟩
      have := HL.out
      rw [List.take_of_length_le (by simp)] at this
      rw [← this]; exact hown
end Go.Proofs.YtlfneeobnihocaaGreatDoor
