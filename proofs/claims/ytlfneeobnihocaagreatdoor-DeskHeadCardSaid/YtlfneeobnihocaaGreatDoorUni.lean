/- Several texts in one: Field2, Uni. What each says, and its conditions, stands at its head. -/
import Derived.Test.YtlfneeobnihocaaGreatDoorField
import Derived.Test.YtlfneeobnihocaaGreatDoorOpen
import Derived.Test.YtlfneeobnihocaaGreatDoorPoly
/- The walk of the reference's EUCLID: it answers the inverse; the argument is a number of 64 bits whose rest is not 0. -/
namespace Go.Proofs.YtlfneeobnihocaaGreatDoor
set_option maxRecDepth 100000
set_option linter.unusedVariables false
open Go.RowKit Tally

/-- nothing but units divides both -/
def NoCommon (r n : Int) : Prop := ∀ d : Int, d ∣ r → d ∣ n → d ∣ 1
theorem gcd_start (a : Int) (h : phi a ≠ 0) : NoCommon 2305843009213693951 (a % 2305843009213693951) := by
  have hm := mul_inv (phi a) h
  have h1 : phi (a % 2305843009213693951 * psi (inv (phi a))) = phi 1 := by rw [phi_mul, phi_emod', phi_psi, hm, phi_one]
  have h2 := phi_eq_iff.mp h1
  have e : P = 2305843009213693951 := rfl
  rw [e] at h2
  generalize a % 2305843009213693951 = b at *
  generalize psi (inv (phi a)) = i at *
  intro d hd1 hd2
  have hd3 : d ∣ b * i := Int.dvd_mul_of_dvd_left hd2
  have hd4 : (2305843009213693951 : Int) ∣ b * i - 1 := by
    have h3 : (b * i - 1) % 2305843009213693951 = 0 := by omega
    exact Int.dvd_of_emod_eq_zero h3
  have hd5 : d ∣ b * i - 1 := Int.dvd_trans hd1 hd4
  have := Int.dvd_sub hd3 hd5
  have e1 : b * i - (b * i - 1) = 1 := by omega
  rwa [e1] at this
theorem gcd_step (r n q : Int) (h : NoCommon r n) : NoCommon n (r - q * n) := by
  intro d h1 h2
  refine h d ?_ h1
  have : d ∣ (r - q * n) + q * n := Int.dvd_add h2 (Int.dvd_mul_of_dvd_right h1)
  have e : (r - q * n) + q * n = r := by omega
  rwa [e] at this
theorem gcd_end (r : Int) (h0 : 0 ≤ r) (h : NoCommon r 0) : r = 1 := by
  have h1 := h r (Int.dvd_refl r) (Int.dvd_zero r)
  have := Int.le_of_dvd (by decide) h1
  by_cases hz : r = 0
  · subst hz; have := Int.zero_dvd.mp h1; omega
  · omega
theorem quot_bounds (r n : Int) (h0 : 0 < n) (h1 : n < r) : 0 ≤ r / n ∧ r / n ≤ r ∧ 0 ≤ r / n * n ∧ r / n * n ≤ r ∧ 0 ≤ r - r / n * n ∧ r - r / n * n < n := by
  have e := Int.emod_add_mul_ediv r n
  have a1 := Int.emod_nonneg r (Int.ne_of_gt h0)
  have a2 := Int.emod_lt_of_pos r h0
  have a3 : 0 ≤ r / n := Int.ediv_nonneg (by omega) (by omega)
  have a4 : r / n ≤ r := Int.ediv_le_self _ (by omega)
  have a5 : 0 ≤ r / n * n := Int.mul_nonneg a3 (by omega)
  have a6 : n * (r / n) = r / n * n := Int.mul_comm _ _
  exact ⟨a3, a4, a5, by omega, by omega, by omega⟩
theorem inv_start (a : Int) (hg : NoCommon 2305843009213693951 (a % 2305843009213693951)) : phi 0 * phi a = phi 2305843009213693951 ∧ phi 1 * phi a = phi (a % 2305843009213693951) ∧ NoCommon 2305843009213693951 (a % 2305843009213693951) := by
  have h := phi_P
  have e : P = 2305843009213693951 := rfl
  rw [e] at h
  refine ⟨?_, ?_, hg⟩
  · rw [h, phi_zero]; grind
  · rw [phi_one, phi_emod']; grind
theorem inv_step (a : F) (i j X T : Int) (h : phi X * a = phi i ∧ phi T * a = phi j ∧ NoCommon i j) :
    phi T * a = phi j ∧ phi (psi (phi X - phi (psi (phi (i / j) * phi T)))) * a = phi (i - i / j * j) ∧ NoCommon j (i - i / j * j) := by
  obtain ⟨h1, h2, h3⟩ := h
  refine ⟨h2, ?_, gcd_step i j _ h3⟩
  rw [phi_psi, phi_psi, phi_sub, phi_mul, ← h1, ← h2]; grind
theorem inv_end (a : F) (i X T : Int) (h0 : 0 ≤ i) (hX : U64 X) (hlt : X < P) (h : phi X * a = phi i ∧ phi T * a = phi 0 ∧ NoCommon i 0) : X = psi (inv a) := by
  obtain ⟨h1, _, h3⟩ := h
  rw [gcd_end i h0 h3, phi_one] at h1
  exact eq_psi (inv_unique (by rw [← h1]; grind)) hX.1 hlt
set_option maxHeartbeats 400000 in
theorem ref_Inv (a : Int) (w : World) (ha : U64 a) (h : phi a ≠ 0) :
    Calls Tryz.prog 48 #[.int .u64 a] w fun e w' => e = .returned (.int .u64 (psi (inv (phi a)))) ∧ w = w' := by
  have h0 := ha.1
  have hg := gcd_start a h
  have hr0 : 0 ≤ a % 2305843009213693951 := by omega
  have hlt : a % 2305843009213693951 < 2305843009213693951 := by omega
  go_enter Tryz.func48, Tryz.ntmps48
  go_wp2
  go_loop [3, 4, 5, 6] (fun r n x t => ∃ (i j : Int) (X T : Int), 0 ≤ j ∧ j < i ∧ i ≤ 2305843009213693951 ∧ U64 X ∧ U64 T ∧ X < P ∧ T < P ∧ r = .int .u64 i ∧ n = .int .u64 j ∧ x = .int .u64 X ∧ t = .int .u64 T ∧ Hid (phi X * phi a = phi i ∧ phi T * phi a = phi j ∧ NoCommon i j)) (fun _ n _ _ => (intOf n).toNat)
  case atStart => exact ⟨_, _, _, _, hr0, hlt, by omega, U64.zero, U64.one, by decide, by decide, rfl, rfl, rfl, rfl, inv_start a hg⟩
  case round =>
    obtain ⟨i, j, X, T, hj0, hji, hi, hX, hT, hXlt, hTlt, rfl, rfl, rfl, rfl, H⟩ := hrel
    by_cases hz : 0 < j
    · obtain ⟨q1, q2, q3, q4, q5, q6⟩ := quot_bounds i j hz hji
      have hq : U64 (i / j) := ⟨q1, by omega⟩
      go_wp2_with (first | (go_at_call 45; (with_reducible refine (ref_Mul _ _ _ (by first | assumption | exact U64.psi _ | exact U64.zero | exact U64.one | exact U64.mk (by decide) (by decide)) (by first | assumption | exact U64.psi _ | exact U64.zero | exact U64.one | exact U64.mk (by decide) (by decide))).mono ?_); rintro e w' ⟨rfl, rfl⟩) | (go_at_call 44; (with_reducible refine (ref_Sub _ _ _ (by first | assumption | exact U64.psi _ | exact U64.zero | exact U64.one | exact U64.mk (by decide) (by decide)) (by first | assumption | exact U64.psi _ | exact U64.zero | exact U64.one | exact U64.mk (by decide) (by decide))).mono ?_); rintro e w' ⟨rfl, rfl⟩))
      go_round
      case rel => exact ⟨_, _, _, _, q5, q6, by omega, hT, U64.psi _, hTlt, psi_lt _, rfl, rfl, rfl, rfl, inv_step _ _ _ _ _ H.out⟩
      case measure => simp [intOf]; omega
    · obtain rfl : j = 0 := by omega
      go_wp2
      go_ret
      exact ⟨ret_u64 (inv_end _ i X T (by omega) hX hXlt H.out), rfl⟩
end Go.Proofs.YtlfneeobnihocaaGreatDoor
/- The walks of package uni, and of the reference's LAGRANGE: values of polynomials. The lists are slices of 64-bit numbers. -/
namespace Go.Proofs.YtlfneeobnihocaaGreatDoor
set_option maxRecDepth 100000
set_option linter.unusedVariables false
open Go.RowKit Tally
/-- only draws lie between two worlds -/
def Drawn (w w' : World) : Prop := ∃ n, w' = w.drewN n
theorem Drawn.refl (w : World) : Drawn w w := ⟨0, rfl⟩
theorem Drawn.more {w w' : World} (h : Drawn w w') (m : Nat) : Drawn w (w'.drewN m) := by
  obtain ⟨n, rfl⟩ := h; exact ⟨n + m, by rw [World.drewN_drewN]⟩
theorem Drawn.trans {a b c : World} (h : Drawn a b) (k : Drawn b c) : Drawn a c := by
  obtain ⟨n, rfl⟩ := k; exact h.more n
theorem Drawn.below {w w' : World} (h : Drawn w w') : Below w.heap.size w w' := by
  obtain ⟨n, rfl⟩ := h; exact below_drewN (Below.refl _ _) n
/-- such a contract, as a region that draws its order wants it -/
theorem flipD {Pr : Program} {f : FuncId} {args : Array Value} {w : World} {n : Nat} {v : Value} (h : Calls Pr f args (w.drewN n) fun e w' => e = .returned v ∧ Drawn (w.drewN n) w') :
    Calls Pr f args (w.drewN n) fun e w'' => e = .returned v ∧ ∃ m, w'' = w.drewN m := Calls.quiet_of h
theorem hor_step (a : List Int) (k : Nat) (h0 : 0 < k) (hk : k ≤ a.length) {c : Int} {y : F} (H : phi c = hor ((a.map phi).drop k) y) :
    phi (psi (phi (psi (phi c * y)) + phi (at0 a (k - 1)))) = hor ((a.map phi).drop (k - 1)) y := by
  have e : (a.map phi).drop (k - 1) = phi (at0 a (k - 1)) :: (a.map phi).drop k := by
    rw [List.drop_eq_getElem_cons (by simp; omega)]
    have e1 : k - 1 + 1 = k := by omega
    rw [e1, List.getElem_map]; congr 2
    simp [at0, List.getElem?_eq_getElem (show k - 1 < a.length by omega)]
  rw [e, hor_cons, phi_psi, phi_psi, H]; grind
theorem atF_map (a : List Int) (k : Nat) (h : k < a.length) : atF (a.map phi) k = phi (at0 a k) := by
  simp [atF, at0, h]
theorem coef_step (a : List Int) (k : Nat) (hk : k < a.length) {c y : Int} {x : F} (H : phi c = horTo (atF (a.map phi)) k x ∧ phi y = x ^ k) :
    phi (psi (phi c + phi (psi (phi (at0 a k) * phi y)))) = horTo (atF (a.map phi)) (k + 1) x ∧ phi (psi (phi y * x)) = x ^ (k + 1) := by
  rw [phi_psi, phi_psi, phi_psi, H.1, H.2, horTo, atF_map a k hk, pow_succ']
  exact ⟨by grind, rfl⟩
set_option maxHeartbeats 400000 in
theorem uni_eval (a : List Int) (v : Value) (x : Int) (w : World) (hp : RowU w v a) (hx : U64 x) :
    Calls Tryz.prog 173 #[v, .int .u64 x] w fun e w' => e = .returned (.int .u64 (psi (hor (a.map phi) (phi x)))) ∧ Drawn w w' := by
  have hl := hp.len
  have hat := Lib.hid (fun j => @RowU.at _ _ _ hp j)
  obtain ⟨h1, h2, ad, cap, rfl, hr⟩ := hp
  have Hr := Lib.hid hr
  clear hr h1
  go_enter Tryz.func173, Tryz.ntmps173
  go_wp2
  go_loopw [5, 6] (fun o i wr => ∃ (k : Nat) (c : Int), k ≤ a.length ∧ U64 c ∧ c < P ∧ i = .int .i64 ((k : Int) - 1) ∧ o = .int .u64 c ∧ Hid (phi c = hor ((a.map phi).drop k) (phi x)) ∧ Drawn w wr) (fun _ i _ => (intOf i + 1).toNat)
  case atStart => exact ⟨a.length, 0, by omega, U64.zero, by decide, rfl, rfl, (by rw [List.drop_of_length_le (by simp), phi_zero]; rfl), Drawn.refl _⟩
  case round =>
    obtain ⟨k, c, hk, hc, hlt, rfl, rfl, H, hd⟩ := hrel
    by_cases hz : 0 < k
    · obtain ⟨b, off, rfl, hblt, hcell⟩ := Hr.out (by omega)
      have hcj := (hd.below.cell (p := ⟨b, off + (k - 1), none⟩) hblt).trans (hcell (k - 1) (by omega))
      have hu := hat.out (k - 1) (by omega)
      clear hcell
      go_wp2
      go_quiet (first | (go_at_call 112; exact flip (field_Mul _ _ _ (by first | assumption | exact U64.psi _ | exact U64.zero | exact U64.one | exact U64.mk (by decide) (by decide)) (by first | assumption | exact U64.psi _ | exact U64.zero | exact U64.one | exact U64.mk (by decide) (by decide)))) | (go_at_call 108; exact flip (field_Add _ _ _ (by first | assumption | exact U64.psi _ | exact U64.zero | exact U64.one | exact U64.mk (by decide) (by decide)) (by first | assumption | exact U64.psi _ | exact U64.zero | exact U64.one | exact U64.mk (by decide) (by decide)))))
      go_wp2
      go_roundw
      case rel => exact ⟨k - 1, _, by omega, U64.psi _, psi_lt _, by congr 1; omega, rfl, hor_step a k hz hk H.out, hd.more _⟩
      case measure => simp [intOf]; omega
    · obtain rfl : k = 0 := by omega
      go_wp2
      go_ret
      exact ⟨ret_u64 (eq_psi H.out hc.1 hlt), hd⟩
theorem lagp_step (a : List Int) (j k : Nat) (hjk : ¬ j = k) {y z : Int} {x : F} (H : phi y = phi (at0 a k) * prodEx j k x ∧ phi z = prodEx j k (phi k)) :
    phi (psi (phi y * phi (psi (x - phi j)))) = phi (at0 a k) * prodEx (j + 1) k x ∧ phi (psi (phi z * phi (psi (phi k - phi j)))) = prodEx (j + 1) k (phi k) := by
  rw [phi_psi, phi_psi, phi_psi, phi_psi, H.1, H.2]
  simp only [prodEx, if_neg hjk, and_true]
  generalize prodEx j k x = u; generalize phi (at0 a k) = t; grind
theorem lag_step (a : List Int) (k : Nat) (hk : k < a.length) {c y z : Int} {x : F} (H : phi c = lagTo (a.map phi) a.length k x) (H2 : phi y = phi (at0 a k) * prodEx a.length k x ∧ phi z = prodEx a.length k (phi k)) :
    phi (psi (phi c + phi (psi (phi y * phi (psi (inv (phi z))))))) = lagTo (a.map phi) a.length (k + 1) x := by
  simp only [phi_psi, lagTo, H, H2.1, H2.2, atF_map a k hk]
set_option maxHeartbeats 400000 in
theorem ref_At (a : List Int) (v : Value) (x : Int) (w : World) (hp : RowU w v a) (hx : U64 x) (hlen : a.length ≤ 1000000) :
    Calls Tryz.prog 124 #[v, .int .u64 x] w fun e w' => e = .returned (.int .u64 (psi (lag (a.map phi) (phi x)))) ∧ w = w' := by
  have hl := hp.len
  have hat := Lib.hid (fun j => @RowU.at _ _ _ hp j)
  obtain ⟨h1, h2, ad, cap, rfl, hr⟩ := hp
  have Hr := Lib.hid hr
  clear hr h1
  go_enter Tryz.func124, Tryz.ntmps124
  go_wp2
  go_loop [5, 6] (fun o i => ∃ (k : Nat) (c : Int), k ≤ a.length ∧ U64 c ∧ c < P ∧ i = .int .i64 (k : Int) ∧ o = .int .u64 c ∧ Hid (phi c = lagTo (a.map phi) a.length k (phi x))) (fun _ i => a.length - (intOf i).toNat)
  case atStart => exact ⟨0, 0, by omega, U64.zero, by decide, rfl, rfl, phi_zero⟩
  case round =>
    obtain ⟨k, c, hk, hc, hlt, rfl, rfl, H⟩ := hrel
    by_cases hz : k < a.length
    · obtain ⟨b, off, rfl, hblt, hcell⟩ := Hr.out (by omega)
      have hcj := hcell k (by omega)
      have hu := hat.out k (by omega)
      clear hcell
      have uk : U64 (k : Int) := ⟨by omega, by omega⟩
      go_wp2
      go_loop [7, 8, 9] (fun up un i => ∃ (j : Nat) (y z : Int), j ≤ a.length ∧ U64 y ∧ U64 z ∧ i = .int .i64 (j : Int) ∧ up = .int .u64 y ∧ un = .int .u64 z ∧ Hid (phi y = phi (at0 a k) * prodEx j k (phi x) ∧ phi z = prodEx j k (phi k))) (fun _ _ i => a.length - (intOf i).toNat)
      case atStart => exact ⟨0, _, 1, by omega, hu, U64.one, rfl, rfl, rfl, (by show _ = phi (at0 a k) * 1; grind), phi_one⟩
      case round =>
        obtain ⟨j, y, z, hj, hy, hz', rfl, rfl, rfl, H2⟩ := hrel
        by_cases hzj : j < a.length
        · have uj : U64 (j : Int) := ⟨by omega, by omega⟩
          by_cases hjk : j = k
          · subst hjk
            go_wp2
            go_round
            case rel => exact ⟨j + 1, y, z, by omega, hy, hz', by go_num, rfl, rfl, by simp only [prodEx, if_true]; exact H2.out⟩
            case measure => simp [intOf]; omega
          · have hjk' : ((j : Int) == (k : Int)) = false := by simp; omega
            have hjk2 : ((j : Int) != (k : Int)) = true := by simp; omega
            go_wp2_with (first | (go_at_call 45; (with_reducible refine (ref_Mul _ _ _ (by first | assumption | exact U64.psi _ | exact U64.zero | exact U64.one | exact U64.mk (by decide) (by decide)) (by first | assumption | exact U64.psi _ | exact U64.zero | exact U64.one | exact U64.mk (by decide) (by decide))).mono ?_); rintro e w' ⟨rfl, rfl⟩) | (go_at_call 44; (with_reducible refine (ref_Sub _ _ _ (by first | assumption | exact U64.psi _ | exact U64.zero | exact U64.one | exact U64.mk (by decide) (by decide)) (by first | assumption | exact U64.psi _ | exact U64.zero | exact U64.one | exact U64.mk (by decide) (by decide))).mono ?_); rintro e w' ⟨rfl, rfl⟩))
            go_round
            case rel => exact ⟨j + 1, _, _, by omega, U64.psi _, U64.psi _, by go_num, rfl, rfl, lagp_step a j k hjk H2.out⟩
            case measure => simp [intOf]; omega
        · obtain rfl : j = a.length := by omega
          have hne : phi z ≠ 0 := by rw [H2.out.2]; exact prodEx_ne _ _ (by omega) (by omega)
          have Hne := Lib.hid hne
          clear hne
          go_wp2_with (first | (go_at_call 45; (with_reducible refine (ref_Mul _ _ _ (by first | assumption | exact U64.psi _ | exact U64.zero | exact U64.one | exact U64.mk (by decide) (by decide)) (by first | assumption | exact U64.psi _ | exact U64.zero | exact U64.one | exact U64.mk (by decide) (by decide))).mono ?_); rintro e w' ⟨rfl, rfl⟩) | (go_at_call 43; (with_reducible refine (ref_Add _ _ _ (by first | assumption | exact U64.psi _ | exact U64.zero | exact U64.one | exact U64.mk (by decide) (by decide)) (by first | assumption | exact U64.psi _ | exact U64.zero | exact U64.one | exact U64.mk (by decide) (by decide))).mono ?_); rintro e w' ⟨rfl, rfl⟩))
          refine (ref_Inv _ _ hz' Hne.out).mono ?_
          rintro e w' ⟨rfl, rfl⟩
          go_wp2_with (first | (go_at_call 45; (with_reducible refine (ref_Mul _ _ _ (by first | assumption | exact U64.psi _ | exact U64.zero | exact U64.one | exact U64.mk (by decide) (by decide)) (by first | assumption | exact U64.psi _ | exact U64.zero | exact U64.one | exact U64.mk (by decide) (by decide))).mono ?_); rintro e w' ⟨rfl, rfl⟩) | (go_at_call 43; (with_reducible refine (ref_Add _ _ _ (by first | assumption | exact U64.psi _ | exact U64.zero | exact U64.one | exact U64.mk (by decide) (by decide)) (by first | assumption | exact U64.psi _ | exact U64.zero | exact U64.one | exact U64.mk (by decide) (by decide))).mono ?_); rintro e w' ⟨rfl, rfl⟩))
          go_round
          case rel => exact ⟨k + 1, _, by omega, U64.psi _, psi_lt _, by go_num, rfl, lag_step a k hz H.out H2.out⟩
          case measure => simp [intOf]; omega
    · obtain rfl : k = a.length := by omega
      go_wp2
      go_ret
      exact ⟨ret_u64 (eq_psi (by rw [H.out]; unfold lag; simp) hc.1 hlt), rfl⟩
end Go.Proofs.YtlfneeobnihocaaGreatDoor
