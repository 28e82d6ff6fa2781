/- The walks of package uni, and of the reference's LAGRANGE: values of polynomials. The lists are slices of 64-bit numbers. -/
import Derived.Test.YtbfgmobkmeonfaaField2
import Derived.Test.YtbfgmobkmeonfaaOpen
import Derived.Test.YtbfgmobkmeonfaaLag
namespace Go.Proofs.Ytbfgmobkmeonfaa
open Go.RowKit Tally
/-- only draws lie between two worlds -/
def Drawn (w w' : World) : Prop := ∃ n, w' = w.drewN n
theorem Drawn.refl (w : World) : Drawn w w := ⟨0, rfl⟩
theorem Drawn.more {w w' : World} (h : Drawn w w') (m : Nat) : Drawn w (w'.drewN m) := by
  obtain ⟨n, rfl⟩ := h; exact ⟨n + m, by rw [World.drewN_drewN]⟩
theorem Drawn.trans {a b c : World} (h : Drawn a b) (k : Drawn b c) : Drawn a c := by
  obtain ⟨n, rfl⟩ := k; exact h.more n
theorem Drawn.below {w w' : World} (h : Drawn w w') : Below w.heap.size w w' := by
  obtain ⟨n, rfl⟩ := h; exact below_drewN (Below.refl _ _) n
/-- such a contract, as a region that draws its order wants it -/
theorem flipD {Pr : Program} {f : FuncId} {args : Array Value} {w : World} {n : Nat} {v : Value} (h : Calls Pr f args (w.drewN n) fun e w' => e = .returned v ∧ Drawn (w.drewN n) w') :
    Calls Pr f args (w.drewN n) fun e w'' => e = .returned v ∧ ∃ m, w'' = w.drewN m := Calls.quiet_of h
theorem hor_step (a : List Int) (k : Nat) (h0 : 0 < k) (hk : k ≤ a.length) {c : Int} {y : F} (H : phi c = hor ((a.map phi).drop k) y) :
    phi (psi (phi (psi (phi c * y)) + phi (at0 a (k - 1)))) = hor ((a.map phi).drop (k - 1)) y := by
  have e : (a.map phi).drop (k - 1) = phi (at0 a (k - 1)) :: (a.map phi).drop k := by
    rw [List.drop_eq_getElem_cons (by simp; omega)]
    have e1 : k - 1 + 1 = k := by omega
    rw [e1, List.getElem_map]; congr 2
    simp [at0, List.getElem?_eq_getElem (show k - 1 < a.length by omega)]
  rw [e, hor_cons, phi_psi, phi_psi, H]; grind
theorem atF_map (a : List Int) (k : Nat) (h : k < a.length) : atF (a.map phi) k = phi (at0 a k) := by
  simp [atF, at0, h]
theorem coef_step (a : List Int) (k : Nat) (hk : k < a.length) {c y : Int} {x : F} (H : phi c = horTo (atF (a.map phi)) k x ∧ phi y = x ^ k) :
    phi (psi (phi c + phi (psi (phi (at0 a k) * phi y)))) = horTo (atF (a.map phi)) (k + 1) x ∧ phi (psi (phi y * x)) = x ^ (k + 1) := by
  rw [phi_psi, phi_psi, phi_psi, H.1, H.2, horTo, atF_map a k hk, pow_succ']
  exact ⟨by grind, rfl⟩
set_option maxHeartbeats 400000 in
theorem uni_eval (a : List Int) (v : Value) (x : Int) (w : World) (hp : RowU w v a) (hx : U64 x) :
    Calls Try.prog 60 #[v, .int .u64 x] w fun e w' => e = .returned (.int .u64 (psi (hor (a.map phi) (phi x)))) ∧ Drawn w w' := by
  have hl := hp.len
  have hat := Lib.hid (fun j => @RowU.at _ _ _ hp j)
  obtain ⟨h1, h2, ad, cap, rfl, hr⟩ := hp
  have Hr := Lib.hid hr
  clear hr h1
  go_enter Try.func60, Try.ntmps60
  go_wp2
  go_loopw [5, 6] (fun o i wr => ∃ (k : Nat) (c : Int), k ≤ a.length ∧ U64 c ∧ c < P ∧ i = .int .i64 ((k : Int) - 1) ∧ o = .int .u64 c ∧ Hid (phi c = hor ((a.map phi).drop k) (phi x)) ∧ Drawn w wr) (fun _ i _ => (intOf i + 1).toNat)
  case atStart => exact ⟨a.length, 0, by omega, U64.zero, by decide, rfl, rfl, (by rw [List.drop_of_length_le (by simp), phi_zero]; rfl), Drawn.refl _⟩
  case round =>
    obtain ⟨k, c, hk, hc, hlt, rfl, rfl, H, hd⟩ := hrel
    by_cases hz : 0 < k
    · obtain ⟨b, off, rfl, hblt, hcell⟩ := Hr.out (by omega)
      have hcj := (hd.below.cell (p := ⟨b, off + (k - 1), none⟩) hblt).trans (hcell (k - 1) (by omega))
      have hu := hat.out (k - 1) (by omega)
      clear hcell
      go_wp2
      go_quiet (first | (go_at_call 24; exact flip (field_Mul _ _ _ (by first | assumption | exact U64.psi _ | exact U64.zero | exact U64.one | exact U64.mk (by decide) (by decide)) (by first | assumption | exact U64.psi _ | exact U64.zero | exact U64.one | exact U64.mk (by decide) (by decide)))) | (go_at_call 20; exact flip (field_Add _ _ _ (by first | assumption | exact U64.psi _ | exact U64.zero | exact U64.one | exact U64.mk (by decide) (by decide)) (by first | assumption | exact U64.psi _ | exact U64.zero | exact U64.one | exact U64.mk (by decide) (by decide)))))
      go_wp2
      go_roundw
      case rel => exact ⟨k - 1, _, by omega, U64.psi _, psi_lt _, by congr 1; omega, rfl, hor_step a k hz hk H.out, hd.more _⟩
      case measure => simp [intOf]; omega
    · obtain rfl : k = 0 := by omega
      go_wp2
      go_ret
      exact ⟨ret_u64 (eq_psi H.out hc.1 hlt), hd⟩
set_option maxHeartbeats 400000 in
theorem ref_Coef (a : List Int) (v : Value) (x : Int) (w : World) (hp : RowU w v a) (hx : U64 x) :
    Calls Try.prog 39 #[v, .int .u64 x] w fun e w' => e = .returned (.int .u64 (psi (hor (a.map phi) (phi x)))) ∧ w = w' := by
  have hl := hp.len
  have hat := Lib.hid (fun j => @RowU.at _ _ _ hp j)
  obtain ⟨h1, h2, ad, cap, rfl, hr⟩ := hp
  have Hr := Lib.hid hr
  clear hr h1
  go_enter Try.func39, Try.ntmps39
  go_wp2
  go_loop [5, 6, 7] (fun o p i => ∃ (k : Nat) (c y : Int), k ≤ a.length ∧ U64 c ∧ c < P ∧ U64 y ∧ i = .int .i64 (k : Int) ∧ o = .int .u64 c ∧ p = .int .u64 y ∧ Hid (phi c = horTo (atF (a.map phi)) k (phi x) ∧ phi y = phi x ^ k)) (fun _ _ i => a.length - (intOf i).toNat)
  case atStart => exact ⟨0, 0, 1, by omega, U64.zero, by decide, U64.one, rfl, rfl, rfl, phi_zero, phi_one⟩
  case round =>
    obtain ⟨k, c, y, hk, hc, hlt, hy, rfl, rfl, rfl, H⟩ := hrel
    by_cases hz : k < a.length
    · obtain ⟨b, off, rfl, hblt, hcell⟩ := Hr.out (by omega)
      have hcj := hcell k (by omega)
      have hu := hat.out k (by omega)
      clear hcell
      go_wp2_with (first | (go_at_call 25; (with_reducible refine (ref_Mul _ _ _ (by first | assumption | exact U64.psi _ | exact U64.zero | exact U64.one | exact U64.mk (by decide) (by decide)) (by first | assumption | exact U64.psi _ | exact U64.zero | exact U64.one | exact U64.mk (by decide) (by decide))).mono ?_); rintro e w' ⟨rfl, rfl⟩) | (go_at_call 21; (with_reducible refine (ref_Add _ _ _ (by first | assumption | exact U64.psi _ | exact U64.zero | exact U64.one | exact U64.mk (by decide) (by decide)) (by first | assumption | exact U64.psi _ | exact U64.zero | exact U64.one | exact U64.mk (by decide) (by decide))).mono ?_); rintro e w' ⟨rfl, rfl⟩))
      go_round
      case rel => exact ⟨k + 1, _, _, by omega, U64.psi _, psi_lt _, U64.psi _, by go_num, rfl, rfl, coef_step a k hz H.out⟩
      case measure => simp [intOf]; omega
    · obtain rfl : k = a.length := by omega
      go_wp2
      go_ret
      exact ⟨ret_u64 (eq_psi (by rw [H.out.1, hor_horTo]; simp) hc.1 hlt), rfl⟩
theorem lagp_step (a : List Int) (j k : Nat) (hjk : ¬ j = k) {y z : Int} {x : F} (H : phi y = phi (at0 a k) * prodEx j k x ∧ phi z = prodEx j k (phi k)) :
    phi (psi (phi y * phi (psi (x - phi j)))) = phi (at0 a k) * prodEx (j + 1) k x ∧ phi (psi (phi z * phi (psi (phi k - phi j)))) = prodEx (j + 1) k (phi k) := by
  rw [phi_psi, phi_psi, phi_psi, phi_psi, H.1, H.2]
  simp only [prodEx, if_neg hjk, and_true]
  generalize prodEx j k x = u; generalize phi (at0 a k) = t; grind
theorem lag_step (a : List Int) (k : Nat) (hk : k < a.length) {c y z : Int} {x : F} (H : phi c = lagTo (a.map phi) a.length k x) (H2 : phi y = phi (at0 a k) * prodEx a.length k x ∧ phi z = prodEx a.length k (phi k)) :
    phi (psi (phi c + phi (psi (phi y * phi (psi (inv (phi z))))))) = lagTo (a.map phi) a.length (k + 1) x := by
  simp only [phi_psi, lagTo, H, H2.1, H2.2, atF_map a k hk]
set_option maxHeartbeats 400000 in
theorem ref_At (a : List Int) (v : Value) (x : Int) (w : World) (hp : RowU w v a) (hx : U64 x) (hlen : a.length ≤ 1000000) :
    Calls Try.prog 40 #[v, .int .u64 x] w fun e w' => e = .returned (.int .u64 (psi (lag (a.map phi) (phi x)))) ∧ w = w' := by
  have hl := hp.len
  have hat := Lib.hid (fun j => @RowU.at _ _ _ hp j)
  obtain ⟨h1, h2, ad, cap, rfl, hr⟩ := hp
  have Hr := Lib.hid hr
  clear hr h1
  go_enter Try.func40, Try.ntmps40
  go_wp2
  go_loop [5, 6] (fun o i => ∃ (k : Nat) (c : Int), k ≤ a.length ∧ U64 c ∧ c < P ∧ i = .int .i64 (k : Int) ∧ o = .int .u64 c ∧ Hid (phi c = lagTo (a.map phi) a.length k (phi x))) (fun _ i => a.length - (intOf i).toNat)
  case atStart => exact ⟨0, 0, by omega, U64.zero, by decide, rfl, rfl, phi_zero⟩
  case round =>
    obtain ⟨k, c, hk, hc, hlt, rfl, rfl, H⟩ := hrel
    by_cases hz : k < a.length
    · obtain ⟨b, off, rfl, hblt, hcell⟩ := Hr.out (by omega)
      have hcj := hcell k (by omega)
      have hu := hat.out k (by omega)
      clear hcell
      have uk : U64 (k : Int) := ⟨by omega, by omega⟩
      go_wp2
      go_loop [7, 8, 9] (fun up un i => ∃ (j : Nat) (y z : Int), j ≤ a.length ∧ U64 y ∧ U64 z ∧ i = .int .i64 (j : Int) ∧ up = .int .u64 y ∧ un = .int .u64 z ∧ Hid (phi y = phi (at0 a k) * prodEx j k (phi x) ∧ phi z = prodEx j k (phi k))) (fun _ _ i => a.length - (intOf i).toNat)
      case atStart => exact ⟨0, _, 1, by omega, hu, U64.one, rfl, rfl, rfl, (by show _ = phi (at0 a k) * 1; grind), phi_one⟩
      case round =>
        obtain ⟨j, y, z, hj, hy, hz', rfl, rfl, rfl, H2⟩ := hrel
        by_cases hzj : j < a.length
        · have uj : U64 (j : Int) := ⟨by omega, by omega⟩
          by_cases hjk : j = k
          · subst hjk
            go_wp2
            go_round
            case rel => exact ⟨j + 1, y, z, by omega, hy, hz', by go_num, rfl, rfl, by simp only [prodEx, if_true]; exact H2.out⟩
            case measure => simp [intOf]; omega
          · have hjk' : ((j : Int) == (k : Int)) = false := by simp; omega
            have hjk2 : ((j : Int) != (k : Int)) = true := by simp; omega
            go_wp2_with (first | (go_at_call 25; (with_reducible refine (ref_Mul _ _ _ (by first | assumption | exact U64.psi _ | exact U64.zero | exact U64.one | exact U64.mk (by decide) (by decide)) (by first | assumption | exact U64.psi _ | exact U64.zero | exact U64.one | exact U64.mk (by decide) (by decide))).mono ?_); rintro e w' ⟨rfl, rfl⟩) | (go_at_call 23; (with_reducible refine (ref_Sub _ _ _ (by first | assumption | exact U64.psi _ | exact U64.zero | exact U64.one | exact U64.mk (by decide) (by decide)) (by first | assumption | exact U64.psi _ | exact U64.zero | exact U64.one | exact U64.mk (by decide) (by decide))).mono ?_); rintro e w' ⟨rfl, rfl⟩))
            go_round
            case rel => exact ⟨j + 1, _, _, by omega, U64.psi _, U64.psi _, by go_num, rfl, rfl, lagp_step a j k hjk H2.out⟩
            case measure => simp [intOf]; omega
        · obtain rfl : j = a.length := by omega
          have hne : phi z ≠ 0 := by rw [H2.out.2]; exact prodEx_ne _ _ (by omega) (by omega)
          have Hne := Lib.hid hne
          clear hne
          go_wp2_with (first | (go_at_call 25; (with_reducible refine (ref_Mul _ _ _ (by first | assumption | exact U64.psi _ | exact U64.zero | exact U64.one | exact U64.mk (by decide) (by decide)) (by first | assumption | exact U64.psi _ | exact U64.zero | exact U64.one | exact U64.mk (by decide) (by decide))).mono ?_); rintro e w' ⟨rfl, rfl⟩) | (go_at_call 21; (with_reducible refine (ref_Add _ _ _ (by first | assumption | exact U64.psi _ | exact U64.zero | exact U64.one | exact U64.mk (by decide) (by decide)) (by first | assumption | exact U64.psi _ | exact U64.zero | exact U64.one | exact U64.mk (by decide) (by decide))).mono ?_); rintro e w' ⟨rfl, rfl⟩))
          refine (ref_Inv _ _ hz' Hne.out).mono ?_
          rintro e w' ⟨rfl, rfl⟩
          go_wp2_with (first | (go_at_call 25; (with_reducible refine (ref_Mul _ _ _ (by first | assumption | exact U64.psi _ | exact U64.zero | exact U64.one | exact U64.mk (by decide) (by decide)) (by first | assumption | exact U64.psi _ | exact U64.zero | exact U64.one | exact U64.mk (by decide) (by decide))).mono ?_); rintro e w' ⟨rfl, rfl⟩) | (go_at_call 21; (with_reducible refine (ref_Add _ _ _ (by first | assumption | exact U64.psi _ | exact U64.zero | exact U64.one | exact U64.mk (by decide) (by decide)) (by first | assumption | exact U64.psi _ | exact U64.zero | exact U64.one | exact U64.mk (by decide) (by decide))).mono ?_); rintro e w' ⟨rfl, rfl⟩))
          go_round
          case rel => exact ⟨k + 1, _, by omega, U64.psi _, psi_lt _, by go_num, rfl, lag_step a k hz H.out H2.out⟩
          case measure => simp [intOf]; omega
    · obtain rfl : k = a.length := by omega
      go_wp2
      go_ret
      exact ⟨ret_u64 (eq_psi (by rw [H.out]; unfold lag; simp) hc.1 hlt), rfl⟩
end Go.Proofs.Ytbfgmobkmeonfaa
