/- The walks of the reference's trees: Root, Path, Climb, each calling itself. The lists are slices of 2^n numbers, n to 8. -/
import Derived.Test.YtokggifjcbkmnaaDoorTreeW
import Derived.Test.YtokggifjcbkmnaaDoorRSponge
import Derived.Test.YtokggifjcbkmnaaDoorOpen
import Derived.Deep.RegionHeld3
import Derived.IntWalk
namespace Go.Proofs.YtokggifjcbkmnaaDoor
set_option maxRecDepth 100000
set_option linter.unusedVariables false
open Go.RowKit Tally
/-- the numbers of a list lie in block b from off on -/
def Sub (w : World) (b off : Nat) (l : List Int) : Prop := (∀ x ∈ l, U64 x) ∧ b < w.heap.size ∧ ∀ j, j < l.length → w.cell? ⟨b, off + j, none⟩ = some (.int .u64 (at0 l j))
theorem Sub.below {K : Nat} {w w' : World} {b off : Nat} {l : List Int} (h : Sub w b off l) (hb : Below K w w') (hK : w.heap.size ≤ K) : Sub w' b off l :=
  ⟨h.1, Nat.lt_of_lt_of_le h.2.1 hb.size, fun j hj => by rw [hb.cell (by have := h.2.1; show b < K; omega)]; exact h.2.2 j hj⟩
theorem Sub.step {w w' : World} {b off : Nat} {l : List Int} (h : Sub w b off l) (hb : Below w.heap.size w w') : Sub w' b off l := h.below hb (Nat.le_refl _)
theorem at0_take (l : List Int) (n j : Nat) (h : j < n) : at0 (l.take n) j = at0 l j := by simp [at0, h]
theorem at0_drop (l : List Int) (n j : Nat) : at0 (l.drop n) j = at0 l (n + j) := by simp [at0]
theorem Sub.take {w : World} {b off : Nat} {l : List Int} (h : Sub w b off l) (n : Nat) : Sub w b off (l.take n) :=
  ⟨fun x hx => h.1 x (List.mem_of_mem_take hx), h.2.1, fun j hj => by
    have hj' : j < n ∧ j < l.length := by simp at hj; omega
    rw [at0_take _ _ _ hj'.1]; exact h.2.2 j hj'.2⟩
theorem Sub.drop {w : World} {b off : Nat} {l : List Int} (h : Sub w b off l) (n : Nat) : Sub w b (off + n) (l.drop n) :=
  ⟨fun x hx => h.1 x (List.mem_of_mem_drop hx), h.2.1, fun j hj => by
    have hj' : n + j < l.length := by simp at hj; omega
    rw [at0_drop, Nat.add_assoc]; exact h.2.2 _ hj'⟩
theorem Sub.row {w : World} {b off : Nat} {l : List Int} (h : Sub w b off l) (n cap : Nat) (hl : l.length = n) (hn : n ≤ 9223372036854775807) : RowU w (.slice (some ⟨b, off, none⟩) n cap) l := by
  subst hl; exact ⟨h.1, hn, _, cap, rfl, fun _ => ⟨b, off, rfl, h.2.1, h.2.2⟩⟩
theorem RowU.sub {w : World} {v : Value} {l : List Int} (h : RowU w v l) (h0 : 0 < l.length) : ∃ b off cap, v = .slice (some ⟨b, off, none⟩) l.length cap ∧ Sub w b off l := by
  obtain ⟨h1, h2, a, cap, rfl, h3⟩ := h
  obtain ⟨b, off, rfl, hlt, hc⟩ := h3 h0
  exact ⟨b, off, cap, rfl, h1, hlt, hc⟩
theorem below_chain' {a b c : World} (h : Below a.heap.size a b) (k : Below b.heap.size b c) : Below a.heap.size a c := h.trans (k.mono h.size)
theorem below_drew' (w : World) : Below w.heap.size w w.drew := below_drewN (Below.refl _ _) 1
set_option maxHeartbeats 1000000 in
theorem ref_Root (n : Nat) : ∀ (t : List Int) (b off m cap : Nat) (w : World), Sub w b off t → t.length = m → m = 2 ^ n → n ≤ 8 → m ≤ cap → cap ≤ 9223372036854775807 →
    Calls Tryd.prog 43 #[.slice (some ⟨b, off, none⟩) m cap] w fun e w' => e = .returned (.int .u64 (psi (rootR pairF n (t.map phi)))) ∧ Below w.heap.size w w' := by
  induction n with
  | zero =>
    intro t b off m cap w hs hl hm h8 hc hc2
    obtain rfl : m = 1 := by simpa using hm
    have hcell := hs.2.2 0 (by omega)
    rw [Nat.add_zero] at hcell
    have hu := hs.1 _ (at0_mem (show 0 < t.length by omega))
    have hR := Lib.hid (show rootR pairF 0 (t.map phi) = pairF (phi (at0 t 0)) (phi 0) by rw [phi_zero]; show pairF (atF (t.map phi) 0) 0 = _; rw [atF_map t 0 (by omega)])
    clear hl hm hs
    go_enter Tryd.func43, Tryd.ntmps43
    go_wp2_with (fail)
    refine (rsponge_Pair _ _ _ hu U64.zero).mono ?_
    rintro e w1 ⟨rfl, hb1⟩
    go_wp2
    go_ret
    exact ⟨by rw [hR.out]; rfl, hb1⟩
  | succ n ih =>
    intro t b off m cap w hs hl hm h8 hc hc2
    obtain ⟨q1, q2⟩ := pow_le8 (n := n) (by omega)
    obtain ⟨h, hh⟩ : ∃ h, h = 2 ^ n := ⟨_, rfl⟩
    have hm2 : m = 2 * h := by rw [hm, hh, Nat.pow_succ]; omega
    rw [← hh] at q1 q2
    have hz : ((m : Int) == 1) = false := beq_false_of_ne (by omega)
    have hq : (m : Int) / 2 = (h : Int) := by omega
    have hq1 : (m : Int).tdiv 2 = (h : Int) := by rw [Int.tdiv_eq_ediv_of_nonneg (by omega)]; omega
    have hq2 : IntKind.i64.wrap (h : Int) = (h : Int) := IntWalk.i64_in _ (by omega)
    have hq3 : (0 : Int) ≤ (h : Int) := by omega
    have h1 : h ≤ m := by omega
    have h2 : h ≤ cap := by omega
    have h3 : (h : Int) ≤ (cap : Int) := by omega
    have h4 : (h : Int) ≤ (m : Int) := by omega
    have h5 : cap ≠ h := by omega
    have HA := Lib.hid (hs.take h)
    have HB := Lib.hid (hs.drop h)
    have HlA := Lib.hid (show (t.take h).length = h by simp; omega)
    have HlB := Lib.hid (show (t.drop h).length = m - h by simp; omega)
    have Hh := Lib.hid hh
    have Hmh := Lib.hid (show m - h = h by omega)
    have hR := Lib.hid (show rootR pairF (n + 1) (t.map phi) = pairF (rootR pairF n ((t.take h).map phi)) (rootR pairF n ((t.drop h).map phi)) by rw [hh, List.map_take, List.map_drop]; rfl)
    clear hs hl hm hh hm2
    go_enter Tryd.func43, Tryd.ntmps43
    go_wp2
    go_region_held3 (fun w' => Below w.heap.size w w')
      (first | exact below_drew' _ | exact below_chain' (by assumption) hbA | exact below_chain' (by assumption) hbB | exact below_chain' (by assumption) hbC)
      (first
        | (go_at_call 43; (with_reducible refine (ih (t.take h) b off h cap _ (HA.out.step (by assumption)) HlA.out Hh.out (by omega) (by omega) hc2).mono ?_); rintro e wA ⟨rfl, hbA⟩)
        | (go_at_call 43; (with_reducible refine (ih (t.drop h) b (off + h) (m - h) (cap - h) _ (HB.out.step (by assumption)) HlB.out (by rw [Hmh.out]; exact Hh.out) (by omega) (by omega) (by omega)).mono ?_); rintro e wB ⟨rfl, hbB⟩)
        | (go_at_call 37; (with_reducible refine (rsponge_Pair _ _ _ (U64.psi _) (U64.psi _)).mono ?_); rintro e wC ⟨rfl, hbC⟩))
    all_goals
      go_wp2
      go_ret
      exact ⟨ret_u64 (by rw [hR.out, phi_psi, phi_psi, List.map_take, List.map_drop]), by assumption⟩
set_option maxHeartbeats 1000000 in
theorem ref_Path (n : Nat) : ∀ (t : List Int) (i b off m cap : Nat) (w : World), Sub w b off t → t.length = m → m = 2 ^ n → n ≤ 8 → m ≤ cap → cap ≤ 9223372036854775807 → i < m →
    Calls Tryd.prog 44 #[.slice (some ⟨b, off, none⟩) m cap, .int .i64 i] w fun e w' => ∃ v', e = .returned v' ∧ NewU w.heap.size w' v' ((pathR pairF n (t.map phi) i).map psi) ∧ Below w.heap.size w w' := by
  induction n with
  | zero =>
    intro t i b off m cap w hs hl hm h8 hc hc2 hi
    obtain rfl : m = 1 := by simpa using hm
    clear hl hm hs
    go_enter Tryd.func44, Tryd.ntmps44
    go_wp2
    go_ret
    exact ⟨_, rfl, NewU.nil _ _, Below.refl _ _⟩
  | succ n ih =>
    intro t i b off m cap w hs hl hm h8 hc hc2 hi
    obtain ⟨q1, q2⟩ := pow_le8 (n := n) (by omega)
    obtain ⟨h, hh⟩ : ∃ h, h = 2 ^ n := ⟨_, rfl⟩
    have hm2 : m = 2 * h := by rw [hm, hh, Nat.pow_succ]; omega
    rw [← hh] at q1 q2
    have hz : ((m : Int) == 1) = false := beq_false_of_ne (by omega)
    have hq : (m : Int) / 2 = (h : Int) := by omega
    have hq2 : IntKind.i64.wrap (h : Int) = (h : Int) := IntWalk.i64_in _ (by omega)
    have hq3 : (0 : Int) ≤ (h : Int) := by omega
    have h1 : h ≤ m := by omega
    have h2 : h ≤ cap := by omega
    have h3 : (h : Int) ≤ (cap : Int) := by omega
    have h4 : (h : Int) ≤ (m : Int) := by omega
    have h5 : cap ≠ h := by omega
    have HA := Lib.hid (hs.take h)
    have HB := Lib.hid (hs.drop h)
    have HlA := Lib.hid (show (t.take h).length = h by simp; omega)
    have HlB := Lib.hid (show (t.drop h).length = m - h by simp; omega)
    have Hh := Lib.hid hh
    have Hmh := Lib.hid (show m - h = h by omega)
    have hlenA : ∀ t : List F, ∀ j, (pathR pairF n t j).length = n := by
      have : ∀ (k : Nat) (t : List F) (j : Nat), (pathR pairF k t j).length = k := by
        intro k; induction k with
        | zero => intro t j; rfl
        | succ k ihk => intro t j; simp only [pathR]; split <;> simp [ihk]
      exact this n
    have HlenA := Lib.hid hlenA
    clear hlenA
    by_cases hih : i < h
    · have hR := Lib.hid (show (pathR pairF (n + 1) (t.map phi) i).map psi = (pathR pairF n ((t.take h).map phi) i).map psi ++ [psi (rootR pairF n ((t.map phi).drop h))] by
        rw [hh, List.map_take]; show (if i < 2 ^ n then _ else _ : List F).map psi = _; rw [if_pos (by omega), List.map_append]; rfl)
      have hih' : (i : Int) < (h : Int) := by omega
      clear hs hl hm hh hm2
      go_enter Tryd.func44, Tryd.ntmps44
      go_wp2
      go_region_held3 (fun w' => Below w.heap.size w w')
        (first | exact below_drew' _ | exact below_chain' (by assumption) hbA | exact below_chain' (by assumption) hbB | exact hzC | exact below_chain' (by assumption) (below_al _ _))
        (first
          | (go_at_call 44; (with_reducible refine (ih (t.take h) i b off h cap _ (HA.out.step (by assumption)) HlA.out Hh.out (by omega) (by omega) hc2 hih).mono ?_); rintro e wA ⟨vA, rfl, hnA, hbA⟩)
          | (go_at_call 43; (with_reducible refine (ref_Root n (t.drop h) b (off + h) (m - h) (cap - h) _ (HB.out.step (by assumption)) HlB.out (by rw [Hmh.out]; exact Hh.out) (by omega) (by omega) (by omega)).mono ?_); rintro e wB ⟨rfl, hbB⟩; have hnB := Lib.hid (hnA.below hbB (Nat.le_refl _)); have hsB := Nat.le_trans hbA.size hbB.size; have hzB := below_chain' (a := w) (by assumption) hbB)
          | (refine step_appU rfl _ _ (by rfl) w.heap.size _ _ (by rfl) hnB.out _ (by rfl) (U64.psi _) (by simp only [List.length_map]; rw [HlenA.out]; omega) hsB ?_; intro vC wC hnC hbC; have hnC' := Lib.hid hnC; have hzC := hzB.trans hbC; clear hnC))
      all_goals
        go_wp2
        go_ret
        exact ⟨_, rfl, by rw [hR.out]; exact hnC'.out, by assumption⟩
    · have hR := Lib.hid (show (pathR pairF (n + 1) (t.map phi) i).map psi = (pathR pairF n ((t.drop h).map phi) (i - h)).map psi ++ [psi (rootR pairF n ((t.map phi).take h))] by
        rw [hh, List.map_drop]; show (if i < 2 ^ n then _ else _ : List F).map psi = _; rw [if_neg (by omega), List.map_append]; rfl)
      have hih' : ¬ (i : Int) < (h : Int) := by omega
      have hs1 : IntKind.i64.wrap ((i : Int) - (h : Int)) = ((i - h : Nat) : Int) := by rw [IntWalk.i64_in _ (by omega)]; omega
      clear hs hl hm hh hm2
      go_enter Tryd.func44, Tryd.ntmps44
      go_wp2
      go_region_held3 (fun w' => Below w.heap.size w w')
        (first | exact below_drew' _ | exact below_chain' (by assumption) hbA | exact below_chain' (by assumption) hbB | exact hzC | exact below_chain' (by assumption) (below_al _ _))
        (first
          | (go_at_call 44; (with_reducible refine (ih (t.drop h) (i - h) b (off + h) (m - h) (cap - h) _ (HB.out.step (by assumption)) HlB.out (by rw [Hmh.out]; exact Hh.out) (by omega) (by omega) (by omega) (by omega)).mono ?_); rintro e wA ⟨vA, rfl, hnA, hbA⟩)
          | (go_at_call 43; (with_reducible refine (ref_Root n (t.take h) b off h cap _ (HA.out.step (by assumption)) HlA.out Hh.out (by omega) (by omega) hc2).mono ?_); rintro e wB ⟨rfl, hbB⟩; have hnB := Lib.hid (hnA.below hbB (Nat.le_refl _)); have hsB := Nat.le_trans hbA.size hbB.size; have hzB := below_chain' (a := w) (by assumption) hbB)
          | (refine step_appU rfl _ _ (by rfl) w.heap.size _ _ (by rfl) hnB.out _ (by rfl) (U64.psi _) (by simp only [List.length_map]; rw [HlenA.out]; omega) hsB ?_; intro vC wC hnC hbC; have hnC' := Lib.hid hnC; have hzC := hzB.trans hbC; clear hnC))
      all_goals
        go_wp2
        go_ret
        exact ⟨_, rfl, by rw [hR.out]; exact hnC'.out, by assumption⟩
theorem climbR_congr (leaf : F) (p q : List F) (n : Nat) : (∀ k, k < n → atF p k = atF q k) → ∀ i, climbR pairF leaf p n i = climbR pairF leaf q n i := by
  induction n with
  | zero => intro _ i; rfl
  | succ n ih =>
    intro h i
    simp only [climbR]
    rw [ih (fun k hk => h k (by omega)) i, ih (fun k hk => h k (by omega)) (i - 2 ^ n), h n (by omega)]
set_option maxHeartbeats 1000000 in
theorem ref_Climb (n : Nat) : ∀ (p : List Int) (i : Nat) (x : Int) (v : Value) (w : World), RowU w v p → CapOk v → p.length = n → n ≤ 8 → i < 2 ^ n → U64 x →
    Calls Tryd.prog 38 #[.int .i64 i, .int .u64 x, v] w fun e w' => e = .returned (.int .u64 (psi (climbR pairF (phi x) (p.map phi) n i))) ∧ Below w.heap.size w w' := by
  induction n with
  | zero =>
    intro p i x v w hp hc hl h8 hi hx
    obtain ⟨_, h2, ad, cap, rfl, hr⟩ := hp
    have hz : ((p.length : Int) == 0) = true := by simp [hl]
    have hR := Lib.hid (show climbR pairF (phi x) (p.map phi) 0 i = pairF (phi x) (phi 0) by rw [phi_zero]; rfl)
    clear hl hr
    go_enter Tryd.func38, Tryd.ntmps38
    go_wp2_with (fail)
    refine (rsponge_Pair _ _ _ hx U64.zero).mono ?_
    rintro e w1 ⟨rfl, hb1⟩
    go_wp2
    go_ret
    exact ⟨ret_u64 (by rw [hR.out]), hb1⟩
  | succ n ih =>
    intro p i x v w hp hc hl h8 hi hx
    obtain ⟨b, off, cap, rfl, hs⟩ := hp.sub (by omega)
    obtain ⟨c1, c2⟩ := hc _ _ _ rfl
    have hcell := hs.2.2 n (by omega)
    have hblt := hs.2.1
    have hu := hs.1 _ (at0_mem (show n < p.length by omega))
    have HA := Lib.hid (hs.take n)
    have HlA := Lib.hid (show (p.take n).length = n by simp; omega)
    have hcong := Lib.hid (fun i => climbR_congr (phi x) ((p.take n).map phi) (p.map phi) n (fun k hk => by rw [List.map_take]; exact atF_take _ _ _ hk) i)
    have hat : atF (p.map phi) n = phi (at0 p n) := atF_map p n (by omega)
    have hz : (((n + 1 : Nat) : Int) == 0) = false := beq_false_of_ne (by omega)
    have hpw := pow_wrap8 (n := n) (by omega)
    obtain ⟨q1, q2⟩ := pow_le8 (n := n) (by omega)
    have hi2 : i < 2 ^ n + 2 ^ n := by rw [Nat.pow_succ] at hi; omega
    obtain ⟨h, hh⟩ : ∃ h, h = 2 ^ n := ⟨_, rfl⟩
    rw [← hh] at hpw q1 q2 hi2
    rw [hl] at c1 ⊢
    have s1 : IntKind.i64.wrap (((n + 1 : Nat) : Int) - 1) = (n : Int) := by rw [IntWalk.i64_in _ (by omega)]; omega
    have s0 : IntKind.i64.wrap (n : Int) = (n : Int) := IntWalk.i64_in _ (by omega)
    have s2 : (n : Int) ≤ (cap : Int) := by omega
    have s3 : (0 : Int) ≤ (n : Int) := by omega
    have s4 : (n : Int) < ((n + 1 : Nat) : Int) := by omega
    have s5 : ((n + 1 : Nat) : Int) - 1 = (n : Int) := by omega
    have s6 : n ≤ cap := by omega
    have hm8 : n + 1 ≤ 9 := by omega
    have Hh := Lib.hid hh
    have hcA : CapOk (.slice (some ⟨b, off, none⟩) n cap) := fun a k c e => by cases e; exact ⟨by omega, c2⟩
    clear hp hs hl hi hh hc
    generalize hM : n + 1 = M at *
    have HM := Lib.hid hM
    clear hM
    by_cases hih : i < h
    · have hR := Lib.hid (show climbR pairF (phi x) (p.map phi) M i = pairF (climbR pairF (phi x) ((p.take n).map phi) n i) (phi (at0 p n)) by
        rw [← HM.out]; show (if i < 2 ^ n then _ else _ : F) = _; rw [if_pos (by rw [← Hh.out]; exact hih), hat, hcong.out])
      have hih' : (i : Int) < (h : Int) := by omega
      clear hat
      go_enter Tryd.func38, Tryd.ntmps38
      go_wp2
      go_region_held3 (fun w' => Below w.heap.size w w' ∧ w'.cell? ⟨b, off + n, none⟩ = some (.int .u64 (at0 p n)))
        (first | exact ⟨below_drew' _, hcell⟩ | (go_split_ands; have hz := below_chain' (a := w) (by assumption) hbA; exact ⟨hz, (hz.cell (p := ⟨b, off + n, none⟩) hblt).trans hcell⟩) | (go_split_ands; have hz := below_chain' (a := w) (by assumption) hbB; exact ⟨hz, (hz.cell (p := ⟨b, off + n, none⟩) hblt).trans hcell⟩))
        (first
          | (go_at_call 38; go_split_ands; (with_reducible refine (ih (p.take n) i x _ _ ((HA.out.step (by assumption)).row n cap HlA.out (by omega)) hcA HlA.out (by omega) (by rw [← Hh.out]; exact hih) hx).mono ?_); rintro e wA ⟨rfl, hbA⟩)
          | (go_at_call 37; go_split_ands; (with_reducible refine (rsponge_Pair _ _ _ (U64.psi _) hu).mono ?_); rintro e wB ⟨rfl, hbB⟩))
      all_goals
        go_split_ands
        go_wp2
        go_ret
        exact ⟨ret_u64 (by rw [hR.out, phi_psi, List.map_take]), by assumption⟩
    · have hR := Lib.hid (show climbR pairF (phi x) (p.map phi) M i = pairF (phi (at0 p n)) (climbR pairF (phi x) ((p.take n).map phi) n (i - h)) by
        rw [← HM.out]; show (if i < 2 ^ n then _ else _ : F) = _; rw [if_neg (by rw [← Hh.out]; exact hih), hat, hcong.out, Hh.out])
      have hih' : ¬ (i : Int) < (h : Int) := by omega
      have hs1 : IntKind.i64.wrap ((i : Int) - (h : Int)) = ((i - h : Nat) : Int) := by rw [IntWalk.i64_in _ (by omega)]; omega
      clear hat
      go_enter Tryd.func38, Tryd.ntmps38
      go_wp2
      go_region_held3 (fun w' => Below w.heap.size w w' ∧ w'.cell? ⟨b, off + n, none⟩ = some (.int .u64 (at0 p n)))
        (first | exact ⟨below_drew' _, hcell⟩ | (go_split_ands; have hz := below_chain' (a := w) (by assumption) hbA; exact ⟨hz, (hz.cell (p := ⟨b, off + n, none⟩) hblt).trans hcell⟩) | (go_split_ands; have hz := below_chain' (a := w) (by assumption) hbB; exact ⟨hz, (hz.cell (p := ⟨b, off + n, none⟩) hblt).trans hcell⟩))
        (first
          | (go_at_call 38; go_split_ands; (with_reducible refine (ih (p.take n) (i - h) x _ _ ((HA.out.step (by assumption)).row n cap HlA.out (by omega)) hcA HlA.out (by omega) (by rw [← Hh.out]; omega) hx).mono ?_); rintro e wA ⟨rfl, hbA⟩)
          | (go_at_call 37; go_split_ands; (with_reducible refine (rsponge_Pair _ _ _ hu (U64.psi _)).mono ?_); rintro e wB ⟨rfl, hbB⟩))
      all_goals
        go_split_ands
        go_wp2
        go_ret
        exact ⟨ret_u64 (by rw [hR.out, phi_psi, List.map_take]), by assumption⟩
end Go.Proofs.YtokggifjcbkmnaaDoor
