/- The walks of package tree, second part: Root, Path, Climb. The lists are tables of 2^n numbers, n to 8; the table of bits lies as its initialiser lays it. -/
import Derived.Test.YtokggifjcbkmnaaDoorTreeW
namespace Go.Proofs.YtokggifjcbkmnaaDoor
set_option maxRecDepth 100000
set_option linter.unusedVariables false
open Go.RowKit Tally
/-- the root, the path, and what is climbed to -/
def rootF (t : List Int) (n : Nat) : F := rootN pairF n (leafs pairF (t.map phi))
def pathF (t : List Int) (n i : Nat) : List F := pathN pairF n (leafs pairF (t.map phi)) i
def climbF (x : Int) (p : List Int) (i : Nat) : F := climbN pairF (pairF (phi x) 0) (p.map phi) i
theorem RowUU.at {w : World} {a : Option Addr} {n c : Nat} {ll : List (List Int)} (h : RowUU w (.slice a n c) ll) : ll.length = n ∧ (0 < n → ∃ b off, a = some ⟨b, off, none⟩ ∧ b < w.heap.size ∧ ∀ j, j < ll.length → ∃ u, w.cell? ⟨b, off + j, none⟩ = some u ∧ RowU w u (atl ll j)) := by
  obtain ⟨_, a', c', e, hr⟩ := h
  cases e
  exact ⟨rfl, hr⟩
set_option maxHeartbeats 1000000 in
theorem tree_Root (t : List Int) (n : Nat) (v : Value) (w : World) (hT : Tab w) (hp : RowU w v t) (hn : t.length = 2 ^ n) (h8 : n ≤ 8) :
    Calls Tryd.prog 28 #[v] w fun e w' => e = .returned (.tuple #[.int .u64 (psi (rootF t n)), .int .i64 0]) ∧ Below w.heap.size w w' := by
  have HT := Lib.hid hT
  have Hp := Lib.hid hp
  have Hn := Lib.hid hn
  clear hT hp hn
  go_enter Tryd.func28, Tryd.ntmps28
  go_wp2_with (fail)
  refine (mle_Vars _ _ _ _ HT.out Hp.out Hn.out h8).mono ?_
  rintro e w' ⟨rfl, rfl⟩
  go_wp2_with (fail)
  refine (tree_levels _ _ _ _ Hp.out Hn.out h8).mono ?_
  rintro e w1 ⟨v1, rfl, hn1, hb1⟩
  have hr1 := hn1.rows
  have hll := levsI_length (leafs pairF (t.map phi)) n
  have hlast := levsI_at (leafs pairF (t.map phi)) n n (Nat.le_refl _)
  have hupl : (upN n (leafs pairF (t.map phi))).length = 1 := by
    rw [upN_length n 0 _ (by simp [leafs, Hn.out])]
  have hroot := rootN_upN n (leafs pairF (t.map phi))
  have hroot' : rootF t n = atF (upN n (leafs pairF (t.map phi))) 0 := hroot
  obtain ⟨av, cv, rfl⟩ := hn1.isSlice
  generalize levsI (leafs pairF (t.map phi)) n = ll at *
  obtain ⟨-, hr2⟩ := hr1.at
  obtain ⟨b, off, rfl, hblt, hcell⟩ := hr2 (by omega)
  obtain ⟨u, hu, hru⟩ := hcell (ll.length - 1) (by omega)
  have e1 : ll.length - 1 = n := by omega
  rw [e1, hlast] at hru
  obtain ⟨hlu, hl2, ad, cap, hue, hru2⟩ := hru
  have hlen1 : ((upN n (leafs pairF (t.map phi))).map psi).length = 1 := by rw [List.length_map, hupl]
  rw [hlen1] at hue hru2
  obtain ⟨b2, off2, had, hblt2, hcell2⟩ := hru2 (by decide)
  have hc2 := hcell2 0 (by decide)
  rw [Nat.add_zero] at hc2
  have hval : at0 ((upN n (leafs pairF (t.map phi))).map psi) 0 = psi (rootF t n) := by
    rw [hroot']; unfold atF at0
    simp [hupl]
  rw [hval] at hc2
  subst hue
  subst had
  have hq0 : ll.length ≤ 9 := by omega
  have hq : (ll.length : Int) - 1 < (ll.length : Int) := by omega
  have hq2 : (0 : Int) ≤ (ll.length : Int) - 1 := by omega
  have hq3 : (1 : Int) ≤ (ll.length : Int) := by omega
  clear hcell hcell2 hru2 hlu hl2 hval hroot hroot' hupl hlast hll hr1 hr2 hn1 hlen1 e1
  go_wp2
  go_ret2
  exact ⟨rfl, hb1⟩
theorem pathN_range (n : Nat) (l : List F) (i : Nat) : pathN pairF n l i = (List.range n).map fun j => atF (upN j l) (sib (i / 2 ^ j)) := by
  induction n generalizing l i with
  | zero => rfl
  | succ n ih =>
    simp only [pathN]
    rw [ih, List.range_succ_eq_map, List.map_cons, List.map_map]
    congr 1
    · simp [upN]
    · refine List.map_congr_left fun j _ => ?_
      simp only [Function.comp]
      rw [upN_up, Nat.div_div_eq_div_mul, Nat.pow_succ, Nat.mul_comm 2]
theorem xor1 : ∀ i : Nat, i < 256 → bits .xor .i64 (i : Int) 1 = ((sib i : Nat) : Int) := by decide +kernel
theorem and1 : ∀ i : Nat, i < 256 → bits .and .i64 (i : Int) 1 = ((i % 2 : Nat) : Int) := by decide +kernel
theorem sib_lt {i n : Nat} (h : i < 2 ^ n) (h0 : 0 < n) : sib i < 2 ^ n := by
  obtain ⟨k, rfl⟩ : ∃ k, n = k + 1 := ⟨n - 1, by omega⟩
  rw [Nat.pow_succ] at h ⊢
  unfold sib; split <;> omega
theorem path_snoc (n : Nat) (l : List F) (i j : Nat) (h : j < n) (hl : sib (i / 2 ^ j) < (upN j l).length) : ((pathN pairF n l i).take (j + 1)).map psi = ((pathN pairF n l i).take j).map psi ++ [at0 ((upN j l).map psi) (sib (i / 2 ^ j))] := by
  rw [take_snoc _ j 0 (by rw [pathN_length]; exact h), List.map_append, List.map_cons, List.map_nil]
  congr 2
  rw [pathN_range]
  simp [h, at0, atF, hl]
set_option maxHeartbeats 1000000 in
theorem tree_Path (t : List Int) (n i : Nat) (v : Value) (w : World) (hT : Tab w) (hp : RowU w v t) (hn : t.length = 2 ^ n) (h8 : n ≤ 8) (hi : i < 2 ^ n) :
    Calls Tryd.prog 68 #[v, .int .i64 i] w fun e w' => ∃ v', e = .returned (.tuple #[v', .int .i64 0]) ∧ NewU w.heap.size w' v' ((pathF t n i).map psi) ∧ Below w.heap.size w w' := by
  have HT := Lib.hid hT
  have Hp := Lib.hid hp
  have Hn := Lib.hid hn
  have Hi := Lib.hid hi
  have hlt : (i : Int) < (t.length : Int) := by omega
  have hge : decide ((t.length : Int) ≤ (i : Int)) = false := by simp; omega
  obtain ⟨q1, q2⟩ := pow_le8 h8
  have hi256 : i < 256 := by omega
  obtain ⟨_, h2, adt, capt, rfl, _⟩ := hp
  clear hT hn hi q1 q2
  go_enter Tryd.func68, Tryd.ntmps68
  go_wp2_with (fail)
  refine (mle_Vars _ _ _ _ HT.out Hp.out Hn.out h8).mono ?_
  rintro e w' ⟨rfl, rfl⟩
  go_wp2_with (fail)
  refine (tree_levels _ _ _ _ Hp.out Hn.out h8).mono ?_
  rintro e w1 ⟨v1, rfl, hn1, hb1⟩
  have hLl : (leafs pairF (t.map phi)).length = 2 ^ n := by simp [leafs, Hn.out]
  have HP := Lib.hid (show pathF t n i = pathN pairF n (leafs pairF (t.map phi)) i from rfl)
  generalize leafs pairF (t.map phi) = L at *
  have HL := Lib.hid hLl
  have Hat := Lib.hid (levsI_at L n)
  obtain ⟨av, cv, rfl⟩ := hn1.isSlice
  have hr1 := hn1.rows
  have hll := levsI_length L n
  generalize levsI L n = ll at *
  have Hll := Lib.hid hll
  obtain ⟨-, hr2⟩ := hr1.at
  obtain ⟨b, off, rfl, hblt, hcell⟩ := hr2 (by omega)
  have Hcell := Lib.hid hcell
  clear hcell hr2 hr1 hn1 hll hLl
  go_wp2
  go_loopw [1, 8, 30] (fun iv o d wr => ∃ (j q : Nat), j ≤ n + 1 ∧ q < 256 ∧ d = .int .i64 (j : Int) ∧ iv = .int .i64 (q : Int) ∧ Hid (q = i / 2 ^ j) ∧ Hid (NewU w1.heap.size wr o (((pathN pairF n L i).take j).map psi)) ∧ Below w1.heap.size w1 wr) (fun _ _ d _ => n + 1 - (intOf d).toNat)
  case atStart => exact ⟨0, i, by omega, hi256, rfl, rfl, by show i = i / 1; simp, NewU.nil _ _, Below.refl _ _⟩
  case round =>
    obtain ⟨j, q, hj, hq, rfl, rfl, HQ, HO, hb⟩ := hrel
    by_cases hz : j < n + 1
    · have hjl : (j : Int) < (ll.length : Int) := by have := Hll.out; omega
      obtain ⟨u, hu, hru⟩ := Hcell.out j (by have := Hll.out; omega)
      have hu' := (hb.cell (p := ⟨b, off + j, none⟩) hblt).trans hu
      rw [Hat.out j (by omega)] at hru
      have hul : ((upN j L).map psi).length = 2 ^ (n - j) := by rw [List.length_map, upN_length j (n - j) L (by rw [HL.out]; congr 1; omega)]
      have hqn : q / 2 < 256 := by omega
      have HQ2 := Lib.hid (show q / 2 = i / 2 ^ (j + 1) by rw [HQ.out, Nat.div_div_eq_div_mul, Nat.pow_succ])
      by_cases hjn : j < n
      · have hq2 : q < 2 ^ (n - j) := by
          rw [HQ.out, Nat.div_lt_iff_lt_mul (Nat.pow_pos (by decide)), ← Nat.pow_add, show n - j + j = n by omega]; exact Hi.out
        have hs := sib_lt hq2 (by omega)
        have Hsn := Lib.hid (path_snoc n L i j hjn (by rw [← HQ.out]; have := hul; rw [List.length_map] at this; rw [this]; exact hs))
        rw [← HQ.out] at Hsn
        have hp2 : 2 ≤ 2 ^ (n - j) := by
          have := Nat.pow_le_pow_right (n := 2) (by decide) (show 1 ≤ n - j by omega); simpa using this
        rw [← hul] at hs hp2
        have huat : U64 (at0 ((upN j L).map psi) (sib q)) := hru.1 _ (at0_mem hs)
        generalize (upN j L).map psi = LL at *
        obtain ⟨hlu, hl2, ad, cap, rfl, hru2⟩ := hru
        obtain ⟨b2, off2, rfl, hblt2, hcell2⟩ := hru2 (by omega)
        have hc2 := (hb.cell (p := ⟨b2, off2 + sib q, none⟩) hblt2).trans (hcell2 (sib q) hs)
        have hgt : (1 : Int) < (LL.length : Int) := by omega
        have hx := xor1 q hq
        generalize sib q = s at *
        have hs1 : (s : Int) < (LL.length : Int) := by omega
        have hcap : (((pathN pairF n L i).take j).map psi).length + 1 ≤ 17592186043904 := by simp [pathN_length]; omega
        have hsz := hb.size
        clear hcell2 hru2 hu hul
        go_wp2_with (at_builtin; refine wpList_appU rfl _ _ rfl w1.heap.size _ _ rfl HO.out _ rfl huat hcap hsz ?_; intro v4 w4 hn4 hb4; have Hn4 := Lib.hid hn4; clear hn4)
        go_roundw
        case rel => exact ⟨j + 1, q / 2, by omega, hqn, by go_num, by go_num, HQ2.out, by rw [Hsn.out]; exact Hn4.out, hb.trans hb4⟩
        case measure => simp [intOf]; omega
      · obtain rfl : j = n := by omega
        have h1 : ((upN j L).map psi).length = 1 := by rw [hul]; simp
        generalize (upN j L).map psi = LL at *
        obtain ⟨hlu, hl2, ad, cap, rfl, hru2⟩ := hru
        have hgt : ¬ (1 : Int) < (LL.length : Int) := by omega
        have Hto := Lib.hid (show (pathN pairF j L i).take j = (pathN pairF j L i).take (j + 1) by rw [List.take_of_length_le (by rw [pathN_length]; exact Nat.le_refl _), List.take_of_length_le (by rw [pathN_length]; omega)])
        rw [Hto.out] at HO
        clear h1 hul hru2 hu
        go_wp2
        go_roundw
        case rel => exact ⟨j + 1, q / 2, by omega, hqn, by go_num, by go_num, HQ2.out, HO.out, hb⟩
        case measure => simp [intOf]
    · obtain rfl : j = n + 1 := by omega
      have hjl : ¬ ((n + 1 : Nat) : Int) < (ll.length : Int) := by have := Hll.out; omega
      rw [List.take_of_length_le (by rw [pathN_length]; omega)] at HO
      generalize ((n + 1 : Nat) : Int) = m at *
      go_wp2
      go_ret2
      exact ⟨_, rfl, by rw [HP.out]; exact HO.out.mono hb1.size, hb1.trans (hb.mono hb1.size)⟩
theorem climb_even {y x : F} {p : List F} {q : Nat} {r : F} (h : climbN pairF y (x :: p) q = r) (he : q % 2 = 0) : climbN pairF (pairF y x) p (q / 2) = r := by
  rw [climbN_cons, if_pos he] at h; exact h
theorem climb_odd {y x : F} {p : List F} {q : Nat} {r : F} (h : climbN pairF y (x :: p) q = r) (he : ¬ q % 2 = 0) : climbN pairF (pairF x y) p (q / 2) = r := by
  rw [climbN_cons, if_neg he] at h; exact h
theorem drop_cons_phi (p : List Int) (j : Nat) (h : j < p.length) : (p.map phi).drop j = phi (at0 p j) :: (p.map phi).drop (j + 1) := by
  rw [List.drop_eq_getElem_cons (by simpa using h)]; simp [at0, h]
set_option maxHeartbeats 1000000 in
theorem tree_Climb (i : Nat) (x : Int) (p : List Int) (v : Value) (w : World) (hx : U64 x) (hp : RowU w v p) (h8 : p.length ≤ 8) (hi : i < 2 ^ p.length) :
    Calls Tryd.prog 74 #[.int .i64 i, .int .u64 x, v] w fun e w' => e = .returned (.tuple #[.int .u64 (psi (climbF x p i)), .int .i64 0]) ∧ Below w.heap.size w w' := by
  have hat := Lib.hid (fun j => @RowU.at _ _ _ hp j)
  have hw := pow_wrap8 h8
  obtain ⟨q1, q2⟩ := pow_le8 h8
  have hi256 : i < 256 := by omega
  have hge : decide (((2 ^ p.length : Nat) : Int) ≤ (i : Int)) = false := by simp only [decide_eq_false_iff_not]; omega
  have h8' : ¬ (8 : Int) < (p.length : Int) := by omega
  have Hi := Lib.hid hi
  obtain ⟨_, h2, ad, cap, rfl, hr⟩ := hp
  have Hr := Lib.hid hr
  clear hr hi q1 q2
  generalize ((2 ^ p.length : Nat) : Int) = N at *
  go_enter Tryd.func74, Tryd.ntmps74
  go_wp2_with (fail)
  refine (tree_leaf _ _ hx).mono ?_
  rintro e w1 ⟨rfl, hb1⟩
  go_wp2
  go_loopw [0, 8, 29] (fun iv o d wr => ∃ (j q : Nat) (y : F), j ≤ p.length ∧ q < 256 ∧ d = .int .i64 (j : Int) ∧ iv = .int .i64 (q : Int) ∧ o = .int .u64 (psi y) ∧ Hid (climbN pairF y ((p.map phi).drop j) q = climbF x p i) ∧ Below w.heap.size w wr) (fun _ _ d _ => p.length - (intOf d).toNat)
  case atStart => exact ⟨0, i, _, by omega, hi256, rfl, rfl, rfl, rfl, hb1⟩
  case round =>
    obtain ⟨j, q, y, hj, hq, rfl, rfl, rfl, HC, hb⟩ := hrel
    by_cases hz : j < p.length
    · obtain ⟨b, off, rfl, hblt, hcell⟩ := Hr.out (by omega)
      have hc := (hb.cell (p := ⟨b, off + j, none⟩) hblt).trans (hcell j hz)
      have hu := hat.out j hz
      have ha := and1 q hq
      rw [drop_cons_phi p j hz] at HC
      have hqn : q / 2 < 256 := by omega
      clear hcell
      by_cases he : q % 2 = 0
      · have Hn := Lib.hid (climb_even HC.out he)
        rw [he] at ha
        clear he
        go_wp2_with (fail)
        refine (sponge_Pair _ _ _ (U64.psi y) hu).mono ?_
        rintro e w3 ⟨rfl, hb3⟩
        rw [phi_psi]
        go_wp2
        go_roundw
        case rel => exact ⟨j + 1, q / 2, _, by omega, hqn, by go_num, by go_num, rfl, Hn.out, hb.trans (hb3.mono hb.size)⟩
        case measure => simp [intOf]; omega
      · have Hn := Lib.hid (climb_odd HC.out he)
        rw [show q % 2 = 1 by omega] at ha
        clear he
        go_wp2_with (fail)
        refine (sponge_Pair _ _ _ hu (U64.psi y)).mono ?_
        rintro e w3 ⟨rfl, hb3⟩
        rw [phi_psi]
        go_wp2
        go_roundw
        case rel => exact ⟨j + 1, q / 2, _, by omega, hqn, by go_num, by go_num, rfl, Hn.out, hb.trans (hb3.mono hb.size)⟩
        case measure => simp [intOf]; omega
    · obtain rfl : j = p.length := by omega
      have Hy : Hid (y = climbF x p i) := by
        have := HC.out
        rw [List.drop_of_length_le (by simp)] at this; exact this
      go_wp2
      go_ret2
      exact ⟨by rw [Hy.out]; rfl, hb⟩
end Go.Proofs.YtokggifjcbkmnaaDoor
