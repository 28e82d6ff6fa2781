/- Several texts in one: TreeM, TreeW, TreeW2, TreeK. What each says, and its conditions, stands at its head. -/
import Derived.Test.YtlfneeobnihocaaGreatDoorPoly
import Derived.Test.YtlfneeobnihocaaGreatDoorMleW
import Derived.Test.YtlfneeobnihocaaGreatDoorKeepM
import Derived.Test.YtlfneeobnihocaaGreatDoorFar
import Derived.Test.YtlfneeobnihocaaGreatDoorSponge
import Derived.StillTailTactics
import Derived.Deep.RegionHeld3
/- Plain law: trees of pairs, level by level and by halves; paths; climbing. Over whatever pairing; no program in sight, no condition. -/
namespace Tally
set_option maxRecDepth 100000
set_option linter.unusedVariables false
/-- the level above -/
def up (pr : F → F → F) (l : List F) : List F := (List.range (l.length / 2)).map fun k => pr (atF l (2 * k)) (atF l (2 * k + 1))
theorem up_length (pr : F → F → F) (l : List F) : (up pr l).length = l.length / 2 := by simp [up]
theorem up_at (pr : F → F → F) (l : List F) (k : Nat) (h : k < l.length / 2) : atF (up pr l) k = pr (atF l (2 * k)) (atF l (2 * k + 1)) := by
  simp [up, atF, h]
theorem atF_take (l : List F) (n k : Nat) (h : k < n) : atF (l.take n) k = atF l k := by
  unfold atF; rw [List.getElem?_take, if_pos h]
theorem atF_drop (l : List F) (n k : Nat) : atF (l.drop n) k = atF l (n + k) := by
  unfold atF; rw [List.getElem?_drop]
theorem atF_ext (l m : List F) (h : l.length = m.length) (h2 : ∀ k, k < l.length → atF l k = atF m k) : l = m := by
  refine List.ext_getElem h fun i h1 h3 => ?_
  have := h2 i h1
  simpa [atF, h1, h3] using this
theorem up_take (pr : F → F → F) (l : List F) (n : Nat) (h : 2 * n ≤ l.length) : (up pr l).take n = up pr (l.take (2 * n)) := by
  refine atF_ext _ _ (by simp [up_length]; omega) fun k hk => ?_
  have hk' : k < n := by simp [up_length] at hk; omega
  rw [atF_take _ _ _ hk', up_at pr l k (by omega), up_at pr _ k (by simp; omega), atF_take _ _ _ (by omega), atF_take _ _ _ (by omega)]
theorem up_drop (pr : F → F → F) (l : List F) (n : Nat) (h : 2 * n ≤ l.length) : (up pr l).drop n = up pr (l.drop (2 * n)) := by
  refine atF_ext _ _ (by simp [up_length]; omega) fun k hk => ?_
  have hk' : k < l.length / 2 - n := by simpa [up_length] using hk
  rw [atF_drop, up_at pr l _ (by omega), up_at pr _ k (by simp; omega), atF_drop, atF_drop]
  congr 2 <;> omega
/-- the top, n levels above -/
def rootN (pr : F → F → F) : Nat → List F → F
  | 0, l => atF l 0
  | n + 1, l => rootN pr n (up pr l)
/-- the other one of a pair -/
def sib (i : Nat) : Nat := if i % 2 = 0 then i + 1 else i - 1
def pathN (pr : F → F → F) : Nat → List F → Nat → List F
  | 0, _, _ => []
  | n + 1, l, i => atF l (sib i) :: pathN pr n (up pr l) (i / 2)
def climbN (pr : F → F → F) : F → List F → Nat → F
  | out, [], _ => out
  | out, x :: p, i => climbN pr (if i % 2 = 0 then pr out x else pr x out) p (i / 2)
theorem pathN_length (pr : F → F → F) (n : Nat) (l : List F) (i : Nat) : (pathN pr n l i).length = n := by
  induction n generalizing l i with
  | zero => rfl
  | succ n ih => simp [pathN, ih]
theorem climb_path (pr : F → F → F) (n : Nat) (l : List F) (i : Nat) (h : l.length = 2 ^ n) (hi : i < 2 ^ n) : climbN pr (atF l i) (pathN pr n l i) i = rootN pr n l := by
  induction n generalizing l i with
  | zero => have : i = 0 := by simpa using hi
            subst this; rfl
  | succ n ih =>
    have hu : (up pr l).length = 2 ^ n := by rw [up_length, h, Nat.pow_succ]; omega
    rw [Nat.pow_succ] at hi h
    simp only [pathN, climbN, rootN]
    rw [← ih (up pr l) (i / 2) hu (by omega), up_at pr l (i / 2) (by omega)]
    congr 1
    unfold sib
    by_cases e : i % 2 = 0
    · rw [if_pos e, if_pos e, show 2 * (i / 2) = i by omega]
    · rw [if_neg e, if_neg e, show 2 * (i / 2) = i - 1 by omega, show i - 1 + 1 = i by omega]
theorem rootN_half (pr : F → F → F) (n : Nat) (l : List F) (h : l.length = 2 ^ (n + 1)) : rootN pr (n + 1) l = pr (rootN pr n (l.take (2 ^ n))) (rootN pr n (l.drop (2 ^ n))) := by
  induction n generalizing l with
  | zero =>
    have h2 : l.length = 2 := by simpa using h
    simp only [rootN]
    rw [up_at pr l 0 (by omega), atF_take _ _ _ (by decide), atF_drop]
  | succ n ih =>
    have h2 : l.length = 2 * 2 ^ (n + 1) := by rw [h, Nat.pow_succ]; omega
    have e : 2 ^ (n + 1) = 2 * 2 ^ n := by rw [Nat.pow_succ]; omega
    rw [show rootN pr (n + 1 + 1) l = rootN pr (n + 1) (up pr l) from rfl, ih (up pr l) (by rw [up_length]; omega), up_take pr l _ (by omega), up_drop pr l _ (by omega), ← e]; rfl
theorem pathN_half (pr : F → F → F) (n : Nat) (l : List F) (i : Nat) (h : l.length = 2 ^ (n + 1)) (hi : i < 2 ^ (n + 1)) : pathN pr (n + 1) l i =
    if i < 2 ^ n then pathN pr n (l.take (2 ^ n)) i ++ [rootN pr n (l.drop (2 ^ n))] else pathN pr n (l.drop (2 ^ n)) (i - 2 ^ n) ++ [rootN pr n (l.take (2 ^ n))] := by
  induction n generalizing l i with
  | zero =>
    have hi2 : i = 0 ∨ i = 1 := by simp at hi; omega
    rcases hi2 with rfl | rfl
    · simp only [pathN, rootN]; rw [if_pos (by decide), atF_drop]; rfl
    · simp only [pathN, rootN]; rw [if_neg (by decide), atF_take _ _ _ (by decide)]; rfl
  | succ n ih =>
    have h2 : l.length = 2 * 2 ^ (n + 1) := by rw [h, Nat.pow_succ]; omega
    have e : 2 ^ (n + 1) = 2 * 2 ^ n := by rw [Nat.pow_succ]; omega
    have hi2 : i < 2 * (2 * 2 ^ n) := by rw [Nat.pow_succ, e] at hi; omega
    rw [show pathN pr (n + 1 + 1) l i = atF l (sib i) :: pathN pr (n + 1) (up pr l) (i / 2) from rfl, ih (up pr l) (i / 2) (by rw [up_length]; omega) (by omega), up_take pr l _ (by omega), up_drop pr l _ (by omega), ← e]
    by_cases hlt : i < 2 ^ (n + 1)
    · rw [if_pos hlt, if_pos (by omega)]
      show _ = (atF (l.take (2 ^ (n + 1))) (sib i) :: pathN pr n (up pr (l.take (2 ^ (n + 1)))) (i / 2)) ++ [rootN pr n (up pr (l.drop (2 ^ (n + 1))))]
      rw [atF_take _ _ _ (by unfold sib; split <;> omega)]; rfl
    · rw [if_neg hlt, if_neg (by omega)]
      show _ = (atF (l.drop (2 ^ (n + 1))) (sib (i - 2 ^ (n + 1))) :: pathN pr n (up pr (l.drop (2 ^ (n + 1)))) ((i - 2 ^ (n + 1)) / 2)) ++ [rootN pr n (up pr (l.take (2 ^ (n + 1))))]
      rw [atF_drop, show 2 ^ (n + 1) + sib (i - 2 ^ (n + 1)) = sib i by unfold sib; split <;> split <;> omega, show (i - 2 ^ (n + 1)) / 2 = i / 2 - 2 ^ n by omega]; rfl
/-- the leaves -/
def leafs (pr : F → F → F) (t : List F) : List F := t.map (pr · 0)
theorem leafs_at (pr : F → F → F) (t : List F) (k : Nat) (h : k < t.length) : atF (leafs pr t) k = pr (atF t k) 0 := by simp [leafs, atF, h]
def rootR (pr : F → F → F) : Nat → List F → F
  | 0, t => pr (atF t 0) 0
  | n + 1, t => pr (rootR pr n (t.take (2 ^ n))) (rootR pr n (t.drop (2 ^ n)))
theorem root_eq (pr : F → F → F) (n : Nat) (t : List F) (h : t.length = 2 ^ n) : rootN pr n (leafs pr t) = rootR pr n t := by
  induction n generalizing t with
  | zero => have h1 : t.length = 1 := by simpa using h
            simp only [rootN, rootR]; rw [leafs_at pr t 0 (by omega)]
  | succ n ih =>
    rw [rootN_half pr n _ (by rw [leafs, List.length_map]; exact h)]
    have h2 := h; rw [Nat.pow_succ] at h2
    simp only [rootR, leafs, ← List.map_take, ← List.map_drop]
    rw [← ih (t.take (2 ^ n)) (by simp; omega), ← ih (t.drop (2 ^ n)) (by simp; omega)]; rfl
def pathR (pr : F → F → F) : Nat → List F → Nat → List F
  | 0, _, _ => []
  | n + 1, t, i => if i < 2 ^ n then pathR pr n (t.take (2 ^ n)) i ++ [rootR pr n (t.drop (2 ^ n))] else pathR pr n (t.drop (2 ^ n)) (i - 2 ^ n) ++ [rootR pr n (t.take (2 ^ n))]
theorem path_eq (pr : F → F → F) (n : Nat) (t : List F) (i : Nat) (h : t.length = 2 ^ n) (hi : i < 2 ^ n) : pathN pr n (leafs pr t) i = pathR pr n t i := by
  induction n generalizing t i with
  | zero => rfl
  | succ n ih =>
    rw [pathN_half pr n _ i (by rw [leafs, List.length_map]; exact h) hi]
    have h2 := h; rw [Nat.pow_succ] at h2
    have hi2 := hi; rw [Nat.pow_succ] at hi2
    simp only [pathR, leafs, ← List.map_take, ← List.map_drop]
    by_cases hlt : i < 2 ^ n
    · rw [if_pos hlt, if_pos hlt, ← ih (t.take (2 ^ n)) i (by simp; omega) hlt, ← root_eq pr n (t.drop (2 ^ n)) (by simp; omega)]; rfl
    · rw [if_neg hlt, if_neg hlt, ← ih (t.drop (2 ^ n)) (i - 2 ^ n) (by simp; omega) (by omega), ← root_eq pr n (t.take (2 ^ n)) (by simp; omega)]; rfl
theorem climb_snoc (pr : F → F → F) (out x : F) (p : List F) (i : Nat) : climbN pr out (p ++ [x]) i = if i / 2 ^ p.length % 2 = 0 then pr (climbN pr out p i) x else pr x (climbN pr out p i) := by
  induction p generalizing out i with
  | nil => simp [climbN]
  | cons y p ih =>
    have e : i / 2 ^ (p.length + 1) = i / 2 / 2 ^ p.length := by rw [Nat.div_div_eq_div_mul, Nat.pow_succ, Nat.mul_comm 2]
    simp only [List.cons_append, climbN, List.length_cons, e]
    rw [ih]
theorem climb_mod (pr : F → F → F) (out : F) (p : List F) (i : Nat) : climbN pr out p (i % 2 ^ p.length) = climbN pr out p i := by
  induction p generalizing out i with
  | nil => rfl
  | cons y p ih =>
    have e1 : i % 2 ^ (p.length + 1) % 2 = i % 2 := by rw [Nat.pow_succ, Nat.mul_comm, Nat.mod_mul_right_mod]
    have e2 : i % 2 ^ (p.length + 1) / 2 = i / 2 % 2 ^ p.length := by rw [Nat.pow_succ, Nat.mul_comm, Nat.mod_mul_right_div_self]
    simp only [climbN, List.length_cons, e1, e2]
    rw [ih]
/-- by halves -/
def climbR (pr : F → F → F) (leaf : F) (p : List F) : Nat → Nat → F
  | 0, _ => pr leaf 0
  | n + 1, i => if i < 2 ^ n then pr (climbR pr leaf p n i) (atF p n) else pr (atF p n) (climbR pr leaf p n (i - 2 ^ n))
theorem climb_eq (pr : F → F → F) (leaf : F) (p : List F) (n i : Nat) (hn : n ≤ p.length) (hi : i < 2 ^ n) : climbN pr (pr leaf 0) (p.take n) i = climbR pr leaf p n i := by
  induction n generalizing i with
  | zero => rfl
  | succ n ih =>
    have hl : (p.take n).length = n := by simp; omega
    rw [Nat.pow_succ] at hi
    rw [take_snoc p n 0 (by omega), climb_snoc, hl]
    simp only [climbR]
    by_cases hlt : i < 2 ^ n
    · rw [if_pos hlt, if_pos (by rw [Nat.div_eq_of_lt hlt]), ih i (by omega) hlt]
    · have hd : i / 2 ^ n = 1 := by
        rw [Nat.div_eq_of_lt_le] <;> omega
      rw [if_neg hlt, if_neg (by rw [hd]; decide)]
      have hm : i % 2 ^ n = i - 2 ^ n := by rw [Nat.mod_eq_sub_mod (by omega), Nat.mod_eq_of_lt (by omega)]
      have := climb_mod pr (pr leaf 0) (p.take n) i
      rw [hl, hm] at this
      rw [← this, ih (i - 2 ^ n) (by omega) (by omega)]
/-- two unlike ones stay unlike, step by step, unless unlike pairs are the same -/
theorem climbN_cons (pr : F → F → F) (out x : F) (p : List F) (i : Nat) : climbN pr out (x :: p) i = climbN pr (if i % 2 = 0 then pr out x else pr x out) p (i / 2) := rfl
end Tally

/- The walks of package tree: leaf, levels, Root, Path, Climb. The lists are tables of 2^n numbers, n to 8; the table of bits lies as its initialiser lays it. -/
namespace Go.Proofs.YtlfneeobnihocaaGreatDoor
set_option maxRecDepth 100000
set_option linter.unusedVariables false
open Go.RowKit Tally
set_option maxHeartbeats 1000000 in
theorem tree_leaf (x : Int) (w : World) (hx : U64 x) :
    Calls Tryz.prog 149 #[.int .u64 x] w fun e w' => e = .returned (.int .u64 (psi (pairF (phi x) 0))) ∧ Below w.heap.size w w' := by
  have h0 : pairF (phi x) 0 = pairF (phi x) (phi 0) := by rw [phi_zero]
  have H0 := Lib.hid h0
  clear h0
  go_enter Tryz.func149, Tryz.ntmps149
  go_wp2_with (fail)
  refine (sponge_Pair _ _ _ hx U64.zero).mono ?_
  rintro e w1 ⟨rfl, hb⟩
  go_wp2
  go_ret
  exact ⟨by rw [H0.out]; rfl, hb⟩
/-- n levels above -/
def upN : Nat → List F → List F
  | 0, l => l
  | n + 1, l => up pairF (upN n l)
theorem upN_length (n m : Nat) (l : List F) (h : l.length = 2 ^ (m + n)) : (upN n l).length = 2 ^ m := by
  induction n generalizing m with
  | zero => simpa [upN] using h
  | succ n ih =>
    simp only [upN]; rw [up_length, ih (m + 1) (by rw [h]; congr 1; omega), Nat.pow_succ]; omega
theorem upN_up (n : Nat) (l : List F) : upN n (up pairF l) = upN (n + 1) l := by
  induction n with
  | zero => rfl
  | succ n ih => simp only [upN] at *; rw [ih]
theorem rootN_upN (n : Nat) (l : List F) : rootN pairF n l = atF (upN n l) 0 := by
  induction n generalizing l with
  | zero => rfl
  | succ n ih => simp only [rootN]; rw [ih, upN_up]
/-- the levels, as lists of numbers -/
def levsI (l : List F) (n : Nat) : List (List Int) := (List.range (n + 1)).map fun j => (upN j l).map psi
theorem levsI_length (l : List F) (n : Nat) : (levsI l n).length = n + 1 := by simp [levsI]
theorem levsI_at (l : List F) (n j : Nat) (h : j ≤ n) : atl (levsI l n) j = (upN j l).map psi := by
  simp [levsI, atl, show j < n + 1 by omega]
theorem levsI_succ (l : List F) (n : Nat) : levsI l (n + 1) = levsI l n ++ [(upN (n + 1) l).map psi] := by
  unfold levsI; rw [List.range_succ, List.map_append]; rfl
theorem leafs_take (t : List Int) (k : Nat) (h : k < t.length) : ((leafs pairF (t.map phi)).take (k + 1)).map psi = ((leafs pairF (t.map phi)).take k).map psi ++ [psi (pairF (phi (at0 t k)) 0)] := by
  have e := leafs_at pairF (t.map phi) k (by simpa using h)
  rw [atF_map t k h] at e
  rw [take_snoc _ k 0 (by simpa [leafs] using h), List.map_append, List.map_cons, List.map_nil]
  rw [show (leafs pairF (t.map phi))[k]?.getD 0 = _ from e]
theorem up_take_snoc (l : List F) (k : Nat) (h : k < l.length / 2) : ((up pairF l).take (k + 1)).map psi = ((up pairF l).take k).map psi ++ [psi (pairF (atF l (2 * k)) (atF l (2 * k + 1)))] := by
  rw [take_snoc _ k 0 (by rw [up_length]; exact h), List.map_append, List.map_cons, List.map_nil]
  rw [show (up pairF l)[k]?.getD 0 = _ from up_at pairF l k h]
/-- the length of a slice -/
def lenOf : Value → Nat
  | .slice _ n _ => n
  | _ => 0
theorem below_al (w : World) (o : Obj) : Below w.heap.size w (w.alloc o) := (Below.refl _ _).alloc (Nat.le_refl _) _
theorem phi_at0_psi (l : List F) (k : Nat) (h : k < l.length) : phi (at0 (l.map psi) k) = atF l k := by
  simp [at0, atF, h, phi_psi]
set_option maxRecDepth 100000 in
set_option maxHeartbeats 2000000 in
theorem tree_levels (t : List Int) (n : Nat) (v : Value) (w : World) (hp : RowU w v t) (hn : t.length = 2 ^ n) (h8 : n ≤ 8) :
    Calls Tryz.prog 109 #[v] w fun e w' => ∃ v', e = .returned v' ∧ NewUU w.heap.size w' v' (levsI (leafs pairF (t.map phi)) n) ∧ Below w.heap.size w w' := by
  have hat := Lib.hid (fun j => @RowU.at _ _ _ hp j)
  obtain ⟨_, h2, ad, cap, rfl, hr⟩ := hp
  have Hr := Lib.hid hr
  have Hn := Lib.hid hn
  obtain ⟨g1, g2⟩ := pow_le8 h8
  rw [← hn] at g1 g2
  clear hr hn
  have hLl : (leafs pairF (t.map phi)).length = t.length := by simp [leafs]
  go_enter Tryz.func109, Tryz.ntmps109
  go_wp2
  go_loopw [3, 11] (fun o i wr => ∃ k : Nat, k ≤ t.length ∧ i = .int .i64 (k : Int) ∧ Hid (NewU w.heap.size wr o (((leafs pairF (t.map phi)).take k).map psi)) ∧ Below w.heap.size w wr) (fun _ i _ => t.length - (intOf i).toNat)
  case atStart => exact ⟨0, by omega, rfl, NewU.nil _ _, Below.refl _ _⟩
  case round =>
    obtain ⟨k, hk, rfl, HO, hb⟩ := hrel
    by_cases hz : k < t.length
    · obtain ⟨b, off, rfl, hblt, hcell⟩ := Hr.out (by omega)
      have hc := (hb.cell (p := ⟨b, off + k, none⟩) hblt).trans (hcell k hz)
      have hu := hat.out k hz
      have Hs := Lib.hid (leafs_take t k hz)
      have hl2 : (((leafs pairF (t.map phi)).take k).map psi).length ≤ 256 := by simp; omega
      clear hcell hLl
      go_wp2_with (fail)
      refine (tree_leaf _ _ hu).mono ?_
      rintro e w1 ⟨rfl, hb1⟩
      have HO1 := Lib.hid (HO.out.below hb1 (Nat.le_refl _))
      have hbw := hb.trans (hb1.mono hb.size)
      have hsz := hbw.size
      clear hb1
      go_wp2_with (at_builtin; refine wpList_appU rfl _ _ rfl w.heap.size _ _ rfl HO1.out _ rfl (U64.psi _) (by omega) hsz ?_; intro v2 w2 hn2 hb2; have Hn2 := Lib.hid hn2; clear hn2)
      go_roundw
      case rel => exact ⟨k + 1, by omega, by go_num, by rw [Hs.out]; exact Hn2.out, hbw.trans hb2⟩
      case measure => simp [intOf]; omega
    · obtain rfl : k = t.length := by omega
      rw [List.take_of_length_le (by rw [hLl]; exact Nat.le_refl _)] at HO
      generalize hL : leafs pairF (t.map phi) = L at *
      have HLf := Lib.hid hL
      clear hL
      have HL := Lib.hid (show L.length = 2 ^ n by rw [hLl, Hn.out])
      clear hLl Hn Hr hat
      generalize hLI : L.map psi = LI at HO ⊢
      have HLI := Lib.hid hLI
      clear hLI
      obtain ⟨ao, co, rfl⟩ := HO.out.isSlice
      obtain ⟨w1o, rfl⟩ : ∃ x : World, x = wr := ⟨_, rfl⟩
      go_wp2
      go_loopw [3, 6] (fun low out wq => ∃ j : Nat, j ≤ n ∧ Hid (NewU w.heap.size wq low ((upN j L).map psi)) ∧ Hid (NewUU w.heap.size wq out (levsI L j)) ∧ Hid (Below w.heap.size w wq)) (fun low _ _ => lenOf low)
      case atStart => exact ⟨0, by omega, by rw [show (upN 0 L).map psi = LI from HLI.out]; exact HO.out.below (below_al _ _) (Nat.le_refl _), by rw [show levsI L 0 = [LI] by rw [← HLI.out]; rfl]; exact NewUU.lit1 _ _ _ _ HO.out hb.size, hb.trans ((below_al _ _).mono hb.size)⟩
      case round =>
        obtain ⟨j, hj, HLo, HOut, HB⟩ := hrel
        have hlen : ((upN j L).map psi).length = 2 ^ (n - j) := by rw [List.length_map, upN_length j (n - j) L (by rw [HL.out]; congr 1; omega)]
        have hpos := pow_le8 (n := n - j) (by omega)
        rw [← hlen] at hpos
        obtain ⟨hp1, hp2⟩ := hpos
        obtain ⟨g, cl, rfl, hg1, hg2, hcell, hfr⟩ := HLo.out.shape hp1
        by_cases hz : j < n
        · have hh : (up pairF (upN j L)).length = 2 ^ (n - j - 1) := by rw [show up pairF (upN j L) = upN (j + 1) L from rfl, upN_length (j + 1) (n - j - 1) L (by rw [HL.out]; congr 1; omega)]
          have hhp := pow_le8 (n := n - j - 1) (by omega)
          rw [← hh] at hhp
          have hl2 : ((upN j L).map psi).length = 2 * (up pairF (upN j L)).length := by
            rw [hlen, hh, show n - j = (n - j - 1) + 1 by omega, Nat.pow_succ, show n - j - 1 + 1 - 1 = n - j - 1 by omega]; omega
          have HupS := Lib.hid (up_take_snoc (upN j L))
          have Hul := Lib.hid (up_length pairF (upN j L))
          have Hpa := Lib.hid (phi_at0_psi (upN j L))
          have Hll := Lib.hid (show (upN j L).length = ((upN j L).map psi).length by simp)
          have Hup := Lib.hid (show up pairF (upN j L) = upN (j + 1) L from rfl)
          have HU0 := Lib.hid (show ∀ q, q < ((upN j L).map psi).length → U64 (at0 ((upN j L).map psi) q) from fun q hq => HLo.out.1 _ (at0_mem hq))
          have Hcell := Lib.hid hcell
          have Hlen := Lib.hid hlen
          generalize hLL : (upN j L).map psi = LL at *
          generalize hU : up pairF (upN j L) = U at *
          have HLL := Lib.hid hLL
          have HL2 := Lib.hid hl2
          have HU := Lib.hid hU
          have Hh := Lib.hid hh
          obtain ⟨hh1, hh2⟩ := hhp
          have hgt : (1 : Int) < (LL.length : Int) := by omega
          clear hLL hU hcell hfr hlen hh hl2
          obtain ⟨wo, rfl⟩ : ∃ wo : World, wo = wr := ⟨_, rfl⟩
          go_wp2
          go_loopw [7, 8] (fun nx i wi => ∃ q m : Nat, q ≤ U.length ∧ i = .int .i64 (m : Int) ∧ Hid (m = 2 * q) ∧ Hid (NewU wo.heap.size wi nx ((U.take q).map psi)) ∧ Below wo.heap.size wo wi) (fun _ i _ => 2 * U.length - (intOf i).toNat)
          case atStart => exact ⟨0, 0, by omega, rfl, rfl, NewU.nil _ _, Below.refl _ _⟩
          case round =>
            obtain ⟨q, m, hq, rfl, HM, HN, hbi⟩ := hrel
            have hszi := hbi.size
            by_cases hzq : q < U.length
            · have hm1 : m < LL.length := by have := HM.out; have := HL2.out; omega
              have hm2 : m + 1 < LL.length := by have := HM.out; have := HL2.out; omega
              have hm3 : (m : Int) < (LL.length : Int) := by omega
              have hm4 : (m : Int) + 1 < (LL.length : Int) := by omega
              have c1 := (hbi.cell (p := ⟨g, m, none⟩) hg2).trans (Hcell.out m hm1)
              have c2 := (hbi.cell (p := ⟨g, m + 1, none⟩) hg2).trans (Hcell.out (m + 1) hm2)
              have u1 := HU0.out m hm1
              have u2 := HU0.out (m + 1) hm2
              have s1 : IntKind.i64.wrap ((m : Int) + 1) = (m : Int) + 1 := IntWalk.i64_in _ (by omega)
              have s2 : (0 : Int) ≤ (m : Int) + 1 := by omega
              have s3 : ((m : Int) + 1).toNat = m + 1 := by omega
              have hcap : ((U.take q).map psi).length + 1 ≤ 17592186043904 := by simp; omega
              have Hs := Lib.hid (show ((U.take (q + 1)).map psi) = (U.take q).map psi ++ [psi (pairF (phi (at0 LL m)) (phi (at0 LL (m + 1))))] by
                have e := HupS.out q (by rw [← Hul.out]; exact hzq)
                rw [e, HM.out, ← HLL.out, phi_at0_psi _ _ (by have := Hll.out; have := HM.out; have := HL2.out; omega), phi_at0_psi _ _ (by have := Hll.out; have := HM.out; have := HL2.out; omega)])
              go_wp2
              have hgr : g < wr.heap.size := by omega
              go_region_held3 (fun w' => w'.cell? ⟨g, m, none⟩ = some (.int .u64 (at0 LL m)) ∧ w'.cell? ⟨g, m + 1, none⟩ = some (.int .u64 (at0 LL (m + 1))))
                (first
                  | go_keep
                  | exact ⟨(hb3.cell (p := ⟨g, m, none⟩) hgr).trans c1, (hb3.cell (p := ⟨g, m + 1, none⟩) hgr).trans c2⟩
                  | exact ⟨(hb4.cell (p := ⟨g, m, none⟩) hg2).trans ((hb3.cell (p := ⟨g, m, none⟩) hgr).trans c1), (hb4.cell (p := ⟨g, m + 1, none⟩) hg2).trans ((hb3.cell (p := ⟨g, m + 1, none⟩) hgr).trans c2)⟩)
                (first
                  | (go_at_call 150; (with_reducible refine (sponge_Pair _ _ _ u1 u2).mono ?_); rintro e w3 ⟨rfl, hb3⟩; have HN3 := Lib.hid ((HN.out.drewN 1).below hb3 (Nat.le_refl _)); have hb3w : Below wo.heap.size wo w3 := (below_drewN hbi 1).trans (hb3.mono hszi); have hsz3 := hb3w.size)
                  | (refine step_appU rfl _ _ (by rfl) wo.heap.size _ _ (by rfl) HN3.out _ (by rfl) (U64.psi _) hcap hsz3 ?_; intro v4 w4 hn4 hb4; have Hn4 := Lib.hid hn4; clear hn4))
              clear s1 s2 s3 c1 c2
              go_wp2
              go_roundw
              case rel => exact ⟨q + 1, m + 2, by omega, by go_num, by have := HM.out; show _ = _; omega, by rw [Hs.out]; exact Hn4.out, hb3w.trans hb4⟩
              case measure => have := HM.out; simp [intOf]; omega
            · obtain rfl : q = U.length := by omega
              have hm3 : ¬ (m : Int) < (LL.length : Int) := by have := HM.out; have := HL2.out; omega
              rw [List.take_of_length_le (Nat.le_refl _)] at HN
              obtain ⟨an, cn, en⟩ := HN.out.isSlice
              rw [List.length_map] at en
              subst en
              obtain ⟨ao2, co2, rfl⟩ := HOut.out.isSlice
              have HOi := Lib.hid (HOut.out.below hbi (Nat.le_refl _))
              have HNi := Lib.hid (HN.out.mono (by exact HB.out.size))
              have hlo := Lib.hid (show ∀ g, (Value.slice ao2 (levsI L j).length co2).ownBlock = some g → (Value.slice an U.length cn).ownBlock ≠ some g from fun g h1 h2 => by
                have a1 := (HOut.out.lt h1).2
                have a2 := (HN.out.lt h2).1
                omega)
              have hcapo : (levsI L j).length + 1 ≤ 5864062014634 := by rw [levsI_length]; omega
              have hszo : w.heap.size ≤ wr.heap.size := by have := HB.out.size; omega
              have HBi := Lib.hid (HB.out.trans (hbi.mono HB.out.size))
              go_wp2_with (at_builtin; refine wpList_appUU rfl _ _ rfl w.heap.size (.slice ao2 (levsI L j).length co2) _ rfl HOi.out _ _ HNi.out hlo.out rfl hcapo hszo ?_; intro v5 w5 hn5 hu5 hb5; have Hn5 := Lib.hid hn5; have Hu5 := Lib.hid hu5; clear hn5 hu5)
              go_roundw
              case rel => exact ⟨j + 1, by omega, by rw [← Hup.out]; exact Hu5.out, by rw [levsI_succ, ← Hup.out]; exact Hn5.out, HBi.out.trans hb5⟩
              case measure => have := HL2.out; simp [lenOf]; omega
        · obtain rfl : j = n := by omega
          have h1 : ((upN j L).map psi).length = 1 := by rw [hlen]; simp
          have HOut2 := HOut
          generalize (upN j L).map psi = LL at *
          have hng : ¬ (1 : Int) < (LL.length : Int) := by omega
          clear h1 hlen hp1 hp2 hcell hfr
          go_wp2
          go_ret
          exact ⟨_, rfl, by rw [HLf.out]; exact HOut2.out, HB.out⟩
end Go.Proofs.YtlfneeobnihocaaGreatDoor

/- The walks of package tree, second part: Root, Path, Climb. The lists are tables of 2^n numbers, n to 8; the table of bits lies as its initialiser lays it. -/
namespace Go.Proofs.YtlfneeobnihocaaGreatDoor
set_option maxRecDepth 100000
set_option linter.unusedVariables false
open Go.RowKit Tally
/-- the root, the path, and what is climbed to -/
def rootF (t : List Int) (n : Nat) : F := rootN pairF n (leafs pairF (t.map phi))
def pathF (t : List Int) (n i : Nat) : List F := pathN pairF n (leafs pairF (t.map phi)) i
def climbF (x : Int) (p : List Int) (i : Nat) : F := climbN pairF (pairF (phi x) 0) (p.map phi) i
theorem RowUU.at {w : World} {a : Option Addr} {n c : Nat} {ll : List (List Int)} (h : RowUU w (.slice a n c) ll) : ll.length = n ∧ (0 < n → ∃ b off, a = some ⟨b, off, none⟩ ∧ b < w.heap.size ∧ ∀ j, j < ll.length → ∃ u, w.cell? ⟨b, off + j, none⟩ = some u ∧ RowU w u (atl ll j)) := by
  obtain ⟨_, a', c', e, hr⟩ := h
  cases e
  exact ⟨rfl, hr⟩
set_option maxHeartbeats 1000000 in
theorem tree_Root (t : List Int) (n : Nat) (v : Value) (w : World) (hT : Tab w) (hp : RowU w v t) (hn : t.length = 2 ^ n) (h8 : n ≤ 8) :
    Calls Tryz.prog 69 #[v] w fun e w' => e = .returned (.tuple #[.int .u64 (psi (rootF t n)), .int .i64 0]) ∧ Below w.heap.size w w' := by
  have HT := Lib.hid hT
  have Hp := Lib.hid hp
  have Hn := Lib.hid hn
  clear hT hp hn
  go_enter Tryz.func69, Tryz.ntmps69
  go_wp2_with (fail)
  refine (mle_Vars _ _ _ _ HT.out Hp.out Hn.out h8).mono ?_
  rintro e w' ⟨rfl, rfl⟩
  go_wp2_with (fail)
  refine (tree_levels _ _ _ _ Hp.out Hn.out h8).mono ?_
  rintro e w1 ⟨v1, rfl, hn1, hb1⟩
  have hr1 := hn1.rows
  have hll := levsI_length (leafs pairF (t.map phi)) n
  have hlast := levsI_at (leafs pairF (t.map phi)) n n (Nat.le_refl _)
  have hupl : (upN n (leafs pairF (t.map phi))).length = 1 := by
    rw [upN_length n 0 _ (by simp [leafs, Hn.out])]
  have hroot := rootN_upN n (leafs pairF (t.map phi))
  have hroot' : rootF t n = atF (upN n (leafs pairF (t.map phi))) 0 := hroot
  obtain ⟨av, cv, rfl⟩ := hn1.isSlice
  generalize levsI (leafs pairF (t.map phi)) n = ll at *
  obtain ⟨-, hr2⟩ := hr1.at
  obtain ⟨b, off, rfl, hblt, hcell⟩ := hr2 (by omega)
  obtain ⟨u, hu, hru⟩ := hcell (ll.length - 1) (by omega)
  have e1 : ll.length - 1 = n := by omega
  rw [e1, hlast] at hru
  obtain ⟨hlu, hl2, ad, cap, hue, hru2⟩ := hru
  have hlen1 : ((upN n (leafs pairF (t.map phi))).map psi).length = 1 := by rw [List.length_map, hupl]
  rw [hlen1] at hue hru2
  obtain ⟨b2, off2, had, hblt2, hcell2⟩ := hru2 (by decide)
  have hc2 := hcell2 0 (by decide)
  rw [Nat.add_zero] at hc2
  have hval : at0 ((upN n (leafs pairF (t.map phi))).map psi) 0 = psi (rootF t n) := by
    rw [hroot']; unfold atF at0
    simp [hupl]
  rw [hval] at hc2
  subst hue
  subst had
  have hq0 : ll.length ≤ 9 := by omega
  have hq : (ll.length : Int) - 1 < (ll.length : Int) := by omega
  have hq2 : (0 : Int) ≤ (ll.length : Int) - 1 := by omega
  have hq3 : (1 : Int) ≤ (ll.length : Int) := by omega
  clear hcell hcell2 hru2 hlu hl2 hval hroot hroot' hupl hlast hll hr1 hr2 hn1 hlen1 e1
  go_wp2
  go_ret2
  exact ⟨rfl, hb1⟩
theorem pathN_range (n : Nat) (l : List F) (i : Nat) : pathN pairF n l i = (List.range n).map fun j => atF (upN j l) (sib (i / 2 ^ j)) := by
  induction n generalizing l i with
  | zero => rfl
  | succ n ih =>
    simp only [pathN]
    rw [ih, List.range_succ_eq_map, List.map_cons, List.map_map]
    congr 1
    · simp [upN]
    · refine List.map_congr_left fun j _ => ?_
      simp only [Function.comp]
      rw [upN_up, Nat.div_div_eq_div_mul, Nat.pow_succ, Nat.mul_comm 2]
theorem xor1 : ∀ i : Nat, i < 256 → bits .xor .i64 (i : Int) 1 = ((sib i : Nat) : Int) := by decide +kernel
theorem and1 : ∀ i : Nat, i < 256 → bits .and .i64 (i : Int) 1 = ((i % 2 : Nat) : Int) := by decide +kernel
theorem sib_lt {i n : Nat} (h : i < 2 ^ n) (h0 : 0 < n) : sib i < 2 ^ n := by
  obtain ⟨k, rfl⟩ : ∃ k, n = k + 1 := ⟨n - 1, by omega⟩
  rw [Nat.pow_succ] at h ⊢
  unfold sib; split <;> omega
theorem path_snoc (n : Nat) (l : List F) (i j : Nat) (h : j < n) (hl : sib (i / 2 ^ j) < (upN j l).length) : ((pathN pairF n l i).take (j + 1)).map psi = ((pathN pairF n l i).take j).map psi ++ [at0 ((upN j l).map psi) (sib (i / 2 ^ j))] := by
  rw [take_snoc _ j 0 (by rw [pathN_length]; exact h), List.map_append, List.map_cons, List.map_nil]
  congr 2
  rw [pathN_range]
  simp [h, at0, atF, hl]
theorem climb_even {y x : F} {p : List F} {q : Nat} {r : F} (h : climbN pairF y (x :: p) q = r) (he : q % 2 = 0) : climbN pairF (pairF y x) p (q / 2) = r := by
  rw [climbN_cons, if_pos he] at h; exact h
theorem climb_odd {y x : F} {p : List F} {q : Nat} {r : F} (h : climbN pairF y (x :: p) q = r) (he : ¬ q % 2 = 0) : climbN pairF (pairF x y) p (q / 2) = r := by
  rw [climbN_cons, if_neg he] at h; exact h
theorem drop_cons_phi (p : List Int) (j : Nat) (h : j < p.length) : (p.map phi).drop j = phi (at0 p j) :: (p.map phi).drop (j + 1) := by
  rw [List.drop_eq_getElem_cons (by simpa using h)]; simp [at0, h]
end Go.Proofs.YtlfneeobnihocaaGreatDoor

/- The helper grown; the walk of the law TreePaths: it returns true, whatever is handed in. The table of bits lies as its initialiser lays it. -/
namespace Go.Proofs.YtlfneeobnihocaaGreatDoor
set_option maxRecDepth 100000
set_option linter.unusedVariables false
open Go.RowKit Tally
theorem root56 : rootF [5, 6] 1 = pairF (pairF (phi 5) (phi 0)) (pairF (phi 6) (phi 0)) := by
  have h0 : phi 0 = 0 := phi_zero
  rw [h0]; rfl
/-- the root of 5 and 6, hidden -/
def r56 : F := pairF (pairF (phi 5) (phi 0)) (pairF (phi 6) (phi 0))
theorem r56_ne : (psi r56 != 0) = true := by decide +kernel
theorem root_56 (v : Value) (w : World) (hT : Tab w) (hp : RowU w v [5, 6]) : Calls Tryz.prog 69 #[v] w fun e w' => e = .returned (.tuple #[.int .u64 (psi r56), .int .i64 0]) ∧ Below w.heap.size w w' := by
  have := tree_Root [5, 6] 1 v w hT hp (by simp) (by decide)
  rw [root56] at this; exact this
/-- the leaves of 5 and 6, hidden -/
def l5 : F := pairF (phi 5) (phi 0)
def l6 : F := pairF (phi 6) (phi 0)
theorem pair_5 (w : World) : Calls Tryz.prog 150 #[.int .u64 5, .int .u64 0] w fun e w' => e = .returned (.int .u64 (psi l5)) ∧ Below w.heap.size w w' := sponge_Pair 5 0 w ⟨by decide, by decide⟩ U64.zero
theorem pair_6 (w : World) : Calls Tryz.prog 150 #[.int .u64 6, .int .u64 0] w fun e w' => e = .returned (.int .u64 (psi l6)) ∧ Below w.heap.size w w' := sponge_Pair 6 0 w ⟨by decide, by decide⟩ U64.zero
theorem pair_56 (w : World) : Calls Tryz.prog 150 #[.int .u64 (psi l5), .int .u64 (psi l6)] w fun e w' => e = .returned (.int .u64 (psi r56)) ∧ Below w.heap.size w w' := by
  have := sponge_Pair (psi l5) (psi l6) w (U64.psi _) (U64.psi _)
  rw [phi_psi, phi_psi] at this; exact this
theorem climb_root (t : List Int) (n i : Nat) (hn : t.length = 2 ^ n) (hi : i < 2 ^ n) : climbF (at0 t i) ((pathF t n i).map psi) i = rootF t n := by
  unfold climbF pathF rootF
  rw [mapphi_psi]
  have e : pairF (phi (at0 t i)) 0 = atF (leafs pairF (t.map phi)) i := by
    rw [leafs_at pairF _ i (by simpa [hn] using hi), atF_map t i (by omega)]
  rw [e]
  exact climb_path pairF n _ i (by simp [leafs, hn]) hi
end Go.Proofs.YtlfneeobnihocaaGreatDoor
