/- The helpers of the laws over sums: facts, two. The table of bits lies as its initialiser lays it. -/
import Derived.Test.YtaaaoljllpbplaaDoorKeepM
import Derived.Test.YtaaaoljllpbplaaDoorSumM
import Derived.Test.YtaaaoljllpbplaaDoorCap
namespace Go.Proofs.YtaaaoljllpbplaaDoor
set_option maxRecDepth 100000
set_option linter.unusedVariables false
open Go.ChangeShapes Go.WideShapes Go.ChangeAt Go.RowKit Tally
theorem cap_u64ss {H : Type} {enc : TypeId × Value → H} {W : World} {base : Nat} {v : Value} {x : DataW H} {p : List MemPlace} {held : Bool}
    (hv : Value.okWide Tryd.prog W .any base 41 v) (h : DataW.Trod enc Tryd.prog W 0 (fun _ => true) held 41 v x p) : CapOk v := by
  obtain ⟨a, len, cap, rfl⟩ := okWide_slice Tryd.underlying41 hv
  obtain ⟨fuel, hf⟩ := h
  rcases Go.Deep.open_int_rows Tryd.underlying41 Tryd.underlying22 Tryd.underlying23 (by kernel_rfl) (by kernel_rfl) (by simpa [Value.cells] using hf) with ⟨hcs, _⟩ | ⟨y, len', cap', A, L, C, Z, hcs, _, hl, hm, _, hall⟩
  · simp only [List.cons.injEq, Value.slice.injEq, and_true] at hcs
    obtain ⟨rfl, rfl, rfl⟩ := hcs
    exact CapOk.mk (by omega) (by omega)
  · simp only [List.cons.injEq, Value.slice.injEq, and_true] at hcs
    obtain ⟨rfl, rfl, rfl⟩ := hcs
    unfold maxLen at hm
    exact CapOk.mk hl hm
theorem row3 (w : World) (n : Nat) (x y z : Int) (hx : U64 x) (hy : U64 y) (hz : U64 z) (hn : w.heap.size = n) : RowU (w.alloc (.cells #[.int .u64 x, .int .u64 y, .int .u64 z] 23)) (.slice (some ⟨n, 0, none⟩) 3 3) [x, y, z] := by
  subst hn
  exact NewU.row (B := w.heap.size) ⟨by simpa using ⟨hx, hy, hz⟩, by simp, World.ownsRow_lit w #[.int .u64 x, .int .u64 y, .int .u64 z] 3 (Nat.le_refl _) (by unfold maxLen; omega) rfl⟩
/-- a literal of two lists -/
theorem rows2 (w : World) (n : Nat) (u1 u2 : Value) (l1 l2 : List Int) (h1 : RowU w u1 l1) (h2 : RowU w u2 l2) (hn : w.heap.size = n) : RowUU (w.alloc (.cells #[u1, u2] 22)) (.slice (some ⟨n, 0, none⟩) 2 2) [l1, l2] := by
  subst hn
  refine ⟨by simp, _, 2, rfl, fun _ => ⟨w.heap.size, 0, rfl, by simp, fun j hj => ?_⟩⟩
  have hb : (w.alloc (.cells #[u1, u2] 22)).heap[w.heap.size]? = some (.cells #[u1, u2] 22) := alloc_blk w _
  have hj2 : j = 0 ∨ j = 1 := by simp at hj; omega
  rcases hj2 with rfl | rfl
  · exact ⟨u1, (cell_blk hb _).trans rfl, h1.more _⟩
  · exact ⟨u2, (cell_blk hb _).trans rfl, h2.more _⟩
theorem facts12 : Facts [[1, 2], [3, 4]] 1 := ⟨by omega, by simp, by simp, fun j hj => by
  have hj2 : j = 0 ∨ j = 1 := by simp at hj; omega
  rcases hj2 with rfl | rfl <;> rfl⟩
theorem claim12 : psi (claimF (tabs [[1, 2], [3, 4]]) (2 ^ 1)) = 11 := by decide +kernel
theorem round12 : roundI [[1, 2], [3, 4]] 0 = [3, 8, 15] := by decide +kernel
theorem claim_2 (v : Value) (w : World) (hT : Tab w) (hp : RowUU w v [[1, 2], [3, 4]]) : Calls Tryd.prog 43 #[v] w fun e w' => e = .returned (.tuple #[.int .u64 11, .int .i64 0]) ∧ w = w' := by
  have := sum_Claim [[1, 2], [3, 4]] 1 v w hT hp facts12
  rwa [claim12] at this
theorem round_2 (v : Value) (w : World) (hT : Tab w) (hp : RowUU w v [[1, 2], [3, 4]]) : Calls Tryd.prog 44 #[v] w fun e w' => ∃ v', e = .returned (.tuple #[v', .int .i64 0]) ∧ NewU w.heap.size w' v' [3, 8, 15] ∧ Below w.heap.size w w' := by
  have := sum_Round [[1, 2], [3, 4]] 0 v w hT hp facts12
  rwa [round12] at this
set_option maxHeartbeats 1000000 in
theorem keep_two (w : World) (hT : Tab w) :
    Calls Tryd.prog 60 #[] w fun e w' => e = .returned (.bool true) ∧ Below w.heap.size w w' := by
  have HT := Lib.hid hT
  clear hT
  have u1 := u64n 1 (by decide)
  have u2 := u64n 2 (by decide)
  have u3 := u64n 3 (by decide)
  have u4 := u64n 4 (by decide)
  have u8 := u64n 8 (by decide)
  have u15 := u64n 15 (by decide)
  go_enter Tryd.func60, Tryd.ntmps60
  go_wp2_with (fail)
  refine (claim_2 _ _ (((HT.out.more _).more _).more _) (rows2 _ (w.heap.size + 2) _ _ _ _ ((row2 w w.heap.size 1 2 u1 u2 rfl).more _) (row2 _ (w.heap.size + 1) 3 4 u3 u4 (by simp)) (by simp))).mono ?_
  rintro e w1 ⟨rfl, rfl⟩
  have hbw := Lib.hid (below_chain (below_chain (below_alloc w (.cells #[.int .u64 1, .int .u64 2] 23)) (below_alloc _ (.cells #[.int .u64 3, .int .u64 4] 23))) (below_alloc _ (.cells #[.slice (some ⟨w.heap.size, 0, none⟩) 2 2, .slice (some ⟨w.heap.size + 1, 0, none⟩) 2 2] 22)))
  generalize hw1 : World.alloc _ _ = w1 at *
  clear hw1
  go_wp2_with (fail)
  refine (round_2 _ _ ((((HT.out.below hbw.out).more _).more _).more _) (rows2 _ (w1.heap.size + 2) _ _ _ _ ((row2 w1 w1.heap.size 1 2 u1 u2 rfl).more _) (row2 _ (w1.heap.size + 1) 3 4 u3 u4 (by simp)) (by simp))).mono ?_
  rintro e w2 ⟨v2, rfl, hn2, hb2⟩
  have Hn2 := Lib.hid hn2.row
  have hbw2 := Lib.hid (below_chain hbw.out (below_chain (below_chain (below_chain (below_alloc w1 _) (below_alloc _ _)) (below_alloc _ _)) hb2))
  clear hn2 hb2
  go_wp2_with (fail)
  refine (slices_Equal [3, 8, 15] _ _ _ (Hn2.out.more _) (row3 w2 w2.heap.size 3 8 15 u3 u8 u15 rfl)).mono ?_
  rintro e w3 ⟨rfl, hd⟩
  have Hb3 := Lib.hid (below_chain (below_chain hbw2.out (below_alloc w2 _)) hd.below)
  clear hd
  go_wp2
  go_ret
  exact ⟨rfl, Hb3.out⟩
/-- the tables that a law takes -/
def factsI (ll : List (List Int)) (n : Nat) : List (List Int) := if ll.length = 0 then [padTo (2 ^ n) []] else (ll.take 3).map (padTo (2 ^ n))
theorem factsI_facts (ll : List (List Int)) (n : Nat) (hn : n ≤ 4) : Facts (factsI ll n) n := by
  unfold factsI
  by_cases h : ll.length = 0
  · rw [if_pos h]
    refine ⟨by omega, by simp, by simp, fun j hj => ?_⟩
    obtain rfl : j = 0 := by simp at hj; omega
    simp [atl, padTo_length]
  · rw [if_neg h]
    refine ⟨by omega, by simp; omega, by simp; omega, fun j hj => ?_⟩
    simp only [List.length_map, List.length_take] at hj
    have h2 : j < ll.length := by omega
    have h3 : j < 3 := by omega
    simp [atl, h2, h3, padTo_length]
theorem factsI_step (ll : List (List Int)) (n j : Nat) (hj : j < ll.length) (h3 : j < 3) : ((ll.take 3).map (padTo (2 ^ n))).take (j + 1) = ((ll.take 3).map (padTo (2 ^ n))).take j ++ [padTo (2 ^ n) (atl ll j)] := by
  rw [List.take_add_one]
  congr 1
  simp [atl, hj, h3]
set_option maxHeartbeats 2000000 in
theorem keep_facts_few (ll : List (List Int)) (v : Value) (k : Int) (w : World) (hp : RowUU w v ll) (hcap : CapOk v) (hk : I64 k) (h0 : 0 < ll.length) (h3 : ll.length < 3) :
    Calls Tryd.prog 61 #[v, .int .i64 k] w fun e w' => ∃ v', e = .returned v' ∧ NewUU w.heap.size w' v' (factsI ll (k % 5).toNat) ∧ Below w.heap.size w w' := by
  have Hk := Lib.hid hk
  obtain ⟨h2, ad, cap, rfl, hr⟩ := hp
  obtain ⟨bl, off, rfl, hblt, hcell⟩ := hr h0
  have Hcell := Lib.hid hcell
  have hc := hcap _ _ _ rfl
  obtain ⟨n, hn⟩ : ∃ n, n = (k % 5).toNat := ⟨_, rfl⟩
  rw [← hn]
  have Hn := Lib.hid hn
  have hn4 : n ≤ 4 := by omega
  have h3i : (ll.length : Int) < 3 := by omega
  have hq : (ll.length : Int) ≤ (cap : Int) := by omega
  obtain ⟨F, hF⟩ : ∃ F, F = (ll.take 3).map (padTo (2 ^ n)) := ⟨_, rfl⟩
  have HF := Lib.hid (show factsI ll n = F by unfold factsI; rw [if_neg (by omega), hF])
  have HFs := Lib.hid (show ∀ j, j < ll.length → F.take (j + 1) = F.take j ++ [padTo (2 ^ n) (atl ll j)] from fun j hj => by rw [hF]; exact factsI_step ll n j (by omega) (by omega))
  have HFl := Lib.hid (show F.length = ll.length by rw [hF]; simp; omega)
  clear hcell hr hk hcap hn hF
  go_enter Tryd.func61, Tryd.ntmps61
  go_wp2
  go_loopw [5, 14] (fun o i wr => ∃ (j : Nat), j ≤ ll.length ∧ i = .int .i64 (j : Int) ∧ Hid (NewUU w.heap.size wr o (F.take j)) ∧ Hid (Below w.heap.size w wr)) (fun _ i _ => ll.length - (intOf i).toNat)
  case atStart => exact ⟨0, by omega, rfl, NewUU.nil _ _, Below.refl _ _⟩
  case round =>
    obtain ⟨j, hj, rfl, HO, HB⟩ := hrel
    by_cases hz : j < ll.length
    · obtain ⟨u, hu, hru⟩ := Hcell.out j (by omega)
      have hcw := (HB.out.cell (p := ⟨bl, off + j, none⟩) hblt).trans hu
      have Hru := Lib.hid (hru.below HB.out (Nat.le_refl _))
      have Hs := Lib.hid (HFs.out j hz)
      clear hru hu
      go_wp2_with (fail)
      refine (keep_table (atl ll j) _ k _ Hru.out Hk.out).mono ?_
      rintro e w1 ⟨rfl, hn1, hb1⟩
      rw [← Hn.out] at hn1 ⊢
      generalize hA : padTo (2 ^ n) (atl ll j) = A at *
      have HA := Lib.hid hA
      clear hA
      generalize hN : 2 ^ n = N at *
      have HN := Lib.hid hN
      clear hN
      obtain ⟨ao, co, eo⟩ := HO.out.isSlice
      subst eo
      have Hn1 := Lib.hid (hn1.mono HB.out.size)
      have hlo := Lib.hid (show ∀ g, (Value.slice ao (F.take j).length co).ownBlock = some g → (Value.slice (some ⟨wr.heap.size, 0, none⟩) N N).ownBlock ≠ some g from fun g h1 h2 => by
        have a2 := (HO.out.lt h1).2
        have a3 := (hn1.lt h2).1
        omega)
      have HO1 := Lib.hid (HO.out.below hb1 (Nat.le_refl _))
      have HB1 := Lib.hid (HB.out.trans (hb1.mono HB.out.size))
      have hsz := HB1.out.size
      have hcapk : (F.take j).length + 1 ≤ 5864062014634 := by simp; omega
      clear hn1 hb1
      generalize hTk : F.take j = TK at *
      have HTk := Lib.hid hTk
      clear hTk
      go_wp2_with (at_builtin; refine wpList_appUU rfl _ _ rfl w.heap.size (.slice ao TK.length co) _ rfl HO1.out _ _ Hn1.out hlo.out rfl hcapk hsz ?_; intro v5 w5 hn5 hu5 hb5; have Hn5 := Lib.hid hn5; clear hn5 hu5)
      go_roundw
      case rel => exact ⟨j + 1, by omega, by go_num, by rw [Hs.out]; exact Hn5.out, HB1.out.trans hb5⟩
      case measure => simp [intOf]; omega
    · obtain rfl : j = ll.length := by omega
      have HO1 := Lib.hid (show NewUU w.heap.size wr u5 F from by have := HO.out; rwa [List.take_of_length_le (by rw [HFl.out]; exact Nat.le_refl _)] at this)
      obtain ⟨ao, co, eo⟩ := HO1.out.isSlice
      subst eo
      have hne0 : ((F.length : Int) == 0) = false := by have := HFl.out; simp; intro e; rw [e] at this; simp at this <;> omega
      go_wp2
      go_ret
      exact ⟨_, rfl, by rw [HF.out]; exact HO1.out, HB.out⟩
set_option maxHeartbeats 2000000 in
theorem keep_facts_many (ll : List (List Int)) (v : Value) (k : Int) (w : World) (hp : RowUU w v ll) (hcap : CapOk v) (hk : I64 k) (h0 : 0 < ll.length) (h3 : 3 ≤ ll.length) :
    Calls Tryd.prog 61 #[v, .int .i64 k] w fun e w' => ∃ v', e = .returned v' ∧ NewUU w.heap.size w' v' (factsI ll (k % 5).toNat) ∧ Below w.heap.size w w' := by
  have Hk := Lib.hid hk
  obtain ⟨h2, ad, cap, rfl, hr⟩ := hp
  obtain ⟨bl, off, rfl, hblt, hcell⟩ := hr h0
  have Hcell := Lib.hid hcell
  have hc := hcap _ _ _ rfl
  obtain ⟨n, hn⟩ : ∃ n, n = (k % 5).toNat := ⟨_, rfl⟩
  rw [← hn]
  have Hn := Lib.hid hn
  have hn4 : n ≤ 4 := by omega
  have h3i : (3 : Int) ≤ (ll.length : Int) := by omega
  have hq : (3 : Int) ≤ (cap : Int) := by omega
  obtain ⟨F, hF⟩ : ∃ F, F = (ll.take 3).map (padTo (2 ^ n)) := ⟨_, rfl⟩
  have HF := Lib.hid (show factsI ll n = F by unfold factsI; rw [if_neg (by omega), hF])
  have HFs := Lib.hid (show ∀ j, j < 3 → F.take (j + 1) = F.take j ++ [padTo (2 ^ n) (atl ll j)] from fun j hj => by rw [hF]; exact factsI_step ll n j (by omega) (by omega))
  have HFl := Lib.hid (show F.length = 3 by rw [hF]; simp; omega)
  clear hcell hr hk hcap hn hF
  go_enter Tryd.func61, Tryd.ntmps61
  go_wp2
  go_loopw [5, 14] (fun o i wr => ∃ (j : Nat), j ≤ 3 ∧ i = .int .i64 (j : Int) ∧ Hid (NewUU w.heap.size wr o (F.take j)) ∧ Hid (Below w.heap.size w wr)) (fun _ i _ => 3 - (intOf i).toNat)
  case atStart => exact ⟨0, by omega, rfl, NewUU.nil _ _, Below.refl _ _⟩
  case round =>
    obtain ⟨j, hj, rfl, HO, HB⟩ := hrel
    by_cases hz : j < 3
    · obtain ⟨u, hu, hru⟩ := Hcell.out j (by omega)
      have hcw := (HB.out.cell (p := ⟨bl, off + j, none⟩) hblt).trans hu
      have Hru := Lib.hid (hru.below HB.out (Nat.le_refl _))
      have Hs := Lib.hid (HFs.out j hz)
      clear hru hu
      go_wp2_with (fail)
      refine (keep_table (atl ll j) _ k _ Hru.out Hk.out).mono ?_
      rintro e w1 ⟨rfl, hn1, hb1⟩
      rw [← Hn.out] at hn1 ⊢
      generalize hA : padTo (2 ^ n) (atl ll j) = A at *
      have HA := Lib.hid hA
      clear hA
      generalize hN : 2 ^ n = N at *
      have HN := Lib.hid hN
      clear hN
      obtain ⟨ao, co, eo⟩ := HO.out.isSlice
      subst eo
      have Hn1 := Lib.hid (hn1.mono HB.out.size)
      have hlo := Lib.hid (show ∀ g, (Value.slice ao (F.take j).length co).ownBlock = some g → (Value.slice (some ⟨wr.heap.size, 0, none⟩) N N).ownBlock ≠ some g from fun g h1 h2 => by
        have a2 := (HO.out.lt h1).2
        have a3 := (hn1.lt h2).1
        omega)
      have HO1 := Lib.hid (HO.out.below hb1 (Nat.le_refl _))
      have HB1 := Lib.hid (HB.out.trans (hb1.mono HB.out.size))
      have hsz := HB1.out.size
      have hcapk : (F.take j).length + 1 ≤ 5864062014634 := by simp; omega
      clear hn1 hb1
      generalize hTk : F.take j = TK at *
      have HTk := Lib.hid hTk
      clear hTk
      go_wp2_with (at_builtin; refine wpList_appUU rfl _ _ rfl w.heap.size (.slice ao TK.length co) _ rfl HO1.out _ _ Hn1.out hlo.out rfl hcapk hsz ?_; intro v5 w5 hn5 hu5 hb5; have Hn5 := Lib.hid hn5; clear hn5 hu5)
      go_roundw
      case rel => exact ⟨j + 1, by omega, by go_num, by rw [Hs.out]; exact Hn5.out, HB1.out.trans hb5⟩
      case measure => simp [intOf]; omega
    · obtain rfl : j = 3 := by omega
      have hcast : ((3 : Nat) : Int) = 3 := rfl
      have HO1 := Lib.hid (show NewUU w.heap.size wr u5 F from by have := HO.out; rwa [List.take_of_length_le (by rw [HFl.out]; exact Nat.le_refl _)] at this)
      obtain ⟨ao, co, eo⟩ := HO1.out.isSlice
      subst eo
      have hne0 : ((F.length : Int) == 0) = false := by have := HFl.out; simp; intro e; rw [e] at this; simp at this <;> omega
      go_wp2
      go_ret
      exact ⟨_, rfl, by rw [HF.out]; exact HO1.out, HB.out⟩
set_option maxHeartbeats 2000000 in
theorem keep_facts_none (ll : List (List Int)) (v : Value) (k : Int) (w : World) (hp : RowUU w v ll) (hcap : CapOk v) (hk : I64 k) (h0 : ll.length = 0) :
    Calls Tryd.prog 61 #[v, .int .i64 k] w fun e w' => ∃ v', e = .returned v' ∧ NewUU w.heap.size w' v' (factsI ll (k % 5).toNat) ∧ Below w.heap.size w w' := by
  have Hk := Lib.hid hk
  obtain ⟨h2, ad, cap, rfl, hr⟩ := hp
  have hc := hcap _ _ _ rfl
  obtain ⟨n, hn⟩ : ∃ n, n = (k % 5).toNat := ⟨_, rfl⟩
  rw [← hn]
  have Hn := Lib.hid hn
  have hmin : min (3 : Int) (ll.length : Int) = 0 := by omega
  have HF := Lib.hid (show factsI ll n = [padTo (2 ^ n) []] by unfold factsI; rw [if_pos h0])
  have hcc : (0 : Int) ≤ (cap : Int) := by omega
  clear hr hk hcap hn
  go_enter Tryd.func61, Tryd.ntmps61
  go_wp2
  go_loopw [5, 14] (fun o i wr => i = .int .i64 0 ∧ o = .slice none 0 0 ∧ w = wr) (fun _ i _ => 0)
  case atStart => exact ⟨rfl, rfl, rfl⟩
  case round =>
    obtain ⟨rfl, rfl, rfl⟩ := hrel
    go_wp2_with (fail)
    refine (keep_table [] _ k _ ⟨by simp, by simp, none, 0, rfl, fun h => by simp at h⟩ Hk.out).mono ?_
    rintro e w1 ⟨rfl, hn1, hb1⟩
    rw [← Hn.out] at hn1 ⊢
    generalize hA : padTo (2 ^ n) [] = A at *
    have HA := Lib.hid hA
    clear hA
    generalize hN : 2 ^ n = N at *
    have HN := Lib.hid hN
    clear hN
    have Hn1 := Lib.hid hn1
    have Hb1 := Lib.hid hb1
    have hsz := hb1.size
    have hlo := Lib.hid (show ∀ g, (Value.slice none 0 0).ownBlock = some g → (Value.slice (some ⟨w.heap.size, 0, none⟩) N N).ownBlock ≠ some g from fun g h1 => by cases h1)
    have HO1 := Lib.hid (NewUU.nil w.heap.size w1)
    have hcapk : ([] : List (List Int)).length + 1 ≤ 5864062014634 := by simp
    clear hn1 hb1
    go_wp2_with (at_builtin; refine wpList_appUU rfl _ _ rfl w.heap.size (.slice none 0 0) [] rfl HO1.out _ _ Hn1.out hlo.out rfl hcapk hsz ?_; intro v5 w5 hn5 hu5 hb5; have Hn5 := Lib.hid hn5; clear hn5 hu5)
    go_ret
    exact ⟨_, rfl, by rw [HF.out]; exact Hn5.out, Hb1.out.trans hb5⟩
theorem keep_facts (ll : List (List Int)) (v : Value) (k : Int) (w : World) (hp : RowUU w v ll) (hcap : CapOk v) (hk : I64 k) :
    Calls Tryd.prog 61 #[v, .int .i64 k] w fun e w' => ∃ v', e = .returned v' ∧ NewUU w.heap.size w' v' (factsI ll (k % 5).toNat) ∧ Below w.heap.size w w' := by
  by_cases h : ll.length = 0
  · exact keep_facts_none ll v k w hp hcap hk h
  · by_cases h3 : ll.length < 3
    · exact keep_facts_few ll v k w hp hcap hk (by omega) h3
    · exact keep_facts_many ll v k w hp hcap hk (by omega) (by omega)
end Go.Proofs.YtaaaoljllpbplaaDoor
