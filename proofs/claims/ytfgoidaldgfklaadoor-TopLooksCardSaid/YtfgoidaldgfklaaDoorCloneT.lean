/- slices.Clone and slices.Reverse at rows of int and of looks: from the kit's shelf. No condition. -/
import Derived.Test.YtfgoidaldgfklaaDoorIntsW
import Derived.Shelf.SlicesE.Reverse
import Derived.Shelf.SlicesE.Clone
import Derived.Shelf.SlicesQ.Reverse
import Derived.Lib.OwnBridge
namespace Go.Proofs.YtfgoidaldgfklaaDoor
set_option maxRecDepth 100000
set_option linter.unusedVariables false
open Go.RowKit Tally Go.Shelf Go.Sort Go.Deep
def renCI : Go.Shelf.Ren := ⟨fun | 41 => 15 | n => n, fun | 22 => 31 | 23 => 3 | 4 => 4 | n => n, fun | n => n⟩
theorem laysCI : Go.Proofs.SlLaysE0.n41 Tryd.prog renCI := {
  mixed := by kernel_rfl
  f41 := ⟨Tryd.f15.name, by decide, Tryd.func15.trans (congrArg some (by kernel_rfl))⟩
  t4 := Tryd.underlying4
  a4 := Tryd.isAgg4
  z4 := Tryd.sizeOf4
  v4 := Tryd.zeroValue4
  t22 := Tryd.underlying31
  a22 := Tryd.isAgg31
  z22 := Tryd.sizeOf31
  v22 := Tryd.zeroValue31 }
def renCK : Go.Shelf.Ren := ⟨fun | 41 => 17 | n => n, fun | 22 => 24 | 23 => 43 | 4 => 4 | n => n, fun | n => n⟩
theorem laysCK : Go.Proofs.SlLaysE0.n41 Tryd.prog renCK := {
  mixed := by kernel_rfl
  f41 := ⟨Tryd.f17.name, by decide, Tryd.func17.trans (congrArg some (by kernel_rfl))⟩
  t4 := Tryd.underlying4
  a4 := Tryd.isAgg4
  z4 := Tryd.sizeOf4
  v4 := Tryd.zeroValue4
  t22 := Tryd.underlying24
  a22 := Tryd.isAgg24
  z22 := Tryd.sizeOf24
  v22 := Tryd.zeroValue24 }
def renRI : Go.Shelf.Ren := ⟨fun | 35 => 16 | n => n, fun | 22 => 31 | 23 => 3 | 3 => 3 | 4 => 4 | 0 => 0 | n => n, fun | n => n⟩
theorem laysRI : Go.Proofs.SlLaysE.n35 Tryd.prog renRI := {
  mixed := by kernel_rfl
  f35 := ⟨Tryd.f16.name, by decide, Tryd.func16.trans (congrArg some (by kernel_rfl))⟩
  t0 := Tryd.underlying0
  a0 := Tryd.isAgg0
  z0 := Tryd.sizeOf0
  v0 := Tryd.zeroValue0
  t3 := Tryd.underlying3
  a3 := Tryd.isAgg3
  z3 := Tryd.sizeOf3
  v3 := Tryd.zeroValue3
  t4 := Tryd.underlying4
  a4 := Tryd.isAgg4
  z4 := Tryd.sizeOf4
  v4 := Tryd.zeroValue4
  t22 := Tryd.underlying31
  a22 := Tryd.isAgg31
  z22 := Tryd.sizeOf31
  v22 := Tryd.zeroValue31
  a23 := Tryd.isAgg3
  z23 := Tryd.sizeOf3 }
def renRK : Go.Shelf.Ren := ⟨fun | 35 => 18 | n => n, fun | 22 => 24 | 23 => 43 | 3 => 3 | 4 => 4 | 0 => 0 | n => n, fun | n => n⟩
theorem laysRK : Go.Proofs.SlLaysE0.n35 Tryd.prog renRK := {
  mixed := by kernel_rfl
  f35 := ⟨Tryd.f18.name, by decide, Tryd.func18.trans (congrArg some (by kernel_rfl))⟩
  t0 := Tryd.underlying0
  a0 := Tryd.isAgg0
  z0 := Tryd.sizeOf0
  v0 := Tryd.zeroValue0
  t3 := Tryd.underlying3
  a3 := Tryd.isAgg3
  z3 := Tryd.sizeOf3
  v3 := Tryd.zeroValue3
  t4 := Tryd.underlying4
  a4 := Tryd.isAgg4
  z4 := Tryd.sizeOf4
  v4 := Tryd.zeroValue4
  t22 := Tryd.underlying24
  a22 := Tryd.isAgg24
  z22 := Tryd.sizeOf24
  v22 := Tryd.zeroValue24 }
/-- the places that a call has collected, copied -/
theorem clone_I (B : Nat) (v : Value) (l : List Int) (w : World) (h : NewI B w v l) :
    Calls Tryd.prog 15 #[v] w fun e w' => ∃ v', e = .returned v' ∧ NewI w.heap.size w' v' l ∧ Below w.heap.size w w' := by
  obtain ⟨i0, hi, hz0, hz1, hz2⟩ := info_parts Tryd.infoI
  rcases h.2.2.2 with ⟨rfl, h0⟩ | ⟨g, cap, cur, rfl, hB, hg, hn, hm, hs, ht⟩
  · obtain rfl : l = [] := List.length_eq_zero_iff.mp h0
    refine (AnyE.slices_Clone_nil laysCI _ _ w).mono ?_
    rintro e w' ⟨rfl, rfl⟩
    exact ⟨_, rfl, NewI.nil _ _, Below.refl _ _⟩
  · refine (AnyE.slices_Clone laysCI i0 (.int .i64 0) 1 8 hi hz0 hz1 hz2 rfl (by decide) Tryd.sizeOf3 g 0 l.length cap (l.map (Value.int .i64)) w (by simp) (by have := h.2.1; unfold maxLen; omega) (by have := h.2.1; omega) ?_ ?_).mono ?_
    · intro j u hu
      have := h.2.2.cells (g := g) rfl j u hu
      rw [Addr.add_lit] at this
      exact this
    · intro u hu
      obtain ⟨x, _, rfl⟩ := List.mem_map.mp hu
      rfl
    · rintro e w' ⟨v', rfl, hown, _, hb⟩
      exact ⟨v', rfl, ⟨h.1, h.2.1, hown⟩, hb⟩
instance : Inhabited Int := ⟨0⟩
/-- a row of int that a call has made, turned round -/
theorem reverse_I (B : Nat) (v : Value) (l : List Int) (w : World) (h : NewI B w v l) :
    Calls Tryd.prog 16 #[v] w fun e w' => e = .returned (.tuple #[]) ∧ RowI w' v l.reverse ∧ Below B w w' := by
  by_cases h0 : l = []
  · subst h0
    obtain ⟨a, cap, rfl⟩ : ∃ a cap, v = .slice a 0 cap := by
      rcases h.2.2.2 with ⟨rfl, _⟩ | ⟨g, cap, cur, rfl, _⟩
      · exact ⟨_, _, rfl⟩
      · exact ⟨_, _, rfl⟩
    refine (AnyE.slices_Reverse_empty laysRI a cap w).mono ?_
    rintro e w' ⟨rfl, rfl⟩
    exact ⟨rfl, ⟨by simp, by simp, a, cap, rfl, fun h => absurd h (by simp)⟩, Below.refl _ _⟩
  · have hv : v ≠ .slice none 0 0 := by
      rintro rfl
      rcases h.2.2.2 with ⟨_, h1⟩ | ⟨g, cap, cur, e, _⟩
      · exact h0 (List.length_eq_zero_iff.mp h1)
      · cases e
    obtain ⟨g, cap, rfl, hB, hlt, hn, hm, hl, hH⟩ := Lib.holds_of_ownsRow h.2.2 hv
    refine (AnyE.slices_Reverse laysRI (Value.int .i64) (fun _ => rfl) g 0 cap l w hH (by have := h.2.1; omega)).mono ?_
    rintro e w' ⟨rfl, n, rfl⟩
    refine ⟨rfl, ⟨fun x hx => h.1 x (List.mem_reverse.mp hx), by rw [List.length_reverse]; have := h.2.1; omega, _, cap, by rw [List.length_reverse], fun _ => ⟨g, 0, rfl, by simpa [putRow, mapBlock, Sort.ahead] using hlt, fun j hj => ?_⟩⟩, Lib.below_putRow (Below.refl _ _) hB⟩
    have hH' : Holds (Value.int .i64) (Sort.ahead w n) g 0 l.toArray := hH
    have := (holds_putRow (Value.int .i64) (Sort.ahead w n) g 0 l.toArray l.reverse.toArray hH' (by simp) j (by simpa using hj)).1
    rw [this]
    simp [at0, getElem!_def]
    have : j < l.reverse.length := hj
    rw [List.getElem?_eq_getElem this]; simp
/-- a slice value -/
abbrev Sv := Option Addr × Nat × Nat
def slV (s : Sv) : Value := .slice s.1 s.2.1 s.2.2
def encL (p : Sv × Sv) : List Value := [slV p.1, slV p.2]
/-- a copy of a row of looks -/
def CloneK (B : Nat) (w : World) (v : Value) (l : List Lk) : Prop :=
  ∃ ds : List (Sv × Sv), ds.length = l.length ∧ l.length ≤ 1000 ∧ w.ownsRow B 43 2 v l.length (flatK encL 2 ds.toArray).toList ∧
    ∀ W, Below B w W → ∀ j, j < l.length → RowA W (slV (ds[j]!).1) (atk l j).pairs ∧ RowB W (slV (ds[j]!).2) (atk l j).paths
theorem flatK_at (ds : List (Sv × Sv)) (j : Nat) (hj : j < ds.length) : (flatK encL 2 ds.toArray).toList[j * 2]? = some (slV (ds[j]!).1) ∧ (flatK encL 2 ds.toArray).toList[j * 2 + 1]? = some (slV (ds[j]!).2) := by
  have key : ∀ t, t < ds.length * 2 → (flatK encL 2 ds.toArray).toList[t]? = some ((encL ds.toArray[t / 2]!)[t % 2]!) := fun t ht => by
    rw [Array.getElem?_toList, Array.getElem?_eq_getElem (by simpa using ht), ← getElem!_pos _ t (by simpa using ht), get_flatK _ _ _ t (by simpa using ht)]
  constructor
  · rw [key _ (by omega), show j * 2 / 2 = j by omega, show j * 2 % 2 = 0 by omega]
    simp [encL]
  · rw [key _ (by omega), show (j * 2 + 1) / 2 = j by omega, show (j * 2 + 1) % 2 = 1 by omega]
    simp [encL]
theorem clone_K (a : Option Addr) (cap : Nat) (l : List Lk) (w0 w : World) (hb0 : Below w0.heap.size w0 w) (h : RowK w0 (.slice a l.length cap) l) (ha : a = none ∨ ∃ g, a = some ⟨g, 0, none⟩) (hl : l.length ≤ 1000) :
    Calls Tryd.prog 17 #[.slice a l.length cap] w fun e w' => ∃ v', e = .returned v' ∧ CloneK w0.heap.size w' v' l ∧ Below w.heap.size w w' := by
  obtain ⟨i0, hi, hz0, hz1, hz2⟩ := info_parts Tryd.infoK
  obtain ⟨hlm, a', cap', e, hr⟩ := h
  cases e
  by_cases h0 : l = []
  · subst h0
    have hnil : ∀ W v', W.ownsRow w.heap.size 43 2 v' 0 [] → CloneK w0.heap.size W v' [] := fun W v' h => ⟨[], rfl, by simp, by simpa [flatK] using ownsRow_mono h hb0.size, fun W _ j hj => absurd hj (by simp)⟩
    rcases ha with rfl | ⟨g, rfl⟩
    · refine (AnyE.slices_Clone_nil laysCK _ _ w).mono ?_
      rintro e w' ⟨rfl, rfl⟩
      exact ⟨_, rfl, hnil _ _ (World.ownsRow_nil _ _ _ _), Below.refl _ _⟩
    · refine (AnyE.slices_Clone laysCK i0 _ 2 48 hi hz0 hz1 hz2 rfl (by decide) Tryd.sizeOf43 g 0 0 cap [] w (by simp) (by unfold maxLen; omega) (by omega) (fun j u hu => by simp at hu) (fun u hu => by simp at hu)).mono ?_
      rintro e w' ⟨v', rfl, hown, _, hb⟩
      exact ⟨v', rfl, hnil _ _ hown, hb⟩
  · have hpos : 0 < l.length := List.length_pos_iff.mpr h0
    obtain ⟨b, off, rfl, hblt, hcell⟩ := hr hpos
    have each : ∀ j, j < l.length → ∃ x : Sv × Sv, w.cell? ⟨b, off + j * 2, none⟩ = some (slV x.1) ∧ w.cell? ⟨b, off + j * 2 + 1, none⟩ = some (slV x.2) ∧ RowA w0 (slV x.1) (atk l j).pairs ∧ RowB w0 (slV x.2) (atk l j).paths := fun j hj => by
      obtain ⟨u, u2, c1, c2, h1, h2⟩ := hcell j hj
      replace c1 := (hb0.cell (p := ⟨b, off + j * 2, none⟩) hblt).trans c1
      replace c2 := (hb0.cell (p := ⟨b, off + j * 2 + 1, none⟩) hblt).trans c2
      obtain ⟨a1, n1, rfl⟩ := h1.isSlice
      obtain ⟨a2, n2, rfl⟩ := h2.isSlice
      exact ⟨((a1, _, n1), (a2, _, n2)), c1, c2, h1, h2⟩
    obtain ⟨G, hG⟩ := choose_lt each
    obtain ⟨ds, hds⟩ : ∃ ds, ds = (List.range l.length).map G := ⟨_, rfl⟩
    have hdl : ds.length = l.length := by rw [hds]; simp
    have hat : ∀ j, j < l.length → ds[j]! = G j := fun j hj => by rw [hds]; simp [hj]
    refine (AnyE.slices_Clone laysCK i0 _ 2 48 hi hz0 hz1 hz2 rfl (by decide) Tryd.sizeOf43 b off l.length cap (flatK encL 2 ds.toArray).toList w (by simp [hdl]) (by unfold maxLen; omega) (by omega) ?_ ?_).mono ?_
    · intro j u hu
      have hj : j < l.length * 2 := by
        have := (List.getElem?_eq_some_iff.mp hu).1
        simpa [hdl] using this
      obtain ⟨k1, k2⟩ := flatK_at ds (j / 2) (by omega)
      obtain ⟨c1, c2, -⟩ := hG (j / 2) (by omega)
      rw [hat _ (by omega)] at k1 k2
      rcases Nat.mod_two_eq_zero_or_one j with hm | hm
      · obtain rfl : u = slV (G (j / 2)).1 := by rw [show j / 2 * 2 = j by omega, hu] at k1; simpa using k1
        rw [show off + j = off + j / 2 * 2 by omega]; exact c1
      · obtain rfl : u = slV (G (j / 2)).2 := by rw [show j / 2 * 2 + 1 = j by omega, hu] at k2; simpa using k2
        rw [show off + j = off + j / 2 * 2 + 1 by omega]; exact c2
    · intro u hu
      obtain ⟨j, hj, rfl⟩ := List.getElem_of_mem hu
      have hj' : j < l.length * 2 := by simpa [hdl] using hj
      obtain ⟨k1, k2⟩ := flatK_at ds (j / 2) (by omega)
      rcases Nat.mod_two_eq_zero_or_one j with hm | hm
      · rw [show j / 2 * 2 = j by omega, List.getElem?_eq_getElem hj] at k1
        rw [Option.some.inj k1]; rfl
      · rw [show j / 2 * 2 + 1 = j by omega, List.getElem?_eq_getElem hj] at k2
        rw [Option.some.inj k2]; rfl
    · rintro e w' ⟨v', rfl, hown, _, hb⟩
      refine ⟨v', rfl, ⟨ds, hdl, hl, ownsRow_mono hown hb0.size, fun W hW j hj => ?_⟩, hb⟩
      have hbW := (hb0.trans (hb.mono hb0.size)).trans hW
      rw [hat j hj]
      obtain ⟨-, -, h1, h2⟩ := hG j hj
      exact ⟨h1.go hbW, h2.go hbW⟩
theorem atk_reverse (l : List Lk) (j : Nat) (hj : j < l.length) : atk l.reverse j = atk l (l.length - 1 - j) := by
  simp [atk, List.getElem?_reverse hj]
set_option maxHeartbeats 1000000 in
theorem reverse_K (B : Nat) (v : Value) (l : List Lk) (w : World) (h : CloneK B w v l) :
    Calls Tryd.prog 18 #[v] w fun e w' => e = .returned (.tuple #[]) ∧ RowK w' v l.reverse ∧ Below B w w' ∧ (∀ k, v.ownBlock ≠ some k → w'.heap[k]? = w.heap[k]?) := by
  obtain ⟨ds, hdl, hl, hown, hK⟩ := h
  by_cases h0 : l = []
  · subst h0
    obtain ⟨a, cap, rfl⟩ : ∃ a cap, v = .slice a 0 cap := by
      rcases hown.2 with ⟨rfl, _⟩ | ⟨g, cap, cur, rfl, _⟩
      · exact ⟨_, _, rfl⟩
      · exact ⟨_, _, rfl⟩
    refine (AnyQ.slices_Reverse_empty laysRK a cap w).mono ?_
    rintro e w' ⟨rfl, rfl⟩
    exact ⟨rfl, ⟨by simp, a, cap, rfl, fun h => absurd h (by simp)⟩, Below.refl _ _, fun _ _ => rfl⟩
  · have hpos : 0 < l.length := List.length_pos_iff.mpr h0
    rcases hown.2 with ⟨rfl, h1⟩ | ⟨g, cap, cur, rfl, hB, hg, hn, hm, hs, ht⟩
    · omega
    · have hlt : g < w.heap.size := (Array.getElem?_eq_some_iff.1 hg).1
      have hH : HoldsK encL 2 w g 0 ds.toArray := by
        intro j hj
        have hj' : j < l.length * 2 := by simpa [hdl] using hj
        have hc := hown.cells (g := g) rfl j ((flatK encL 2 ds.toArray)[j]!) (by
          rw [Array.getElem?_toList, Array.getElem?_eq_getElem hj, getElem!_pos _ j hj])
        rw [Addr.add_lit] at hc
        exact ⟨hc, by simp [World.frozen?, hg]⟩
      have hsz : ds.toArray.size = l.length := by simpa using hdl
      have CC := AnyQ.slices_Reverse laysRK 2 Tryd.isAgg43 Tryd.sizeOf43 encL (fun _ => rfl) (fun x v hv => by
        simp only [encL, List.mem_cons, List.not_mem_nil, or_false] at hv
        rcases hv with rfl | rfl <;> rfl) g 0 cap ds.toArray w hH (by omega)
      rw [hsz] at CC
      refine CC.mono ?_
      rintro e w' ⟨rfl, n, rfl⟩
      have hb : Below B w (putRowK encL 2 (Sort.ahead w n) g 0 ds.toArray.reverse) := Lib.below_putRow (Below.refl _ _) hB
      have hoth : ∀ k, (Value.slice (some ⟨g, 0, none⟩) l.length cap).ownBlock ≠ some k → (putRowK encL 2 (Sort.ahead w n) g 0 ds.toArray.reverse).heap[k]? = w.heap[k]? := fun k hk => by
        have : g ≠ k := fun e => hk (by rw [← e]; rfl)
        simp [putRowK, putRow, mapBlock, Sort.ahead, Array.getElem?_modify, this]
      refine ⟨rfl, ⟨by rw [List.length_reverse]; omega, _, cap, by rw [List.length_reverse], fun _ => ⟨g, 0, rfl, by simpa [putRowK, putRow, mapBlock, Sort.ahead] using hlt, fun j hj => ?_⟩⟩, hb, hoth⟩
      rw [List.length_reverse] at hj
      have hH' : HoldsK encL 2 (Sort.ahead w n) g 0 ds.toArray := hH
      have hP := holdsK_putRowK encL 2 (Sort.ahead w n) g 0 ds.toArray ds.toArray.reverse hH' (by simp)
      have hat : ∀ t, t < l.length * 2 → (putRowK encL 2 (Sort.ahead w n) g 0 ds.toArray.reverse).cell? ⟨g, 0 + t, none⟩ = some ((encL ds.reverse.toArray[t / 2]!)[t % 2]!) := fun t ht => by
        have := (hP t (by simpa [hdl] using ht)).1
        rw [id, get_flatK _ _ _ t (by simpa [hdl] using ht)] at this
        rw [this]; simp
      have hr : (ds.reverse.toArray)[j]! = ds[l.length - 1 - j]! := by
        rw [getElem!_pos _ j (by simpa [hdl] using hj), getElem!_pos _ (l.length - 1 - j) (by omega)]
        simp [List.getElem_reverse, hdl]
      obtain ⟨h1, h2⟩ := hK _ hb (l.length - 1 - j) (by omega)
      refine ⟨slV (ds[l.length - 1 - j]!).1, slV (ds[l.length - 1 - j]!).2, ?_, ?_, by rw [atk_reverse _ _ hj]; exact h1, by rw [atk_reverse _ _ hj]; exact h2⟩
      · rw [hat _ (by omega), show j * 2 / 2 = j by omega, show j * 2 % 2 = 0 by omega, hr]; rfl
      · rw [Nat.add_assoc, hat _ (by omega), show (j * 2 + 1) / 2 = j by omega, show (j * 2 + 1) % 2 = 1 by omega, hr]; rfl
end Go.Proofs.YtfgoidaldgfklaaDoor
