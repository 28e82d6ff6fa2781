/- Several texts in one: Opening, Looks, LookApp. What each says, and its conditions, stands at its head. -/
import Derived.Test.YtcihkechphldcaaDoorOpen
import Derived.Test.YtcihkechphldcaaDoorFar
import Derived.Lib.SmallJoins
import Derived.Deep.Slices
import Derived.Deep.Strs
import Derived.Deep.RegionLaw
/- Openings in memory: what is meant by an opening that reads as data; how it is opened. No condition. -/
namespace Go.Proofs.YtcihkechphldcaaDoor
set_option maxRecDepth 100000
set_option linter.unusedVariables false
open Go.ChangeShapes Go.WideShapes Go.ChangeAt Go.RowKit Go.Deep Go.Joins
/-- one look, in numbers -/
structure Lk where
  pairs : List (Int × Int)
  paths : List (List Int × List Int)
/-- an opening, in numbers -/
structure Oi where
  roots : List Int
  value : Int
  looks : List Lk
instance : Inhabited Lk := ⟨⟨[], []⟩⟩
abbrev look0 : Lk := ⟨[], []⟩
abbrev atk (l : List Lk) (j : Nat) : Lk := l[j]?.getD look0
abbrev ata (l : List (Int × Int)) (j : Nat) : Int × Int := l[j]?.getD (0, 0)
abbrev atb (l : List (List Int × List Int)) (j : Nat) : List Int × List Int := l[j]?.getD ([], [])
/-- v is a slice of pairs that reads as l -/
def RowA (w : World) (v : Value) (l : List (Int × Int)) : Prop :=
  l.length ≤ 9223372036854775807 ∧ ∃ a cap, v = .slice a l.length cap ∧
    (0 < l.length → ∃ b off, a = some ⟨b, off, none⟩ ∧ b < w.heap.size ∧ ∀ j, j < l.length →
      (U64 (ata l j).1 ∧ U64 (ata l j).2) ∧ w.cell? ⟨b, off + j * 2, none⟩ = some (.int .u64 (ata l j).1) ∧ w.cell? ⟨b, off + j * 2 + 1, none⟩ = some (.int .u64 (ata l j).2))
/-- v is a slice of pairs of paths that reads as l -/
def RowB (w : World) (v : Value) (l : List (List Int × List Int)) : Prop :=
  l.length ≤ 9223372036854775807 ∧ ∃ a cap, v = .slice a l.length cap ∧
    (0 < l.length → ∃ b off, a = some ⟨b, off, none⟩ ∧ b < w.heap.size ∧ ∀ j, j < l.length →
      ∃ u u2, w.cell? ⟨b, off + j * 2, none⟩ = some u ∧ w.cell? ⟨b, off + j * 2 + 1, none⟩ = some u2 ∧ (RowU w u (atb l j).1 ∧ CapOk u) ∧ RowU w u2 (atb l j).2 ∧ CapOk u2)
/-- v is a slice of looks that reads as l -/
def RowK (w : World) (v : Value) (l : List Lk) : Prop :=
  l.length ≤ 9223372036854775807 ∧ ∃ a cap, v = .slice a l.length cap ∧
    (0 < l.length → ∃ b off, a = some ⟨b, off, none⟩ ∧ b < w.heap.size ∧ ∀ j, j < l.length →
      ∃ u u2, w.cell? ⟨b, off + j * 2, none⟩ = some u ∧ w.cell? ⟨b, off + j * 2 + 1, none⟩ = some u2 ∧ RowA w u (atk l j).pairs ∧ RowB w u2 (atk l j).paths)
/-- v is an opening that reads as o -/
def IsO (w : World) (v : Value) (o : Oi) : Prop := ∃ u u2, v = .agg #[u, .int .u64 o.value, u2] ∧ U64 o.value ∧ RowU w u o.roots ∧ RowK w u2 o.looks
theorem RowA.go {w w' : World} {v : Value} {l : List (Int × Int)} (h : RowA w v l) (hb : Below w.heap.size w w') : RowA w' v l := by
  obtain ⟨h2, a, cap, rfl, h3⟩ := h
  refine ⟨h2, a, cap, rfl, fun hl => ?_⟩
  obtain ⟨b, off, rfl, hlt, hc⟩ := h3 hl
  refine ⟨b, off, rfl, Nat.lt_of_lt_of_le hlt hb.size, fun j hj => ?_⟩
  obtain ⟨u, c1, c2⟩ := hc j hj
  exact ⟨u, by rw [hb.cell (by exact hlt)]; exact c1, by rw [hb.cell (by exact hlt)]; exact c2⟩
theorem RowB.go {w w' : World} {v : Value} {l : List (List Int × List Int)} (h : RowB w v l) (hb : Below w.heap.size w w') : RowB w' v l := by
  obtain ⟨h2, a, cap, rfl, h3⟩ := h
  refine ⟨h2, a, cap, rfl, fun hl => ?_⟩
  obtain ⟨b, off, rfl, hlt, hc⟩ := h3 hl
  refine ⟨b, off, rfl, Nat.lt_of_lt_of_le hlt hb.size, fun j hj => ?_⟩
  obtain ⟨u, u2, c1, c2, ⟨r1, k1⟩, r2, k2⟩ := hc j hj
  exact ⟨u, u2, by rw [hb.cell (by exact hlt)]; exact c1, by rw [hb.cell (by exact hlt)]; exact c2, ⟨r1.go hb, k1⟩, r2.go hb, k2⟩
theorem RowK.go {w w' : World} {v : Value} {l : List Lk} (h : RowK w v l) (hb : Below w.heap.size w w') : RowK w' v l := by
  obtain ⟨h2, a, cap, rfl, h3⟩ := h
  refine ⟨h2, a, cap, rfl, fun hl => ?_⟩
  obtain ⟨b, off, rfl, hlt, hc⟩ := h3 hl
  refine ⟨b, off, rfl, Nat.lt_of_lt_of_le hlt hb.size, fun j hj => ?_⟩
  obtain ⟨u, u2, c1, c2, r1, r2⟩ := hc j hj
  exact ⟨u, u2, by rw [hb.cell (by exact hlt)]; exact c1, by rw [hb.cell (by exact hlt)]; exact c2, r1.go hb, r2.go hb⟩
theorem IsO.go {w w' : World} {v : Value} {o : Oi} (h : IsO w v o) (hb : Below w.heap.size w w') : IsO w' v o := by
  obtain ⟨u, u2, rfl, h1, h2, h3⟩ := h
  exact ⟨u, u2, rfl, h1, h2.go hb, h3.go hb⟩
theorem RowA.isSlice {w : World} {v : Value} {l : List (Int × Int)} (h : RowA w v l) : ∃ a c, v = .slice a l.length c := by
  obtain ⟨_, a, cap, rfl, _⟩ := h; exact ⟨_, _, rfl⟩
theorem RowB.isSlice {w : World} {v : Value} {l : List (List Int × List Int)} (h : RowB w v l) : ∃ a c, v = .slice a l.length c := by
  obtain ⟨_, a, cap, rfl, _⟩ := h; exact ⟨_, _, rfl⟩
theorem RowK.isSlice {w : World} {v : Value} {l : List Lk} (h : RowK w v l) : ∃ a c, v = .slice a l.length c := by
  obtain ⟨_, a, cap, rfl, _⟩ := h; exact ⟨_, _, rfl⟩
theorem lt_of_cellO {W : World} {a : Addr} {v : Value} (h : W.cell? a = some v) : a.block < W.heap.size := by
  rcases Nat.lt_or_ge a.block W.heap.size with h' | h'
  · exact h'
  · simp [World.cell?, Array.getElem?_eq_none h'] at h
theorem cellsOU64 : Tryd.prog.cellsOf 31 = 1 := by kernel_rfl
theorem cellsOU64s : Tryd.prog.cellsOf 22 = 1 := by kernel_rfl
theorem cellsOPair : Tryd.prog.cellsOf 52 = 2 := by kernel_rfl
theorem cellsOPairs : Tryd.prog.cellsOf 47 = 1 := by kernel_rfl
theorem cellsOPath : Tryd.prog.cellsOf 53 = 2 := by kernel_rfl
theorem cellsOPaths : Tryd.prog.cellsOf 48 = 1 := by kernel_rfl
theorem cellsOLook : Tryd.prog.cellsOf 50 = 2 := by kernel_rfl
theorem cellsOLooks : Tryd.prog.cellsOf 40 = 1 := by kernel_rfl
theorem cellsOOpening : Tryd.prog.cellsOf 42 = 3 := by kernel_rfl
theorem trod_u64sC {H : Type} {enc : TypeId × Value → H} {W : World} {fuel : Nat} {v : Value} {x : DataW H × List MemPlace} {held : Bool}
    (h : DataW.trod enc Tryd.prog W 0 (fun _ => true) held fuel 22 [v] = some x) : ∃ l, RowU W v l ∧ CapOk v := by
  rcases open_ints Tryd.underlying22 Tryd.underlying31 (by kernel_rfl) h with ⟨hcs, _⟩ | ⟨y, len', cap', zs, hcs, _, hl, hm, hz, _, hcell, hwz⟩
  · obtain rfl : v = .slice none 0 0 := by simpa using hcs
    obtain ⟨l, hl⟩ := trod_u64s h
    exact ⟨l, hl, CapOk.mk (by omega) (by omega)⟩
  · obtain rfl : v = .slice (some y) len' cap' := by simpa using hcs
    obtain ⟨l, hl'⟩ := trod_u64s h
    exact ⟨l, hl', CapOk.mk hl (by unfold maxLen at hm; exact hm)⟩
theorem trod_array2 {H : Type} {enc : TypeId × Value → H} {P : Program} {w : World} {base : Nat} {spare : Nat → Bool} {held : Bool} {t e : TypeId} {fuel : Nat} {c0 c1 : Value} {x : DataW H × List MemPlace} (ht : P.underlying t = some (.array 2 e)) (hce : P.cellsOf e = 1)
    (h : DataW.trod enc P w base spare held fuel t [c0, c1] = some x) :
    ∃ y0 y1 n, DataW.trod enc P w base spare held n e [c0] = some y0 ∧ DataW.trod enc P w base spare held n e [c1] = some y1 := by
  obtain ⟨xs, m, _, _, _, hl, hx⟩ := DataW.trod_array ht h
  match xs, hl with
  | [y0, y1], _ =>
    have h0 := hx 0 (by omega)
    have h1 := hx 1 (by omega)
    rw [hce] at h0 h1
    exact ⟨y0, y1, m, by simpa using h0, by simpa using h1⟩
theorem trod_pairs {H : Type} {enc : TypeId × Value → H} {W : World} {fuel : Nat} {v : Value} {x : DataW H × List MemPlace} {held : Bool}
    (h : DataW.trod enc Tryd.prog W 0 (fun _ => true) held fuel 47 [v] = some x) : ∃ l, RowA W v l := by
  rcases open_slice Tryd.underlying47 h with ⟨hcs, _⟩ | ⟨a, len, cap, m, n, D, Pl, hcs, _, hl, hm, hmm, _, hx⟩
  · obtain rfl : v = .slice none 0 0 := by simpa using hcs
    exact ⟨[], by simp, none, 0, rfl, fun h => by simp at h⟩
  · obtain rfl : v = .slice (some a) len cap := by simpa using hcs
    simp only [if_true] at hmm
    subst hmm
    rw [cellsOPair] at hx
    obtain ⟨b, off, spot⟩ := a
    have each : ∀ i, i < len → ∃ y : Int × Int, (U64 y.1 ∧ U64 y.2) ∧ W.cell? ((⟨b, off, spot⟩ : Addr).add (i * 2)) = some (.int .u64 y.1) ∧ W.cell? ((⟨b, off, spot⟩ : Addr).add (i * 2 + 1)) = some (.int .u64 y.2) := by
      intro i hi
      obtain ⟨cs', h1, h2⟩ := hx i (by omega)
      obtain ⟨_, hlen, hat⟩ := World.cells?_some h1
      match cs', hlen with
      | [c0, c1], _ =>
        obtain ⟨y0, y1, n', t0, t1⟩ := trod_array2 Tryd.underlying52 cellsOU64 h2
        obtain ⟨m0, e0, _, w0⟩ := DataW.trod_int Tryd.underlying31 t0
        obtain ⟨m1, e1, _, w1⟩ := DataW.trod_int Tryd.underlying31 t1
        have a0 := hat 0 (by omega)
        have a1 := hat 1 (by omega)
        rw [Go.Deep.add_add] at a0 a1
        obtain rfl : c0 = .int .u64 m0 := by simpa using e0
        obtain rfl : c1 = .int .u64 m1 := by simpa using e1
        exact ⟨⟨m0, m1⟩, ⟨U64.of_wf w0, U64.of_wf w1⟩, by simpa using a0, by simpa using a1⟩
    obtain ⟨G, hG⟩ := choose_lt each
    have hlen : ((List.range len).map G).length = len := by simp
    have hat : ∀ j, j < len → ata ((List.range len).map G) j = G j := fun j hj => by simp [ata, hj]
    refine ⟨(List.range len).map G, by rw [hlen]; unfold maxLen at hm; omega, _, _, by rw [hlen], fun h0 => ?_⟩
    rw [hlen] at h0
    obtain ⟨_, hc, _⟩ := hG 0 h0
    have hspot : spot = none := by simpa [Addr.add] using World.cell?_spot hc
    subst hspot
    refine ⟨b, off, rfl, by simpa [Addr.add] using lt_of_cellO hc, fun j hj => ?_⟩
    rw [hlen] at hj
    rw [hat j hj]
    obtain ⟨u, c0, c1⟩ := hG j hj
    rw [Addr.add_lit] at c0 c1
    exact ⟨u, c0, c1⟩
theorem trod_paths {H : Type} {enc : TypeId × Value → H} {W : World} {fuel : Nat} {v : Value} {x : DataW H × List MemPlace} {held : Bool}
    (h : DataW.trod enc Tryd.prog W 0 (fun _ => true) held fuel 48 [v] = some x) : ∃ l, RowB W v l := by
  rcases open_slice Tryd.underlying48 h with ⟨hcs, _⟩ | ⟨a, len, cap, m, n, D, Pl, hcs, _, hl, hm, hmm, _, hx⟩
  · obtain rfl : v = .slice none 0 0 := by simpa using hcs
    exact ⟨[], by simp, none, 0, rfl, fun h => by simp at h⟩
  · obtain rfl : v = .slice (some a) len cap := by simpa using hcs
    simp only [if_true] at hmm
    subst hmm
    rw [cellsOPath] at hx
    obtain ⟨b, off, spot⟩ := a
    have each : ∀ i, i < len → ∃ y : List Int × List Int, ∃ u u2, W.cell? ((⟨b, off, spot⟩ : Addr).add (i * 2)) = some u ∧ W.cell? ((⟨b, off, spot⟩ : Addr).add (i * 2 + 1)) = some u2 ∧ (RowU W u y.1 ∧ CapOk u) ∧ RowU W u2 y.2 ∧ CapOk u2 := by
      intro i hi
      obtain ⟨cs', h1, h2⟩ := hx i (by omega)
      obtain ⟨_, hlen, hat⟩ := World.cells?_some h1
      match cs', hlen with
      | [c0, c1], _ =>
        obtain ⟨y0, y1, n', t0, t1⟩ := trod_array2 Tryd.underlying53 cellsOU64s h2
        obtain ⟨l0, r0, k0⟩ := trod_u64sC t0
        obtain ⟨l1, r1, k1⟩ := trod_u64sC t1
        have a0 := hat 0 (by omega)
        have a1 := hat 1 (by omega)
        rw [Go.Deep.add_add] at a0 a1
        exact ⟨⟨l0, l1⟩, c0, c1, by simpa using a0, by simpa using a1, ⟨r0, k0⟩, r1, k1⟩
    obtain ⟨G, hG⟩ := choose_lt each
    have hlen : ((List.range len).map G).length = len := by simp
    have hat : ∀ j, j < len → atb ((List.range len).map G) j = G j := fun j hj => by simp [atb, hj]
    refine ⟨(List.range len).map G, by rw [hlen]; unfold maxLen at hm; omega, _, _, by rw [hlen], fun h0 => ?_⟩
    rw [hlen] at h0
    obtain ⟨_, _, hc, _⟩ := hG 0 h0
    have hspot : spot = none := by simpa [Addr.add] using World.cell?_spot hc
    subst hspot
    refine ⟨b, off, rfl, by simpa [Addr.add] using lt_of_cellO hc, fun j hj => ?_⟩
    rw [hlen] at hj
    rw [hat j hj]
    obtain ⟨u, u2, c0, c1, r⟩ := hG j hj
    rw [Addr.add_lit] at c0 c1
    exact ⟨u, u2, c0, c1, r⟩
theorem trod_looks {H : Type} {enc : TypeId × Value → H} {W : World} {fuel : Nat} {v : Value} {x : DataW H × List MemPlace} {held : Bool}
    (h : DataW.trod enc Tryd.prog W 0 (fun _ => true) held fuel 40 [v] = some x) : ∃ l, RowK W v l := by
  rcases open_slice Tryd.underlying40 h with ⟨hcs, _⟩ | ⟨a, len, cap, m, n, D, Pl, hcs, _, hl, hm, hmm, _, hx⟩
  · obtain rfl : v = .slice none 0 0 := by simpa using hcs
    exact ⟨[], by simp, none, 0, rfl, fun h => by simp at h⟩
  · obtain rfl : v = .slice (some a) len cap := by simpa using hcs
    simp only [if_true] at hmm
    subst hmm
    rw [cellsOLook] at hx
    obtain ⟨b, off, spot⟩ := a
    have each : ∀ i, i < len → ∃ y : Lk, ∃ u u2, W.cell? ((⟨b, off, spot⟩ : Addr).add (i * 2)) = some u ∧ W.cell? ((⟨b, off, spot⟩ : Addr).add (i * 2 + 1)) = some u2 ∧ RowA W u y.pairs ∧ RowB W u2 y.paths := by
      intro i hi
      obtain ⟨cs', h1, h2⟩ := hx i (by omega)
      obtain ⟨_, hlen, hat⟩ := World.cells?_some h1
      obtain ⟨y0, y1, n', _, _, t0, t1⟩ := trod_struct2 Tryd.underlying50 h2
      match cs', hlen with
      | [c0, c1], _ =>
        simp only [cellsOPairs, cellsOPaths] at t0 t1
        obtain ⟨l0, r0⟩ := trod_pairs (v := c0) (by simpa using t0)
        obtain ⟨l1, r1⟩ := trod_paths (v := c1) (by simpa using t1)
        have a0 := hat 0 (by omega)
        have a1 := hat 1 (by omega)
        rw [Go.Deep.add_add] at a0 a1
        exact ⟨⟨l0, l1⟩, c0, c1, by simpa using a0, by simpa using a1, r0, r1⟩
    obtain ⟨G, hG⟩ := choose_lt each
    have hlen : ((List.range len).map G).length = len := by simp
    have hat : ∀ j, j < len → atk ((List.range len).map G) j = G j := fun j hj => by simp [atk, hj]
    refine ⟨(List.range len).map G, by rw [hlen]; unfold maxLen at hm; omega, _, _, by rw [hlen], fun h0 => ?_⟩
    rw [hlen] at h0
    obtain ⟨_, _, hc, _⟩ := hG 0 h0
    have hspot : spot = none := by simpa [Addr.add] using World.cell?_spot hc
    subst hspot
    refine ⟨b, off, rfl, by simpa [Addr.add] using lt_of_cellO hc, fun j hj => ?_⟩
    rw [hlen] at hj
    rw [hat j hj]
    obtain ⟨u, u2, c0, c1, r⟩ := hG j hj
    rw [Addr.add_lit] at c0 c1
    exact ⟨u, u2, c0, c1, r⟩
theorem open_opening {H : Type} {enc : TypeId × Value → H} {W : World} {base : Nat} {v : Value} {x : DataW H} {p : List MemPlace} {held : Bool}
    (hv : Value.okWide Tryd.prog W .any base 42 v) (h : DataW.Trod enc Tryd.prog W 0 (fun _ => true) held 42 v x p) : ∃ o, IsO W v o := by
  obtain ⟨cs, rfl, hsz⟩ := okWide_struct Tryd.underlying42 hv
  obtain ⟨fuel, hf⟩ := h
  obtain ⟨y0, y1, y2, n, _, _, t0, t1, t2⟩ := trod_struct3 Tryd.underlying42 hf
  have hs3 : cs.size = 3 := hsz.trans cellsOOpening
  match cs, hs3 with
  | ⟨[c0, c1, c2]⟩, _ =>
    obtain ⟨l0, r0⟩ := trod_u64sC (v := c0) (by simpa [Value.cells, cellsOU64s] using t0)
    obtain ⟨m1, e1, _, w1⟩ := DataW.trod_int Tryd.underlying31 t1
    obtain rfl : c1 = .int .u64 m1 := by simpa [Value.cells, cellsOU64] using e1
    obtain ⟨l2, r2⟩ := trod_looks (v := c2) (by simpa [Value.cells, cellsOLooks] using t2)
    exact ⟨⟨l0, m1, l2⟩, c0, c2, rfl, U64.of_wf w1, r0.1, r2⟩
/-- v is a slice of int that reads as l -/
def RowI (w : World) (v : Value) (l : List Int) : Prop :=
  (∀ x ∈ l, I64 x) ∧ l.length ≤ 9223372036854775807 ∧ ∃ a cap, v = .slice a l.length cap ∧
    (0 < l.length → ∃ b off, a = some ⟨b, off, none⟩ ∧ b < w.heap.size ∧ ∀ j, j < l.length → w.cell? ⟨b, off + j, none⟩ = some (.int .i64 (at0 l j)))
theorem RowI.go {w w' : World} {v : Value} {l : List Int} (h : RowI w v l) (hb : Below w.heap.size w w') : RowI w' v l := by
  obtain ⟨h1, h2, a, cap, rfl, h3⟩ := h
  refine ⟨h1, h2, a, cap, rfl, fun hl => ?_⟩
  obtain ⟨b, off, rfl, hlt, hc⟩ := h3 hl
  exact ⟨b, off, rfl, Nat.lt_of_lt_of_le hlt hb.size, fun j hj => by rw [hb.cell (by exact hlt)]; exact hc j hj⟩
theorem open_intsI {H : Type} {enc : TypeId × Value → H} {W : World} {base : Nat} {v : Value} {x : DataW H} {p : List MemPlace} {held : Bool}
    (hv : Value.okWide Tryd.prog W .any base 45 v) (h : DataW.Trod enc Tryd.prog W 0 (fun _ => true) held 45 v x p) :
    ∃ l, RowI W v l := by
  obtain ⟨a, len, cap, rfl⟩ := okWide_slice Tryd.underlying45 hv
  obtain ⟨fuel, hf⟩ := h
  rcases open_ints Tryd.underlying45 Tryd.underlying3 (by kernel_rfl) (by simpa [Value.cells] using hf) with ⟨hcs, _⟩ | ⟨y, len', cap', zs, hcs, _, hl, hm, hz, _, hcell, hwz⟩
  · simp only [List.cons.injEq, Value.slice.injEq, and_true] at hcs
    obtain ⟨rfl, rfl, rfl⟩ := hcs
    exact ⟨[], by simp, by simp, none, 0, rfl, fun h => by simp at h⟩
  · simp only [List.cons.injEq, Value.slice.injEq, and_true] at hcs
    obtain ⟨rfl, rfl, rfl⟩ := hcs
    simp only [if_true] at hz
    have hlen : (zs.take len).length = len := by rw [List.length_take]; omega
    refine ⟨zs.take len, fun x hx => I64.of_wf (hwz x (List.mem_of_mem_take hx)), by rw [hlen]; unfold maxLen at hm; omega, some y, cap, by rw [hlen], fun h0 => ?_⟩
    rw [hlen] at h0
    obtain ⟨b, off, spot⟩ := y
    have hc := hcell 0 (by omega)
    have hspot : spot = none := by simpa [Addr.add] using World.cell?_spot hc
    subst hspot
    refine ⟨b, off, rfl, by simpa [Addr.add] using lt_of_cellO hc, fun j hj => ?_⟩
    rw [hlen] at hj
    have := hcell j (by omega)
    rw [Addr.add_lit] at this
    rw [this]
    simp [at0, hj]
end Go.Proofs.YtcihkechphldcaaDoor

/- Rows of pairs, of paths, of looks that a call makes, and appends to. No condition. -/
namespace Go.Proofs.YtcihkechphldcaaDoor
set_option maxRecDepth 100000
set_option linter.unusedVariables false
open Go.ChangeShapes Go.WideShapes Go.ChangeAt Go.RowKit Go.Deep Go.Joins
theorem gB_refl (w : World) (r : Option Nat) : w.grownBy w r := ⟨rfl, rfl, rfl, Nat.le_refl _, fun _ _ _ => rfl⟩
theorem grownBy_chainL {a b c : World} {r : Option Nat} (h : a.grownBy b r) (k : b.grownBy c r) : a.grownBy c r :=
  ⟨k.os.trans h.os, k.tape.trans h.tape, k.output.trans h.output, Nat.le_trans h.size k.size, fun i hi hr => (k.block i (Nat.lt_of_lt_of_le hi h.size) hr).trans (h.block i hi hr)⟩
theorem below_toGrownL {w w' : World} (h : Below w.heap.size w w') (r : Option Nat) : w.grownBy w' r := ⟨h.os, h.tape, h.output, h.size, fun k hk _ => h.block k hk⟩
theorem RowU.oneCellL {w : World} {v : Value} {l : List Int} (h : RowU w v l) : v.oneCell' = true := by
  obtain ⟨_, _, a, cap, rfl, _⟩ := h; rfl
theorem RowA.oneCell {w : World} {v : Value} {l : List (Int × Int)} (h : RowA w v l) : v.oneCell' = true := by
  obtain ⟨_, a, cap, rfl, _⟩ := h; rfl
theorem RowB.oneCell {w : World} {v : Value} {l : List (List Int × List Int)} (h : RowB w v l) : v.oneCell' = true := by
  obtain ⟨_, a, cap, rfl, _⟩ := h; rfl
theorem Tryd.infoA : (Tryd.prog.info? 52).map (fun i => (i.zero, i.size, i.bytes)) = some (some (.agg #[.int .u64 0, .int .u64 0]), 2, 16) := by kernel_rfl
/-- the cells of pairs -/
def flatA : List (Int × Int) → List Value
  | [] => []
  | p :: l => .int .u64 p.1 :: .int .u64 p.2 :: flatA l
theorem flatA_length (l : List (Int × Int)) : (flatA l).length = 2 * l.length := by
  induction l with
  | nil => rfl
  | cons p l ih => simp [flatA, ih]; omega
theorem flatA_append (l m : List (Int × Int)) : flatA (l ++ m) = flatA l ++ flatA m := by
  induction l with
  | nil => rfl
  | cons p l ih => simp [flatA, ih]
theorem flatA_at (l : List (Int × Int)) : ∀ j, j < l.length → (flatA l)[j * 2]? = some (.int .u64 (ata l j).1) ∧ (flatA l)[j * 2 + 1]? = some (.int .u64 (ata l j).2) := by
  induction l with
  | nil => intro j hj; simp at hj
  | cons p l ih =>
    intro j hj
    match j, hj with
    | 0, _ => simp [flatA, ata]
    | j + 1, hj =>
      have := ih j (by simpa using hj)
      rw [show (j + 1) * 2 = j * 2 + 1 + 1 by omega]
      simpa [flatA, ata] using this
/-- v is a slice of pairs in memory from block B on, that its holder may append to; it reads as l -/
def NewA (B : Nat) (w : World) (v : Value) (l : List (Int × Int)) : Prop :=
  (∀ p ∈ l, U64 p.1 ∧ U64 p.2) ∧ l.length ≤ 1000 ∧ w.ownsRow B 52 2 v l.length (flatA l)
theorem NewA.nil (B : Nat) (w : World) : NewA B w (.slice none 0 0) [] := ⟨by simp, by simp, World.ownsRow_nil w B _ _⟩
theorem NewA.go {B : Nat} {w w' : World} {v : Value} {l : List (Int × Int)} (h : NewA B w v l) (hb : Below w.heap.size w w') : NewA B w' v l :=
  ⟨h.1, h.2.1, ownsRow_below h.2.2 hb (Nat.le_refl _)⟩
theorem NewA.lt {B : Nat} {w : World} {v : Value} {l : List (Int × Int)} (h : NewA B w v l) {g : Nat} (hg : v.ownBlock = some g) : B ≤ g ∧ g < w.heap.size := h.2.2.lt g hg
theorem NewA.grownOther {B : Nat} {w w' : World} {v : Value} {l : List (Int × Int)} {r : Option Nat} (h : NewA B w v l) (hg : w.grownBy w' r) (hr : ∀ g, v.ownBlock = some g → r ≠ some g) : NewA B w' v l :=
  ⟨h.1, h.2.1, ownsRow_grown h.2.2 hg hr⟩
theorem NewA.isSlice {B : Nat} {w : World} {v : Value} {l : List (Int × Int)} (h : NewA B w v l) : ∃ a c, v = .slice a l.length c := by
  obtain ⟨_, _, h3⟩ := h
  rcases h3.2 with ⟨rfl, h0⟩ | ⟨g, cap, cur, rfl, _⟩
  · exact ⟨none, 0, by rw [h0]⟩
  · exact ⟨_, _, rfl⟩
theorem NewA.row {B : Nat} {w : World} {v : Value} {l : List (Int × Int)} (h : NewA B w v l) : RowA w v l := by
  obtain ⟨h0, h1, h3⟩ := h
  have h3' := h3
  refine ⟨by omega, ?_⟩
  have hlen := flatA_length l
  rcases h3.2 with ⟨rfl, h0⟩ | ⟨g, cap, cur, rfl, hg, hh, hn, hcap, hs, ht⟩
  · exact ⟨none, 0, by rw [h0], fun hl => by omega⟩
  · refine ⟨_, cap, rfl, fun hl => ⟨g, 0, rfl, (h3'.lt g rfl).2, fun j hj => ⟨h0 _ ?_, ?_, ?_⟩⟩⟩
    · simp [ata, hj]
    · have := h3'.cellAt (j * 2) (by omega)
      rw [Nat.zero_add, this]; exact (flatA_at l j hj).1
    · have := h3'.cellAt (j * 2 + 1) (by omega)
      rw [Nat.zero_add, this]; exact (flatA_at l j hj).2

theorem Tryd.infoB : (Tryd.prog.info? 53).map (fun i => (i.zero, i.size, i.bytes)) = some (some (.agg #[.slice none 0 0, .slice none 0 0]), 2, 48) := by kernel_rfl
/-- v is a slice in memory from block B on, that its holder may append to; it reads as l -/
def NewB (X : Option Nat) (B : Nat) (w : World) (v : Value) (l : List (List Int × List Int)) : Prop :=
  l.length ≤ 1000 ∧ ∃ us : List Value, us.length = 2 * l.length ∧ w.ownsRow B 53 2 v l.length us ∧
    ∀ j, j < l.length → ∃ u u2, us[j * 2]? = some u ∧ us[j * 2 + 1]? = some u2 ∧ Far (fun b => b < B ∨ v.ownBlock = some b ∨ X = some b) (fun w => NewU 0 w u (atb l j).1 ∧ NewU 0 w u2 (atb l j).2) w
theorem NewB.nil (X : Option Nat) (B : Nat) (w : World) : NewB X B w (.slice none 0 0) [] := ⟨by simp, [], rfl, World.ownsRow_nil w B _ _, fun j hj => absurd hj (by simp)⟩
theorem NewB.go {X : Option Nat} {B : Nat} {w w' : World} {v : Value} {l : List (List Int × List Int)} (h : NewB X B w v l) (hb : Below w.heap.size w w') : NewB X B w' v l := by
  obtain ⟨h1, us, h2, h3, h4⟩ := h
  refine ⟨h1, us, h2, ownsRow_below h3 hb (Nat.le_refl _), fun j hj => ?_⟩
  obtain ⟨u, u2, e, e2, hs⟩ := h4 j hj
  exact ⟨u, u2, e, e2, hs.go hb⟩
theorem NewB.lt {X : Option Nat} {B : Nat} {w : World} {v : Value} {l : List (List Int × List Int)} (h : NewB X B w v l) {g : Nat} (hg : v.ownBlock = some g) : B ≤ g ∧ g < w.heap.size := by
  obtain ⟨_, us, _, ho, _⟩ := h
  exact ho.lt g hg
theorem NewB.low {X : Option Nat} {B g : Nat} {w : World} {v : Value} {l : List (List Int × List Int)} (h : NewB X B w v l) (hg : g < B) (j : Nat) (u : Value) : NewB X B (w.setCell ⟨g, j, none⟩ u) v l := by
  have hlt := fun b (e : v.ownBlock = some b) => h.lt e
  obtain ⟨h1, us, h2, h3, h4⟩ := h
  refine ⟨h1, us, h2, ownsRow_same h3 fun b e => Below.heap_setCell _ _ _ _ (by show b ≠ g; have := (hlt b e).1; omega), fun j' hj => ?_⟩
  obtain ⟨u1, u2, e1, e2, hs⟩ := h4 j' hj
  exact ⟨u1, u2, e1, e2, hs.set (.inl hg) j u⟩
theorem NewB.isSlice {X : Option Nat} {B : Nat} {w : World} {v : Value} {l : List (List Int × List Int)} (h : NewB X B w v l) : ∃ a c, v = .slice a l.length c := by
  obtain ⟨_, us, _, h3, _⟩ := h
  rcases h3.2 with ⟨rfl, h0⟩ | ⟨g, cap, cur, rfl, _⟩
  · exact ⟨none, 0, by rw [h0]⟩
  · exact ⟨_, _, rfl⟩
theorem NewB.row {X : Option Nat} {B : Nat} {w : World} {v : Value} {l : List (List Int × List Int)} (h : NewB X B w v l) : RowB w v l := by
  obtain ⟨h1, us, h2, h3, h4⟩ := h
  have h3' := h3
  refine ⟨by omega, ?_⟩
  rcases h3.2 with ⟨rfl, h0⟩ | ⟨g, cap, cur, rfl, hg, hh, hn, hcap, hs, ht⟩
  · exact ⟨none, 0, by rw [h0], fun hl => by omega⟩
  · refine ⟨_, cap, rfl, fun hl => ⟨g, 0, rfl, (h3'.lt g rfl).2, fun j hj => ?_⟩⟩
    obtain ⟨u, u2, e, e2, hs⟩ := h4 j hj
    refine ⟨u, u2, ?_, ?_, ⟨hs.now.1.row, hs.now.1.cap⟩, hs.now.2.row, hs.now.2.cap⟩
    · have := h3'.cellAt (j * 2) (by omega)
      rw [Nat.zero_add, this]; exact e
    · have := h3'.cellAt (j * 2 + 1) (by omega)
      rw [Nat.zero_add, this]; exact e2
theorem atb_append_left (ll : List (List Int × List Int)) (l : (List Int × List Int)) (j : Nat) (h : j < ll.length) : atb (ll ++ [l]) j = atb ll j := by
  simp [atb, List.getElem?_append_left h]
theorem atb_append_last (ll : List (List Int × List Int)) (l : (List Int × List Int)) : atb (ll ++ [l]) ll.length = l := by simp [atb]
/-- append of one part -/
theorem wpList_appB {ops : Array Oper} {rest : List Oper} {o : Oper} {a : Act} {Q : Exit → Act → World → Prop} {w0 : World} (hgd : o.guard = none) (s x : Operand)
    (ho : o.op = .call { callee := .builtin .append, args := #[s, x], argTypes := #[48, 48] })
    (X : Option Nat) (B : Nat) (v : Value) (ll : List (List Int × List Int)) (hs : a.eval s = v) (hown : NewB X B w0 v ll) (u u2 : Value) (l : (List Int × List Int)) (hu : Far (fun b => b < B ∨ v.ownBlock = some b ∨ X = some b) (fun w => NewU 0 w u l.1 ∧ NewU 0 w u2 l.2) w0)
    (hx : a.eval x = .slice (some ⟨w0.heap.size, 0, none⟩) 1 1) (hlen : ll.length + 1 ≤ 1000) (hB : B ≤ w0.heap.size)
    (h : ∀ v' w', NewB X B w' v' (ll ++ [l]) → Below B w0 w' → w0.grownBy w' v.ownBlock → (v'.ownBlock = v.ownBlock ∨ ∃ b, v'.ownBlock = some b ∧ w0.heap.size ≤ b) → wpList Tryd.prog ops Q rest (a.put o.dst v') w') : wpList Tryd.prog ops Q (o :: rest) a (w0.alloc (.cells #[u, u2] 53)) := by
  obtain ⟨i0, hi1, hz0, hz1, hz2⟩ := info_parts Tryd.infoB
  obtain ⟨h1, us, h2, h3, h4⟩ := hown
  have hlt := h3.lt
  have h1c := hu.now.1.row.oneCellL
  have h2c := hu.now.2.row.oneCellL
  refine wpList_append_own_at _ hgd s x _ ho B 53 i0 (.agg #[.slice none 0 0, .slice none 0 0]) 2 48 Tryd.underlying48 hi1 hz0 hz1 hz2 rfl (by decide) v ll.length us hs (h3.alloc _) ⟨w0.heap.size, 0, none⟩ 1 1 [u, u2] hx (by simp) ?_ (by simpa using ⟨h1c, h2c⟩) (by unfold maxLen; omega) (by omega) (by simp; omega) ?_
  · exact World.news_of_block (cs := #[u, u2]) (t := 53) (fr := (0, 0)) (alloc_blk w0 _)
  · intro v' w' h5 h6 _ h8
    have hal : Below w0.heap.size w0 (w0.alloc (.cells #[u, u2] 53)) := (Below.refl _ _).alloc (Nat.le_refl _) _
    have hsz : (w0.alloc (.cells #[u, u2] 53)).heap.size = w0.heap.size + 1 := by simp
    have hg0 : w0.grownBy w' v.ownBlock := grownBy_chainL (below_toGrownL hal _) h6
    have hbl : Below B w0 w' := ((Below.refl B w0).alloc hB _).grown h6 (by simp; omega) fun k hk => (hlt k hk).1
    have move : ∀ Q, Far (fun b => b < B ∨ v.ownBlock = some b ∨ X = some b) Q w0 → Far (fun b => b < B ∨ v'.ownBlock = some b ∨ X = some b) Q w' := by
      intro Q hQ
      rcases h8 with h8 | h8
      · rw [h8]; exact hQ.grown hg0 fun g hg _ => .inr (.inl hg)
      · refine hQ.fresh hg0.size (fun b hlt hn => hg0.block b hlt fun e => hn (.inr (.inl e.symm))) fun b hlt e => ?_
        rcases e with e | e | e
        · exact .inl e
        · rw [h8, hsz] at e; cases e; omega
        · exact .inr (.inr e)
    refine h v' w' ⟨by simp; omega, us ++ [u, u2], by simp [h2]; omega, by simpa using h5, fun j hj => ?_⟩ hbl hg0 (h8.imp id fun e => ⟨_, e, by rw [hsz]; omega⟩)
    by_cases hj2 : j < ll.length
    · obtain ⟨y, y2, e, e2, hs⟩ := h4 j hj2
      refine ⟨y, y2, by rw [List.getElem?_append_left (by omega)]; exact e, by rw [List.getElem?_append_left (by omega)]; exact e2, ?_⟩
      rw [atb_append_left _ _ _ hj2]
      exact move _ hs
    · obtain rfl : j = ll.length := by simp at hj; omega
      refine ⟨u, u2, ?_, ?_, ?_⟩
      · rw [List.getElem?_append_right (by omega), show ll.length * 2 - us.length = 0 by omega]; rfl
      · rw [List.getElem?_append_right (by omega), show ll.length * 2 + 1 - us.length = 1 by omega]; rfl
      · rw [atb_append_last]; exact move _ hu
/-- the other row X grows, or moves to a block of its own: the paths stay -/
theorem NewB.grownX {X X' : Option Nat} {B : Nat} {w w' : World} {v : Value} {l : List (List Int × List Int)} (h : NewB X B w v l) (hg : w.grownBy w' X) (hne : ∀ g, v.ownBlock = some g → X ≠ some g) (hX : X' = X ∨ ∃ b, X' = some b ∧ w.heap.size ≤ b) : NewB X' B w' v l := by
  obtain ⟨h1, us, h2, h3, h4⟩ := h
  refine ⟨h1, us, h2, ownsRow_grown h3 hg hne, fun j hj => ?_⟩
  obtain ⟨u, u2, e, e2, hs⟩ := h4 j hj
  refine ⟨u, u2, e, e2, hs.fresh hg.size (fun b hlt hn => hg.block b hlt fun e => hn (.inr (.inr e.symm))) fun b hlt e => ?_⟩
  rcases e with e | e | e
  · exact .inl e
  · exact .inr (.inl e)
  · rcases hX with rfl | ⟨b', rfl, hb⟩
    · exact .inr (.inr e)
    · cases e; omega

theorem Tryd.infoK : (Tryd.prog.info? 50).map (fun i => (i.zero, i.size, i.bytes)) = some (some (.agg #[.slice none 0 0, .slice none 0 0]), 2, 48) := by kernel_rfl
/-- v is a slice in memory from block B on, that its holder may append to; it reads as l -/
def NewK (B : Nat) (w : World) (v : Value) (l : List Lk) : Prop :=
  l.length ≤ 1000 ∧ ∃ us : List Value, us.length = 2 * l.length ∧ w.ownsRow B 50 2 v l.length us ∧
    ∀ j, j < l.length → ∃ u u2, us[j * 2]? = some u ∧ us[j * 2 + 1]? = some u2 ∧ Far (fun b => b < B ∨ v.ownBlock = some b) (fun w => NewA 0 w u (atk l j).pairs ∧ NewB none 0 w u2 (atk l j).paths) w
theorem NewK.nil (B : Nat) (w : World) : NewK B w (.slice none 0 0) [] := ⟨by simp, [], rfl, World.ownsRow_nil w B _ _, fun j hj => absurd hj (by simp)⟩
theorem NewK.go {B : Nat} {w w' : World} {v : Value} {l : List Lk} (h : NewK B w v l) (hb : Below w.heap.size w w') : NewK B w' v l := by
  obtain ⟨h1, us, h2, h3, h4⟩ := h
  refine ⟨h1, us, h2, ownsRow_below h3 hb (Nat.le_refl _), fun j hj => ?_⟩
  obtain ⟨u, u2, e, e2, hs⟩ := h4 j hj
  exact ⟨u, u2, e, e2, hs.go hb⟩
theorem NewK.lt {B : Nat} {w : World} {v : Value} {l : List Lk} (h : NewK B w v l) {g : Nat} (hg : v.ownBlock = some g) : B ≤ g ∧ g < w.heap.size := by
  obtain ⟨_, us, _, ho, _⟩ := h
  exact ho.lt g hg
theorem NewK.low {B g : Nat} {w : World} {v : Value} {l : List Lk} (h : NewK B w v l) (hg : g < B) (j : Nat) (u : Value) : NewK B (w.setCell ⟨g, j, none⟩ u) v l := by
  have hlt := fun b (e : v.ownBlock = some b) => h.lt e
  obtain ⟨h1, us, h2, h3, h4⟩ := h
  refine ⟨h1, us, h2, ownsRow_same h3 fun b e => Below.heap_setCell _ _ _ _ (by show b ≠ g; have := (hlt b e).1; omega), fun j' hj => ?_⟩
  obtain ⟨u1, u2, e1, e2, hs⟩ := h4 j' hj
  exact ⟨u1, u2, e1, e2, hs.set (.inl hg) j u⟩
theorem NewK.isSlice {B : Nat} {w : World} {v : Value} {l : List Lk} (h : NewK B w v l) : ∃ a c, v = .slice a l.length c := by
  obtain ⟨_, us, _, h3, _⟩ := h
  rcases h3.2 with ⟨rfl, h0⟩ | ⟨g, cap, cur, rfl, _⟩
  · exact ⟨none, 0, by rw [h0]⟩
  · exact ⟨_, _, rfl⟩
theorem NewK.row {B : Nat} {w : World} {v : Value} {l : List Lk} (h : NewK B w v l) : RowK w v l := by
  obtain ⟨h1, us, h2, h3, h4⟩ := h
  have h3' := h3
  refine ⟨by omega, ?_⟩
  rcases h3.2 with ⟨rfl, h0⟩ | ⟨g, cap, cur, rfl, hg, hh, hn, hcap, hs, ht⟩
  · exact ⟨none, 0, by rw [h0], fun hl => by omega⟩
  · refine ⟨_, cap, rfl, fun hl => ⟨g, 0, rfl, (h3'.lt g rfl).2, fun j hj => ?_⟩⟩
    obtain ⟨u, u2, e, e2, hs⟩ := h4 j hj
    refine ⟨u, u2, ?_, ?_, hs.now.1.row, hs.now.2.row⟩
    · have := h3'.cellAt (j * 2) (by omega)
      rw [Nat.zero_add, this]; exact e
    · have := h3'.cellAt (j * 2 + 1) (by omega)
      rw [Nat.zero_add, this]; exact e2
theorem atk_append_left (ll : List Lk) (l : Lk) (j : Nat) (h : j < ll.length) : atk (ll ++ [l]) j = atk ll j := by
  simp [atk, List.getElem?_append_left h]
theorem atk_append_last (ll : List Lk) (l : Lk) : atk (ll ++ [l]) ll.length = l := by simp [atk]
/-- append of one part -/
theorem wpList_appK {ops : Array Oper} {rest : List Oper} {o : Oper} {a : Act} {Q : Exit → Act → World → Prop} {w0 : World} (hgd : o.guard = none) (s x : Operand)
    (ho : o.op = .call { callee := .builtin .append, args := #[s, x], argTypes := #[40, 40] })
    (B : Nat) (v : Value) (ll : List Lk) (hs : a.eval s = v) (hown : NewK B w0 v ll) (u u2 : Value) (l : Lk) (hu : Far (fun b => b < B ∨ v.ownBlock = some b) (fun w => NewA 0 w u l.pairs ∧ NewB none 0 w u2 l.paths) w0)
    (hx : a.eval x = .slice (some ⟨w0.heap.size, 0, none⟩) 1 1) (hlen : ll.length + 1 ≤ 1000) (hB : B ≤ w0.heap.size)
    (h : ∀ v' w', NewK B w' v' (ll ++ [l]) → Below B w0 w' → w0.grownBy w' v.ownBlock → wpList Tryd.prog ops Q rest (a.put o.dst v') w') : wpList Tryd.prog ops Q (o :: rest) a (w0.alloc (.cells #[u, u2] 50)) := by
  obtain ⟨i0, hi1, hz0, hz1, hz2⟩ := info_parts Tryd.infoK
  obtain ⟨h1, us, h2, h3, h4⟩ := hown
  have hlt := h3.lt
  have h1c := hu.now.1.row.oneCell
  have h2c := hu.now.2.row.oneCell
  refine wpList_append_own_at _ hgd s x _ ho B 50 i0 (.agg #[.slice none 0 0, .slice none 0 0]) 2 48 Tryd.underlying40 hi1 hz0 hz1 hz2 rfl (by decide) v ll.length us hs (h3.alloc _) ⟨w0.heap.size, 0, none⟩ 1 1 [u, u2] hx (by simp) ?_ (by simpa using ⟨h1c, h2c⟩) (by unfold maxLen; omega) (by omega) (by simp; omega) ?_
  · exact World.news_of_block (cs := #[u, u2]) (t := 50) (fr := (0, 0)) (alloc_blk w0 _)
  · intro v' w' h5 h6 _ h8
    have hal : Below w0.heap.size w0 (w0.alloc (.cells #[u, u2] 50)) := (Below.refl _ _).alloc (Nat.le_refl _) _
    have hsz : (w0.alloc (.cells #[u, u2] 50)).heap.size = w0.heap.size + 1 := by simp
    have hg0 : w0.grownBy w' v.ownBlock := grownBy_chainL (below_toGrownL hal _) h6
    have hbl : Below B w0 w' := ((Below.refl B w0).alloc hB _).grown h6 (by simp; omega) fun k hk => (hlt k hk).1
    have move : ∀ Q, Far (fun b => b < B ∨ v.ownBlock = some b) Q w0 → Far (fun b => b < B ∨ v'.ownBlock = some b) Q w' := by
      intro Q hQ
      rcases h8 with h8 | h8
      · rw [h8]; exact hQ.grown hg0 fun g hg _ => .inr hg
      · refine hQ.fresh hg0.size (fun b hlt hn => hg0.block b hlt fun e => hn (.inr e.symm)) fun b hlt e => ?_
        rcases e with e | e
        · exact .inl e
        · rw [h8, hsz] at e; cases e; omega
    refine h v' w' ⟨by simp; omega, us ++ [u, u2], by simp [h2]; omega, by simpa using h5, fun j hj => ?_⟩ hbl hg0
    by_cases hj2 : j < ll.length
    · obtain ⟨y, y2, e, e2, hs⟩ := h4 j hj2
      refine ⟨y, y2, by rw [List.getElem?_append_left (by omega)]; exact e, by rw [List.getElem?_append_left (by omega)]; exact e2, ?_⟩
      rw [atk_append_left _ _ _ hj2]
      exact move _ hs
    · obtain rfl : j = ll.length := by simp at hj; omega
      refine ⟨u, u2, ?_, ?_, ?_⟩
      · rw [List.getElem?_append_right (by omega), show ll.length * 2 - us.length = 0 by omega]; rfl
      · rw [List.getElem?_append_right (by omega), show ll.length * 2 + 1 - us.length = 1 by omega]; rfl
      · rw [atk_append_last]; exact move _ hu

end Go.Proofs.YtcihkechphldcaaDoor

/- Append of a pair, of a look, at a step of a region that draws its order. No condition. -/
namespace Go.Proofs.YtcihkechphldcaaDoor
set_option maxRecDepth 100000
set_option linter.unusedVariables false
open Go.ChangeShapes Go.WideShapes Go.ChangeAt Go.RowKit Go.Deep Go.Joins
theorem step_appA {ops : Array Oper} {o : Oper} {a : Act} {K : Act → World → Prop} {Q : Exit → Act → World → Prop} {E : Prop} {w0 : World} (hgd : o.guard = none) (s x : Operand)
    (ho : o.op = .call { callee := .builtin .append, args := #[s, x], argTypes := #[47, 47] })
    (B : Nat) (v : Value) (l : List (Int × Int)) (hs : a.eval s = v) (hown : NewA B w0 v l) (y z : Int) (hx : a.eval x = .slice (some ⟨w0.heap.size, 0, none⟩) 1 1) (hy : U64 y) (hz : U64 z)
    (hlen : l.length + 1 ≤ 1000) (hB : B ≤ w0.heap.size)
    (h : ∀ v' w', NewA B w' v' (l ++ [(y, z)]) → w0.grownBy w' v.ownBlock → (v'.ownBlock = v.ownBlock ∨ ∃ b, v'.ownBlock = some b ∧ w0.heap.size ≤ b) → K (a.put o.dst v') w') :
    if Region.wanted o (yielded ops a.tmps) = true then Oper.wp Tryd.prog o a (w0.alloc (.cells #[.int .u64 y, .int .u64 z] 52)) K Q else E := by
  obtain ⟨i0, hi1, hz0, hz1, hz2⟩ := info_parts Tryd.infoA
  refine step_append_lies _ hgd s x _ ho B 52 i0 (.agg #[.int .u64 0, .int .u64 0]) 2 16 Tryd.underlying47 hi1 hz0 hz1 hz2 rfl (by decide) v l.length _ hs (hown.2.2.alloc _) ⟨w0.heap.size, 0, none⟩ 1 1 [.int .u64 y, .int .u64 z] hx rfl
    (World.news_of_block (cs := #[.int .u64 y, .int .u64 z]) (t := 52) (fr := (0, 0)) (alloc_blk w0 _)) (by simp [Value.oneCell']) (by decide) (by unfold maxLen; omega) (by omega) (by simp; omega) (w0.heap.size + 1) (by simp) ?_
  intro g cap w' h1 h2 h3 _
  refine h _ w' ⟨?_, by simp; omega, by simpa [flatA_append, flatA] using h1⟩ (grownBy_chainL (below_toGrownL ((Below.refl _ _).alloc (Nat.le_refl _) _) _) h2) (h3.elim (fun e => .inl e.symm) fun e => .inr ⟨g, rfl, by omega⟩)
  intro p hp
  rcases List.mem_append.mp hp with hp | hp
  · exact hown.1 p hp
  · rw [List.mem_singleton.mp hp]; exact ⟨hy, hz⟩
/-- append of a pair -/
theorem wpList_appA {ops : Array Oper} {rest : List Oper} {o : Oper} {a : Act} {Q : Exit → Act → World → Prop} {w0 : World} (hgd : o.guard = none) (s x : Operand)
    (ho : o.op = .call { callee := .builtin .append, args := #[s, x], argTypes := #[47, 47] })
    (B : Nat) (v : Value) (l : List (Int × Int)) (hs : a.eval s = v) (hown : NewA B w0 v l) (y z : Int) (hx : a.eval x = .slice (some ⟨w0.heap.size, 0, none⟩) 1 1) (hy : U64 y) (hz : U64 z)
    (hlen : l.length + 1 ≤ 1000) (hB : B ≤ w0.heap.size)
    (h : ∀ v' w', NewA B w' v' (l ++ [(y, z)]) → Below B w0 w' → w0.grownBy w' v.ownBlock → (v'.ownBlock = v.ownBlock ∨ ∃ b, v'.ownBlock = some b ∧ w0.heap.size ≤ b) → wpList Tryd.prog ops Q rest (a.put o.dst v') w') : wpList Tryd.prog ops Q (o :: rest) a (w0.alloc (.cells #[.int .u64 y, .int .u64 z] 52)) := by
  obtain ⟨i0, hi1, hz0, hz1, hz2⟩ := info_parts Tryd.infoA
  have hlt := hown.2.2.lt
  refine wpList_append_own_at _ hgd s x _ ho B 52 i0 (.agg #[.int .u64 0, .int .u64 0]) 2 16 Tryd.underlying47 hi1 hz0 hz1 hz2 rfl (by decide) v l.length _ hs (hown.2.2.alloc _) ⟨w0.heap.size, 0, none⟩ 1 1 [.int .u64 y, .int .u64 z] hx (by simp) ?_ (by simp [Value.oneCell']) (by unfold maxLen; omega) (by omega) (by simp; omega) ?_
  · exact World.news_of_block (cs := #[.int .u64 y, .int .u64 z]) (t := 52) (fr := (0, 0)) (alloc_blk w0 _)
  · intro v' w' h5 h6 _ h8
    have hal : Below w0.heap.size w0 (w0.alloc (.cells #[.int .u64 y, .int .u64 z] 52)) := (Below.refl _ _).alloc (Nat.le_refl _) _
    have hsz : (w0.alloc (.cells #[.int .u64 y, .int .u64 z] 52)).heap.size = w0.heap.size + 1 := by simp
    have hg0 : w0.grownBy w' v.ownBlock := grownBy_chainL (below_toGrownL hal _) h6
    have hbl : Below B w0 w' := ((Below.refl B w0).alloc hB _).grown h6 (by simp; omega) fun k hk => (hlt k hk).1
    refine h v' w' ⟨?_, by simp; omega, by simpa [flatA_append, flatA] using h5⟩ hbl hg0 (h8.imp id fun e => ⟨_, e, by rw [hsz]; omega⟩)
    intro p hp
    rcases List.mem_append.mp hp with hp | hp
    · exact hown.1 p hp
    · rw [List.mem_singleton.mp hp]; exact ⟨hy, hz⟩
end Go.Proofs.YtcihkechphldcaaDoor
