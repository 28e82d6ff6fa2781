/- Openings in memory: what is meant by an opening that reads as data; how it is opened. No condition. -/
import Derived.Test.YtokggifjcbkmnaaDoorOpen
import Derived.Test.YtokggifjcbkmnaaDoorFar
import Derived.Lib.SmallJoins
import Derived.Deep.Slices
import Derived.Deep.Strs
namespace Go.Proofs.YtokggifjcbkmnaaDoor
set_option maxRecDepth 100000
set_option linter.unusedVariables false
open Go.ChangeShapes Go.WideShapes Go.ChangeAt Go.RowKit Go.Deep Go.Joins
/-- one look, in numbers -/
structure Lk where
  pairs : List (Int × Int)
  paths : List (List Int × List Int)
/-- an opening, in numbers -/
structure Oi where
  roots : List Int
  value : Int
  looks : List Lk
instance : Inhabited Lk := ⟨⟨[], []⟩⟩
abbrev look0 : Lk := ⟨[], []⟩
abbrev atk (l : List Lk) (j : Nat) : Lk := l[j]?.getD look0
abbrev ata (l : List (Int × Int)) (j : Nat) : Int × Int := l[j]?.getD (0, 0)
abbrev atb (l : List (List Int × List Int)) (j : Nat) : List Int × List Int := l[j]?.getD ([], [])
/-- v is a slice of pairs that reads as l -/
def RowA (w : World) (v : Value) (l : List (Int × Int)) : Prop :=
  l.length ≤ 9223372036854775807 ∧ ∃ a cap, v = .slice a l.length cap ∧
    (0 < l.length → ∃ b off, a = some ⟨b, off, none⟩ ∧ b < w.heap.size ∧ ∀ j, j < l.length →
      (U64 (ata l j).1 ∧ U64 (ata l j).2) ∧ w.cell? ⟨b, off + j * 2, none⟩ = some (.int .u64 (ata l j).1) ∧ w.cell? ⟨b, off + j * 2 + 1, none⟩ = some (.int .u64 (ata l j).2))
/-- v is a slice of pairs of paths that reads as l -/
def RowB (w : World) (v : Value) (l : List (List Int × List Int)) : Prop :=
  l.length ≤ 9223372036854775807 ∧ ∃ a cap, v = .slice a l.length cap ∧
    (0 < l.length → ∃ b off, a = some ⟨b, off, none⟩ ∧ b < w.heap.size ∧ ∀ j, j < l.length →
      ∃ u u2, w.cell? ⟨b, off + j * 2, none⟩ = some u ∧ w.cell? ⟨b, off + j * 2 + 1, none⟩ = some u2 ∧ (RowU w u (atb l j).1 ∧ CapOk u) ∧ RowU w u2 (atb l j).2 ∧ CapOk u2)
/-- v is a slice of looks that reads as l -/
def RowK (w : World) (v : Value) (l : List Lk) : Prop :=
  l.length ≤ 9223372036854775807 ∧ ∃ a cap, v = .slice a l.length cap ∧
    (0 < l.length → ∃ b off, a = some ⟨b, off, none⟩ ∧ b < w.heap.size ∧ ∀ j, j < l.length →
      ∃ u u2, w.cell? ⟨b, off + j * 2, none⟩ = some u ∧ w.cell? ⟨b, off + j * 2 + 1, none⟩ = some u2 ∧ RowA w u (atk l j).pairs ∧ RowB w u2 (atk l j).paths)
/-- v is an opening that reads as o -/
def IsO (w : World) (v : Value) (o : Oi) : Prop := ∃ u u2, v = .agg #[u, .int .u64 o.value, u2] ∧ U64 o.value ∧ RowU w u o.roots ∧ RowK w u2 o.looks
theorem RowA.go {w w' : World} {v : Value} {l : List (Int × Int)} (h : RowA w v l) (hb : Below w.heap.size w w') : RowA w' v l := by
  obtain ⟨h2, a, cap, rfl, h3⟩ := h
  refine ⟨h2, a, cap, rfl, fun hl => ?_⟩
  obtain ⟨b, off, rfl, hlt, hc⟩ := h3 hl
  refine ⟨b, off, rfl, Nat.lt_of_lt_of_le hlt hb.size, fun j hj => ?_⟩
  obtain ⟨u, c1, c2⟩ := hc j hj
  exact ⟨u, by rw [hb.cell (by exact hlt)]; exact c1, by rw [hb.cell (by exact hlt)]; exact c2⟩
theorem RowB.go {w w' : World} {v : Value} {l : List (List Int × List Int)} (h : RowB w v l) (hb : Below w.heap.size w w') : RowB w' v l := by
  obtain ⟨h2, a, cap, rfl, h3⟩ := h
  refine ⟨h2, a, cap, rfl, fun hl => ?_⟩
  obtain ⟨b, off, rfl, hlt, hc⟩ := h3 hl
  refine ⟨b, off, rfl, Nat.lt_of_lt_of_le hlt hb.size, fun j hj => ?_⟩
  obtain ⟨u, u2, c1, c2, ⟨r1, k1⟩, r2, k2⟩ := hc j hj
  exact ⟨u, u2, by rw [hb.cell (by exact hlt)]; exact c1, by rw [hb.cell (by exact hlt)]; exact c2, ⟨r1.go hb, k1⟩, r2.go hb, k2⟩
theorem RowK.go {w w' : World} {v : Value} {l : List Lk} (h : RowK w v l) (hb : Below w.heap.size w w') : RowK w' v l := by
  obtain ⟨h2, a, cap, rfl, h3⟩ := h
  refine ⟨h2, a, cap, rfl, fun hl => ?_⟩
  obtain ⟨b, off, rfl, hlt, hc⟩ := h3 hl
  refine ⟨b, off, rfl, Nat.lt_of_lt_of_le hlt hb.size, fun j hj => ?_⟩
  obtain ⟨u, u2, c1, c2, r1, r2⟩ := hc j hj
  exact ⟨u, u2, by rw [hb.cell (by exact hlt)]; exact c1, by rw [hb.cell (by exact hlt)]; exact c2, r1.go hb, r2.go hb⟩
theorem IsO.go {w w' : World} {v : Value} {o : Oi} (h : IsO w v o) (hb : Below w.heap.size w w') : IsO w' v o := by
  obtain ⟨u, u2, rfl, h1, h2, h3⟩ := h
  exact ⟨u, u2, rfl, h1, h2.go hb, h3.go hb⟩
theorem RowA.isSlice {w : World} {v : Value} {l : List (Int × Int)} (h : RowA w v l) : ∃ a c, v = .slice a l.length c := by
  obtain ⟨_, a, cap, rfl, _⟩ := h; exact ⟨_, _, rfl⟩
theorem RowB.isSlice {w : World} {v : Value} {l : List (List Int × List Int)} (h : RowB w v l) : ∃ a c, v = .slice a l.length c := by
  obtain ⟨_, a, cap, rfl, _⟩ := h; exact ⟨_, _, rfl⟩
theorem RowK.isSlice {w : World} {v : Value} {l : List Lk} (h : RowK w v l) : ∃ a c, v = .slice a l.length c := by
  obtain ⟨_, a, cap, rfl, _⟩ := h; exact ⟨_, _, rfl⟩
theorem lt_of_cellO {W : World} {a : Addr} {v : Value} (h : W.cell? a = some v) : a.block < W.heap.size := by
  rcases Nat.lt_or_ge a.block W.heap.size with h' | h'
  · exact h'
  · simp [World.cell?, Array.getElem?_eq_none h'] at h
theorem cellsOU64 : Tryd.prog.cellsOf 23 = 1 := by kernel_rfl
theorem cellsOU64s : Tryd.prog.cellsOf 22 = 1 := by kernel_rfl
theorem cellsOPair : Tryd.prog.cellsOf 67 = 2 := by kernel_rfl
theorem cellsOPairs : Tryd.prog.cellsOf 61 = 1 := by kernel_rfl
theorem cellsOPath : Tryd.prog.cellsOf 66 = 2 := by kernel_rfl
theorem cellsOPaths : Tryd.prog.cellsOf 62 = 1 := by kernel_rfl
theorem cellsOLook : Tryd.prog.cellsOf 64 = 2 := by kernel_rfl
theorem cellsOLooks : Tryd.prog.cellsOf 38 = 1 := by kernel_rfl
theorem cellsOOpening : Tryd.prog.cellsOf 40 = 3 := by kernel_rfl
theorem trod_u64sC {H : Type} {enc : TypeId × Value → H} {W : World} {fuel : Nat} {v : Value} {x : DataW H × List MemPlace} {held : Bool}
    (h : DataW.trod enc Tryd.prog W 0 (fun _ => true) held fuel 22 [v] = some x) : ∃ l, RowU W v l ∧ CapOk v := by
  rcases open_ints Tryd.underlying22 Tryd.underlying23 (by kernel_rfl) h with ⟨hcs, _⟩ | ⟨y, len', cap', zs, hcs, _, hl, hm, hz, _, hcell, hwz⟩
  · obtain rfl : v = .slice none 0 0 := by simpa using hcs
    obtain ⟨l, hl⟩ := trod_u64s h
    exact ⟨l, hl, CapOk.mk (by omega) (by omega)⟩
  · obtain rfl : v = .slice (some y) len' cap' := by simpa using hcs
    obtain ⟨l, hl'⟩ := trod_u64s h
    exact ⟨l, hl', CapOk.mk hl (by unfold maxLen at hm; exact hm)⟩
theorem trod_array2 {H : Type} {enc : TypeId × Value → H} {P : Program} {w : World} {base : Nat} {spare : Nat → Bool} {held : Bool} {t e : TypeId} {fuel : Nat} {c0 c1 : Value} {x : DataW H × List MemPlace} (ht : P.underlying t = some (.array 2 e)) (hce : P.cellsOf e = 1)
    (h : DataW.trod enc P w base spare held fuel t [c0, c1] = some x) :
    ∃ y0 y1 n, DataW.trod enc P w base spare held n e [c0] = some y0 ∧ DataW.trod enc P w base spare held n e [c1] = some y1 := by
  obtain ⟨xs, m, _, _, _, hl, hx⟩ := DataW.trod_array ht h
  match xs, hl with
  | [y0, y1], _ =>
    have h0 := hx 0 (by omega)
    have h1 := hx 1 (by omega)
    rw [hce] at h0 h1
    exact ⟨y0, y1, m, by simpa using h0, by simpa using h1⟩
theorem trod_pairs {H : Type} {enc : TypeId × Value → H} {W : World} {fuel : Nat} {v : Value} {x : DataW H × List MemPlace} {held : Bool}
    (h : DataW.trod enc Tryd.prog W 0 (fun _ => true) held fuel 61 [v] = some x) : ∃ l, RowA W v l := by
  rcases open_slice Tryd.underlying61 h with ⟨hcs, _⟩ | ⟨a, len, cap, m, n, D, Pl, hcs, _, hl, hm, hmm, _, hx⟩
  · obtain rfl : v = .slice none 0 0 := by simpa using hcs
    exact ⟨[], by simp, none, 0, rfl, fun h => by simp at h⟩
  · obtain rfl : v = .slice (some a) len cap := by simpa using hcs
    simp only [if_true] at hmm
    subst hmm
    rw [cellsOPair] at hx
    obtain ⟨b, off, spot⟩ := a
    have each : ∀ i, i < len → ∃ y : Int × Int, (U64 y.1 ∧ U64 y.2) ∧ W.cell? ((⟨b, off, spot⟩ : Addr).add (i * 2)) = some (.int .u64 y.1) ∧ W.cell? ((⟨b, off, spot⟩ : Addr).add (i * 2 + 1)) = some (.int .u64 y.2) := by
      intro i hi
      obtain ⟨cs', h1, h2⟩ := hx i (by omega)
      obtain ⟨_, hlen, hat⟩ := World.cells?_some h1
      match cs', hlen with
      | [c0, c1], _ =>
        obtain ⟨y0, y1, n', t0, t1⟩ := trod_array2 Tryd.underlying67 cellsOU64 h2
        obtain ⟨m0, e0, _, w0⟩ := DataW.trod_int Tryd.underlying23 t0
        obtain ⟨m1, e1, _, w1⟩ := DataW.trod_int Tryd.underlying23 t1
        have a0 := hat 0 (by omega)
        have a1 := hat 1 (by omega)
        rw [Go.Deep.add_add] at a0 a1
        obtain rfl : c0 = .int .u64 m0 := by simpa using e0
        obtain rfl : c1 = .int .u64 m1 := by simpa using e1
        exact ⟨⟨m0, m1⟩, ⟨U64.of_wf w0, U64.of_wf w1⟩, by simpa using a0, by simpa using a1⟩
    obtain ⟨G, hG⟩ := choose_lt each
    have hlen : ((List.range len).map G).length = len := by simp
    have hat : ∀ j, j < len → ata ((List.range len).map G) j = G j := fun j hj => by simp [ata, hj]
    refine ⟨(List.range len).map G, by rw [hlen]; unfold maxLen at hm; omega, _, _, by rw [hlen], fun h0 => ?_⟩
    rw [hlen] at h0
    obtain ⟨_, hc, _⟩ := hG 0 h0
    have hspot : spot = none := by simpa [Addr.add] using World.cell?_spot hc
    subst hspot
    refine ⟨b, off, rfl, by simpa [Addr.add] using lt_of_cellO hc, fun j hj => ?_⟩
    rw [hlen] at hj
    rw [hat j hj]
    obtain ⟨u, c0, c1⟩ := hG j hj
    rw [Addr.add_lit] at c0 c1
    exact ⟨u, c0, c1⟩
theorem trod_paths {H : Type} {enc : TypeId × Value → H} {W : World} {fuel : Nat} {v : Value} {x : DataW H × List MemPlace} {held : Bool}
    (h : DataW.trod enc Tryd.prog W 0 (fun _ => true) held fuel 62 [v] = some x) : ∃ l, RowB W v l := by
  rcases open_slice Tryd.underlying62 h with ⟨hcs, _⟩ | ⟨a, len, cap, m, n, D, Pl, hcs, _, hl, hm, hmm, _, hx⟩
  · obtain rfl : v = .slice none 0 0 := by simpa using hcs
    exact ⟨[], by simp, none, 0, rfl, fun h => by simp at h⟩
  · obtain rfl : v = .slice (some a) len cap := by simpa using hcs
    simp only [if_true] at hmm
    subst hmm
    rw [cellsOPath] at hx
    obtain ⟨b, off, spot⟩ := a
    have each : ∀ i, i < len → ∃ y : List Int × List Int, ∃ u u2, W.cell? ((⟨b, off, spot⟩ : Addr).add (i * 2)) = some u ∧ W.cell? ((⟨b, off, spot⟩ : Addr).add (i * 2 + 1)) = some u2 ∧ (RowU W u y.1 ∧ CapOk u) ∧ RowU W u2 y.2 ∧ CapOk u2 := by
      intro i hi
      obtain ⟨cs', h1, h2⟩ := hx i (by omega)
      obtain ⟨_, hlen, hat⟩ := World.cells?_some h1
      match cs', hlen with
      | [c0, c1], _ =>
        obtain ⟨y0, y1, n', t0, t1⟩ := trod_array2 Tryd.underlying66 cellsOU64s h2
        obtain ⟨l0, r0, k0⟩ := trod_u64sC t0
        obtain ⟨l1, r1, k1⟩ := trod_u64sC t1
        have a0 := hat 0 (by omega)
        have a1 := hat 1 (by omega)
        rw [Go.Deep.add_add] at a0 a1
        exact ⟨⟨l0, l1⟩, c0, c1, by simpa using a0, by simpa using a1, ⟨r0, k0⟩, r1, k1⟩
    obtain ⟨G, hG⟩ := choose_lt each
    have hlen : ((List.range len).map G).length = len := by simp
    have hat : ∀ j, j < len → atb ((List.range len).map G) j = G j := fun j hj => by simp [atb, hj]
    refine ⟨(List.range len).map G, by rw [hlen]; unfold maxLen at hm; omega, _, _, by rw [hlen], fun h0 => ?_⟩
    rw [hlen] at h0
    obtain ⟨_, _, hc, _⟩ := hG 0 h0
    have hspot : spot = none := by simpa [Addr.add] using World.cell?_spot hc
    subst hspot
    refine ⟨b, off, rfl, by simpa [Addr.add] using lt_of_cellO hc, fun j hj => ?_⟩
    rw [hlen] at hj
    rw [hat j hj]
    obtain ⟨u, u2, c0, c1, r⟩ := hG j hj
    rw [Addr.add_lit] at c0 c1
    exact ⟨u, u2, c0, c1, r⟩
theorem trod_looks {H : Type} {enc : TypeId × Value → H} {W : World} {fuel : Nat} {v : Value} {x : DataW H × List MemPlace} {held : Bool}
    (h : DataW.trod enc Tryd.prog W 0 (fun _ => true) held fuel 38 [v] = some x) : ∃ l, RowK W v l := by
  rcases open_slice Tryd.underlying38 h with ⟨hcs, _⟩ | ⟨a, len, cap, m, n, D, Pl, hcs, _, hl, hm, hmm, _, hx⟩
  · obtain rfl : v = .slice none 0 0 := by simpa using hcs
    exact ⟨[], by simp, none, 0, rfl, fun h => by simp at h⟩
  · obtain rfl : v = .slice (some a) len cap := by simpa using hcs
    simp only [if_true] at hmm
    subst hmm
    rw [cellsOLook] at hx
    obtain ⟨b, off, spot⟩ := a
    have each : ∀ i, i < len → ∃ y : Lk, ∃ u u2, W.cell? ((⟨b, off, spot⟩ : Addr).add (i * 2)) = some u ∧ W.cell? ((⟨b, off, spot⟩ : Addr).add (i * 2 + 1)) = some u2 ∧ RowA W u y.pairs ∧ RowB W u2 y.paths := by
      intro i hi
      obtain ⟨cs', h1, h2⟩ := hx i (by omega)
      obtain ⟨_, hlen, hat⟩ := World.cells?_some h1
      obtain ⟨y0, y1, n', _, _, t0, t1⟩ := trod_struct2 Tryd.underlying64 h2
      match cs', hlen with
      | [c0, c1], _ =>
        simp only [cellsOPairs, cellsOPaths] at t0 t1
        obtain ⟨l0, r0⟩ := trod_pairs (v := c0) (by simpa using t0)
        obtain ⟨l1, r1⟩ := trod_paths (v := c1) (by simpa using t1)
        have a0 := hat 0 (by omega)
        have a1 := hat 1 (by omega)
        rw [Go.Deep.add_add] at a0 a1
        exact ⟨⟨l0, l1⟩, c0, c1, by simpa using a0, by simpa using a1, r0, r1⟩
    obtain ⟨G, hG⟩ := choose_lt each
    have hlen : ((List.range len).map G).length = len := by simp
    have hat : ∀ j, j < len → atk ((List.range len).map G) j = G j := fun j hj => by simp [atk, hj]
    refine ⟨(List.range len).map G, by rw [hlen]; unfold maxLen at hm; omega, _, _, by rw [hlen], fun h0 => ?_⟩
    rw [hlen] at h0
    obtain ⟨_, _, hc, _⟩ := hG 0 h0
    have hspot : spot = none := by simpa [Addr.add] using World.cell?_spot hc
    subst hspot
    refine ⟨b, off, rfl, by simpa [Addr.add] using lt_of_cellO hc, fun j hj => ?_⟩
    rw [hlen] at hj
    rw [hat j hj]
    obtain ⟨u, u2, c0, c1, r⟩ := hG j hj
    rw [Addr.add_lit] at c0 c1
    exact ⟨u, u2, c0, c1, r⟩
theorem open_opening {H : Type} {enc : TypeId × Value → H} {W : World} {base : Nat} {v : Value} {x : DataW H} {p : List MemPlace} {held : Bool}
    (hv : Value.okWide Tryd.prog W .any base 40 v) (h : DataW.Trod enc Tryd.prog W 0 (fun _ => true) held 40 v x p) : ∃ o, IsO W v o := by
  obtain ⟨cs, rfl, hsz⟩ := okWide_struct Tryd.underlying40 hv
  obtain ⟨fuel, hf⟩ := h
  obtain ⟨y0, y1, y2, n, _, _, t0, t1, t2⟩ := trod_struct3 Tryd.underlying40 hf
  have hs3 : cs.size = 3 := hsz.trans cellsOOpening
  match cs, hs3 with
  | ⟨[c0, c1, c2]⟩, _ =>
    obtain ⟨l0, r0⟩ := trod_u64sC (v := c0) (by simpa [Value.cells, cellsOU64s] using t0)
    obtain ⟨m1, e1, _, w1⟩ := DataW.trod_int Tryd.underlying23 t1
    obtain rfl : c1 = .int .u64 m1 := by simpa [Value.cells, cellsOU64] using e1
    obtain ⟨l2, r2⟩ := trod_looks (v := c2) (by simpa [Value.cells, cellsOLooks] using t2)
    exact ⟨⟨l0, m1, l2⟩, c0, c2, rfl, U64.of_wf w1, r0.1, r2⟩
/-- v is a slice of int that reads as l -/
def RowI (w : World) (v : Value) (l : List Int) : Prop :=
  (∀ x ∈ l, I64 x) ∧ l.length ≤ 9223372036854775807 ∧ ∃ a cap, v = .slice a l.length cap ∧
    (0 < l.length → ∃ b off, a = some ⟨b, off, none⟩ ∧ b < w.heap.size ∧ ∀ j, j < l.length → w.cell? ⟨b, off + j, none⟩ = some (.int .i64 (at0 l j)))
theorem RowI.go {w w' : World} {v : Value} {l : List Int} (h : RowI w v l) (hb : Below w.heap.size w w') : RowI w' v l := by
  obtain ⟨h1, h2, a, cap, rfl, h3⟩ := h
  refine ⟨h1, h2, a, cap, rfl, fun hl => ?_⟩
  obtain ⟨b, off, rfl, hlt, hc⟩ := h3 hl
  exact ⟨b, off, rfl, Nat.lt_of_lt_of_le hlt hb.size, fun j hj => by rw [hb.cell (by exact hlt)]; exact hc j hj⟩
theorem open_intsI {H : Type} {enc : TypeId × Value → H} {W : World} {base : Nat} {v : Value} {x : DataW H} {p : List MemPlace} {held : Bool}
    (hv : Value.okWide Tryd.prog W .any base 37 v) (h : DataW.Trod enc Tryd.prog W 0 (fun _ => true) held 37 v x p) :
    ∃ l, RowI W v l := by
  obtain ⟨a, len, cap, rfl⟩ := okWide_slice Tryd.underlying37 hv
  obtain ⟨fuel, hf⟩ := h
  rcases open_ints Tryd.underlying37 Tryd.underlying3 (by kernel_rfl) (by simpa [Value.cells] using hf) with ⟨hcs, _⟩ | ⟨y, len', cap', zs, hcs, _, hl, hm, hz, _, hcell, hwz⟩
  · simp only [List.cons.injEq, Value.slice.injEq, and_true] at hcs
    obtain ⟨rfl, rfl, rfl⟩ := hcs
    exact ⟨[], by simp, by simp, none, 0, rfl, fun h => by simp at h⟩
  · simp only [List.cons.injEq, Value.slice.injEq, and_true] at hcs
    obtain ⟨rfl, rfl, rfl⟩ := hcs
    simp only [if_true] at hz
    have hlen : (zs.take len).length = len := by rw [List.length_take]; omega
    refine ⟨zs.take len, fun x hx => I64.of_wf (hwz x (List.mem_of_mem_take hx)), by rw [hlen]; unfold maxLen at hm; omega, some y, cap, by rw [hlen], fun h0 => ?_⟩
    rw [hlen] at h0
    obtain ⟨b, off, spot⟩ := y
    have hc := hcell 0 (by omega)
    have hspot : spot = none := by simpa [Addr.add] using World.cell?_spot hc
    subst hspot
    refine ⟨b, off, rfl, by simpa [Addr.add] using lt_of_cellO hc, fun j hj => ?_⟩
    rw [hlen] at hj
    have := hcell j (by omega)
    rw [Addr.add_lit] at this
    rw [this]
    simp [at0, hj]
end Go.Proofs.YtokggifjcbkmnaaDoor
