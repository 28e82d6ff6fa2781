/- The walk of gkr's made: the four tables of a layer. The circuit is a value that reads as data, the lists are slices of 64-bit numbers. -/
import Derived.Test.YtfgoidaldgfklaaDoorGkrFix
import Derived.Test.YtfgoidaldgfklaaDoorMade4
import Derived.StillTailTactics
namespace Go.Proofs.YtfgoidaldgfklaaDoor
set_option maxRecDepth 100000
set_option linter.unusedVariables false
open Go.RowKit Tally
theorem made_start (w : World) (x y z : Value) (t1 t2 : Nat) : ∃ W tb rs, (w.alloc (.cells #[x, y] t1)).alloc (.cells #[z, z, z, z] t2) = W ∧
    tb = w.heap.size ∧ rs = w.heap.size + 1 ∧ tb < rs ∧ rs < W.heap.size ∧
    W.cell? ⟨tb, 0, none⟩ = some x ∧ W.cell? ⟨tb, 1, none⟩ = some y ∧ W.heap[rs]? = some (.cells #[z, z, z, z] t2 (0, 0)) ∧ Below tb w W := by
  refine ⟨_, w.heap.size, w.heap.size + 1, rfl, rfl, rfl, by omega, by simp, ?_, ?_, ?_, ?_⟩
  · have h : ((w.alloc (.cells #[x, y] t1)).alloc (.cells #[z, z, z, z] t2)).heap[w.heap.size]? = some (.cells #[x, y] t1 (0, 0)) := by
      show ((w.heap.push _).push _)[w.heap.size]? = _
      rw [Array.getElem?_push, if_neg (by simp), Array.getElem?_push, if_pos rfl]
    exact cell_blk h 0
  · have h : ((w.alloc (.cells #[x, y] t1)).alloc (.cells #[z, z, z, z] t2)).heap[w.heap.size]? = some (.cells #[x, y] t1 (0, 0)) := by
      show ((w.heap.push _).push _)[w.heap.size]? = _
      rw [Array.getElem?_push, if_neg (by simp), Array.getElem?_push, if_pos rfl]
    exact cell_blk h 1
  · show ((w.heap.push _).push _)[w.heap.size + 1]? = _
    rw [Array.getElem?_push, if_pos (by simp)]
  · exact ((Below.refl _ _).alloc (Nat.le_refl _) _).alloc (by simp <;> omega) _
/-- the tables of a layer, in numbers -/
def layI (gs : List Gt) (z V : List Int) (n : Nat) : Ti := ⟨(wireTab gs false (z.map phi) n).map psi, (wireTab gs true (z.map phi) n).map psi, (List.range (n * n)).map fun q => at0 V (q / n), (List.range (n * n)).map fun q => at0 V (q % n)⟩
theorem layI_toF (gs : List Gt) (z V : List Int) (n : Nat) (h0 : 0 < n) (hV : V.length = n) : (layI gs z V n).toF = layT gs (z.map phi) (V.map phi) n := by
  show Tb.mk _ _ _ _ = Tb.mk _ _ _ _
  congr 1
  · exact mapphi_psi _
  · exact mapphi_psi _
  · show ((List.range (n * n)).map _).map phi = _
    rw [List.map_map]
    refine List.map_congr_left fun q hq => ?_
    have hq := List.mem_range.1 hq
    exact (atF_map V _ (by rw [hV]; exact Nat.div_lt_of_lt_mul hq)).symm
  · show ((List.range (n * n)).map _).map phi = _
    rw [List.map_map]
    refine List.map_congr_left fun q hq => ?_
    exact (atF_map V _ (by rw [hV]; exact Nat.mod_lt _ h0)).symm
theorem layI_len (gs : List Gt) (z V : List Int) (n : Nat) : (layI gs z V n).Len (n * n) := ⟨by simp [layI, wireTab], by simp [layI, wireTab], by simp [layI], by simp [layI]⟩
/-- the place of a gate in the tables -/
def idxG (g : Gt) (n : Nat) : Nat := g.a.toNat * n + g.b.toNat
/-- the table of a sort, of the first j gates -/
def WAt (gs : List Gt) (mul : Bool) (z : List F) (n j : Nat) (L : List Int) : Prop := L.length = n * n ∧ ∀ q, q < n * n → at0 L q = psi (sumTo (fun g => if (atg gs g).mul = mul ∧ idxG (atg gs g) n = q then eqAt z g else 0) j)
theorem wAt_start (gs : List Gt) (mul : Bool) (z : List F) (n n2 : Nat) (h : n2 = n * n) : WAt gs mul z n 0 (List.replicate n2 0) := by
  refine ⟨by simp [h], fun q hq => ?_⟩
  show _ = psi 0
  rw [psi_zero]; simp [at0, h, hq]
theorem wAt_no {gs : List Gt} {mul : Bool} {z : List F} {n j : Nat} {L : List Int} (h : WAt gs mul z n j L) (hm : ¬ (atg gs j).mul = mul) : WAt gs mul z n (j + 1) L := by
  refine ⟨h.1, fun q hq => ?_⟩
  rw [h.2 q hq]
  show psi _ = psi (sumTo _ j + (if _ then _ else _))
  rw [if_neg (fun e => hm e.1), add_zero']
theorem wAt_yes {gs : List Gt} {mul : Bool} {z : List F} {n j p : Nat} {L : List Int} {x : Int} (h : WAt gs mul z n j L) (hm : (atg gs j).mul = mul) (hp : idxG (atg gs j) n = p) (hx : phi x = eqAt z j) (hp2 : p < n * n) :
    WAt gs mul z n (j + 1) (L.set p (psi (phi (at0 L p) + phi x))) := by
  refine ⟨by rw [List.length_set]; exact h.1, fun q hq => ?_⟩
  show _ = psi (sumTo _ j + (if _ then _ else _))
  by_cases e : q = p
  · subst e
    rw [at0_set_self _ _ _ (by rw [h.1]; exact hq), h.2 q hq, phi_psi, if_pos ⟨hm, hp⟩, hx]
  · rw [at0_set_ne _ _ _ _ (fun e' => e e'.symm), h.2 q hq, if_neg (fun e' => e (by rw [← e'.2, hp])), add_zero']
theorem wAt_end {gs : List Gt} {mul : Bool} {z : List F} {n : Nat} {L : List Int} (h : WAt gs mul z n gs.length L) : L = (wireTab gs mul z n).map psi := by
  apply List.ext_getElem?
  intro q
  by_cases hq : q < n * n
  · have h1 := h.2 q hq
    have hl : q < L.length := by rw [h.1]; exact hq
    rw [List.getElem?_eq_getElem hl]
    simp only [at0, List.getElem?_eq_getElem hl, Option.getD_some] at h1
    rw [h1]
    simp only [wireTab, List.getElem?_map, List.getElem?_range hq, Option.map_some]
    rfl
  · rw [List.getElem?_eq_none (by rw [h.1]; omega), List.getElem?_eq_none (by simp [wireTab]; omega)]
/-- the first m places are filled -/
def FAt (f : Nat → Int) (N m : Nat) (L : List Int) : Prop := L.length = N ∧ ∀ q, q < m → at0 L q = f q
theorem fAt_step {f : Nat → Int} {N m : Nat} {L : List Int} {x : Int} (h : FAt f N m L) (hm : m < N) (hx : x = f m) : FAt f N (m + 1) (L.set m x) := by
  refine ⟨by rw [List.length_set]; exact h.1, fun q hq => ?_⟩
  by_cases e : q = m
  · subst e; rw [at0_set_self _ _ _ (by rw [h.1]; exact hm)]; exact hx
  · rw [at0_set_ne _ _ _ _ (fun e' => e e'.symm)]; exact h.2 q (by omega)
theorem fAt_end {f : Nat → Int} {N : Nat} {L : List Int} (h : FAt f N N L) : L = (List.range N).map f := by
  apply List.ext_getElem?
  intro q
  by_cases hq : q < N
  · have h1 := h.2 q hq
    have hl : q < L.length := by rw [h.1]; exact hq
    rw [List.getElem?_eq_getElem hl]
    simp only [at0, List.getElem?_eq_getElem hl, Option.getD_some] at h1
    rw [h1]; simp [hq]
  · rw [List.getElem?_eq_none (by rw [h.1]; omega), List.getElem?_eq_none (by simp; omega)]
/-- the places of the four tables -/
structure Pl4 (B M q0 q1 q2 q3 g : Nat) : Prop where
  n01 : q0 ≠ q1
  n02 : q0 ≠ q2
  n03 : q0 ≠ q3
  n12 : q1 ≠ q2
  n13 : q1 ≠ q3
  n23 : q2 ≠ q3
  g0 : g ≠ q0
  g1 : g ≠ q1
  g2 : g ≠ q2
  g3 : g ≠ q3
  b0 : B ≤ q0 ∧ q0 < M
  b1 : B ≤ q1 ∧ q1 < M
  b2 : B ≤ q2 ∧ q2 < M
  b3 : B ≤ q3 ∧ q3 < M
  bg : B ≤ g ∧ g < M
/-- the four tables, being filled -/
structure MS (B M q0 q1 q2 q3 g n2 : Nat) (LA LM LX LY : List Int) (ez : Value) (EZ : List Int) (w3 wr : World) : Prop where
  r0 : NewU B wr (.slice (some ⟨q0, 0, none⟩) n2 n2) LA
  r1 : NewU B wr (.slice (some ⟨q1, 0, none⟩) n2 n2) LM
  r2 : NewU B wr (.slice (some ⟨q2, 0, none⟩) n2 n2) LX
  r3 : NewU B wr (.slice (some ⟨q3, 0, none⟩) n2 n2) LY
  ez : NewU M wr ez EZ
  blk : wr.heap[g]? = some (.cells #[.slice (some ⟨q0, 0, none⟩) n2 n2, .slice (some ⟨q1, 0, none⟩) n2 n2, .slice (some ⟨q2, 0, none⟩) n2 n2, .slice (some ⟨q3, 0, none⟩) n2 n2] 127 (0, 0))
  below : Below B w3 wr
  size : M ≤ wr.heap.size
theorem setCell_size (w : World) (a : Addr) (u : Value) : (w.setCell a u).heap.size = w.heap.size := by simp [World.setCell]
theorem MS.set0 {B M q0 q1 q2 q3 g n2 : Nat} {LA LM LX LY : List Int} {ez : Value} {EZ : List Int} {w3 wr : World} (h : MS B M q0 q1 q2 q3 g n2 LA LM LX LY ez EZ w3 wr) (P : Pl4 B M q0 q1 q2 q3 g) (j : Nat) (y : Int) (hy : U64 y) :
    MS B M q0 q1 q2 q3 g n2 (LA.set j y) LM LX LY ez EZ w3 (wr.setCell ⟨q0, j, none⟩ (.int .u64 y)) :=
  ⟨h.r0.set j y hy, h.r1.other j _ P.n01.symm, h.r2.other j _ P.n02.symm, h.r3.other j _ P.n03.symm, h.ez.low P.b0.2 j _, (Below.heap_setCell _ _ _ _ P.g0).trans h.blk, h.below.setCell P.b0.1 _, by rw [setCell_size]; exact h.size⟩
theorem MS.set1 {B M q0 q1 q2 q3 g n2 : Nat} {LA LM LX LY : List Int} {ez : Value} {EZ : List Int} {w3 wr : World} (h : MS B M q0 q1 q2 q3 g n2 LA LM LX LY ez EZ w3 wr) (P : Pl4 B M q0 q1 q2 q3 g) (j : Nat) (y : Int) (hy : U64 y) :
    MS B M q0 q1 q2 q3 g n2 LA (LM.set j y) LX LY ez EZ w3 (wr.setCell ⟨q1, j, none⟩ (.int .u64 y)) :=
  ⟨h.r0.other j _ P.n01, h.r1.set j y hy, h.r2.other j _ P.n12.symm, h.r3.other j _ P.n13.symm, h.ez.low P.b1.2 j _, (Below.heap_setCell _ _ _ _ P.g1).trans h.blk, h.below.setCell P.b1.1 _, by rw [setCell_size]; exact h.size⟩
theorem MS.set2 {B M q0 q1 q2 q3 g n2 : Nat} {LA LM LX LY : List Int} {ez : Value} {EZ : List Int} {w3 wr : World} (h : MS B M q0 q1 q2 q3 g n2 LA LM LX LY ez EZ w3 wr) (P : Pl4 B M q0 q1 q2 q3 g) (j : Nat) (y : Int) (hy : U64 y) :
    MS B M q0 q1 q2 q3 g n2 LA LM (LX.set j y) LY ez EZ w3 (wr.setCell ⟨q2, j, none⟩ (.int .u64 y)) :=
  ⟨h.r0.other j _ P.n02, h.r1.other j _ P.n12, h.r2.set j y hy, h.r3.other j _ P.n23.symm, h.ez.low P.b2.2 j _, (Below.heap_setCell _ _ _ _ P.g2).trans h.blk, h.below.setCell P.b2.1 _, by rw [setCell_size]; exact h.size⟩
theorem MS.set3 {B M q0 q1 q2 q3 g n2 : Nat} {LA LM LX LY : List Int} {ez : Value} {EZ : List Int} {w3 wr : World} (h : MS B M q0 q1 q2 q3 g n2 LA LM LX LY ez EZ w3 wr) (P : Pl4 B M q0 q1 q2 q3 g) (j : Nat) (y : Int) (hy : U64 y) :
    MS B M q0 q1 q2 q3 g n2 LA LM LX (LY.set j y) ez EZ w3 (wr.setCell ⟨q3, j, none⟩ (.int .u64 y)) :=
  ⟨h.r0.other j _ P.n03, h.r1.other j _ P.n13, h.r2.other j _ P.n23, h.r3.set j y hy, h.ez.low P.b3.2 j _, (Below.heap_setCell _ _ _ _ P.g3).trans h.blk, h.below.setCell P.b3.1 _, by rw [setCell_size]; exact h.size⟩
theorem MS.go {B M q0 q1 q2 q3 g n2 : Nat} {LA LM LX LY : List Int} {ez : Value} {EZ : List Int} {w3 wr w' : World} (h : MS B M q0 q1 q2 q3 g n2 LA LM LX LY ez EZ w3 wr) (hb : Below wr.heap.size wr w') (hB : B ≤ wr.heap.size) :
    MS B M q0 q1 q2 q3 g n2 LA LM LX LY ez EZ w3 w' :=
  ⟨h.r0.go hb, h.r1.go hb, h.r2.go hb, h.r3.go hb, h.ez.go hb, (hb.block g (blk_lt h.blk)).trans h.blk, h.below.trans (hb.mono hB), Nat.le_trans h.size hb.size⟩
theorem keep_drw {w : World} {a : Addr} {x : Option Value} (h : w.cell? a = x) : w.drew.cell? a = x := h
theorem keep_set1 {w : World} {q j b o : Nat} (u : Value) {x : Option Value} (hb : b ≠ q) (h : w.cell? ⟨b, o, none⟩ = x) : (w.setCell ⟨q, j, none⟩ u).cell? ⟨b, o, none⟩ = x := by
  rw [World.cell?_of_block (w := w) (Below.heap_setCell _ _ _ _ hb)]; exact h
set_option maxRecDepth 100000 in
set_option maxHeartbeats 8000000 in
theorem gkr_made (v : Value) (c : Ci) (i : Nat) (vz vb : Value) (z V : List Int) (w : World) (h : IsC w v c) (hG : Good c) (hi : i < c.layers.length) (hz : RowU w vz z) (hb : RowU w vb V) (hzl : (z.length : Int) = (aty c.layers i).log) (n : Nat) (hn : V.length = n) (hnk : n = 2 ^ (belowLog c i).toNat) :
    Calls Tryd.prog 70 #[v, .int .i64 i, vz, vb] w fun e w' => ∃ v', e = .returned v' ∧ NewT w.heap.size w' v' (layI (aty c.layers i).gates z V n) ∧ Below w.heap.size w w' := by
  have h16 : n ≤ 16 := by rw [hnk]; exact (pow4 (hG.below4 (by omega))).2
  have h1 : 1 ≤ n := by rw [hnk]; exact (pow4 (hG.below4 (by omega))).1
  have HC0 := Lib.hid h
  have Hz := Lib.hid hz; have Hb := Lib.hid hb
  have hz8 : z.length ≤ 8 := by have := hG.l4 i hi; omega
  have HG := Lib.hid hG
  have Hlen := Lib.hid (show (aty c.layers i).gates.length = 2 ^ z.length by rw [hG.len i hi]; congr 1; omega)
  have HIn := Lib.hid (hG.gatesIn hi)
  obtain ⟨hlog, u, rfl, hL⟩ := h
  obtain ⟨_, _, a, cap, rfl, hr⟩ := hL
  obtain ⟨b, off, rfl, hblt, hcell⟩ := hr (by omega)
  obtain ⟨_, ug, c2, hg⟩ := hcell i hi
  have Hg := Lib.hid hg
  obtain ⟨_, _, az, cz, rfl, _⟩ := hz
  obtain ⟨_, _, ab, cb, rfl, _⟩ := hb
  rw [hn]
  rw [hn] at Hb
  obtain ⟨n2, hn2⟩ : ∃ n2 : Nat, n * n = n2 := ⟨n * n, rfl⟩
  have Hn2 := Lib.hid hn2
  have hn2i : (n : Int) * (n : Int) = (n2 : Int) := by rw [← hn2]; exact (Int.natCast_mul n n).symm
  have hm1 : n2 ≤ 256 := by have := Nat.mul_le_mul h16 h16; omega
  have hn2p : 1 ≤ n2 := by have := Nat.mul_le_mul h1 h1; omega
  have hili : (i : Int) < (c.layers.length : Int) := by omega
  have HnV := Lib.hid hn
  have Hnk := Lib.hid hnk
  clear hr hcell hg hG hlog hn hnk hn2 hzl
  go_enter Tryd.func70, Tryd.ntmps70
  go_wp2_with (fail)
  obtain ⟨W, tb, rs, hW, e1, e2, l1, l2, k0, k1, hrs, hbel⟩ := made_start w (.int .i64 c.log) (.slice (some ⟨b, off, none⟩) c.layers.length cap) (.slice none 0 0) 61 127
  rw [hW, ← e2, ← e1]
  have HBW := Lib.hid (show Below w.heap.size w W from e1 ▸ hbel)
  have Htb := Lib.hid e1
  have Hrs := Lib.hid hrs
  clear hW e1 e2 hbel hrs
  refine wp_region_any (by kernel_rfl) ?_
  change wpAny _ _ _ _ _ _ _ (World.drew _)
  have HR := Lib.hid (show Below W.heap.size W W.drew from below_drewN (Below.refl _ _) 1)
  have hWd : W.drew.heap.size = W.heap.size := rfl
  generalize W.drew = W1 at *
  have hm2 : (n2 : Int) ≤ 256 := by omega
  have hm3 : (0 : Int) ≤ (n2 : Int) := by omega
  have hwn : IntKind.i64.wrap (n2 : Int) = (n2 : Int) := IntWalk.i64_in _ (by omega)
  refine wpAny_take (i := 0) (v := .int .i64 (n : Int)) rfl (by kernel_rfl) (by kernel_rfl) (by kernel_rfl) (fun _ _ _ h => h) (Or.inl ⟨by rfl, ?_⟩) ?_
  · intro w; go_simp; done
  refine wpAny_take (i := 1) (v := .int .i64 (n : Int)) rfl (by kernel_rfl) (by kernel_rfl) (by kernel_rfl) (fun _ _ _ h => h) (Or.inl ⟨by rfl, ?_⟩) ?_
  · intro w; go_simp; done
  refine wpAny_take (i := 2) (v := .int .i64 (n2 : Int)) rfl (by kernel_rfl) (by kernel_rfl) (by kernel_rfl) (fun _ _ _ h => h) (Or.inl ⟨by rfl, ?_⟩) ?_
  · intro w; go_simp; done
  refine wpAny_take (i := 4) (v := .int .i64 (n : Int)) rfl (by kernel_rfl) (by kernel_rfl) (by kernel_rfl) (fun _ _ _ h => h) (Or.inl ⟨by rfl, ?_⟩) ?_
  · intro w; go_simp; done
  refine wpAny_take (i := 5) (v := .int .i64 (n : Int)) rfl (by kernel_rfl) (by kernel_rfl) (by kernel_rfl) (fun _ _ _ h => h) (Or.inl ⟨by rfl, ?_⟩) ?_
  · intro w; go_simp; done
  refine wpAny_take (i := 6) (v := .int .i64 (n2 : Int)) rfl (by kernel_rfl) (by kernel_rfl) (by kernel_rfl) (fun _ _ _ h => h) (Or.inl ⟨by rfl, ?_⟩) ?_
  · intro w; go_simp; done
  refine wpAny_take (i := 8) (v := .int .i64 (n : Int)) rfl (by kernel_rfl) (by kernel_rfl) (by kernel_rfl) (fun _ _ _ h => h) (Or.inl ⟨by rfl, ?_⟩) ?_
  · intro w; go_simp; done
  refine wpAny_take (i := 9) (v := .int .i64 (n : Int)) rfl (by kernel_rfl) (by kernel_rfl) (by kernel_rfl) (fun _ _ _ h => h) (Or.inl ⟨by rfl, ?_⟩) ?_
  · intro w; go_simp; done
  refine wpAny_take (i := 10) (v := .int .i64 (n2 : Int)) rfl (by kernel_rfl) (by kernel_rfl) (by kernel_rfl) (fun _ _ _ h => h) (Or.inl ⟨by rfl, ?_⟩) ?_
  · intro w; go_simp; done
  refine wpAny_take (i := 12) (v := .int .i64 (n : Int)) rfl (by kernel_rfl) (by kernel_rfl) (by kernel_rfl) (fun _ _ _ h => h) (Or.inl ⟨by rfl, ?_⟩) ?_
  · intro w; go_simp; done
  refine wpAny_take (i := 13) (v := .int .i64 (n : Int)) rfl (by kernel_rfl) (by kernel_rfl) (by kernel_rfl) (fun _ _ _ h => h) (Or.inl ⟨by rfl, ?_⟩) ?_
  · intro w; go_simp; done
  refine wpAny_take (i := 14) (v := .int .i64 (n2 : Int)) rfl (by kernel_rfl) (by kernel_rfl) (by kernel_rfl) (fun _ _ _ h => h) (Or.inl ⟨by rfl, ?_⟩) ?_
  · intro w; go_simp; done
  go_simp
  clear hwn
  change wpAny _ _ _ _ 7 #[true, true, true, false, true, true, true, false, true, true, true, false, true, true, true, false, false, false, false] _ W1
  refine made_four _ rfl (by rfl) W1 n2 hm1 rfl rfl rfl rfl rfl rfl rfl rfl rfl rfl rfl rfl (by simp) (by simp) (by simp) (by simp) (by simp) (by simp) (by simp) (by rintro k (rfl | rfl | rfl | rfl) <;> simp [Region.binds]) (by rintro k (rfl | rfl) <;> simp [Region.binds]) ?_
  intro v0 v1 v2 v3 g w2 hM
  obtain ⟨⟨q0, rfl⟩, m0⟩ := hM.row 0 v0 rfl
  obtain ⟨⟨q1, rfl⟩, m1⟩ := hM.row 1 v1 rfl
  obtain ⟨⟨q2, rfl⟩, m2⟩ := hM.row 2 v2 rfl
  obtain ⟨⟨q3, rfl⟩, m3⟩ := hM.row 3 v3 rfl
  obtain ⟨p1, p2, p3, p4⟩ := hM.ptr g rfl
  have hPl : Pl4 W1.heap.size w2.heap.size q0 q1 q2 q3 g :=
    ⟨fun e => hM.apart 0 1 _ _ (by omega) rfl rfl q0 rfl (by rw [e]; rfl), fun e => hM.apart 0 2 _ _ (by omega) rfl rfl q0 rfl (by rw [e]; rfl), fun e => hM.apart 0 3 _ _ (by omega) rfl rfl q0 rfl (by rw [e]; rfl), fun e => hM.apart 1 2 _ _ (by omega) rfl rfl q1 rfl (by rw [e]; rfl), fun e => hM.apart 1 3 _ _ (by omega) rfl rfl q1 rfl (by rw [e]; rfl), fun e => hM.apart 2 3 _ _ (by omega) rfl rfl q2 rfl (by rw [e]; rfl),
      fun e => p3 0 _ rfl (by rw [e]; rfl), fun e => p3 1 _ rfl (by rw [e]; rfl), fun e => p3 2 _ rfl (by rw [e]; rfl), fun e => p3 3 _ rfl (by rw [e]; rfl), m0.blk, m1.blk, m2.blk, m3.blk, ⟨p1, p2⟩⟩
  have HPl := Lib.hid hPl
  have M0 := Lib.hid m0; have M1 := Lib.hid m1; have M2 := Lib.hid m2; have M3 := Lib.hid m3; have Mg := Lib.hid p4
  have HB2 := Lib.hid hM.below
  have HBw := Lib.hid (show Below w.heap.size w w2 from (HBW.out.trans (HR.out.mono HBW.out.size)).trans (hM.below.mono (by have := HBW.out.size; omega)))
  have hBW : w.heap.size ≤ W1.heap.size := by have := HBW.out.size; omega
  clear hM m0 m1 m2 m3 p1 p2 p3 p4 hPl
  have htb : tb < W1.heap.size := by omega
  have hrsB : rs < W1.heap.size := by omega
  have K1 := Lib.hid (show w2.cell? ⟨tb, 1, none⟩ = some (.slice (some ⟨b, off, none⟩) c.layers.length cap) from (HB2.out.cell (p := ⟨tb, 1, none⟩) htb).trans ((HR.out.cell (p := ⟨tb, 1, none⟩) (by exact (show tb < W.heap.size by omega))).trans k1))
  have Krs := Lib.hid ((HB2.out.block rs hrsB).trans ((HR.out.block rs (by omega)).trans Hrs.out))
  clear k0 k1
  have hB2 : W1.heap.size ≤ w2.heap.size := HB2.out.size
  generalize W1.heap.size = B at *
  unfold F6
  go_wp2_with (fail)
  refine (mle_Eq z _ _ (Hz.out.go HBw.out) hz8).mono ?_
  rintro e w3 ⟨ez, rfl, hnz, hb3⟩
  have Lz := Lib.hid (eqs_len' z)
  have Az := Lib.hid (fun b h => eqs_at0 (z.map phi) b h)
  generalize (eqs (z.map phi)).map psi = EZ at *
  obtain ⟨ge, ce, rfl, hge1, hge2, _, _⟩ := hnz.shape (by rw [Lz.out]; exact Nat.pow_pos (by decide))
  have hs23 := hb3.size
  have HMS := Lib.hid (show MS B w2.heap.size q0 q1 q2 q3 g n2 (List.replicate n2 0) (List.replicate n2 0) (List.replicate n2 0) (List.replicate n2 0) (.slice (some ⟨ge, 0, none⟩) EZ.length ce) EZ w3 w3 from
    ⟨M0.out.go hb3, M1.out.go hb3, M2.out.go hb3, M3.out.go hb3, hnz, (hb3.block g HPl.out.bg.2).trans Mg.out, Below.refl _ _, hs23⟩)
  have HBw3 := Lib.hid (below_two HBw.out hb3)
  have K1' := (hb3.cell (p := ⟨tb, 1, none⟩) (by exact Nat.lt_of_lt_of_le htb hB2)).trans K1.out
  have K2' := (HBw3.out.cell (p := ⟨b, off + i * 2 + 1, none⟩) (by exact hblt)).trans c2
  have Krs3 := Lib.hid ((hb3.block rs (by exact Nat.lt_of_lt_of_le hrsB hB2)).trans Krs.out)
  have HUz := Lib.hid hnz.1
  clear hnz hb3 c2 M0 M1 M2 M3 Mg
  obtain ⟨hgi, hgl, ag, cg, rfl, hgr⟩ := Hg.out
  have Hgr := Lib.hid hgr
  have hgl16 : (aty c.layers i).gates.length ≤ 16 := by rw [HG.out.len i hi]; exact (pow4 (HG.out.l4 i hi)).2
  have Hgd := Lib.hid (HG.out.gate i hi)
  have Hnk' := Lib.hid Hnk.out.symm
  clear hgr hgi hgl
  generalize hgs : (aty c.layers i).gates = gs at *
  have Hgs := Lib.hid hgs
  clear hgs
  rw [Hnk'.out] at Hgd HIn
  generalize w2.heap.size = M at *
  have hi0 : (0 : Int) ≤ (i : Int) := by omega
  go_wp2_with (fail)
  clear K2'
  go_loopw [49] (fun i wr => ∃ (j : Nat) (LA LM : List Int), j ≤ gs.length ∧ i = .int .i64 (j : Int) ∧ Hid (MS B M q0 q1 q2 q3 g n2 LA LM (List.replicate n2 0) (List.replicate n2 0) (.slice (some ⟨ge, 0, none⟩) EZ.length ce) EZ w3 wr) ∧ Hid (WAt gs false (z.map phi) n j LA) ∧ Hid (WAt gs true (z.map phi) n j LM)) (fun i _ => gs.length - (intOf i).toNat)
  case atStart => exact ⟨0, _, _, by omega, rfl, HMS.out, wAt_start _ _ _ _ _ Hn2.out.symm, wAt_start _ _ _ _ _ Hn2.out.symm⟩
  case round =>
    obtain ⟨j, LA, LM, hj, rfl, HS, HA, HMm⟩ := hrel
    by_cases hz : j < gs.length
    · obtain ⟨b2, off2, rfl, hb2lt, hgc⟩ := Hgr.out (by omega)
      obtain ⟨e1, e2, e3⟩ := hgc j hz
      have hbr := HBw3.out.trans (HS.out.below.mono hBW)
      have f1 := (hbr.cell (p := ⟨b2, off2 + j * 3, none⟩) (by exact hb2lt)).trans e1
      have f2 := (hbr.cell (p := ⟨b2, off2 + j * 3 + 1, none⟩) (by exact hb2lt)).trans e2
      have f3 := (hbr.cell (p := ⟨b2, off2 + j * 3 + 2, none⟩) (by exact hb2lt)).trans e3
      have hjl : (j : Int) < (gs.length : Int) := by omega
      have hj0 : (0 : Int) ≤ (j : Int) := by omega
      have hok := HIn.out j hz
      have hbd := gateOk_bd (Hgd.out j hz)
      have hAno := Lib.hid (fun hm => wAt_no (j := j) HA.out hm)
      have hMno := Lib.hid (fun hm => wAt_no (j := j) HMm.out hm)
      have hAyes := Lib.hid (fun hm (p : Nat) x hp hx h2 => wAt_yes (p := p) (x := x) (j := j) HA.out hm hp hx h2)
      have hMyes := Lib.hid (fun hm (p : Nat) x hp hx h2 => wAt_yes (p := p) (x := x) (j := j) HMm.out hm hp hx h2)
      have hjz : j < EZ.length := by rw [Lz.out, ← Hlen.out]; exact hz
      have hjzi : (j : Int) < (EZ.length : Int) := by omega
      have azj := Az.out j (by rw [List.length_map, ← Hlen.out]; exact hz)
      have hBwr : B ≤ wr.heap.size := Nat.le_trans hB2 HS.out.size
      have HLA := Lib.hid HA.out.1; have HLM := Lib.hid HMm.out.1
      clear hgc e1 e2 e3 hbr HA HMm
      generalize atg gs j = gt at *
      obtain ⟨gm, ga, gb⟩ := gt
      obtain ⟨hA, hB⟩ := hok
      obtain ⟨ga0, _, gb0, _⟩ := hbd
      simp only at f1 f2 f3 hA hB ga0 gb0
      obtain ⟨A, rfl⟩ : ∃ A : Nat, ga = (A : Int) := ⟨ga.toNat, by omega⟩
      obtain ⟨Bb, rfl⟩ : ∃ B : Nat, gb = (B : Int) := ⟨gb.toNat, by omega⟩
      have hA' : A < n := by omega
      have hB' : Bb < n := by omega
      have hpn := idx_lt hA' hB'
      obtain ⟨p, hp⟩ : ∃ p, A * n + Bb = p := ⟨_, rfl⟩
      rw [hp] at hpn
      have hidx := Lib.hid (show idxG ⟨gm, (A : Int), (Bb : Int)⟩ n = p from hp)
      obtain ⟨An, hAn⟩ : ∃ An : Nat, A * n = An := ⟨_, rfl⟩
      have hAni : (A : Int) * (n : Int) = (An : Int) := by rw [← hAn]; exact (Int.natCast_mul A n).symm
      have hsum : (An : Int) + (Bb : Int) = (p : Int) := by omega
      have hpn2 : p < n2 := by rw [← Hn2.out]; exact hpn
      have hpL : p < LA.length := by rw [HLA.out, Hn2.out]; exact hpn2
      have hpLM : p < LM.length := by rw [HLM.out, Hn2.out]; exact hpn2
      have hpi : (p : Int) < (n2 : Int) := by omega
      have hp0 : (0 : Int) ≤ (p : Int) := by omega
      have hAn256 : (An : Int) ≤ 256 := by omega
      have hpn' := Lib.hid hpn
      clear hA hB hp hAn hpn ga0 gb0
      cases gm
      · go_wp2_with (fail)
        obtain ⟨wv, rfl⟩ : ∃ x : World, x = wr := ⟨_, rfl⟩
        obtain ⟨X, hX, t0, t1, t2, hXb, hXs⟩ := copied3' wv (.bool false) (.int .i64 A) (.int .i64 Bb) 93
        rw [hX]
        have HX := Lib.hid (HS.out.go hXb hBwr)
        clear hX hXs hXb t0 t1 t2 f1 f2 f3
        have cz1 := HX.out.ez.cellAt j hjz
        have cT := HX.out.r0.cellAt p hpL
        have fT := HX.out.r0.freeAt p
        have cG : X.cell? ⟨g, 0, none⟩ = some (.slice (some ⟨q0, 0, none⟩) n2 n2) := cell_blk HX.out.blk 0
        have uT := HX.out.r0.1 _ (at0_mem hpL)
        rw [azj] at cz1
        generalize hTP : at0 LA p = TP at *
        have HTP := Lib.hid hTP
        clear hTP
        refine wp_region_still_tail 14 (by kernel_rfl) (by kernel_rfl) ?_
        simp only [List.take_succ_cons, List.take_zero, List.drop_succ_cons, List.drop_zero]
        repeat (first | still_step | still_call (still_of (field_Add _ _ _ uT (U64.psi _))))
        try refine wpStill_nil ?_
        change wpList _ _ _ _ _ (World.drew _)
        go_wp2
        go_roundw
        case rel => exact ⟨j + 1, LA.set p (psi (phi TP + phi (psi (eqAt (z.map phi) j)))), LM, by omega, by go_num, (HX.out.set0 HPl.out p _ (U64.psi _)).go (below_drw _) (by rw [setCell_size]; exact Nat.le_trans hB2 HX.out.size), by have := hAyes.out (by first | rfl | trivial) p _ hidx.out (phi_psi _) hpn'.out; rw [HTP.out] at this; exact this, hMno.out (by intro h; cases h)⟩
        case measure => simp [intOf]; omega
      · go_wp2_with (fail)
        obtain ⟨wv, rfl⟩ : ∃ x : World, x = wr := ⟨_, rfl⟩
        obtain ⟨X, hX, t0, t1, t2, hXb, hXs⟩ := copied3' wv (.bool true) (.int .i64 A) (.int .i64 Bb) 93
        rw [hX]
        have HX := Lib.hid (HS.out.go hXb hBwr)
        clear hX hXs hXb t0 t1 t2 f1 f2 f3
        have cz1 := HX.out.ez.cellAt j hjz
        have cT := HX.out.r1.cellAt p hpLM
        have fT := HX.out.r1.freeAt p
        have cG : X.cell? ⟨g, 1, none⟩ = some (.slice (some ⟨q1, 0, none⟩) n2 n2) := cell_blk HX.out.blk 1
        have uT := HX.out.r1.1 _ (at0_mem hpLM)
        rw [azj] at cz1
        generalize hTP : at0 LM p = TP at *
        have HTP := Lib.hid hTP
        clear hTP
        refine wp_region_still_tail 14 (by kernel_rfl) (by kernel_rfl) ?_
        simp only [List.take_succ_cons, List.take_zero, List.drop_succ_cons, List.drop_zero]
        repeat (first | still_step | still_call (still_of (field_Add _ _ _ uT (U64.psi _))))
        try refine wpStill_nil ?_
        change wpList _ _ _ _ _ (World.drew _)
        go_wp2
        go_roundw
        case rel => exact ⟨j + 1, LA, LM.set p (psi (phi TP + phi (psi (eqAt (z.map phi) j)))), by omega, by go_num, (HX.out.set1 HPl.out p _ (U64.psi _)).go (below_drw _) (by rw [setCell_size]; exact Nat.le_trans hB2 HX.out.size), hAno.out (by intro h; cases h), by have := hMyes.out (by first | rfl | trivial) p _ hidx.out (phi_psi _) hpn'.out; rw [HTP.out] at this; exact this⟩
        case measure => simp [intOf]; omega
    · obtain rfl : j = gs.length := by omega
      have HLA := Lib.hid (wAt_end HA.out); have HLM := Lib.hid (wAt_end HMm.out)
      clear HA HMm
      go_wp2_with (fail)
      obtain ⟨wo, rfl⟩ : ∃ x : World, x = wr := ⟨_, rfl⟩
      go_loopw [93] (fun i wr => ∃ (x : Nat) (LX LY : List Int), x ≤ n ∧ i = .int .i64 (x : Int) ∧ Hid (MS B M q0 q1 q2 q3 g n2 LA LM LX LY (.slice (some ⟨ge, 0, none⟩) EZ.length ce) EZ w3 wr) ∧ Hid (FAt (fun q => at0 V (q / n)) n2 (x * n) LX) ∧ Hid (FAt (fun q => at0 V (q % n)) n2 (x * n) LY)) (fun i _ => n - (intOf i).toNat)
      case atStart => exact ⟨0, _, _, by omega, rfl, HS.out, ⟨by simp, fun q hq => by omega⟩, ⟨by simp, fun q hq => by omega⟩⟩
      case round =>
        obtain ⟨x, LX, LY, hx, rfl, HS2, HX, HY⟩ := hrel
        by_cases hxn : x < n
        · have hxi : (x : Int) < (n : Int) := by omega
          go_wp2_with (fail)
          go_loopw [97] (fun i wr => ∃ (y : Nat) (LX LY : List Int), y ≤ n ∧ i = .int .i64 (y : Int) ∧ Hid (MS B M q0 q1 q2 q3 g n2 LA LM LX LY (.slice (some ⟨ge, 0, none⟩) EZ.length ce) EZ w3 wr) ∧ Hid (FAt (fun q => at0 V (q / n)) n2 (x * n + y) LX) ∧ Hid (FAt (fun q => at0 V (q % n)) n2 (x * n + y) LY)) (fun i _ => n - (intOf i).toNat)
          case atStart => exact ⟨0, LX, LY, by omega, rfl, HS2.out, HX.out, HY.out⟩
          case round =>
            rename_i wq
            clear HX HY HS2
            obtain ⟨y, LX, LY, hy, rfl, HS2, HX, HY⟩ := hrel
            by_cases hyn : y < n
            · have hyi : (y : Int) < (n : Int) := by omega
              have hpn := idx_lt hxn hyn
              have HX1 := Lib.hid (fun v h1 => fAt_step (x := v) HX.out (by rw [← Hn2.out]; exact hpn) h1)
              have HY1 := Lib.hid (fun v h1 => fAt_step (x := v) HY.out (by rw [← Hn2.out]; exact hpn) h1)
              have HdX := Lib.hid (idx_div (a := x) hyn); have HdY := Lib.hid (idx_mod (a := x) hyn)
              have HLX := Lib.hid HX.out.1; have HLY := Lib.hid HY.out.1
              obtain ⟨p, hp⟩ : ∃ p, x * n + y = p := ⟨_, rfl⟩
              have Hp1 := Lib.hid (show x * n + (y + 1) = p + 1 by omega)
              rw [hp] at hpn HX1 HY1 HdX HdY
              obtain ⟨An, hAn⟩ : ∃ An : Nat, x * n = An := ⟨_, rfl⟩
              have hAni : (x : Int) * (n : Int) = (An : Int) := by rw [← hAn]; exact (Int.natCast_mul x n).symm
              have hsum : (An : Int) + (y : Int) = (p : Int) := by omega
              have hpn2 : p < n2 := by rw [← Hn2.out]; exact hpn
              have hpX : p < LX.length := by rw [HLX.out]; exact hpn2
              have hpY : p < LY.length := by rw [HLY.out]; exact hpn2
              have hpi : (p : Int) < (n2 : Int) := by omega
              have hp0 : (0 : Int) ≤ (p : Int) := by omega
              have hx0 : (0 : Int) ≤ (x : Int) := by omega
              have hy0 : (0 : Int) ≤ (y : Int) := by omega
              have hAn256 : (An : Int) ≤ 256 := by omega
              clear hp hAn hpn HX HY
              have hBwr : B ≤ wr.heap.size := Nat.le_trans hB2 HS2.out.size
              obtain ⟨ub, _, ab', cb', e, hbc⟩ := Hb.out
              simp only [Value.slice.injEq] at e
              obtain ⟨rfl, -, rfl⟩ := e
              obtain ⟨bb, ob, rfl, hblt2, hbcell⟩ := hbc (by rw [HnV.out]; omega)
              have hbr := HBw3.out.trans (HS2.out.below.mono hBW)
              have cX := (hbr.cell (p := ⟨bb, ob + x, none⟩) hblt2).trans (hbcell x (by rw [HnV.out]; exact hxn))
              have cY := (hbr.cell (p := ⟨bb, ob + y, none⟩) hblt2).trans (hbcell y (by rw [HnV.out]; exact hyn))
              have uX := ub _ (at0_mem (l := V) (j := x) (by rw [HnV.out]; exact hxn))
              have uY := ub _ (at0_mem (l := V) (j := y) (by rw [HnV.out]; exact hyn))
              have cG2 : wr.cell? ⟨g, 2, none⟩ = some (.slice (some ⟨q2, 0, none⟩) n2 n2) := cell_blk HS2.out.blk 2
              have cG3 : wr.cell? ⟨g, 3, none⟩ = some (.slice (some ⟨q3, 0, none⟩) n2 n2) := cell_blk HS2.out.blk 3
              have cT2 := HS2.out.r2.cellAt p hpX
              have fT2 := HS2.out.r2.freeAt p
              have cT3 := HS2.out.r3.cellAt p hpY
              have fT3 := HS2.out.r3.freeAt p
              have n23 := HPl.out.n23
              clear hbc hbcell hbr ub
              generalize at0 LX p = OX at *
              generalize at0 LY p = OY at *
              generalize hVX : at0 V x = VX at *
              generalize hVY : at0 V y = VY at *
              have HVX := Lib.hid hVX; have HVY := Lib.hid hVY
              clear hVX hVY
              obtain ⟨wv, rfl⟩ : ∃ x : World, x = wr := ⟨_, rfl⟩
              go_wp2_with (fail)
              have hw1 : IntKind.i64.wrap (An : Int) = (An : Int) := IntWalk.i64_in _ (by omega)
              have hw2 : IntKind.i64.wrap (p : Int) = (p : Int) := IntWalk.i64_in _ (by omega)
              have hxi' : (x : Int) < (n : Int) := by omega
              have hpi' : (p : Int) < (n2 : Int) := by omega
              have hx0' : (0 : Int) ≤ (x : Int) := by omega
              have hp0' : (0 : Int) ≤ (p : Int) := by omega
              have nb2 : bb ≠ q2 := by have := HPl.out.b2.1; omega
              have nb3 : bb ≠ q3 := by have := HPl.out.b3.1; omega
              have ng2 : g ≠ q2 := HPl.out.g2
              have ng3 : g ≠ q3 := HPl.out.g3
              go_region_held3 (fun w' => w'.cell? ⟨g, 2, none⟩ = some (.slice (some ⟨q2, 0, none⟩) n2 n2) ∧ w'.cell? ⟨g, 3, none⟩ = some (.slice (some ⟨q3, 0, none⟩) n2 n2) ∧ w'.cell? ⟨bb, ob + x, none⟩ = some (.int .u64 VX) ∧ w'.cell? ⟨bb, ob + y, none⟩ = some (.int .u64 VY))
                (first
                  | with_reducible exact ⟨keep_drw cG2, keep_drw cG3, keep_drw cX, keep_drw cY⟩
                  | with_reducible exact ⟨keep_set1 _ ng2 (keep_drw cG2), keep_set1 _ ng2 (keep_drw cG3), keep_set1 _ nb2 (keep_drw cX), keep_set1 _ nb2 (keep_drw cY)⟩
                  | with_reducible exact ⟨keep_drw (keep_set1 _ ng2 cG2), keep_drw (keep_set1 _ ng2 cG3), keep_drw (keep_set1 _ nb2 cX), keep_drw (keep_set1 _ nb2 cY)⟩
                  | with_reducible exact ⟨keep_set1 _ ng3 (keep_drw cG2), keep_set1 _ ng3 (keep_drw cG3), keep_set1 _ nb3 (keep_drw cX), keep_set1 _ nb3 (keep_drw cY)⟩
                  | with_reducible exact ⟨keep_drw (keep_set1 _ ng3 (keep_set1 _ ng2 cG2)), keep_drw (keep_set1 _ ng3 (keep_set1 _ ng2 cG3)), keep_drw (keep_set1 _ nb3 (keep_set1 _ nb2 cX)), keep_drw (keep_set1 _ nb3 (keep_set1 _ nb2 cY))⟩
                  | with_reducible exact ⟨keep_set1 _ ng3 (keep_set1 _ ng2 (keep_drw cG2)), keep_set1 _ ng3 (keep_set1 _ ng2 (keep_drw cG3)), keep_set1 _ nb3 (keep_set1 _ nb2 (keep_drw cX)), keep_set1 _ nb3 (keep_set1 _ nb2 (keep_drw cY))⟩)
                (fail)
              go_wp2
              go_roundw
              case rel => exact ⟨y + 1, LX.set p VX, LY.set p VY, by omega, by go_num, (by first
                  | exact ((HS2.out.set2 HPl.out p VX uX).set3 HPl.out p VY uY).go (below_drw _) (by rw [setCell_size, setCell_size]; exact hBwr)
                  | exact ((HS2.out.go (below_drw _) hBwr).set2 HPl.out p VX uX).set3 HPl.out p VY uY), by rw [Hp1.out]; exact HX1.out VX (by rw [HdX.out]; exact HVX.out.symm), by rw [Hp1.out]; exact HY1.out VY (by rw [HdY.out]; exact HVY.out.symm)⟩
              case measure => simp [intOf]; omega
            · obtain rfl : y = n := by omega
              go_wp2
              go_roundw
              case rel => exact ⟨x + 1, LX, LY, by omega, by go_num, HS2.out, by rw [Nat.succ_mul]; exact HX.out, by rw [Nat.succ_mul]; exact HY.out⟩
              case measure => simp [intOf]; omega
        · obtain rfl : x = n := by omega
          have HLX := Lib.hid (show LX = (List.range (x * x)).map fun q => at0 V (q / x) by have := HX.out; rw [Hn2.out] at this ⊢; exact fAt_end this)
          have HLY := Lib.hid (show LY = (List.range (x * x)).map fun q => at0 V (q % x) by have := HY.out; rw [Hn2.out] at this ⊢; exact fAt_end this)
          have d0 : wr.cell? ⟨g, 0, none⟩ = some _ := cell_blk HS2.out.blk 0
          have d1 : wr.cell? ⟨g, 1, none⟩ = some _ := cell_blk HS2.out.blk 1
          have d2 : wr.cell? ⟨g, 2, none⟩ = some _ := cell_blk HS2.out.blk 2
          have d3 : wr.cell? ⟨g, 3, none⟩ = some _ := cell_blk HS2.out.blk 3
          have hrr := (HS2.out.below.block rs hrsB).trans Krs3.out
          have g0 : wr.cell? ⟨rs, 0, none⟩ = some _ := cell_blk hrr 0
          have g1 : wr.cell? ⟨rs, 1, none⟩ = some _ := cell_blk hrr 1
          have g2 : wr.cell? ⟨rs, 2, none⟩ = some _ := cell_blk hrr 2
          have g3 : wr.cell? ⟨rs, 3, none⟩ = some _ := cell_blk hrr 3
          have f0 := free_blk hrr 0; have f1 := free_blk hrr 1; have f2 := free_blk hrr 2; have f3 := free_blk hrr 3
          have Hrr := Lib.hid hrr
          clear hrr HX HY
          go_wp2_with (fail)
          clear d0 d1 d2 d3 g0 g1 g2 g3 f0 f1 f2 f3
          have hws : w.heap.size ≤ rs := by have := Htb.out; omega
          have HW := HBw3.out.trans (HS2.out.below.mono hBW)
          have hbw := (((HW.setCell (p := ⟨rs, 0, none⟩) hws (.slice (some ⟨q0, 0, none⟩) n2 n2)).setCell (p := ⟨rs, 1, none⟩) hws (.slice (some ⟨q1, 0, none⟩) n2 n2)).setCell (p := ⟨rs, 2, none⟩) hws (.slice (some ⟨q2, 0, none⟩) n2 n2)).setCell (p := ⟨rs, 3, none⟩) hws (.slice (some ⟨q3, 0, none⟩) n2 n2)
          have R0 := (((HS2.out.r0.low hrsB 0 (.slice (some ⟨q0, 0, none⟩) n2 n2)).low hrsB 1 (.slice (some ⟨q1, 0, none⟩) n2 n2)).low hrsB 2 (.slice (some ⟨q2, 0, none⟩) n2 n2)).low hrsB 3 (.slice (some ⟨q3, 0, none⟩) n2 n2)
          have R1 := (((HS2.out.r1.low hrsB 0 (.slice (some ⟨q0, 0, none⟩) n2 n2)).low hrsB 1 (.slice (some ⟨q1, 0, none⟩) n2 n2)).low hrsB 2 (.slice (some ⟨q2, 0, none⟩) n2 n2)).low hrsB 3 (.slice (some ⟨q3, 0, none⟩) n2 n2)
          have R2 := (((HS2.out.r2.low hrsB 0 (.slice (some ⟨q0, 0, none⟩) n2 n2)).low hrsB 1 (.slice (some ⟨q1, 0, none⟩) n2 n2)).low hrsB 2 (.slice (some ⟨q2, 0, none⟩) n2 n2)).low hrsB 3 (.slice (some ⟨q3, 0, none⟩) n2 n2)
          have R3 := (((HS2.out.r3.low hrsB 0 (.slice (some ⟨q0, 0, none⟩) n2 n2)).low hrsB 1 (.slice (some ⟨q1, 0, none⟩) n2 n2)).low hrsB 2 (.slice (some ⟨q2, 0, none⟩) n2 n2)).low hrsB 3 (.slice (some ⟨q3, 0, none⟩) n2 n2)
          have hblk := blk_setCell (blk_setCell (blk_setCell (blk_setCell Hrr.out 0 (.slice (some ⟨q0, 0, none⟩) n2 n2)) 1 (.slice (some ⟨q1, 0, none⟩) n2 n2)) 2 (.slice (some ⟨q2, 0, none⟩) n2 n2)) 3 (.slice (some ⟨q3, 0, none⟩) n2 n2)
          rw [HLA.out, ← Hgs.out] at R0; rw [HLM.out, ← Hgs.out] at R1; rw [HLX.out] at R2; rw [HLY.out] at R3
          generalize (((wr.setCell ⟨rs, 0, none⟩ (.slice (some ⟨q0, 0, none⟩) n2 n2)).setCell ⟨rs, 1, none⟩ (.slice (some ⟨q1, 0, none⟩) n2 n2)).setCell ⟨rs, 2, none⟩ (.slice (some ⟨q2, 0, none⟩) n2 n2)).setCell ⟨rs, 3, none⟩ (.slice (some ⟨q3, 0, none⟩) n2 n2) = wz at *
          have d0 : wz.cell? ⟨rs, 0, none⟩ = some (.slice (some ⟨q0, 0, none⟩) n2 n2) := cell_blk hblk 0
          have d1 : wz.cell? ⟨rs, 1, none⟩ = some (.slice (some ⟨q1, 0, none⟩) n2 n2) := cell_blk hblk 1
          have d2 : wz.cell? ⟨rs, 2, none⟩ = some (.slice (some ⟨q2, 0, none⟩) n2 n2) := cell_blk hblk 2
          have d3 : wz.cell? ⟨rs, 3, none⟩ = some (.slice (some ⟨q3, 0, none⟩) n2 n2) := cell_blk hblk 3
          exact bodyPost_ret (v := .agg #[.slice (some ⟨q0, 0, none⟩) n2 n2, .slice (some ⟨q1, 0, none⟩) n2 n2, .slice (some ⟨q2, 0, none⟩) n2 n2, .slice (some ⟨q3, 0, none⟩) n2 n2]) (by simp [results, Tryd.results70, go_sem, d0, d1, d2, d3]) rfl ⟨_, rfl, ⟨_, _, _, _, rfl, R0.mono hBW, R1.mono hBW, R2.mono hBW, R3.mono hBW⟩, hbw⟩
end Go.Proofs.YtfgoidaldgfklaaDoor
