/- Several texts in one: StrW, RTextW. What each says, and its conditions, stands at its head. -/
import Derived.Test.YtlfneeobnihocaaGreatDoorShelf
import Derived.Test.YtlfneeobnihocaaGreatDoorPcs
import Derived.Test.YtlfneeobnihocaaGreatDoorFar
import Derived.Lib.OthersKept
import Derived.StillTailTactics
/- The library's writers of texts: a builder that the call has made, and numerals below 100. From the kit's shelf. No condition on the world. -/
namespace Go.Proofs.YtlfneeobnihocaaGreatDoor
set_option maxRecDepth 100000
set_option linter.unusedVariables false
open Go.RowKit Tally
/-- a builder that the call has made in block b, and what has been written into it -/
def Bd (b : Nat) (s : ByteArray) (w : World) : Prop := Lib.IsBuilderF 35 5 b b (Lib.strCells s) w
theorem strCells_append (a b : ByteArray) : Lib.strCells (a ++ b) = Lib.strCells a ++ Lib.strCells b := by simp [Lib.strCells, ByteArray.data_append]
theorem Bd.fresh (w : World) : Bd w.heap.size ByteArray.empty (w.alloc (.cells #[.pointer none, .slice none 0 0] 35)) := Lib.IsBuilderF.of (Lib.fresh_isBuilder _ _ w)
theorem Bd.alloc {b : Nat} {s : ByteArray} {w : World} (h : Bd b s w) (o : Obj) : Bd b s (w.alloc o) := Lib.IsBuilderF.alloc h o
theorem Bd.drewN {b : Nat} {s : ByteArray} {w : World} (h : Bd b s w) (n : Nat) : Bd b s (w.drewN n) := by
  rcases h with h | h
  · exact Or.inl h
  · exact Or.inr h
theorem Bd.go {b : Nat} {s : ByteArray} {w w' : World} (h : Bd b s w) (hb : Below w.heap.size w w') : Bd b s w' := by
  have key : ∀ p, Lib.BuilderAtF 35 5 b b p (Lib.strCells s) w → Lib.BuilderAtF 35 5 b b p (Lib.strCells s) w' := by
    rintro p ⟨hB, v, hbk, hown, hne⟩
    have hlt : b < w.heap.size := (Array.getElem?_eq_some_iff.1 hbk).1
    refine ⟨hB, v, by rw [hb.block b hlt]; exact hbk, ?_, hne⟩
    refine ⟨hown.1, ?_⟩
    rcases hown.2 with hn | ⟨g, cap, cur, fz, hv, hg0, hg, rest⟩
    · exact Or.inl hn
    · exact Or.inr ⟨g, cap, cur, fz, hv, hg0, by rw [hb.block g (Array.getElem?_eq_some_iff.1 hg).1]; exact hg, rest⟩
  rcases h with h | h
  · exact Or.inl (key _ h)
  · exact Or.inr (key _ h)
theorem Bd.lt {b : Nat} {s : ByteArray} {w : World} (h : Bd b s w) : b < w.heap.size := by
  rcases h with ⟨_, v, hbk, _⟩ | ⟨_, v, hbk, _⟩ <;> exact (Array.getElem?_eq_some_iff.1 hbk).1
theorem Tryz.sizeBd : (Tryz.prog.info? 35).map (·.size) = some 2 := by kernel_rfl
theorem Tryz.liesBd : liesAt Tryz.prog Tryz.prog.depth 35 (2 / Tryz.prog.cellsOf 35) 0 35 1 = true := by kernel_rfl
theorem Tryz.infoByte : (Tryz.prog.info? 5).map (fun i => (i.zero, i.size, i.bytes)) = some (some (.int .u8 0), 1, 1) := by kernel_rfl
set_option maxHeartbeats 1000000 in
set_option maxRecDepth 100000 in
theorem b_check_used (b : Nat) (w : World) (h0 : w.cell? ⟨b, 0, none⟩ = some (.pointer (some ⟨b, 0, none⟩))) :
    Calls Tryz.prog 27 #[.pointer (some ⟨b, 0, none⟩)] w fun e w' => e = .returned (.tuple #[]) ∧ w' = w := by
  obtain ⟨j, hj, _⟩ := Option.map_eq_some_iff.1 Tryz.sizeBd
  go_enter Tryz.func27, Tryz.ntmps27
  go_wp2
  rw [Lib.run_neq_ptr_same w _ Tryz.underlying32 hj]
  go_wp2
  go_end0
  exact ⟨rfl, rfl⟩
set_option maxHeartbeats 1000000 in
set_option maxRecDepth 100000 in
theorem b_check_fresh (b : Nat) (w : World) (h0 : w.cell? ⟨b, 0, none⟩ = some (.pointer none)) (hsh : w.shape? b = some (35, 2)) (hfz : w.frozen? ⟨b, 0, none⟩ = false) :
    Calls Tryz.prog 27 #[.pointer (some ⟨b, 0, none⟩)] w fun e w' => e = .returned (.tuple #[]) ∧ w' = w.setCell ⟨b, 0, none⟩ (.pointer (some ⟨b, 0, none⟩)) := by
  obtain ⟨j, hj, hjs⟩ := Option.map_eq_some_iff.1 Tryz.sizeBd
  go_enter Tryz.func27, Tryz.ntmps27
  go_wp2
  rw [Lib.run_to_unsafe w ⟨b, 0, none⟩ Tryz.underlying32 Tryz.underlying80 hj (by rw [hjs]; decide) hsh (Nat.zero_lt_succ 1)]
  simp only [Result.andThen]
  rw [Oper.upon_value]
  go_wp2
  rw [run_callFunc_extern Tryz.func57 (by kernel_rfl) (by kernel_rfl) (by kernel_rfl) (e := Extern.AbiNoEscape.same) (by kernel_rfl)]
  rw [Lib.run_noEscape]
  simp only [Result.andThen]
  rw [Oper.upon_value]
  go_wp2
  rw [Lib.run_from_unsafe w ⟨b, 0, none⟩ Tryz.underlying80 Tryz.underlying32 hj hsh Tryz.liesBd]
  simp only [Result.andThen]
  rw [Oper.upon_value]
  go_wp2
  go_end0
  exact ⟨rfl, rfl⟩
theorem b_check (b : Nat) (bs : List Value) (w : World) (h : Lib.IsBuilderF 35 5 b b bs w) :
    Calls Tryz.prog 27 #[.pointer (some ⟨b, 0, none⟩)] w fun e w' => e = .returned (.tuple #[]) ∧ (Lib.BuilderAtF 35 5 b b (.pointer (some ⟨b, 0, none⟩)) bs w' ∧ Below b w w' ∧ Lib.OthersKept 5 (some b) w w') := by
  rcases h with h | h
  · refine (b_check_fresh b w h.cell0 h.shape h.frozen0).mono ?_
    rintro e w' ⟨rfl, rfl⟩
    exact ⟨rfl, h.used _, (Below.refl b w).setCell (p := ⟨b, 0, none⟩) h.1 _, (Lib.OthersKept.refl _ _ _).setCell ⟨b, 0, none⟩ rfl _⟩
  · refine (b_check_used b w h.cell0).mono ?_
    rintro e w' ⟨rfl, rfl⟩
    exact ⟨rfl, h, Below.refl _ _, Lib.OthersKept.refl _ _ _⟩
set_option maxHeartbeats 2000000 in
set_option maxRecDepth 100000 in
theorem b_WriteV (b : Nat) (bs : List Value) (s : ByteArray) (w : World) (h : Lib.IsBuilderF 35 5 b b bs w) (hlen : bs.length + s.size ≤ 140737488355328) (hBw : b ≤ w.heap.size) :
    Calls Tryz.prog 15 #[.pointer (some ⟨b, 0, none⟩), .string s] w fun e w' => e = .returned (.tuple #[.int .i64 s.size, .nilIface]) ∧ (Lib.BuilderAtF 35 5 b b (.pointer (some ⟨b, 0, none⟩)) (bs ++ Lib.strCells s) w' ∧ Below b w w' ∧ Lib.OthersKept 5 (some b) w w') := by
  obtain ⟨i0, hi, hz0, hz1, hz2⟩ := info_parts Tryz.infoByte
  go_enter Tryz.func15, Tryz.ntmps15
  go_wp2_with (go_at_call 27; refine (b_check b bs _ h).mono ?_)
  rintro e w1 ⟨rfl, h1, hb1, hk1⟩
  obtain ⟨hB, v, hbk, hown, hne⟩ := h1
  have c0 : w1.cell? ⟨b, 0, none⟩ = some (.pointer (some ⟨b, 0, none⟩)) := by rw [Lib.cell_of_heap hbk]; rfl
  have c1 : w1.cell? ⟨b, 1, none⟩ = some v := by rw [Lib.cell_of_heap hbk]; rfl
  go_wp2_with (at_builtin; refine Lib.wpList_append_own_stringF _ rfl _ _ 33 9 rfl b 5 i0 Tryz.underlying33 Tryz.underlying9 hi hz0 hz1 hz2 _ _ _ rfl hown s rfl ?c3 ?c4 ?c5 ?_)
  case c3 => unfold maxLen; omega
  case c4 => omega
  case c5 => have := hb1.size; omega
  intro v' w2 hown' hgrow _
  have hlt : b < w1.heap.size := (Array.getElem?_eq_some_iff.1 hbk).1
  have hb2 : w2.heap[b]? = some (.cells #[.pointer (some ⟨b, 0, none⟩), v] 35 (0, 0)) := by
    rw [hgrow.block b hlt (fun e => hne e.symm)]
    exact hbk
  have d0 : w2.cell? ⟨b, 0, none⟩ = some (.pointer (some ⟨b, 0, none⟩)) := by rw [Lib.cell_of_heap hb2]; rfl
  have d1 : w2.cell? ⟨b, 1, none⟩ = some v := by rw [Lib.cell_of_heap hb2]; rfl
  have f1 : w2.frozen? ⟨b, 1, none⟩ = false := Lib.frozen_of_heap hb2 1
  obtain ⟨ao, n', cap, rfl⟩ : ∃ ao n' cap, v' = .slice ao n' cap := by
    rcases hown'.2 with ⟨hv, _⟩ | ⟨g, cap, cur, fz, hv, _⟩
    · exact ⟨_, _, _, hv⟩
    · exact ⟨_, _, _, hv⟩
  go_wp2
  go_ret2
  refine ⟨rfl, ?_, ?_, (hk1.grown hgrow (Lib.ownsRowF_kind hown)).setCell ⟨b, 1, none⟩ rfl _⟩
  · exact Lib.BuilderAtF.put (T := 35) (e := 5) hB hb2 (bs' := bs ++ Lib.strCells s) (by simpa [Lib.strCells_length] using hown') (by decide)
  · exact (hb1.grown hgrow (by have := hb1.size; omega) (fun k hk => (hown.lt k hk).1)).setCell (p := ⟨b, 1, none⟩) hB _
theorem b_Write (b : Nat) (s x : ByteArray) (w : World) (h : Bd b s w) (hl : s.size + x.size ≤ 1000000) (hb : b ≤ w.heap.size) :
    Calls Tryz.prog 15 #[.pointer (some ⟨b, 0, none⟩), .string x] w fun e w' => e = .returned (.tuple #[.int .i64 x.size, .nilIface]) ∧ Bd b (s ++ x) w' ∧ Below b w w' ∧ Lib.OthersKept 5 (some b) w w' := by
  refine (b_WriteV b (Lib.strCells s) x w h (by rw [Lib.strCells_length]; omega) hb).mono ?_
  rintro e w' ⟨rfl, h1, h2, h3⟩
  exact ⟨rfl, Or.inr (by rw [strCells_append]; exact h1), h2, h3⟩
theorem b_String (b : Nat) (s : ByteArray) (w : World) (h : Bd b s w) (hb : b ≤ w.heap.size) :
    Calls Tryz.prog 17 #[.pointer (some ⟨b, 0, none⟩)] w fun e w' => e = .returned (.string s) ∧ Below b w w' := by
  refine (Tryz.Builder_String_any_k b b s.data.toList w h hb).mono ?_
  rintro e w' ⟨rfl, h1, h2, h3⟩
  exact ⟨rfl, h2⟩
theorem itoa_small (n : Int) (w : World) (h0 : 0 ≤ n) (h : n < 100) :
    Calls Tryz.prog 39 #[.int .i64 n] w fun e w' => e = .returned (.string (numB n)) ∧ w = w' := by
  obtain ⟨k, rfl⟩ : ∃ k : Nat, n = (k : Int) := ⟨n.toNat, by omega⟩
  refine (Tryz.strconv_Itoa_small k (by omega) w).mono ?_
  rintro e w' ⟨rfl, rfl⟩
  exact ⟨rfl, rfl⟩
end Go.Proofs.YtlfneeobnihocaaGreatDoor

/- The walk of the reference's CircuitText: the text of a right circuit. The circuit is a value that reads as data. -/
namespace Go.Proofs.YtlfneeobnihocaaGreatDoor
set_option maxRecDepth 100000
set_option linter.unusedVariables false
open Go.RowKit Tally
set_option maxRecDepth 100000 in
set_option maxHeartbeats 8000000 in
theorem ref_CircuitText (v : Value) (c : Ci) (w : World) (h : IsC w v c) (hG : Good c) :
    Calls Tryz.prog 81 #[v] w fun e w' => e = .returned (.string (circB c)) ∧ Below w.heap.size w w' := by
  have HC0 := Lib.hid h
  obtain ⟨hlog, u, rfl, hL⟩ := h
  obtain ⟨hls, hll, a, cap, rfl, hr⟩ := hL
  have Hr := Lib.hid hr; have HG := Lib.hid hG
  have h0 := hG.log0
  have h4 := hG.log4
  have hln := hG.n4
  clear hr hG hls
  go_enter Tryz.func81, Tryz.ntmps81
  have CI := Lib.hid (fun W => itoa_small c.log W h0 (by omega))
  have hn2 := numB_size h0 (show c.log < 100 by omega)
  have HI := Lib.hid (show inB c.log = ⟨#[105, 110, 112, 117, 116, 115, 32]⟩ ++ numB c.log ++ ⟨#[10]⟩ from rfl)
  have HIs := inB_size h0 (show c.log < 100 by omega)
  obtain ⟨NB, hNB⟩ : ∃ NB, NB = numB c.log := ⟨_, rfl⟩
  rw [← hNB] at CI hn2 HI
  clear hNB
  go_wp2_with (fail)
  obtain ⟨W1, hW, k0, k1, B1, s1⟩ := copied2' w (.int .i64 c.log) (.slice a c.layers.length cap) 62
  rw [hW]
  have L1 : w.heap.size < W1.heap.size := by omega
  have H1 := Lib.hid B1
  have HZ0 := Lib.hid (show inB c.log = inB c.log ++ laysB c.layers 0 by rw [show laysB c.layers 0 = ByteArray.empty from rfl, ByteArray.append_empty])
  clear hW s1 B1 k0
  refine (CI.out _).mono ?_
  rintro e w' ⟨rfl, rfl⟩
  go_wp2
  rw [HI.out.symm]
  clear CI HI hn2
  go_loopw [4, 5] (fun s i wr => ∃ (k : Nat) (S : ByteArray), k ≤ c.layers.length ∧ s = .string S ∧ i = .int .i64 (k : Int) ∧ Hid (S = inB c.log ++ laysB c.layers k) ∧ Hid (Below W1.heap.size W1 wr)) (fun _ i _ => c.layers.length - (intOf i).toNat)
  case atStart => exact ⟨0, _, by omega, rfl, rfl, HZ0.out, Below.refl _ _⟩
  case round =>
    obtain ⟨k, S, hk, rfl, rfl, HS, HB⟩ := hrel
    have r1 := (HB.out.cell (p := ⟨w.heap.size, 1, none⟩) L1).trans k1
    by_cases hz : k < c.layers.length
    · obtain ⟨b, off, rfl, hblt, hcell⟩ := Hr.out (by omega)
      obtain ⟨c1, u, c2, hg⟩ := hcell k hz
      have Hbw := Lib.hid (below_two H1.out HB.out)
      have d1 := (Hbw.out.cell (p := ⟨b, off + k * 2, none⟩) (by exact hblt)).trans c1
      obtain ⟨hgi, hgl, ag, cg, rfl, hgr⟩ := hg
      have Hg := Lib.hid hgr
      have C2 := Lib.hid (show ∀ X, Below W1.heap.size W1 X → X.cell? ⟨b, off + k * 2 + 1, none⟩ = some (.slice ag (aty c.layers k).gates.length cg) from fun X hX => ((below_two H1.out hX).cell (p := ⟨b, off + k * 2 + 1, none⟩) (by exact hblt)).trans c2)
      have hz1 : (k : Int) < (c.layers.length : Int) := by omega
      have g100 := Lib.hid (fun j hj => HG.out.gates100 hz (j := j) hj)
      have hg16 := HG.out.len16 hz
      have hl0 := HG.out.l0 k hz
      have hl4 := HG.out.l4 k hz
      have HLs := Lib.hid (show laysB c.layers (k + 1) = laysB c.layers k ++ (headB (aty c.layers k).log ++ gatesB (aty c.layers k).gates (aty c.layers k).gates.length) from rfl)
      have hls := laysB_size HG.out k (by omega)
      clear hcell c1 c2 hgr hgi
      generalize aty c.layers k = l at *
      have CI := Lib.hid (fun W => itoa_small l.log W hl0 (by omega))
      have hn2 := numB_size hl0 (show l.log < 100 by omega)
      have HI := Lib.hid (show headB l.log = ⟨#[108, 97, 121, 101, 114, 32]⟩ ++ numB l.log ++ ⟨#[10]⟩ from rfl)
      have hhs := headB_size hl0 (show l.log < 100 by omega)
      obtain ⟨NB, hNB⟩ : ∃ NB, NB = numB l.log := ⟨_, rfl⟩
      rw [← hNB] at CI hn2 HI
      clear hNB
      have hSs : S.size ≤ 700 := by rw [HS.out, ByteArray.size_append]; omega
      obtain ⟨wk, rfl⟩ : ∃ x : World, x = wr := ⟨_, rfl⟩
      go_wp2_with (go_at_call 39; refine (CI.out _).mono ?_; rintro e w' ⟨rfl, rfl⟩)
      rw [HI.out.symm]
      have HS1 := Lib.hid (show S ++ headB l.log = S ++ headB l.log ++ gatesB l.gates 0 by rw [show gatesB l.gates 0 = ByteArray.empty from rfl, ByteArray.append_empty])
      obtain ⟨S1, hS1⟩ : ∃ S1, S1 = S ++ headB l.log := ⟨_, rfl⟩
      rw [← hS1] at HS1 ⊢
      have hS1s : S1.size ≤ 720 := by rw [hS1, ByteArray.size_append]; omega
      have HE1 := Lib.hid hS1
      clear hS1 CI HI hn2 d1 r1
      go_loopw [4, 6] (fun s i wq => ∃ (j : Nat) (T : ByteArray), j ≤ l.gates.length ∧ s = .string T ∧ i = .int .i64 (j : Int) ∧ Hid (T = S1 ++ gatesB l.gates j) ∧ Hid (Below W1.heap.size W1 wq)) (fun _ i _ => l.gates.length - (intOf i).toNat)
      case atStart => exact ⟨0, _, by omega, rfl, rfl, HS1.out, HB.out⟩
      case round =>
        obtain ⟨j, T, hj, rfl, rfl, HT, HBj⟩ := hrel
        have r1 := (HBj.out.cell (p := ⟨w.heap.size, 1, none⟩) L1).trans k1
        have d2 := C2.out _ HBj.out
        by_cases hjz : j < l.gates.length
        · obtain ⟨b2, off2, rfl, hb2lt, hgc⟩ := Hg.out (by omega)
          obtain ⟨f1, f2, f3⟩ := hgc j hjz
          have Hbq := Lib.hid (below_two H1.out HBj.out)
          have q1 := (Hbq.out.cell (p := ⟨b2, off2 + j * 3, none⟩) (by exact hb2lt)).trans f1
          have q2 := (Hbq.out.cell (p := ⟨b2, off2 + j * 3 + 1, none⟩) (by exact hb2lt)).trans f2
          have q3 := (Hbq.out.cell (p := ⟨b2, off2 + j * 3 + 2, none⟩) (by exact hb2lt)).trans f3
          obtain ⟨ga1, ga2, gb1, gb2⟩ := g100.out j hjz
          have hgs := gatesB_size g100.out j (by omega)
          have HGs := Lib.hid (show gatesB l.gates (j + 1) = gatesB l.gates j ++ gateB (atg l.gates j) from rfl)
          have hjl : (j : Int) < (l.gates.length : Int) := by omega
          clear hgc f1 f2 f3
          generalize atg l.gates j = g at *
          have CA := Lib.hid (fun W => itoa_small g.a W ga1 ga2)
          have CB := Lib.hid (fun W => itoa_small g.b W gb1 gb2)
          have na := numB_size ga1 ga2
          have nb := numB_size gb1 gb2
          have hTs : T.size ≤ 880 := by rw [HT.out, ByteArray.size_append]; omega
          have HWg := Lib.hid (show gateB g = wordB g.mul ++ numB g.a ++ ⟨#[32]⟩ ++ numB g.b ++ ⟨#[10]⟩ from rfl)
          have HW0 := Lib.hid (show wordB true = ⟨#[109, 117, 108, 32]⟩ ∧ wordB false = ⟨#[97, 100, 100, 32]⟩ from ⟨rfl, rfl⟩)
          obtain ⟨gm, ga, gb⟩ := g
          simp only at q1 q2 q3 CA CB na nb HWg ga1 ga2 gb1 gb2
          obtain ⟨NA, hNA⟩ : ∃ NA, NA = numB ga := ⟨_, rfl⟩
          obtain ⟨NC, hNC⟩ : ∃ NC, NC = numB gb := ⟨_, rfl⟩
          rw [← hNA] at CA na HWg
          rw [← hNC] at CB nb HWg
          clear hNA hNC
          cases gm
          case false =>
            go_wp2_with (fail)
            obtain ⟨wv, rfl⟩ : ∃ x : World, x = wr := ⟨_, rfl⟩
            obtain ⟨X, hX, _, t1, t2, hXb, hXs⟩ := copied3' wv (.bool false) (.int .i64 ga) (.int .i64 gb) 126
            rw [hX]
            have HWX := Lib.hid (below_two HBj.out hXb)
            have i1 : ¬ (9223372036854775807 < NA.size + 1) := by omega
            have i2 : ¬ (9223372036854775807 < NA.size + 1 + NC.size) := by omega
            have i3 : ¬ (9223372036854775807 < NA.size + 1 + NC.size + 1) := by omega
            have i4 : ¬ (9223372036854775807 < T.size + 4 + (NA.size + 1 + NC.size + 1)) := by omega
            clear hX hXs hXb q1 q2 q3 r1 d2
            refine wp_region_still_tail 13 (by kernel_rfl) (by kernel_rfl) ?_
            simp only [List.take_succ_cons, List.take_zero, List.drop_succ_cons, List.drop_zero]
            repeat (first | still_step | still_call (still_of (CA.out _)) | still_call (still_of (CB.out _)))
            try refine wpStill_nil ?_
            change wpList _ _ _ _ _ (World.drew _)
            go_wp2
            go_roundw
            case rel => exact ⟨j + 1, _, by omega, rfl, by go_num, by show _ = _; have eW := HWg.out; rw [HW0.out.2] at eW; rw [HT.out, HGs.out, eW]; simp only [ByteArray.append_assoc], below_drewN HWX.out 1⟩
            case measure => simp [intOf]; omega
          case true =>
            go_wp2_with (fail)
            obtain ⟨wv, rfl⟩ : ∃ x : World, x = wr := ⟨_, rfl⟩
            obtain ⟨X, hX, _, t1, t2, hXb, hXs⟩ := copied3' wv (.bool true) (.int .i64 ga) (.int .i64 gb) 126
            rw [hX]
            have HWX := Lib.hid (below_two HBj.out hXb)
            have i1 : ¬ (9223372036854775807 < NA.size + 1) := by omega
            have i2 : ¬ (9223372036854775807 < NA.size + 1 + NC.size) := by omega
            have i3 : ¬ (9223372036854775807 < NA.size + 1 + NC.size + 1) := by omega
            have i4 : ¬ (9223372036854775807 < T.size + 4 + (NA.size + 1 + NC.size + 1)) := by omega
            clear hX hXs hXb q1 q2 q3 r1 d2
            refine wp_region_still_tail 13 (by kernel_rfl) (by kernel_rfl) ?_
            simp only [List.take_succ_cons, List.take_zero, List.drop_succ_cons, List.drop_zero]
            repeat (first | still_step | still_call (still_of (CA.out _)) | still_call (still_of (CB.out _)))
            try refine wpStill_nil ?_
            change wpList _ _ _ _ _ (World.drew _)
            go_wp2
            go_roundw
            case rel => exact ⟨j + 1, _, by omega, rfl, by go_num, by show _ = _; have eW := HWg.out; rw [HW0.out.1] at eW; rw [HT.out, HGs.out, eW]; simp only [ByteArray.append_assoc], below_drewN HWX.out 1⟩
            case measure => simp [intOf]; omega
        · obtain rfl : j = l.gates.length := by omega
          go_wp2
          go_roundw
          case rel => exact ⟨k + 1, _, by omega, rfl, by go_num, by show _ = _; rw [HT.out, HE1.out, HS.out, HLs.out, ByteArray.append_assoc, ByteArray.append_assoc], HBj.out⟩
          case measure => simp [intOf]; omega
    · obtain rfl : k = c.layers.length := by omega
      go_wp2
      go_ret
      exact ⟨by rw [HS.out]; rfl, below_two H1.out HB.out⟩
end Go.Proofs.YtlfneeobnihocaaGreatDoor
