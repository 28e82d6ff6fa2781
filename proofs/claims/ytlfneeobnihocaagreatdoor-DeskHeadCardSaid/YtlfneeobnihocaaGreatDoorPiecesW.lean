/- Several texts in one: RowsT, PiecesW, GrowC. What each says, and its conditions, stands at its head. -/
import Derived.Test.YtlfneeobnihocaaGreatDoorNumbW
import Derived.Laws.OwnMore
import Derived.StillTailTactics
import Derived.Maps.AppendAt
import Derived.Deep.AppendLies
/- Rows of int and of strings that a call makes and appends to. No condition. -/
namespace Go.Proofs.YtlfneeobnihocaaGreatDoor
set_option maxRecDepth 100000
set_option linter.unusedVariables false
open Go.ChangeShapes Go.WideShapes Go.ChangeAt Go.RowKit Tally
/-- v reads as the ints l -/
def RowI (w : World) (v : Value) (l : List Int) : Prop :=
  (∀ x ∈ l, I64 x) ∧ l.length ≤ 9223372036854775807 ∧ ∃ a cap, v = .slice a l.length cap ∧
    (0 < l.length → ∃ b off, a = some ⟨b, off, none⟩ ∧ b < w.heap.size ∧ ∀ j, j < l.length → w.cell? ⟨b, off + j, none⟩ = some (.int .i64 (at0 l j)))
theorem RowI.go {w w' : World} {v : Value} {l : List Int} (h : RowI w v l) (hb : Below w.heap.size w w') : RowI w' v l := by
  obtain ⟨h1, h2, a, cap, rfl, h3⟩ := h
  refine ⟨h1, h2, a, cap, rfl, fun hl => ?_⟩
  obtain ⟨b, off, rfl, hlt, hc⟩ := h3 hl
  exact ⟨b, off, rfl, Nat.lt_of_lt_of_le hlt hb.size, fun j hj => by rw [hb.cell (by exact hlt)]; exact hc j hj⟩
theorem Tryz.infoI : (Tryz.prog.info? 3).map (fun i => (i.zero, i.size, i.bytes)) = some (some (.int .i64 0), 1, 8) := by kernel_rfl
/-- v is a slice of int in memory from block B on, at its block's head, that its holder may append to; it reads as l -/
def NewI (B : Nat) (w : World) (v : Value) (l : List Int) : Prop :=
  (∀ x ∈ l, I64 x) ∧ l.length ≤ 1000000 ∧ w.ownsRow B 3 1 v l.length (l.map (Value.int .i64))
theorem NewI.nil (B : Nat) (w : World) : NewI B w (.slice none 0 0) [] := ⟨by simp, by simp, World.ownsRow_nil w B _ _⟩
theorem NewI.below {B K : Nat} {w w' : World} {v : Value} {l : List Int} (h : NewI B w v l) (hb : Below K w w') (hK : w.heap.size ≤ K) : NewI B w' v l :=
  ⟨h.1, h.2.1, ownsRow_below h.2.2 hb hK⟩
theorem NewI.isSlice {B : Nat} {w : World} {v : Value} {l : List Int} (h : NewI B w v l) : ∃ a c, v = .slice a l.length c := by
  rcases h.2.2.2 with ⟨rfl, h0⟩ | ⟨g, cap, cur, rfl, _⟩
  · exact ⟨none, 0, by rw [h0]⟩
  · exact ⟨_, _, rfl⟩
theorem NewI.row {B : Nat} {w : World} {v : Value} {l : List Int} (h : NewI B w v l) : RowI w v l := by
  obtain ⟨h1, h2, h3⟩ := h
  refine ⟨h1, by omega, ?_⟩
  rcases h3.2 with ⟨rfl, h0⟩ | ⟨g, cap, cur, rfl, hg, hh, hn, hcap, hs, ht⟩
  · exact ⟨none, 0, by rw [h0], fun hl => by omega⟩
  · refine ⟨_, cap, rfl, fun hl => ⟨g, 0, rfl, (h3.lt g rfl).2, fun j hj => ?_⟩⟩
    have := h3.cellAt j (by omega)
    rw [show (0 + j) = j from Nat.zero_add j, this]
    simp [at0, List.getElem?_eq_getElem hj]
/-- append of one int -/
theorem wpList_appI {ops : Array Oper} {rest : List Oper} {o : Oper} {a : Act} {Q : Exit → Act → World → Prop} {w0 : World} (hgd : o.guard = none) (s x : Operand)
    (ho : o.op = .call { callee := .builtin .append, args := #[s, x], argTypes := #[152, 152] })
    (B : Nat) (v : Value) (l : List Int) (hs : a.eval s = v) (hown : NewI B w0 v l) (y : Int) (hx : a.eval x = .slice (some ⟨w0.heap.size, 0, none⟩) 1 1) (hy : I64 y)
    (hlen : l.length + 1 ≤ 1000000) (hB : B ≤ w0.heap.size)
    (h : ∀ v' w', NewI B w' v' (l ++ [y]) → Below B w0 w' → wpList Tryz.prog ops Q rest (a.put o.dst v') w') : wpList Tryz.prog ops Q (o :: rest) a (w0.alloc (.cells #[.int .i64 y] 3)) := by
  refine wpList_app hgd s x _ ho B 3 _ (.int .i64 0) 1 8 Tryz.underlying152 Tryz.infoI rfl (by decide) v l.length _ hs hown.2.2 1 _ hx rfl (by simp [Value.oneCell']) (by unfold maxLen; omega) (by omega) hB fun v' w' h1 h2 => h v' w' ⟨?_, ?_, ?_⟩ h2
  · intro z hz
    rcases List.mem_append.mp hz with hz | hz
    · exact hown.1 z hz
    · rw [List.mem_singleton.mp hz]; exact hy
  · simp; omega
  · simpa using h1
theorem Tryz.infoS : (Tryz.prog.info? 9).map (fun i => (i.zero, i.size, i.bytes)) = some (some (.string ByteArray.empty), 1, 16) := by kernel_rfl
abbrev ats (l : List (List UInt8)) (j : Nat) : List UInt8 := l[j]?.getD []
/-- v reads as the strings l -/
def RowS (w : World) (v : Value) (l : List (List UInt8)) : Prop :=
  l.length ≤ 1000000 ∧ ∃ a cap, v = .slice a l.length cap ∧ l.length ≤ cap ∧ cap ≤ 9223372036854775807 ∧
    (0 < l.length → ∃ b off, a = some ⟨b, off, none⟩ ∧ b < w.heap.size ∧ (∃ cs, w.heap[b]? = some (Obj.cells cs 9 (0, 0))) ∧ ∀ j, j < l.length → w.cell? ⟨b, off + j, none⟩ = some (.string (mkB (ats l j))))
theorem RowS.go {w w' : World} {v : Value} {l : List (List UInt8)} (h : RowS w v l) (hb : Below w.heap.size w w') : RowS w' v l := by
  obtain ⟨h2, a, cap, rfl, hc1, hc2, h3⟩ := h
  refine ⟨h2, a, cap, rfl, hc1, hc2, fun hl => ?_⟩
  obtain ⟨b, off, rfl, hlt, ⟨cs, hcs⟩, hc⟩ := h3 hl
  exact ⟨b, off, rfl, Nat.lt_of_lt_of_le hlt hb.size, ⟨cs, (hb.block b hlt).trans hcs⟩, fun j hj => by rw [hb.cell (by exact hlt)]; exact hc j hj⟩
theorem NewI.kind {B : Nat} {w : World} {v : Value} {l : List Int} (h : NewI B w v l) {g : Nat} (hg : v.ownBlock = some g) : ∃ cs, w.heap[g]? = some (Obj.cells cs 3 (0, 0)) := by
  rcases h.2.2.2 with ⟨rfl, _⟩ | ⟨g', cap, cur, rfl, hB, hg', rest⟩
  · simp [Value.ownBlock] at hg
  · obtain rfl : g' = g := by simpa [Value.ownBlock] using hg
    exact ⟨cur, hg'⟩
def strV (x : List UInt8) : Value := .string (mkB x)
/-- v is a slice of strings in memory from block B on, at its block's head, that its holder may append to; it reads as l -/
def NewS (B : Nat) (w : World) (v : Value) (l : List (List UInt8)) : Prop :=
  l.length ≤ 1000000 ∧ w.ownsRow B 9 1 v l.length (l.map strV)
theorem NewS.below {B K : Nat} {w w' : World} {v : Value} {l : List (List UInt8)} (h : NewS B w v l) (hb : Below K w w') (hK : w.heap.size ≤ K) : NewS B w' v l :=
  ⟨h.1, ownsRow_below h.2 hb hK⟩
theorem NewS.mono {B B' : Nat} {w : World} {v : Value} {l : List (List UInt8)} (h : NewS B w v l) (hB : B' ≤ B) : NewS B' w v l := ⟨h.1, ownsRow_mono h.2 hB⟩
theorem NewS.isSlice {B : Nat} {w : World} {v : Value} {l : List (List UInt8)} (h : NewS B w v l) : ∃ a c, v = .slice a l.length c := by
  rcases h.2.2 with ⟨rfl, h0⟩ | ⟨g, cap, cur, rfl, _⟩
  · exact ⟨none, 0, by rw [h0]⟩
  · exact ⟨_, _, rfl⟩
theorem NewS.at_head {B : Nat} {w : World} {v : Value} {l : List (List UInt8)} (h : NewS B w v l) (h0 : l ≠ []) : ∃ g c, v = .slice (some ⟨g, 0, none⟩) l.length c ∧ B ≤ g ∧ g < w.heap.size := by
  rcases h.2.2 with ⟨rfl, h1⟩ | ⟨g, cap, cur, rfl, hB, hg, _⟩
  · exact absurd (List.length_eq_zero_iff.mp h1) h0
  · exact ⟨g, cap, rfl, hB, (h.2.lt g rfl).2⟩
theorem NewS.row {B : Nat} {w : World} {v : Value} {l : List (List UInt8)} (h : NewS B w v l) : RowS w v l := by
  obtain ⟨h2, h3⟩ := h
  refine ⟨h2, ?_⟩
  rcases h3.2 with ⟨rfl, h0⟩ | ⟨g, cap, cur, rfl, hg, hh, hn, hcap, hs, ht⟩
  · exact ⟨none, 0, by rw [h0], by omega, by omega, fun hl => by omega⟩
  · refine ⟨_, cap, rfl, hn, by unfold maxLen at hcap; omega, fun hl => ⟨g, 0, rfl, (h3.lt g rfl).2, ⟨cur, hh⟩, fun j hj => ?_⟩⟩
    have := h3.cellAt j (by omega)
    rw [show (0 + j) = j from Nat.zero_add j, this]
    simp [ats, strV, List.getElem?_eq_getElem hj]
theorem NewS.cellAt {B g n c : Nat} {w : World} {l : List (List UInt8)} (h : NewS B w (.slice (some ⟨g, 0, none⟩) n c) l) (hn : n = l.length) (j : Nat) (hj : j < l.length) : w.cell? ⟨g, j, none⟩ = some (.string (mkB (ats l j))) := by
  subst hn
  rw [h.2.cellAt j (by omega)]; simp [ats, strV, List.getElem?_eq_getElem hj]
theorem NewS.freeAt {B g n c : Nat} {w : World} {l : List (List UInt8)} (h : NewS B w (.slice (some ⟨g, 0, none⟩) n c) l) (hn : n = l.length) (j : Nat) : w.frozen? ⟨g, j, none⟩ = false := by
  subst hn
  exact h.2.frozenAt j
theorem NewS.set {B g n c : Nat} {w : World} {l : List (List UInt8)} (h : NewS B w (.slice (some ⟨g, 0, none⟩) n c) l) (hn : n = l.length) (j : Nat) (y : List UInt8) : NewS B (w.setCell ⟨g, j, none⟩ (.string (mkB y))) (.slice (some ⟨g, 0, none⟩) n c) (l.set j y) := by
  subst hn
  refine ⟨by rw [List.length_set]; exact h.1, ?_⟩
  have := h.2.stored j (.string (mkB y))
  rw [List.length_set, List.map_set]; exact this.1
theorem NewS.lit1 (w : World) (x : List UInt8) : NewS w.heap.size (w.alloc (.cells #[.string (mkB x)] 9)) (.slice (some ⟨w.heap.size, 0, none⟩) 1 1) [x] :=
  ⟨by simp, ⟨by simp, Or.inr ⟨w.heap.size, 1, #[.string (mkB x)], rfl, Nat.le_refl _, alloc_blk w _, by simp, by unfold maxLen; omega, rfl, rfl⟩⟩⟩
/-- append of one string -/
theorem wpList_appS {ops : Array Oper} {rest : List Oper} {o : Oper} {a : Act} {Q : Exit → Act → World → Prop} {w0 : World} (hgd : o.guard = none) (s x : Operand)
    (ho : o.op = .call { callee := .builtin .append, args := #[s, x], argTypes := #[24, 24] })
    (B : Nat) (v : Value) (l : List (List UInt8)) (hs : a.eval s = v) (hown : NewS B w0 v l) (y : List UInt8) (hx : a.eval x = .slice (some ⟨w0.heap.size, 0, none⟩) 1 1)
    (hlen : l.length + 1 ≤ 1000000) (hB : B ≤ w0.heap.size)
    (h : ∀ v' w', NewS B w' v' (l ++ [y]) → Below B w0 w' → wpList Tryz.prog ops Q rest (a.put o.dst v') w') : wpList Tryz.prog ops Q (o :: rest) a (w0.alloc (.cells #[.string (mkB y)] 9)) := by
  refine wpList_app hgd s x _ ho B 9 _ (.string ByteArray.empty) 1 16 Tryz.underlying24 Tryz.infoS rfl (by decide) v l.length _ hs hown.2 1 _ hx rfl (by simp [Value.oneCell']) (by unfold maxLen; omega) (by omega) hB fun v' w' h1 h2 => h v' w' ⟨?_, ?_⟩ h2
  · simp; omega
  · simpa [strV] using h1
end Go.Proofs.YtlfneeobnihocaaGreatDoor

/- The walk of the reference's Pieces: a text of at most 100000 bytes, cut at all bytes of one sort. -/
namespace Go.Proofs.YtlfneeobnihocaaGreatDoor
set_option maxRecDepth 100000
set_option linter.unusedVariables false
open Go.RowKit Tally
theorem extract_one (s : ByteArray) (k : Nat) (hk : k < s.size) : s.extract k (k + 1) = mkB [s[k]] := by
  apply ByteArray.ext
  obtain ⟨⟨l⟩⟩ := s
  have hk' : k < l.length := hk
  simp only [ByteArray.data_extract]
  show (List.toArray l).extract k (k + 1) = #[l[k]]
  apply Array.ext
  · simp; omega
  · intro i h1 h2
    simp at h2
    subst h2
    simp
theorem take_bytes (s : ByteArray) (k : Nat) (hk : k < s.size) : s.data.toList.take (k + 1) = s.data.toList.take k ++ [s[k]] := by
  have hk' : k < s.data.toList.length := by simpa using hk
  rw [List.take_succ_eq_append_getElem hk']
  rfl
set_option maxRecDepth 100000 in
set_option maxHeartbeats 8000000 in
theorem ref_Pieces (s : ByteArray) (c : UInt8) (w : World) (hs : s.size ≤ 100000) :
    Calls Tryz.prog 20 #[.string s, .int .u8 (c.toNat : Int)] w fun e w' => ∃ v, e = .returned v ∧ NewS w.heap.size w' v (pcs c s.data.toList) ∧ Below w.heap.size w w' := by
  have mixed : Tryz.prog.follows .mixedOrders = true := by kernel_rfl
  go_enter Tryz.func20, Tryz.ntmps20
  go_wp2_with (fail)
  have H0 := Lib.hid (NewS.lit1 w [])
  obtain ⟨W1, hW1⟩ : ∃ W1, W1 = w.alloc (.cells #[.string (mkB [])] 9) := ⟨_, rfl⟩
  have B1 := Lib.hid (show Below w.heap.size w W1 by rw [hW1]; exact (Below.refl _ _).alloc (Nat.le_refl _) _)
  rw [← hW1] at H0
  rw [show (w.alloc (.cells #[.string { data := #[] }] 9)) = W1 from hW1.symm]
  clear hW1
  go_loopw [5, 6] (fun o i wr => ∃ (k : Nat), k ≤ s.size ∧ i = .int .i64 (k : Int) ∧ Hid (NewS w.heap.size wr o (pcs c (s.data.toList.take k))) ∧ Hid (Below w.heap.size w wr)) (fun _ i _ => s.size - (intOf i).toNat)
  case atStart => exact ⟨0, by omega, rfl, H0.out, B1.out⟩
  case round =>
    obtain ⟨k, hk, rfl, HO, HB⟩ := hrel
    by_cases hz : k < s.size
    · have hz1 : (k : Int) < (s.size : Int) := by omega
      obtain ⟨b, hb⟩ : ∃ b, b = s[k] := ⟨_, rfl⟩
      have HT := Lib.hid (take_bytes s k hz)
      rw [← hb] at HT
      have e0 := hb.symm
      have hlen := pcs_length c (s.data.toList.take k)
      have hcl := List.count_le_length (a := c) (l := s.data.toList.take k)
      have htl : (s.data.toList.take k).length ≤ 100000 := by rw [List.length_take]; omega
      by_cases hbc : b = c
      · have hcap : (pcs c (s.data.toList.take k)).length + 1 ≤ 1000000 := by omega
        have hsz := HB.out.size
        have hcmp : ((b.toNat : Int) == (c.toNat : Int)) = true := by rw [hbc]; simp
        have HP := Lib.hid (show pcs c (s.data.toList.take (k + 1)) = pcs c (s.data.toList.take k) ++ [[]] by rw [HT.out, hbc, pcs_snoc_eq])
        clear hlen hcl htl hb
        go_wp2_with (at_builtin; refine wpList_appS rfl _ _ rfl w.heap.size _ _ rfl HO.out [] rfl hcap hsz ?_; intro v2 w2 hn2 hb2; have Hn2 := Lib.hid hn2; have Hb2 := Lib.hid (HB.out.trans hb2); clear hn2 hb2)
        go_roundw
        case rel => exact ⟨k + 1, by omega, by go_num, by rw [HP.out]; exact Hn2.out, Hb2.out⟩
        case measure => simp [intOf]; omega
      · have hcmp : ((b.toNat : Int) == (c.toNat : Int)) = false := by
          refine beq_false_of_ne fun e => hbc ?_
          exact UInt8.toNat_inj.mp (Int.ofNat_inj.mp e)
        obtain ⟨q, x, hq1, hq2⟩ := pcs_snoc_ne c b hbc (s.data.toList.take k)
        have hP1 := Lib.hid hq1
        have HP := Lib.hid (show pcs c (s.data.toList.take (k + 1)) = q ++ [x ++ [b]] by rw [HT.out, hq2])
        obtain ⟨M, hM⟩ : ∃ M, M = q.length := ⟨_, rfl⟩
        have hPl : (pcs c (s.data.toList.take k)).length = M + 1 := by rw [hq1, List.length_append, hM]; rfl
        obtain ⟨g, cc, rfl, hBg, hgl⟩ := HO.out.at_head (pcs_ne _ _)
        have hO := HO.out
        rw [hPl] at hO ⊢
        have hcell := hO.cellAt hPl.symm M (by omega)
        rw [show ats (pcs c (s.data.toList.take k)) M = x by rw [hq1, hM]; simp [ats]] at hcell
        have hfree := hO.freeAt hPl.symm M
        have hset := Lib.hid (hO.set hPl.symm M (x ++ [b]))
        have hxl : x.length ≤ 100000 := by
          have h1 : ∀ l : List UInt8, ∀ p ∈ pcs c l, p.length ≤ l.length := by
            intro l
            induction l with
            | nil => intro p hp; simp [pcs] at hp; simp [hp]
            | cons a l ih =>
              intro p hp
              by_cases ha : a = c
              · rw [show pcs c (a :: l) = [] :: pcs c l by show (if a = c then _ else _) = _; rw [if_pos ha]] at hp
                rcases List.mem_cons.mp hp with rfl | hp
                · simp
                · have := ih p hp; simp; omega
              · obtain ⟨p1, ps, h1⟩ := pcs_head c l
                rw [pcs_cons c a l ha h1] at hp
                rw [h1] at ih
                rcases List.mem_cons.mp hp with rfl | hp
                · have := ih p1 (by simp); simp; omega
                · have := ih p (by simp [hp]); simp; omega
          have := h1 _ x (by rw [hq1]; simp)
          omega
        obtain ⟨X, hX⟩ : ∃ X, X = mkB x := ⟨_, rfl⟩
        have hXs : X.size ≤ 100000 := by rw [hX]; show x.toArray.size ≤ _; simpa using hxl
        have HE := Lib.hid (show X ++ s.extract k (k + 1) = mkB (x ++ [b]) by
          rw [extract_one s k hz, ← hb, hX]
          exact ByteArray.mk_append_mk x [b])
        have hE1 : (s.extract k (k + 1)).size = 1 := by rw [extract_one s k hz]; rfl
        have HSl := Lib.hid (show (pcs c (s.data.toList.take k)).set M (x ++ [b]) = q ++ [x ++ [b]] by rw [hq1, hM]; simp)
        rw [← hX] at hcell
        have i1 : ¬ (9223372036854775807 < X.size + 1) := by omega
        have w1 : IntKind.i64.wrap ((k : Int) + 1) = (k : Int) + 1 := IntWalk.i64_in _ (by omega)
        have w2 : IntKind.i64.wrap ((M : Int) + 1 - 1) = (M : Int) := by rw [IntWalk.i64_in _ (by omega)]; omega
        have w3 : IntKind.i64.wrap (M : Int) = (M : Int) := IntWalk.i64_in _ (by omega)
        have b1 : (k : Int) + 1 ≤ (s.size : Int) := by omega
        have b2 : (0 : Int) ≤ (k : Int) + 1 := by omega
        have b3 : (M : Int) < (M : Int) + 1 := by omega
        have b4 : (k : Int) ≤ (k : Int) + 1 := by omega
        have hbset := Lib.hid (fun v => HB.out.setCell (p := ⟨g, M, none⟩) hBg v)
        clear hlen hcl htl hb hq1 hq2 hM hPl hO hxl hX
        go_wp2_with (fail)
        refine wp_region_still_tail 12 (by kernel_rfl) (by kernel_rfl) ?_
        simp only [List.take_succ_cons, List.take_zero, List.drop_succ_cons, List.drop_zero]
        repeat (first | still_step)
        try refine wpStill_nil ?_
        change wpList _ _ _ _ _ (World.drew _)
        go_wp2
        rw [HE.out]
        go_roundw
        case rel => exact ⟨k + 1, by omega, by go_num, by rw [HP.out, ← HSl.out]; exact NewS.below hset.out (below_drewN (Below.refl _ _) 1) (Nat.le_refl _), below_drewN (hbset.out _) 1⟩
        case measure => simp [intOf]; omega
    · obtain rfl : k = s.size := by omega
      have HF := Lib.hid (show NewS w.heap.size wr u5 (pcs c s.data.toList) by
        have := HO.out; rwa [List.take_of_length_le (by show s.data.toList.length ≤ s.data.size; simp)] at this)
      go_wp2
      go_ret
      exact ⟨_, rfl, HF.out, HB.out⟩
end Go.Proofs.YtlfneeobnihocaaGreatDoor

/- A circuit that a call has laid out in its own memory, and adds to: layers, gates. No condition. -/
namespace Go.Proofs.YtlfneeobnihocaaGreatDoor
set_option maxRecDepth 100000
set_option linter.unusedVariables false
open Go.RowKit Tally
def cellsG (g : Gt) : List Value := [.bool g.mul, .int .i64 g.a, .int .i64 g.b]
def flatG (gs : List Gt) : List Value := gs.flatMap cellsG
theorem flatG_length (gs : List Gt) : (flatG gs).length = 3 * gs.length := by
  induction gs with
  | nil => rfl
  | cons g gs ih => show (cellsG g ++ flatG gs).length = _; rw [List.length_append, ih, List.length_cons]; show 3 + _ = _; omega
theorem flatG_at (gs : List Gt) : ∀ j, j < gs.length → (flatG gs)[j * 3]? = some (.bool (atg gs j).mul) ∧ (flatG gs)[j * 3 + 1]? = some (.int .i64 (atg gs j).a) ∧ (flatG gs)[j * 3 + 2]? = some (.int .i64 (atg gs j).b) := by
  induction gs with
  | nil => intro j hj; simp at hj
  | cons g gs ih =>
    intro j hj
    have e : flatG (g :: gs) = [.bool g.mul, .int .i64 g.a, .int .i64 g.b] ++ flatG gs := rfl
    cases j with
    | zero => rw [e]; simp [atg]
    | succ j =>
      obtain ⟨h1, h2, h3⟩ := ih j (by simpa using hj)
      rw [e, show (j + 1) * 3 = j * 3 + 3 by omega]
      refine ⟨?_, ?_, ?_⟩
      · rw [List.getElem?_append_right (by simp), show j * 3 + 3 - [Value.bool g.mul, .int .i64 g.a, .int .i64 g.b].length = j * 3 by simp, h1]; simp [atg]
      · rw [List.getElem?_append_right (by show 3 ≤ _; omega), show j * 3 + 3 + 1 - [Value.bool g.mul, .int .i64 g.a, .int .i64 g.b].length = j * 3 + 1 by show j * 3 + 3 + 1 - 3 = _; omega, h2]; simp [atg]
      · rw [List.getElem?_append_right (by show 3 ≤ _; omega), show j * 3 + 3 + 2 - [Value.bool g.mul, .int .i64 g.a, .int .i64 g.b].length = j * 3 + 2 by show j * 3 + 3 + 2 - 3 = _; omega, h3]; simp [atg]
theorem Tryz.infoGt : (Tryz.prog.info? 126).map (fun i => (i.zero, i.size, i.bytes)) = some (some (.agg #[.bool false, .int .i64 0, .int .i64 0]), 3, 24) := by kernel_rfl
theorem Tryz.infoLy : (Tryz.prog.info? 124).map (fun i => (i.zero, i.size, i.bytes)) = some (some (.agg #[.int .i64 0, .slice none 0 0]), 2, 32) := by kernel_rfl
/-- gates in a row of the call's own -/
def NewG (B : Nat) (w : World) (v : Value) (gs : List Gt) : Prop :=
  (∀ g ∈ gs, I64 g.a ∧ I64 g.b) ∧ gs.length ≤ 10000 ∧ w.ownsRow B 126 3 v gs.length (flatG gs)
theorem NewG.nil (B : Nat) (w : World) : NewG B w (.slice none 0 0) [] := ⟨by simp, by simp, World.ownsRow_nil w B _ _⟩
theorem NewG.lt {B : Nat} {w : World} {v : Value} {gs : List Gt} (h : NewG B w v gs) {g : Nat} (hg : v.ownBlock = some g) : B ≤ g ∧ g < w.heap.size := h.2.2.lt g hg
theorem NewG.kind {B : Nat} {w : World} {v : Value} {gs : List Gt} (h : NewG B w v gs) {g : Nat} (hg : v.ownBlock = some g) : ∃ cs, w.heap[g]? = some (.cells cs 126 (0, 0)) := by
  rcases h.2.2.2 with ⟨rfl, _⟩ | ⟨g', cap, cur, rfl, hB, hg', rest⟩
  · simp [Value.ownBlock] at hg
  · obtain rfl : g' = g := by simpa [Value.ownBlock] using hg
    exact ⟨cur, hg'⟩
theorem NewG.keep {B : Nat} {w w' : World} {v : Value} {gs : List Gt} (h : NewG B w v gs) (hk : ∀ g, v.ownBlock = some g → w'.heap[g]? = w.heap[g]?) : NewG B w' v gs := by
  refine ⟨h.1, h.2.1, h.2.2.1, ?_⟩
  rcases h.2.2.2 with hn | ⟨g, cap, cur, rfl, hB, hg, rest⟩
  · exact Or.inl hn
  · exact Or.inr ⟨g, cap, cur, rfl, hB, (hk g rfl).trans hg, rest⟩
theorem NewG.isSlice {B : Nat} {w : World} {v : Value} {gs : List Gt} (h : NewG B w v gs) : ∃ a c, v = .slice a gs.length c := by
  rcases h.2.2.2 with ⟨rfl, h0⟩ | ⟨g, cap, cur, rfl, _⟩
  · exact ⟨none, 0, by rw [h0]⟩
  · exact ⟨_, _, rfl⟩
theorem NewG.row {B : Nat} {w : World} {v : Value} {gs : List Gt} (h : NewG B w v gs) : RowG w v gs := by
  obtain ⟨h1, h2, h3⟩ := h
  refine ⟨h1, by omega, ?_⟩
  rcases h3.2 with ⟨rfl, h0⟩ | ⟨g, cap, cur, rfl, hg, hh, hn, hcap, hs, ht⟩
  · exact ⟨none, 0, by rw [h0], fun hl => by omega⟩
  · refine ⟨_, cap, rfl, fun hl => ⟨g, 0, rfl, (h3.lt g rfl).2, fun j hj => ?_⟩⟩
    obtain ⟨k1, k2, k3⟩ := flatG_at gs j hj
    have c1 := h3.cells (g := g) rfl _ _ k1
    have c2 := h3.cells (g := g) rfl _ _ k2
    have c3 := h3.cells (g := g) rfl _ _ k3
    rw [Addr.add_lit] at c1 c2 c3
    exact ⟨c1, c2, c3⟩
theorem below_toGrownC {w w' : World} (h : Below w.heap.size w w') (r : Option Nat) : w.grownBy w' r := ⟨h.os, h.tape, h.output, h.size, fun k hk _ => h.block k hk⟩
theorem grownBy_chainC {a b c : World} {r : Option Nat} (h : a.grownBy b r) (k : b.grownBy c r) : a.grownBy c r :=
  ⟨k.os.trans h.os, k.tape.trans h.tape, k.output.trans h.output, Nat.le_trans h.size k.size, fun i hi hr => (k.block i (Nat.lt_of_lt_of_le hi h.size) hr).trans (h.block i hi hr)⟩
theorem flatG_append (a b : List Gt) : flatG (a ++ b) = flatG a ++ flatG b := by simp [flatG]
/-- append of one gate, at a step of a region that draws its order -/
theorem step_appG {ops : Array Oper} {o : Oper} {a : Act} {K : Act → World → Prop} {Q : Exit → Act → World → Prop} {E : Prop} {w0 : World} (hgd : o.guard = none) (s x : Operand)
    (ho : o.op = .call { callee := .builtin .append, args := #[s, x], argTypes := #[122, 122] })
    (B : Nat) (v : Value) (gs : List Gt) (hs : a.eval s = v) (hown : NewG B w0 v gs) (m : Bool) (x1 x2 : Int) (hx : a.eval x = .slice (some ⟨w0.heap.size, 0, none⟩) 1 1) (hg : I64 x1 ∧ I64 x2)
    (hlen : gs.length + 1 ≤ 10000) (hB : B ≤ w0.heap.size)
    (h : ∀ gk cap w', NewG B w' (.slice (some ⟨gk, 0, none⟩) (gs.length + 1) cap) (gs ++ [⟨m, x1, x2⟩]) → w0.grownBy w' v.ownBlock → (v.ownBlock = some gk ∨ w0.heap.size ≤ gk) → K (a.put o.dst (.slice (some ⟨gk, 0, none⟩) (gs.length + 1) cap)) w') :
    if Region.wanted o (yielded ops a.tmps) = true then Oper.wp Tryz.prog o a (w0.alloc (.cells #[.bool m, .int .i64 x1, .int .i64 x2] 126)) K Q else E := by
  obtain ⟨i0, hi1, hz0, hz1, hz2⟩ := info_parts Tryz.infoGt
  refine step_append_lies _ hgd s x _ ho B 126 i0 (.agg #[.bool false, .int .i64 0, .int .i64 0]) 3 24 Tryz.underlying122 hi1 hz0 hz1 hz2 rfl (by decide) v gs.length _ hs (hown.2.2.alloc _) ⟨w0.heap.size, 0, none⟩ 1 1 [.bool m, .int .i64 x1, .int .i64 x2] hx rfl
    (World.news_of_block (cs := #[.bool m, .int .i64 x1, .int .i64 x2]) (t := 126) (fr := (0, 0)) (alloc_blk w0 _)) (by simp [Value.oneCell']) (by decide) (by unfold maxLen; omega) (by omega) (by simp; omega) (w0.heap.size + 1) (by simp) ?_
  intro g cap w' h5 h6 h8 _
  have hal : Below w0.heap.size w0 (w0.alloc (.cells #[.bool m, .int .i64 x1, .int .i64 x2] 126)) := (Below.refl _ _).alloc (Nat.le_refl _) _
  refine h g cap w' ⟨?_, by simp; omega, by rw [List.length_append, flatG_append]; exact h5⟩ (grownBy_chainC (below_toGrownC hal _) h6) (h8.imp id fun e => by omega)
  intro z hz
  rcases List.mem_append.mp hz with hz | hz
  · exact hown.1 z hz
  · rw [List.mem_singleton.mp hz]; exact hg
/-- the cells of a row of layers, whose gates lie in the slices us -/
def flatL (ls : List Ly) (us : Nat → Value) : List Value := (List.range ls.length).flatMap fun j => [.int .i64 (aty ls j).log, us j]
theorem flatL_length (ls : List Ly) (us : Nat → Value) : (flatL ls us).length = 2 * ls.length := by
  unfold flatL
  generalize ls.length = n
  induction n with
  | zero => rfl
  | succ n ih => rw [List.range_succ, List.flatMap_append, List.length_append, ih]; simp; omega
theorem flat2_at (n : Nat) (f : Nat → Value) (us : Nat → Value) (j : Nat) (hj : j < n) : ((List.range n).flatMap fun j => [f j, us j])[j * 2]? = some (f j) ∧ ((List.range n).flatMap fun j => [f j, us j])[j * 2 + 1]? = some (us j) := by
  induction n with
  | zero => omega
  | succ n ih =>
    have hl : ((List.range n).flatMap fun j => [f j, us j]).length = 2 * n := by
      clear ih
      clear hj
      induction n with
      | zero => rfl
      | succ n ih => rw [List.range_succ, List.flatMap_append, List.length_append, ih]; simp; omega
    rw [List.range_succ, List.flatMap_append]
    by_cases h : j < n
    · rw [List.getElem?_append_left (by omega), List.getElem?_append_left (by omega)]; exact ih h
    · obtain rfl : j = n := by omega
      rw [List.getElem?_append_right (by omega), List.getElem?_append_right (by omega), hl, show j * 2 - 2 * j = 0 by omega, show j * 2 + 1 - 2 * j = 1 by omega]
      exact ⟨rfl, rfl⟩
theorem flatL_at (ls : List Ly) (us : Nat → Value) (j : Nat) (hj : j < ls.length) : (flatL ls us)[j * 2]? = some (.int .i64 (aty ls j).log) ∧ (flatL ls us)[j * 2 + 1]? = some (us j) := flat2_at _ _ _ _ hj
/-- layers in a row of the call's own, the gates of each in a row of their own -/
def NewL (B : Nat) (w : World) (v : Value) (ls : List Ly) : Prop :=
  ls.length ≤ 10000 ∧ ∃ us : Nat → Value, w.ownsRow B 124 2 v ls.length (flatL ls us) ∧ ∀ j, j < ls.length → I64 (aty ls j).log ∧ NewG B w (us j) (aty ls j).gates ∧ ∀ i, i < j → ∀ g, (us i).ownBlock = some g → (us j).ownBlock ≠ some g
theorem NewL.nil (B : Nat) (w : World) : NewL B w (.slice none 0 0) [] := ⟨by simp, fun _ => .slice none 0 0, World.ownsRow_nil w B _ _, fun j hj => absurd hj (by simp)⟩
theorem NewL.isSlice {B : Nat} {w : World} {v : Value} {ls : List Ly} (h : NewL B w v ls) : ∃ a c, v = .slice a ls.length c := by
  obtain ⟨_, us, h3, _⟩ := h
  rcases h3.2 with ⟨rfl, h0⟩ | ⟨g, cap, cur, rfl, _⟩
  · exact ⟨none, 0, by rw [h0]⟩
  · exact ⟨_, _, rfl⟩
theorem NewL.row {B : Nat} {w : World} {v : Value} {ls : List Ly} (h : NewL B w v ls) : RowL w v ls := by
  obtain ⟨h2, us, h3, h4⟩ := h
  refine ⟨fun l hl => ?_, by omega, ?_⟩
  · obtain ⟨i, hi, rfl⟩ := List.getElem_of_mem hl
    have := (h4 i hi).1
    simpa [aty, hi] using this
  · rcases h3.2 with ⟨rfl, h0⟩ | ⟨g, cap, cur, rfl, hg, hh, hn, hcap, hs, ht⟩
    · exact ⟨none, 0, by rw [h0], fun hl => by omega⟩
    · refine ⟨_, cap, rfl, fun hl => ⟨g, 0, rfl, (h3.lt g rfl).2, fun j hj => ?_⟩⟩
      obtain ⟨k1, k2⟩ := flatL_at ls us j hj
      have c1 := h3.cells (g := g) rfl _ _ k1
      have c2 := h3.cells (g := g) rfl _ _ k2
      rw [Addr.add_lit] at c1 c2
      exact ⟨c1, us j, c2, (h4 j hj).2.1.row⟩
theorem NewL.keep {B : Nat} {w w' : World} {v : Value} {ls : List Ly} (h : NewL B w v ls) (hk : ∀ (g : Nat) (cs : Array Value) (t : TypeId), w.heap[g]? = some (Obj.cells cs t (0, 0)) → (t = 124 ∨ t = 126) → w'.heap[g]? = w.heap[g]?) : NewL B w' v ls := by
  obtain ⟨h2, us, h3, h4⟩ := h
  refine ⟨h2, us, ⟨h3.1, ?_⟩, fun j hj => ⟨(h4 j hj).1, (h4 j hj).2.1.keep fun g hg => ?_, (h4 j hj).2.2⟩⟩
  · rcases h3.2 with hn | ⟨g, cap, cur, rfl, hB, hg, rest⟩
    · exact Or.inl hn
    · exact Or.inr ⟨g, cap, cur, rfl, hB, (hk g _ _ hg (Or.inl rfl)).trans hg, rest⟩
  · obtain ⟨cs, hcs⟩ := (h4 j hj).2.1.kind hg
    exact hk g _ _ hcs (Or.inr rfl)
/-- a circuit in memory of the call's own: its box is block b -/
def Pk (b B : Nat) (c : Ci) (w : World) : Prop := B ≤ b ∧ I64 c.log ∧ ∃ v, w.heap[b]? = some (.cells #[.int .i64 c.log, v] 62 (0, 0)) ∧ NewL B w v c.layers
theorem Pk.go {b B : Nat} {c : Ci} {w w' : World} (h : Pk b B c w) (hb : Below w.heap.size w w') : Pk b B c w' := by
  obtain ⟨h1, h2, v, h3, h4⟩ := h
  exact ⟨h1, h2, v, (hb.block b (blk_lt h3)).trans h3, NewL.keep h4 fun g cs t hg _ => hb.block g (blk_lt hg)⟩
theorem Pk.lt {b B : Nat} {c : Ci} {w : World} (h : Pk b B c w) : b < w.heap.size := by
  obtain ⟨_, _, v, h3, _⟩ := h
  exact blk_lt h3
theorem Pk.isC {b B : Nat} {c : Ci} {w : World} (h : Pk b B c w) : ∃ v, w.heap[b]? = some (.cells #[.int .i64 c.log, v] 62 (0, 0)) ∧ IsC w (.agg #[.int .i64 c.log, v]) c := by
  obtain ⟨_, h2, v, h3, h4⟩ := h
  exact ⟨v, h3, h2, v, rfl, h4.row⟩
/-- the box's first word is set -/
theorem Pk.setLog {b B : Nat} {c : Ci} {w : World} (h : Pk b B c w) (n : Int) (hn : I64 n) : Pk b B ⟨n, c.layers⟩ (w.setCell ⟨b, 0, none⟩ (.int .i64 n)) := by
  obtain ⟨h1, h2, v, h3, h4⟩ := h
  refine ⟨h1, hn, v, ?_, NewL.keep h4 fun g cs t hg ht => ?_⟩
  · rw [blk_setCell h3 0]; rfl
  · refine Below.heap_setCell _ _ _ _ (fun e => ?_)
    replace e : g = b := e
    rw [e, h3] at hg
    injection hg with hg
    injection hg with _ ht2 _
    rcases ht with rfl | rfl <;> exact absurd ht2 (by decide)
/-- append of one layer without gates, at a step of a region that draws its order -/
theorem step_appL {ops : Array Oper} {o : Oper} {a : Act} {K : Act → World → Prop} {Q : Exit → Act → World → Prop} {E : Prop} {w0 : World} (hgd : o.guard = none) (s x : Operand)
    (ho : o.op = .call { callee := .builtin .append, args := #[s, x], argTypes := #[60, 60] })
    (b B : Nat) (c : Ci) (v : Value) (hb : w0.heap[b]? = some (.cells #[.int .i64 c.log, v] 62 (0, 0))) (hs : a.eval s = v) (hown : NewL B w0 v c.layers) (hbB : B ≤ b) (hlog : I64 c.log) (n : Int) (hx : a.eval x = .slice (some ⟨w0.heap.size, 0, none⟩) 1 1) (hn : I64 n)
    (hlen : c.layers.length + 1 ≤ 10000) (hB : B ≤ w0.heap.size)
    (h : ∀ gk cap w', w'.heap[b]? = some (.cells #[.int .i64 c.log, v] 62 (0, 0)) → Pk b B ⟨c.log, c.layers ++ [⟨n, []⟩]⟩ (w'.setCell ⟨b, 1, none⟩ (.slice (some ⟨gk, 0, none⟩) (c.layers.length + 1) cap)) → Below B w0 w' → w0.grownBy w' v.ownBlock → K (a.put o.dst (.slice (some ⟨gk, 0, none⟩) (c.layers.length + 1) cap)) w') :
    if Region.wanted o (yielded ops a.tmps) = true then Oper.wp Tryz.prog o a (w0.alloc (.cells #[.int .i64 n, .slice none 0 0] 124)) K Q else E := by
  obtain ⟨i0, hi1, hz0, hz1, hz2⟩ := info_parts Tryz.infoLy
  obtain ⟨h2, us, h3, h4⟩ := hown
  have hlt := h3.lt
  refine step_append_lies _ hgd s x _ ho B 124 i0 (.agg #[.int .i64 0, .slice none 0 0]) 2 32 Tryz.underlying60 hi1 hz0 hz1 hz2 rfl (by decide) v c.layers.length _ hs (h3.alloc _) ⟨w0.heap.size, 0, none⟩ 1 1 [.int .i64 n, .slice none 0 0] hx rfl
    (World.news_of_block (cs := #[.int .i64 n, .slice none 0 0]) (t := 124) (fr := (0, 0)) (alloc_blk w0 _)) (by simp [Value.oneCell']) (by decide) (by unfold maxLen; omega) (by omega) (by simp; omega) (w0.heap.size + 1) (by simp) ?_
  intro g cap w' h5 h6 h8 _
  have hal : Below w0.heap.size w0 (w0.alloc (.cells #[.int .i64 n, .slice none 0 0] 124)) := (Below.refl _ _).alloc (Nat.le_refl _) _
  have hgr : w0.grownBy w' v.ownBlock := grownBy_chainC (below_toGrownC hal _) h6
  have hbl : Below B w0 w' := ((Below.refl B w0).alloc hB _).grown h6 (by simp; omega) fun k hk => (hlt k hk).1
  have hkind : ∀ k, v.ownBlock = some k → ∃ cs, w0.heap[k]? = some (.cells cs 124 (0, 0)) := fun k hk => by
    rcases h3.2 with ⟨rfl, _⟩ | ⟨g', cap, cur, rfl, hB, hg', rest⟩
    · simp [Value.ownBlock] at hk
    · obtain rfl : g' = k := by simpa [Value.ownBlock] using hk
      exact ⟨cur, hg'⟩
  have hb' : w'.heap[b]? = some (.cells #[.int .i64 c.log, v] 62 (0, 0)) := (hgr.block b (blk_lt hb) fun e => by
    obtain ⟨cs, hcs⟩ := hkind b e.symm
    rw [hb] at hcs
    injection hcs with hcs
    injection hcs with _ ht _
    exact absurd ht (by decide)).trans hb
  refine h g cap w' hb' ?_ hbl hgr
  obtain ⟨us', hus⟩ : ∃ us' : Nat → Value, us' = fun j => if j = c.layers.length then .slice none 0 0 else us j := ⟨_, rfl⟩
  have hfl : flatL (c.layers ++ [⟨n, []⟩]) us' = flatL c.layers us ++ [.int .i64 n, .slice none 0 0] := by
    unfold flatL
    rw [List.length_append, List.length_singleton, List.range_succ, List.flatMap_append]
    congr 1
    · have hcg : ∀ (l : List Nat) (f f2 : Nat → List Value), (∀ j ∈ l, f j = f2 j) → l.flatMap f = l.flatMap f2 := by
        intro l f f2 hf
        induction l with
        | nil => rfl
        | cons a l ih => rw [List.flatMap_cons, List.flatMap_cons, hf a (by simp), ih fun j hj => hf j (by simp [hj])]
      refine hcg _ _ _ fun j hj => ?_
      have hj' : j < c.layers.length := List.mem_range.mp hj
      rw [show aty (c.layers ++ [⟨n, []⟩]) j = aty c.layers j by simp [aty, List.getElem?_append_left hj'], hus]
      simp [Nat.ne_of_lt hj']
    · rw [hus]; simp [aty]
  have hset : ∀ k, k ≠ b → (w'.setCell ⟨b, 1, none⟩ (.slice (some ⟨g, 0, none⟩) (c.layers.length + 1) cap)).heap[k]? = w'.heap[k]? := fun k hk => Below.heap_setCell _ _ _ _ hk
  have hnb : ∀ (k : Nat) (cs : Array Value) (t : TypeId), w'.heap[k]? = some (Obj.cells cs t (0, 0)) → (t = 124 ∨ t = 126) → k ≠ b := fun k cs t hk ht e => by
    rw [e, hb'] at hk
    injection hk with hk
    injection hk with _ ht2 _
    rcases ht with rfl | rfl <;> exact absurd ht2 (by decide)
  have hL : NewL B w' (.slice (some ⟨g, 0, none⟩) (c.layers.length + 1) cap) (c.layers ++ [⟨n, []⟩]) := by
    refine ⟨by simp; omega, us', by rw [hfl, List.length_append]; exact h5, fun j hj => ?_⟩
    by_cases hj2 : j < c.layers.length
    · obtain ⟨k1, k2, k3⟩ := h4 j hj2
      have e1 : us' j = us j := by rw [hus]; simp [Nat.ne_of_lt hj2]
      rw [show aty (c.layers ++ [⟨n, []⟩]) j = aty c.layers j by simp [aty, List.getElem?_append_left hj2], e1]
      refine ⟨k1, k2.keep fun k hk => hgr.block k (k2.lt hk).2 fun e => ?_, fun i hi => by rw [show us' i = us i by rw [hus]; simp [Nat.ne_of_lt (Nat.lt_trans hi hj2)]]; exact k3 i hi⟩
      obtain ⟨cs, hcs⟩ := hkind k e.symm
      obtain ⟨cs2, hcs2⟩ := k2.kind hk
      rw [hcs] at hcs2
      injection hcs2 with hcs2
      injection hcs2 with _ ht _
      exact absurd ht (by decide)
    · obtain rfl : j = c.layers.length := by simp at hj; omega
      have e1 : us' c.layers.length = .slice none 0 0 := by rw [hus]; simp
      rw [show aty (c.layers ++ [⟨n, []⟩]) c.layers.length = ⟨n, []⟩ by simp [aty], e1]
      exact ⟨hn, NewG.nil _ _, fun i _ g hg => by simp [Value.ownBlock]⟩
  exact ⟨hbB, hlog, _, by rw [blk_setCell hb' 1]; rfl, NewL.keep hL fun k cs t hk ht => hset k (hnb k cs t hk ht)⟩
theorem aty_set (ls : List Ly) (m j : Nat) (l : Ly) (hm : m < ls.length) : aty (ls.set m l) j = if j = m then l else aty ls j := by
  by_cases h : j = m
  · subst h; rw [if_pos rfl]; simp [aty, hm]
  · rw [if_neg h]; simp [aty, List.getElem?_set_ne (Ne.symm h)]
theorem flatL_set (ls : List Ly) (us us' : Nat → Value) (m : Nat) (l : Ly) (v' : Value) (hm : m < ls.length) (hlog : l.log = (aty ls m).log) (h1 : us' m = v') (h2 : ∀ j, j ≠ m → us' j = us j) :
    flatL (ls.set m l) us' = (flatL ls us).set (m * 2 + 1) v' := by
  have hl := flatL_length ls us
  have hl' := flatL_length (ls.set m l) us'
  rw [List.length_set] at hl'
  apply List.ext_getElem?
  intro t
  by_cases ht : t < 2 * ls.length
  · have hj : t / 2 < ls.length := by omega
    obtain ⟨a1, a2⟩ := flatL_at ls us (t / 2) hj
    obtain ⟨b1, b2⟩ := flatL_at (ls.set m l) us' (t / 2) (by rw [List.length_set]; exact hj)
    rw [aty_set _ _ _ _ hm] at b1
    rcases Nat.mod_two_eq_zero_or_one t with hp | hp
    · rw [show t / 2 * 2 = t by omega] at a1 b1
      rw [List.getElem?_set_ne (by omega), a1, b1]
      by_cases e : t / 2 = m
      · rw [if_pos e, e, hlog]
      · rw [if_neg e]
    · rw [show t / 2 * 2 + 1 = t by omega] at a2 b2
      by_cases e : t / 2 = m
      · rw [b2, e, h1, show m * 2 + 1 = t by omega, List.getElem?_set_self (by omega)]
      · rw [b2, h2 _ e, List.getElem?_set_ne (by omega), a2]
  · rw [List.getElem?_eq_none (by omega), List.getElem?_eq_none (by rw [List.length_set]; omega)]
/-- a layer of a row, and what a gate more makes of it -/
theorem NewL.layer {B : Nat} {w : World} {v : Value} {ls : List Ly} (h : NewL B w v ls) (m : Nat) (hm : m < ls.length) :
    ∃ L cap u, v = .slice (some ⟨L, 0, none⟩) ls.length cap ∧ B ≤ L ∧ L < w.heap.size ∧ (∃ cs, w.heap[L]? = some (Obj.cells cs 124 (0, 0))) ∧ w.cell? ⟨L, m * 2 + 1, none⟩ = some u ∧ NewG B w u (aty ls m).gates ∧
      ∀ (w1 : World) (gk cap' : Nat) (g : Gt), NewG B w1 (.slice (some ⟨gk, 0, none⟩) ((aty ls m).gates.length + 1) cap') ((aty ls m).gates ++ [g]) → w.grownBy w1 u.ownBlock → (u.ownBlock = some gk ∨ w.heap.size ≤ gk) →
        w1.cell? ⟨L, m * 2 + 1, none⟩ = some u ∧ w1.frozen? ⟨L, m * 2 + 1, none⟩ = false ∧
        NewL B (w1.setCell ⟨L, m * 2 + 1, none⟩ (.slice (some ⟨gk, 0, none⟩) ((aty ls m).gates.length + 1) cap')) v (ls.set m ⟨(aty ls m).log, (aty ls m).gates ++ [g]⟩) := by
  obtain ⟨h2, us, h3, h4⟩ := h
  rcases h3.2 with ⟨_, h0⟩ | ⟨L, cap, cur, rfl, hB, hL, rest⟩
  · omega
  · obtain ⟨k1, k2⟩ := flatL_at ls us m hm
    have c2 := h3.cells (g := L) rfl _ _ k2
    rw [Addr.add_lit, Nat.zero_add] at c2
    have hG := (h4 m hm).2.1
    refine ⟨L, cap, us m, rfl, hB, blk_lt hL, ⟨cur, hL⟩, c2, hG, fun w1 gk cap' g hn hgr hgk => ?_⟩
    have apart : ∀ k, (us m).ownBlock = some k → k ≠ L := fun k hk e => by
      obtain ⟨cs, hcs⟩ := hG.kind hk
      rw [e, hL] at hcs
      injection hcs with hcs
      injection hcs with _ ht _
      exact absurd ht (by decide)
    have hL1 : w1.heap[L]? = some (.cells cur 124 (0, 0)) := (hgr.block L (blk_lt hL) fun e => apart L e.symm rfl).trans hL
    have c3 : w1.cell? ⟨L, m * 2 + 1, none⟩ = some (us m) := by
      rw [World.cell?_of_block (w := w) (by exact hL1.trans hL.symm)]; exact c2
    obtain ⟨v', hv'⟩ : ∃ v', v' = Value.slice (some ⟨gk, 0, none⟩) ((aty ls m).gates.length + 1) cap' := ⟨_, rfl⟩
    rw [← hv'] at hn ⊢
    obtain ⟨us', hus⟩ : ∃ us' : Nat → Value, us' = fun j => if j = m then v' else us j := ⟨_, rfl⟩
    have e1 : us' m = v' := by rw [hus]; simp
    have e2 : ∀ j, j ≠ m → us' j = us j := fun j hj => by rw [hus]; simp [hj]
    have h31 : w1.ownsRow B 124 2 (.slice (some ⟨L, 0, none⟩) ls.length cap) ls.length (flatL ls us) := ⟨h3.1, Or.inr ⟨L, cap, cur, rfl, hB, hL1, rest⟩⟩
    have hst := (h31.stored (m * 2 + 1) v').1
    refine ⟨c3, free_blk hL1 _, by rw [List.length_set]; exact h2, us', ?_, ?_⟩
    · rw [List.length_set, flatL_set ls us us' m ⟨(aty ls m).log, (aty ls m).gates ++ [g]⟩ v' hm rfl e1 e2]; exact hst
    · have hkeep : ∀ k, k ≠ L → (w1.setCell ⟨L, m * 2 + 1, none⟩ v').heap[k]? = w1.heap[k]? := fun k hk => Below.heap_setCell _ _ _ _ hk
      intro j hj
      rw [List.length_set] at hj
      rw [aty_set _ _ _ _ hm]
      by_cases e : j = m
      · subst e
        rw [if_pos rfl, e1]
        refine ⟨(h4 j hj).1, hn.keep fun k hk => hkeep k fun e => ?_, fun i hi k hk hk2 => ?_⟩
        · obtain ⟨cs, hcs⟩ := hn.kind hk
          rw [e, hL1] at hcs
          injection hcs with hcs
          injection hcs with _ ht _
          exact absurd ht (by decide)
        · rw [e2 i (Nat.ne_of_lt hi)] at hk
          have hkk : gk = k := by rw [hv'] at hk2; simpa [Value.ownBlock] using hk2
          subst hkk
          rcases hgk with hgk | hgk
          · exact (h4 j hj).2.2 i hi gk hk hgk
          · have := ((h4 i (Nat.lt_trans hi hj)).2.1.lt hk).2
            omega
      · rw [if_neg e, e2 j e]
        obtain ⟨q1, q2, q3⟩ := h4 j hj
        have dis : ∀ k, (us j).ownBlock = some k → (us m).ownBlock ≠ some k := fun k hk hk2 => by
          rcases Nat.lt_or_gt_of_ne e with hlt | hlt
          · exact (h4 m hm).2.2 j hlt k hk hk2
          · exact q3 m hlt k hk2 hk
        refine ⟨q1, q2.keep fun k hk => (hkeep k fun e => ?_).trans (hgr.block k (q2.lt hk).2 fun e => dis k hk e.symm), fun i hi k hk hk2 => ?_⟩
        · obtain ⟨cs, hcs⟩ := q2.kind hk
          rw [e, hL] at hcs
          injection hcs with hcs
          injection hcs with _ ht _
          exact absurd ht (by decide)
        · by_cases ei : i = m
          · rw [ei, e1] at hk
            have hkk : gk = k := by rw [hv'] at hk; simpa [Value.ownBlock] using hk
            subst hkk
            rcases hgk with hgk | hgk
            · exact dis gk hk2 hgk
            · have := (q2.lt hk2).2
              omega
          · rw [e2 i ei] at hk
            exact q3 i hi k hk hk2
theorem below_of_grown {B : Nat} {w w1 : World} {v : Value} {gs : List Gt} (hg : w.grownBy w1 v.ownBlock) (hB : B ≤ w.heap.size) (hn : NewG B w v gs) : Below B w w1 :=
  (Below.refl B w).grown hg hB fun k hk => (hn.lt hk).1
theorem Pk.addGate {b B : Nat} {c : Ci} {w w1 : World} {L j : Nat} {vL v' : Value} {cs : Array Value} {r : Option Nat} {ls' : List Ly} (hbB : B ≤ b) (hlog : I64 c.log)
    (hbox : w.heap[b]? = some (.cells #[.int .i64 c.log, vL] 62 (0, 0))) (hcs : w.heap[L]? = some (.cells cs 124 (0, 0))) (hr : ∀ k, r = some k → ∃ cs, w.heap[k]? = some (Obj.cells cs 126 (0, 0)))
    (hg : w.grownBy w1 r) (hN : NewL B (w1.setCell ⟨L, j, none⟩ v') vL ls') : Pk b B ⟨c.log, ls'⟩ (w1.setCell ⟨L, j, none⟩ v') ∧ w1.heap[b]? = some (.cells #[.int .i64 c.log, vL] 62 (0, 0)) := by
  have h1 : w1.heap[b]? = some (.cells #[.int .i64 c.log, vL] 62 (0, 0)) := (hg.block b (blk_lt hbox) fun e => by
    obtain ⟨cs2, h2⟩ := hr b e.symm
    rw [hbox] at h2
    injection h2 with h2
    injection h2 with _ ht _
    exact absurd ht (by decide)).trans hbox
  have hbL : b ≠ L := fun e => by
    rw [e, hcs] at hbox
    injection hbox with h2
    injection h2 with _ ht _
    exact absurd ht (by decide)
  exact ⟨⟨hbB, hlog, vL, (Below.heap_setCell _ _ _ _ hbL).trans h1, hN⟩, h1⟩
end Go.Proofs.YtlfneeobnihocaaGreatDoor
