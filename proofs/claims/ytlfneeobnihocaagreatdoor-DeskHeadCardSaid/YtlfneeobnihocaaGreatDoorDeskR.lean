/- Several texts in one: DeskL, DeskR, LinesW. What each says, and its conditions, stands at its head. -/
import Derived.Test.YtlfneeobnihocaaGreatDoorDeskC
/- Plain laws of the desk: lines with their bytes 10; how long answers are. No condition. -/
namespace Go.Proofs.YtlfneeobnihocaaGreatDoor
set_option maxRecDepth 100000
set_option linter.unusedVariables false
open Go.RowKit Tally
/-- pieces, each with its byte behind it, but for the last -/
def markP (c : UInt8) : List Bs → List Bs
  | [] => []
  | [p] => [p]
  | p :: q :: r => (p ++ [c]) :: markP c (q :: r)
theorem markP_cons (c : UInt8) (p : Bs) (ps : List Bs) (h : ps ≠ []) : markP c (p :: ps) = (p ++ [c]) :: markP c ps := by
  cases ps with
  | nil => exact absurd rfl h
  | cons q r => rfl
theorem markP_length (c : UInt8) : ∀ ps : List Bs, (markP c ps).length = ps.length
  | [] => rfl
  | [p] => rfl
  | p :: q :: r => by
    have := markP_length c (q :: r)
    show (markP c (q :: r)).length + 1 = _
    rw [this]; rfl
theorem splitK_mark (c : UInt8) : ∀ (k : Nat) (l : List UInt8), l.count c = k → Lib.splitK [c] 1 k l = markP c (pcs c l)
  | 0, l, h => by
    have : ∀ x ∈ l, x ≠ c := fun x hx e => by
      have := List.count_eq_zero.mp h
      exact this (e ▸ hx)
    rw [pcs_none c l this]; rfl
  | k + 1, l, h => by
    rcases index_split c l with ⟨h1, h2⟩ | ⟨a, r, rfl, h2, h3⟩
    · have : l.count c = 0 := List.count_eq_zero.mpr fun hm => h2 c hm rfl
      omega
    · have hc : r.count c = k := by
        rw [List.count_append, List.count_cons_self, List.count_eq_zero.mpr (fun hm => h2 c hm rfl)] at h; omega
      unfold Lib.splitK
      rw [h3, if_neg (by simp)]
      have e1 : ((a.length : Int).toNat + 1) = a.length + 1 := by omega
      have e2 : ((a.length : Int).toNat + [c].length) = a.length + 1 := by simp
      rw [e1, e2, show (a ++ c :: r).take (a.length + 1) = a ++ [c] by rw [List.take_append, List.take_of_length_le (by omega)]; simp, show (a ++ c :: r).drop (a.length + 1) = r by
        rw [List.drop_append]; simp, splitK_mark c k r hc, pcs_sep c a r h2, markP_cons c a _ (pcs_ne c r)]
theorem splitB_mark (c : UInt8) (s : ByteArray) : Lib.splitB ⟨#[c]⟩ 1 (Lib.countB s ⟨#[c]⟩) s = (markP c (pcs c s.data.toList)).map mkB := by
  have h1 := Lib.splitB_data ⟨#[c]⟩ 1 (Lib.countB s ⟨#[c]⟩) s
  have h2 : Lib.countB s ⟨#[c]⟩ = s.data.toList.count c := Lib.count_one c s.data.toList
  rw [h2, splitK_mark c _ _ rfl] at h1
  have h3 := congrArg (List.map mkB) h1
  rw [List.map_map, show (mkB ∘ fun x : ByteArray => x.data.toList) = id from rfl, List.map_id] at h3
  rw [h2]
  exact h3
/-- no piece holds the byte -/
theorem pcs_clean (c : UInt8) : ∀ l : List UInt8, ∀ p ∈ pcs c l, ∀ x ∈ p, x ≠ c := by
  intro l
  induction l with
  | nil => intro p hp x hx; simp [pcs] at hp; subst hp; cases hx
  | cons b r ih =>
    intro p hp x hx
    by_cases hb : b = c
    · subst hb
      have e : pcs b (b :: r) = [] :: pcs b r := pcs_sep b [] r (fun x hx => by cases hx)
      rw [e] at hp
      rcases List.mem_cons.mp hp with rfl | hp
      · cases hx
      · exact ih p hp x hx
    · obtain ⟨q, qs, hq⟩ := pcs_head c r
      rw [pcs_cons c b r hb hq] at hp
      rcases List.mem_cons.mp hp with rfl | hp
      · rcases List.mem_cons.mp hx with rfl | hx
        · exact hb
        · exact ih q (by rw [hq]; exact List.mem_cons_self ..) x hx
      · exact ih p (by rw [hq]; exact List.mem_cons_of_mem _ hp) x hx
/-- a marked piece is its piece, or that with the byte behind it -/
theorem markP_at (c : UInt8) : ∀ (ps : List Bs) (j : Nat), j < ps.length → ats (markP c ps) j = ats ps j ∨ ats (markP c ps) j = ats ps j ++ [c]
  | [], j, h => absurd h (by simp)
  | [p], 0, _ => .inl rfl
  | [p], j + 1, h => absurd h (by simp)
  | p :: q :: r, 0, _ => .inr rfl
  | p :: q :: r, j + 1, h => markP_at c (q :: r) j (by simpa using h)
/-- the last piece has no byte behind it -/
theorem markP_last (c : UInt8) : ∀ (ps : List Bs), ps ≠ [] → ats (markP c ps) (ps.length - 1) = ats ps (ps.length - 1)
  | [], h => absurd rfl h
  | [p], _ => rfl
  | p :: q :: r, _ => markP_last c (q :: r) (by simp)
theorem trim_mark {c : UInt8} {p q : Bs} (hc : ∀ x ∈ p, x ≠ c) (h : q = p ∨ q = p ++ [c]) : Lib.trimSuffix q [c] = p := by
  unfold Lib.trimSuffix Lib.hasSuffix
  rcases h with rfl | rfl
  · rw [if_neg]
    intro hs
    obtain ⟨t, ht⟩ := List.isSuffixOf_iff_suffix.mp hs
    exact hc c (by rw [← ht]; simp) rfl
  · rw [if_pos (List.isSuffixOf_iff_suffix.mpr ⟨p, rfl⟩)]
    simp
theorem linesL_length (s : Bs) : (linesL s).length ≤ (pcs 10 s).length := by
  unfold linesL
  split
  · rw [List.length_dropLast]; omega
  · exact Nat.le_refl _
/-- the lines: whether the last piece is empty -/
theorem linesL_eq (s : Bs) : linesL s = if ats (pcs 10 s) ((pcs 10 s).length - 1) = [] then (pcs 10 s).take ((pcs 10 s).length - 1) else pcs 10 s := by
  have h0 := List.length_pos_iff.mpr (pcs_ne 10 s)
  have e : (pcs 10 s).getLast? = some (ats (pcs 10 s) ((pcs 10 s).length - 1)) := by
    rw [List.getLast?_eq_getElem?, ats, List.getElem?_eq_getElem (by omega)]; rfl
  unfold linesL
  rw [e, List.dropLast_eq_take]
  by_cases h : ats (pcs 10 s) ((pcs 10 s).length - 1) = []
  · rw [if_pos h, if_pos (by rw [h])]
  · rw [if_neg h, if_neg (fun e => h (Option.some.inj e))]
theorem pcs_len_le (c : UInt8) (s : Bs) : (pcs c s).length ≤ s.length + 1 := by
  rw [pcs_length]
  have := List.count_le_length (a := c) (l := s)
  omega
/-- a piece is no longer than the text -/
theorem pcs_mem_len (c : UInt8) : ∀ l : List UInt8, ∀ p ∈ pcs c l, p.length ≤ l.length := by
  intro l
  induction l with
  | nil => intro p hp; simp [pcs] at hp; simp [hp]
  | cons b r ih =>
    intro p hp
    by_cases hb : b = c
    · subst hb
      have e : pcs b (b :: r) = [] :: pcs b r := pcs_sep b [] r (fun x hx => by cases hx)
      rw [e] at hp
      rcases List.mem_cons.mp hp with rfl | hp
      · simp
      · have := ih p hp; simp only [List.length_cons]; omega
    · obtain ⟨q, qs, hq⟩ := pcs_head c r
      rw [pcs_cons c b r hb hq] at hp
      rcases List.mem_cons.mp hp with rfl | hp
      · have := ih q (by rw [hq]; exact List.mem_cons_self ..)
        simp only [List.length_cons]; omega
      · have := ih p (by rw [hq]; exact List.mem_cons_of_mem _ hp)
        simp only [List.length_cons]; omega
/-! how long answers are -/
theorem errL_le (e : Int) (h0 : 0 ≤ e) (h1 : e ≤ 100) : (errL e).length ≤ 800 := by have := errL_len e h0 h1; omega
theorem decL_psi (x : F) : (decL (psi x)).length ≤ 20 := decL_len _ (by have := (U64.psi x).2; omega)
theorem netA_len (t : Bs) (f : Ci → Bs) (ht : t.length ≤ 4096) (hf : ∀ c, checkC c = 0 → (f c).length ≤ 800) : (netA t f).length ≤ 800 := by
  obtain ⟨e1, e2, e3, e4⟩ := parse_range t (by omega)
  unfold netA
  split
  · rename_i h
    have hb := (back_read (s := mkB t) (by rw [mkB_data]; exact h)).1
    rw [mkB_data] at hb
    exact hf _ hb
  · have h1 := errL_len _ e1 (show (parseR t).2.2 ≤ 100 by omega)
    have h2 := decL_len (parseR t).2.1 (by omega)
    rw [List.length_append, List.length_cons]; omega
theorem showA_len (c : Ci) (hc : checkC c = 0) : (showA c).length ≤ 800 := by
  have h := circB_size (good_of_check hc)
  unfold showA
  rw [List.length_append, Array.length_toList]
  show (circB c).size + 2 ≤ 800
  omega
theorem outsI_len (c : Ci) (hc : checkC c = 0) (n : List Int) (hl : n.length = 2 ^ c.log.toNat) : (outsI c n).length ≤ 16 := by
  have hG := good_of_check hc
  rw [outsI, List.length_map, valF_length hG _ (by rw [List.length_map, hl]) _ (Nat.le_refl _)]
  have h4 := hG.below4 (k := c.layers.length) (Nat.le_refl _)
  exact (pow4 h4).2
theorem ranA_len (c : Ci) (hc : checkC c = 0) (n : List Int) : (ranA c n).length ≤ 800 := by
  unfold ranA
  split
  · rename_i hl
    have h := outsI_len c hc n hl
    have hj := joinD_len 20 ((outsI c n).map decL) (fun x hx => by
      obtain ⟨y, hy, rfl⟩ := List.mem_map.mp hx
      obtain ⟨z, _, rfl⟩ := List.mem_map.mp hy
      exact decL_psi z)
    rw [List.length_map] at hj
    omega
  · exact errL_le 4 (by decide) (by decide)
theorem provA_len (c : Ci) (a b : List Int) : (provA c a b).length ≤ 800 := by
  unfold provA
  split
  · split
    · split
      · decide
      · decide
    · exact errL_le 4 (by decide) (by decide)
  · exact errL_le 4 (by decide) (by decide)
theorem twoA_len (v : Bs) (a b : Int) : ((twoA v a b).getD (errL 3)).length ≤ 800 := by
  have h := fun x : F => (show (decL (psi x)).length ≤ 800 by have := decL_psi x; omega)
  unfold twoA
  split
  · exact h _
  · split
    · exact h _
    · split
      · exact h _
      · split
        · exact h _
        · exact errL_le 3 (by decide) (by decide)
theorem listA_len (t v : Bs) (n : List Int) (ht : t.length ≤ 4096) : (listA t v n).length ≤ 800 := by
  have h := fun x : F => (show (decL (psi x)).length ≤ 800 by have := decL_psi x; omega)
  have h4 := errL_le 4 (by decide) (by decide)
  have h3 := errL_le 3 (by decide) (by decide)
  have h1 := errL_le 1 (by decide) (by decide)
  unfold listA
  split
  · unfold sumA; split
    · exact h _
    · exact h4
  · split
    · unfold rootA; split
      · exact h _
      · exact h4
    · split
      · exact netA_len t _ ht fun c hc => ranA_len c hc n
      · split
        · unfold invA; split
          · exact h1
          · exact h _
        · split
          · exact twoA_len _ _ _
          · exact h3
theorem doA_len (t v : Bs) (ws : List Bs) (ht : t.length ≤ 4096) : (doA t v ws).1.length ≤ 800 := by
  have h := fun x : F => (show (decL (psi x)).length ≤ 800 by have := decL_psi x; omega)
  have h4 := errL_le 4 (by decide) (by decide)
  have h3 := errL_le 3 (by decide) (by decide)
  have h2 := errL_le 2 (by decide) (by decide)
  have h1 := errL_le 1 (by decide) (by decide)
  have hok : okL.length ≤ 800 := by decide
  unfold doA
  split
  · split
    · exact h3
    · split
      · exact h2
      · exact hok
  · split
    · split
      · exact hok
      · exact h3
    · split
      · split
        · exact netA_len t _ ht showA_len
        · exact h3
      · split
        · split
          · show (evalA _ _).length ≤ 800
            unfold evalA; split
            · split
              · exact h _
              · exact h1
            · exact h4
          · exact h3
        · split
          · split
            · exact netA_len t _ ht fun c _ => provA_len c _ _
            · exact h3
          · split
            · exact listA_len t v _ ht
            · exact h3
theorem runA_snoc (ls : List Bs) (l : Bs) : runA (ls ++ [l]) = lineA (runA ls) l := by simp [runA]
theorem ats_take_snoc {ls : List Bs} {k : Nat} (hk : k < ls.length) : ls.take (k + 1) = ls.take k ++ [ats ls k] := by
  rw [List.take_succ_eq_append_getElem hk, ats, List.getElem?_eq_getElem hk]; rfl
end Go.Proofs.YtlfneeobnihocaaGreatDoor

/- The walk of desk.Run: what a text is answered. Texts of at most 2^32 - 16 bytes. The tables lie as their initialisers lay them. -/
namespace Go.Proofs.YtlfneeobnihocaaGreatDoor
set_option maxRecDepth 100000
set_option linter.unusedVariables false
open Go.RowKit Tally
set_option maxRecDepth 100000 in
set_option maxHeartbeats 1000000 in
theorem st_SplitAfter (s : ByteArray) (w : World) (hs : s.size < 4294967281) :
    Calls Tryz.prog 12 #[.string s, .string ⟨#[10]⟩] w fun e w' => e = .returned (.slice (some ⟨w.heap.size, 0, none⟩) (pcs 10 s.data.toList).length (pcs 10 s.data.toList).length) ∧ w.alloc (.cells (strRow (markP 10 (pcs 10 s.data.toList))) 9) = w' := by
  have hcount : Lib.countB s ⟨#[10]⟩ = s.data.toList.count 10 := Lib.count_one 10 s.data.toList
  have hle : s.data.toList.count 10 ≤ s.size := by
    have h := List.count_le_length (a := (10 : UInt8)) (l := s.data.toList)
    rw [Array.length_toList] at h
    exact h
  have hlen := pcs_length 10 s.data.toList
  have G := Any.strings_genSplit_core Tryz.lays221 (by kernel_rfl) s ⟨#[10]⟩ 1 (-1) (s.data.toList.count 10 + 1) w (by omega) (Nat.le_refl 1) (Nat.le_refl 1)
    (fun x cs hx => (Tryz.strings_Index_one x 10 _).mono fun e w' ⟨h1, h2⟩ => ⟨by rw [h1, index_byte], h2⟩)
    ((Tryz.strings_Count_one s 10 w).mono fun e w' ⟨h1, h2⟩ => ⟨by rw [h1, hcount]; rfl, h2⟩)
    (by decide) (by decide) (by rw [if_pos (by decide), hcount]; omega)
  rw [show s.data.toList.count 10 + 1 - 1 = Lib.countB s ⟨#[10]⟩ by omega, splitB_mark] at G
  have G2 : Calls Tryz.prog 25 #[.string s, .string ⟨#[10]⟩, .int .i64 1, .int .i64 (-1)] w fun e w' => e = .returned (.slice (some ⟨w.heap.size, 0, none⟩) (pcs 10 s.data.toList).length (pcs 10 s.data.toList).length) ∧ w.alloc (.cells (strRow (markP 10 (pcs 10 s.data.toList))) 9) = w' := by
    refine G.mono ?_
    rintro e w' ⟨rfl, rfl⟩
    refine ⟨by rw [List.length_map, markP_length, hlen], ?_⟩
    have := Lib.cellsOf_full ((markP 10 (pcs 10 s.data.toList)).map mkB)
    rw [List.length_map, markP_length, hlen] at this
    rw [this, List.map_map]; rfl
  clear hlen hcount hle G
  go_enter Tryz.func12, Tryz.ntmps12
  go_wp2_with (go_at_call 25; refine G2.mono ?_; rintro e w' ⟨rfl, rfl⟩)
  go_ret
  exact ⟨rfl, rfl⟩
theorem st_Trim (p q : Bs) (w : World) (hc : ∀ x ∈ p, x ≠ 10) (h : q = p ∨ q = p ++ [10]) (hl : q.length ≤ 9223372036854775807) :
    Calls Tryz.prog 14 #[.string (mkB q), .string ⟨#[10]⟩] w fun e w' => e = .returned (.string (mkB p)) ∧ w = w' := by
  refine (Tryz.strings_TrimSuffix (mkB q) ⟨#[10]⟩ w hl).mono ?_
  rintro e w' ⟨rfl, rfl⟩
  refine ⟨?_, rfl⟩
  have e1 := trim_mark hc h
  rw [mkB_data, e1]
theorem Bd.blk0 {b : Nat} {s : ByteArray} {w : World} (h : Bd b s w) : ∃ v, w.heap[b]? = some v := by
  rcases h with ⟨_, v, hbk, _⟩ | ⟨_, v, hbk, _⟩ <;> exact ⟨_, hbk⟩
/-- a builder stays where the desk alone is written -/
theorem Bd.grown {b db : Nat} {s : ByteArray} {w w' : World} (h : Bd b s w) (hg : w.grownBy w' (some db)) (hlt : db < b) : Bd b s w' := by
  have key : ∀ p, Lib.BuilderAtF 35 5 b b p (Lib.strCells s) w → Lib.BuilderAtF 35 5 b b p (Lib.strCells s) w' := by
    rintro p ⟨hB, v, hbk, hown, hne⟩
    have hlt2 : b < w.heap.size := (Array.getElem?_eq_some_iff.1 hbk).1
    refine ⟨hB, v, by rw [hg.block b hlt2 (fun e => by cases e; omega)]; exact hbk, ?_, hne⟩
    refine ⟨hown.1, ?_⟩
    rcases hown.2 with hn | ⟨g, cap, cur, fz, hv, hg0, hgg, rest⟩
    · exact Or.inl hn
    · exact Or.inr ⟨g, cap, cur, fz, hv, hg0, by rw [hg.block g (Array.getElem?_eq_some_iff.1 hgg).1 (fun e => by cases e; omega)]; exact hgg, rest⟩
  rcases h with h | h
  · exact Or.inl (key _ h)
  · exact Or.inr (key _ h)
set_option maxRecDepth 100000 in
set_option maxHeartbeats 8000000 in
theorem desk_Run (s : ByteArray) (w : World) (hs : s.size < 4294967281) (hT : Tab w) (hTn : Ten w) :
    Calls Tryz.prog 6 #[.string s] w fun e w' => e = .returned (.string (mkB (deskA s.data.toList))) ∧ Below w.heap.size w w' := by
  have HT := Lib.hid hT; have HTn := Lib.hid hTn
  have HSA := Lib.hid (st_SplitAfter s w hs)
  obtain ⟨l, hl⟩ : ∃ l, l = s.data.toList := ⟨_, rfl⟩
  rw [← hl] at HSA ⊢
  have hsl : l.length = s.size := by rw [hl, Array.length_toList]; rfl
  obtain ⟨ps, hps⟩ : ∃ ps, ps = pcs 10 l := ⟨_, rfl⟩
  obtain ⟨ms, hms⟩ : ∃ ms, ms = markP 10 ps := ⟨_, rfl⟩
  rw [← hps, ← hms] at HSA
  have hpl : ps.length ≤ s.size + 1 := by rw [hps, ← hsl]; exact pcs_len_le 10 l
  have hp0 : 0 < ps.length := by rw [hps]; exact List.length_pos_iff.mpr (pcs_ne 10 l)
  obtain ⟨M, hM⟩ : ∃ M, ps.length = M + 1 := ⟨ps.length - 1, by omega⟩
  have HML := Lib.hid (show ms.length = M + 1 by rw [hms, markP_length, hM])
  have Hlast := Lib.hid (show ats ms M = ats ps M by have := markP_last 10 ps (List.length_pos_iff.mp hp0); rw [hM] at this; rw [hms]; exact this)
  have Hmark := Lib.hid (fun j (hj : j < M + 1) => show ats ms j = ats ps j ∨ ats ms j = ats ps j ++ [10] by rw [hms]; exact markP_at 10 ps j (by rw [hM]; exact hj))
  have Hclean := Lib.hid (fun j (hj : j < M + 1) => show ∀ x ∈ ats ps j, x ≠ 10 from pcs_clean 10 l _ (by rw [← hps]; exact ats_mem (by rw [hM]; exact hj)))
  have Hplen := Lib.hid (fun j (hj : j < M + 1) => show (ats ps j).length ≤ l.length from pcs_mem_len 10 l _ (by rw [← hps]; exact ats_mem (by rw [hM]; exact hj)))
  have HLL := Lib.hid (show linesL l = if ats ps M = [] then ps.take M else ps by rw [linesL_eq, ← hps, show ps.length - 1 = M by omega])
  have Hps := Lib.hid hM
  rw [hM] at HSA hpl
  obtain ⟨RA, hRA⟩ : ∃ RA, RA = deskA l := ⟨_, rfl⟩
  have HRA := Lib.hid hRA
  rw [← hRA]
  have Hsl := Lib.hid hsl
  clear hT hTn hl hms hps hp0 hRA hM hsl
  go_enter Tryz.func6, Tryz.ntmps6
  go_wp2_with (fail)
  refine HSA.out.mono ?_
  rintro e W1 ⟨rfl, hW1⟩
  have hrow : ∀ j, j < M + 1 → W1.cell? ⟨w.heap.size, j, none⟩ = some (.string (mkB (ats ms j))) := fun j hj => by
    rw [← hW1]
    have h := cell_blk (alloc_blk w (.cells (strRow ms) 9)) j
    rw [h, strRow]
    have hj' : j < ms.length := by rw [HML.out]; exact hj
    simp [ats, hj']
  have HB1 := Lib.hid (show Below w.heap.size w W1 by rw [← hW1]; exact (Below.refl _ _).alloc (Nat.le_refl _) _)
  have hlt1 : w.heap.size < W1.heap.size := by rw [← hW1]; simp
  obtain ⟨rb, hrb⟩ : ∃ rb, rb = w.heap.size := ⟨_, rfl⟩
  rw [← hrb] at hrow hlt1 ⊢
  have Hrb := Lib.hid hrb
  have Hrow := Lib.hid hrow
  have hcM := hrow M (by omega)
  rw [Hlast.out] at hcM
  clear hW1 hrb hrow HSA
  have hM63 : (M : Int) + 1 - 1 = (M : Int) := by omega
  have hwM : IntKind.i64.wrap ((M : Int) + 1 - 1) = (M : Int) := by rw [hM63]; exact IntWalk.i64_in _ (by omega)
  obtain ⟨ZL, hZL⟩ : ∃ ZL, ZL = ats ps M := ⟨_, rfl⟩
  rw [← hZL] at hcM
  rw [← hZL] at HLL
  have HZL := Lib.hid hZL
  clear hZL
  have key : (ZL.isEmpty = true ∧ ZL = []) ∨ (ZL.isEmpty = false ∧ ¬ ZL = []) := by
    cases ZL with
    | nil => exact .inl ⟨rfl, rfl⟩
    | cons x y => exact .inr ⟨rfl, fun h => by cases h⟩
  have HNL := Lib.hid (show (ZL = [] → (linesL l).length = M) ∧ (¬ ZL = [] → (linesL l).length = M + 1) from ⟨fun h => by rw [HLL.out, if_pos h, List.length_take, Hps.out]; omega, fun h => by rw [HLL.out, if_neg h, Hps.out]⟩)
  have HLj := Lib.hid (show ∀ j, j < (linesL l).length → ats (linesL l) j = ats ps j ∧ j < M + 1 from fun j hj => by
    by_cases h : ZL = []
    · rw [HNL.out.1 h] at hj
      refine ⟨?_, by omega⟩
      rw [HLL.out, if_pos h, ats, ats, List.getElem?_take, if_pos hj]
    · rw [HNL.out.2 h] at hj
      exact ⟨by rw [HLL.out, if_neg h], hj⟩)
  rcases key with ⟨k1, k2⟩ | ⟨k1, k2⟩
  all_goals
    go_upto_region 4 with fail
    clear hM63 hwM hcM k1
    have hNL := (by first | exact HNL.out.1 k2 | exact HNL.out.2 k2 : (linesL l).length = _)
    clear k2 HNL HLL
    rw [← hNL]
    have HNL2 := Lib.hid (show (linesL l).length ≤ M + 1 by omega)
    clear hNL
    obtain ⟨LS, hLS⟩ : ∃ LS, LS = linesL l := ⟨_, rfl⟩
    rw [← hLS] at HNL2 HLj ⊢
    obtain ⟨N, hN⟩ : ∃ N, N = LS.length := ⟨_, rfl⟩
    have HRA2 := Lib.hid (show RA = if 65536 < l.length ∨ 200 < N then [101, 114, 114, 111, 114, 32, 50, 10] else (runA LS).1 by rw [HRA.out, deskA, ← hLS, ← hN])
    rw [← hN] at HNL2 HLj ⊢
    have HN := Lib.hid hN
    clear hLS hN HRA
    by_cases hbig : 65536 < l.length ∨ 200 < N
    · have HR3 := Lib.hid (show RA = [101, 114, 114, 111, 114, 32, 50, 10] by rw [HRA2.out, if_pos hbig])
      have key2 : 65536 < (s.size : Int) ∨ ¬ 65536 < (s.size : Int) ∧ 200 < (N : Int) := by
        have := Hsl.out
        rcases hbig with h | h
        · exact .inl (by omega)
        · by_cases h2 : 65536 < s.size
          · exact .inl (by omega)
          · exact .inr ⟨by omega, by omega⟩
      clear hbig
      rcases key2 with h1 | ⟨h1, h2⟩
      · go_wp2
        go_ret
        exact ⟨by rw [HR3.out]; rfl, HB1.out⟩
      · go_wp2
        go_ret
        exact ⟨by rw [HR3.out]; rfl, HB1.out⟩
    · have HR3 := Lib.hid (show RA = (runA LS).1 by rw [HRA2.out, if_neg hbig])
      have hl1 : l.length ≤ 65536 := by omega
      have hN2 : N ≤ 200 := by omega
      have h1 : ¬ 65536 < (s.size : Int) := by have := Hsl.out; omega
      have h2 : ¬ 200 < (N : Int) := by omega
      have HL1 := Lib.hid hl1
      clear hbig HRA2 hl1
      go_upto_region 8 with fail
      have hBd := Bd.fresh (W1.alloc (.cells #[.string ⟨#[]⟩] 31))
      have e9 : (W1.alloc (.cells #[.string ⟨#[]⟩] 31)).heap.size = W1.heap.size + 1 := by simp
      rw [e9] at hBd
      obtain ⟨W3, hW3, q1, q2, q3, q4⟩ := two_blocksP W1 #[.string ⟨#[]⟩] #[.pointer none, .slice none 0 0] 31 35
      rw [hW3] at hBd
      rw [hW3]
      obtain ⟨db, hdb⟩ : ∃ db, db = W1.heap.size := ⟨_, rfl⟩
      obtain ⟨bb, hbb⟩ : ∃ bb, bb = db + 1 := ⟨_, rfl⟩
      rw [← hdb, ← hbb] at hBd ⊢
      rw [← hdb] at q1 q4 hlt1
      have hdbb : db < bb := by omega
      have HD3 := Lib.hid (show DeskAt db [] W3 from ⟨q1, by simp⟩)
      have HBd3 := Lib.hid hBd
      have HB3 := Lib.hid q4
      have Hdb := Lib.hid hdb
      clear hBd e9 hW3 q1 q2 q3 q4 hdb hbb
      go_wp2_with (fail)
      go_loopw [37] (fun iv wr => ∃ k : Nat, k ≤ N ∧ iv = .int .i64 (k : Int) ∧ Hid (DeskAt db (runA (LS.take k)).2 wr) ∧ Hid (Bd bb (mkB (runA (LS.take k)).1) wr) ∧ Hid ((runA (LS.take k)).1.length ≤ k * 801) ∧ Hid (Below db W1 wr)) (fun iv _ => N - (intOf iv).toNat)
      case atStart => exact ⟨0, Nat.zero_le _, rfl, HD3.out, HBd3.out, by show (runA []).1.length ≤ _; simp [runA], HB3.out⟩
      case round =>
        obtain ⟨k, hk, rfl, HD, HBd, HLen, HB⟩ := hrel
        obtain ⟨wo, hwo⟩ : ∃ x : World, x = wr := ⟨_, rfl⟩
        subst hwo
        by_cases hz : k < N
        · have hz' : (k : Int) < (N : Int) := by omega
          obtain ⟨hat, hkM⟩ := HLj.out k hz
          have ck := (HB.out.cell (p := ⟨rb, k, none⟩) hlt1).trans (Hrow.out k hkM)
          have Hat := Lib.hid hat
          have Htk := Lib.hid (ats_take_snoc (ls := LS) (k := k) (by rw [← HN.out]; exact hz))
          have hcl := Hclean.out k hkM
          have hmk := Hmark.out k hkM
          have hpl2 := Hplen.out k hkM
          obtain ⟨P, hP⟩ : ∃ P, P = ats ps k := ⟨_, rfl⟩
          obtain ⟨Q, hQ⟩ : ∃ Q, Q = ats ms k := ⟨_, rfl⟩
          rw [← hP] at hcl hmk hpl2 Hat
          rw [← hQ] at ck hmk
          have HTr := Lib.hid (st_Trim P Q wo hcl hmk (by rcases hmk with h | h <;> rw [h] <;> (try rw [List.length_append]) <;> (try simp only [List.length_singleton]) <;> have := HL1.out <;> omega))
          have HSp := Lib.hid (st_Split (mkB P) 32 wo (by rw [mkB_size]; have := HL1.out; omega))
          have hPd := mkB_data P
          rw [hPd] at HSp
          have hplen := pcs_len_le 32 P
          have HPl := Lib.hid (show (pcs 32 P).length ≤ 100000 by have := HL1.out; omega)
          have HPm := Lib.hid (fun x (hx : x ∈ pcs 32 P) => show x.length ≤ 1000000 by have := pcs_mem_len 32 P x hx; have := HL1.out; omega)
          have HWL := Lib.hid (show wordsL P = (pcs 32 P).filter fun p => !p.isEmpty from rfl)
          obtain ⟨PP, hPP⟩ : ∃ PP, PP = pcs 32 P := ⟨_, rfl⟩
          rw [← hPP] at HSp HPl HPm HWL
          clear hat hkM hcl hmk hpl2 hP hQ hPd hplen hPP
          go_wp2_with (fail)
          refine HTr.out.mono ?_
          rintro e w' ⟨rfl, rfl⟩
          go_wp2_with (fail)
          refine HSp.out.mono ?_
          rintro e w4 ⟨rfl, hw4⟩
          have hrow4 := strRow_row wo PP (by have := HPl.out; omega)
          rw [hw4] at hrow4
          have HR4 := Lib.hid hrow4
          have HB4 := Lib.hid (show Below wo.heap.size wo w4 by rw [← hw4]; exact (Below.refl _ _).alloc (Nat.le_refl _) _)
          obtain ⟨pb, hpb⟩ : ∃ pb, pb = wo.heap.size := ⟨_, rfl⟩
          rw [← hpb] at HR4 ⊢
          have hpl63 := HPl.out
          clear hw4 hrow4 hpb HTr HSp ck
          go_wp2_with (fail)
          go_loopw [8, 45] (fun ov jv w5 => ∃ j : Nat, j ≤ PP.length ∧ jv = .int .i64 (j : Int) ∧ Hid (NewS w4.heap.size w5 ov ((PP.take j).filter fun p => !p.isEmpty)) ∧ Hid (Below w4.heap.size w4 w5)) (fun _ jv _ => PP.length - (intOf jv).toNat)
          case atStart => exact ⟨0, Nat.zero_le _, rfl, NewS.nilS _ _, Below.refl _ _⟩
          case round =>
            obtain ⟨j, hj, rfl, HS5, HB5⟩ := hrel
            have hB5s := HB5.out.size
            by_cases hz2 : j < PP.length
            · have hz2' : (j : Int) < (PP.length : Int) := by omega
              have hRow := HR4.out.go HB5.out
              obtain ⟨-, a9, c9, e9, -, -, h9⟩ := hRow
              cases e9
              obtain ⟨b9, o9, e9, hb9, -, hc9⟩ := h9 (by omega)
              cases e9
              have cj := hc9 j hz2
              rw [Nat.zero_add] at cj
              have HTj := Lib.hid (ats_take_snoc (ls := PP) hz2)
              obtain ⟨x, hx⟩ : ∃ x, x = ats PP j := ⟨_, rfl⟩
              rw [← hx] at cj HTj
              clear h9 hc9 hx
              obtain ⟨ao, co, rfl⟩ := HS5.out.isSlice
              by_cases hxe : x = []
              · have Hf := Lib.hid (show (PP.take (j + 1)).filter (fun p => !p.isEmpty) = (PP.take j).filter (fun p => !p.isEmpty) by rw [HTj.out, List.filter_append, hxe]; simp)
                subst hxe
                go_wp2
                go_roundw
                case rel => exact ⟨j + 1, by omega, by go_num, by rw [Hf.out]; exact HS5.out, HB5.out⟩
                case measure => simp [intOf]; omega
              · have hxe2 : x.isEmpty = false := by
                  cases x with
                  | nil => exact absurd rfl hxe
                  | cons _ _ => rfl
                have Hf := Lib.hid (show (PP.take (j + 1)).filter (fun p => !p.isEmpty) = (PP.take j).filter (fun p => !p.isEmpty) ++ [x] by rw [HTj.out, List.filter_append]; simp [hxe2])
                have HFl := Lib.hid (show ((PP.take j).filter fun p => !p.isEmpty).length ≤ 100000 from Nat.le_trans (List.length_filter_le _ _) (by rw [List.length_take]; have := HPl.out; omega))
                obtain ⟨FL, hFL⟩ : ∃ FL, FL = (PP.take j).filter fun p => !p.isEmpty := ⟨_, rfl⟩
                rw [← hFL] at HS5 Hf HFl ⊢
                have hcap : FL.length + 1 ≤ 1000000 := by have := HFl.out; omega
                clear hFL
                go_wp2_with (at_builtin; refine wpList_appS rfl _ _ rfl w4.heap.size _ _ rfl HS5.out x rfl hcap hB5s ?_; intro v6 w6 hn6 hb6; have HS6 := Lib.hid hn6; have HB6 := Lib.hid (HB5.out.trans hb6); clear hn6 hb6)
                go_roundw
                case rel => exact ⟨j + 1, by omega, by go_num, by rw [Hf.out]; exact HS6.out, HB6.out⟩
                case measure => simp [intOf]; omega
            · obtain rfl : j = PP.length := by omega
              rw [List.take_of_length_le (Nat.le_refl _)] at HS5
              obtain ⟨w7, hw7⟩ : ∃ x : World, x = wr := ⟨_, rfl⟩
              subst hw7
              have HWLe := Lib.hid (show wordsL P = PP.filter fun p => !p.isEmpty from HWL.out)
              have Hne := Lib.hid (fun x (hx : x ∈ PP.filter fun p => !p.isEmpty) => show x ≠ [] ∧ x.length ≤ 1000000 from by
                have h := List.mem_filter.mp hx
                refine ⟨fun e => ?_, HPm.out x h.1⟩
                have h2 := h.2
                rw [e] at h2
                exact absurd h2 (by decide))
              have HFl := Lib.hid (show (PP.filter fun p => !p.isEmpty).length ≤ 100000 from Nat.le_trans (List.length_filter_le _ _) HPl.out)
              obtain ⟨FL, hFL⟩ : ∃ FL, FL = PP.filter fun p => !p.isEmpty := ⟨_, rfl⟩
              rw [← hFL] at HS5 HWLe Hne HFl
              clear hFL HWL HPm HPl hB5s
              have HB7 := Lib.hid (show Below wo.heap.size wo w7 from below_two HB4.out HB5.out)
              have HD7 := Lib.hid (HD.out.go HB7.out)
              have HBd7 := Lib.hid (HBd.out.go HB7.out)
              have HBw7 := Lib.hid (show Below db W1 w7 from HB.out.trans (HB7.out.mono (by have := HB.out.size; have := Hdb.out; omega)))
              cases FL with
              | nil =>
                have Hskip := Lib.hid (show runA (LS.take (k + 1)) = runA (LS.take k) by rw [Htk.out, runA_snoc, Hat.out, lineA, HWLe.out])
                obtain ⟨ao, co, rfl⟩ := HS5.out.isSlice
                clear HS5 Hne HFl
                go_wp2
                go_roundw
                case rel => exact ⟨k + 1, by omega, by go_num, by rw [Hskip.out]; exact HD7.out, by rw [Hskip.out]; exact HBd7.out, by rw [Hskip.out]; exact Nat.le_trans HLen.out (by omega), HBw7.out⟩
                case measure => simp [intOf]; omega
              | cons v ws =>
                have hv := Hne.out v (List.mem_cons_self ..)
                obtain ⟨c0, vr, hvc⟩ : ∃ c0 vr, v = c0 :: vr := by
                  cases v with
                  | nil => exact absurd rfl hv.1
                  | cons c r => exact ⟨c, r, rfl⟩
                obtain ⟨gw, cw, rfl, hgB, hgl⟩ := HS5.out.at_head (by simp)
                have cv := HS5.out.cellAt rfl 0 (by simp)
                have ev : ats (v :: ws) 0 = v := rfl
                rw [ev] at cv
                have hlw : (v :: ws).length = ws.length + 1 := rfl
                rw [hlw] at HS5 HFl ⊢
                have hwl := HFl.out
                have h0v : 0 < (mkB v).size := by rw [mkB_size, hvc]; simp
                have e0 : (mkB v)[0]'h0v = c0 := by subst hvc; rfl
                have Hvc := Lib.hid hvc
                have hp1 : 0 < (ws.length : Int) + 1 := by omega
                clear ev hlw hvc hv
                by_cases h35 : c0 = 35
                · have Hskip := Lib.hid (show runA (LS.take (k + 1)) = runA (LS.take k) by rw [Htk.out, runA_snoc, Hat.out, lineA, HWLe.out, Hvc.out, h35]; rfl)
                  have hq1 : ((c0.toNat : Int) == 35) = true := by rw [h35]; rfl
                  have hq2 : ((c0.toNat : Int) != 35) = false := by rw [h35]; rfl
                  clear h35
                  go_wp2
                  go_roundw
                  case rel => exact ⟨k + 1, by omega, by go_num, by rw [Hskip.out]; exact HD7.out, by rw [Hskip.out]; exact HBd7.out, by rw [Hskip.out]; exact Nat.le_trans HLen.out (by omega), HBw7.out⟩
                  case measure => simp [intOf]; omega
                · have hne35 : ¬ (c0.toNat : Int) = 35 := fun e => h35 (UInt8.toNat_inj.mp (by have : c0.toNat = 35 := by omega
                                                                                               rw [this]; rfl))
                  have hq1 : ((c0.toNat : Int) == 35) = false := beq_false_of_ne hne35
                  have hq2 : ((c0.toNat : Int) != 35) = true := bne_iff_ne.mpr hne35
                  have Hrun := Lib.hid (show runA (LS.take (k + 1)) = ((runA (LS.take k)).1 ++ (doA (runA (LS.take k)).2 v ws).1 ++ [10], (doA (runA (LS.take k)).2 v ws).2) by
                    rw [Htk.out, runA_snoc, Hat.out, lineA, HWLe.out]
                    show (if v.head? = some 35 then _ else _) = _
                    rw [if_neg (by rw [Hvc.out]; intro e; exact h35 (Option.some.inj e))])
                  clear h35 hne35
                  go_upto_region 19 with fail
                  obtain ⟨T, hTe⟩ : ∃ T, T = (runA (LS.take k)).2 := ⟨_, rfl⟩
                  obtain ⟨O, hOe⟩ : ∃ O, O = (runA (LS.take k)).1 := ⟨_, rfl⟩
                  obtain ⟨r, hre⟩ : ∃ r, r = doA T v ws := ⟨_, rfl⟩
                  rw [← hTe, ← hOe, ← hre] at Hrun
                  rw [← hTe] at HD7
                  rw [← hOe] at HBd7 HLen
                  have hr800 := doA_len T v ws HD7.out.2
                  rw [← hre] at hr800
                  have hO1 := HLen.out
                  have Hr8 := Lib.hid hr800
                  have hs9 : ¬ (9223372036854775807 < r.1.length + 1) := by omega
                  have hsz9 : (mkB O).size + (mkB (r.1 ++ [10])).size ≤ 1000000 := by
                    rw [mkB_size, mkB_size, List.length_append, List.length_singleton]; omega
                  have hgdb : gw ≠ db := by have := HB4.out.size; have := blk_lt HD.out.1; omega
                  have hgbb : gw ≠ bb := by have := HBd.out.lt; have := HB4.out.size; omega
                  have Hstr := Lib.hid (show ∃ cs, w7.heap[gw]? = some (Obj.cells cs 9 (0, 0)) from by
                    obtain ⟨-, a8, c8, e8, -, -, h8⟩ := HS5.out.row
                    cases e8
                    obtain ⟨b8, o8, e8, -, hcs, -⟩ := h8 (by simp)
                    cases e8
                    exact hcs)
                  have HW5 := Lib.hid (show RowS w7 (.slice (some ⟨gw, 0, none⟩) (v :: ws).length cw) (v :: ws) from HS5.out.row)
                  have HRW := Lib.hid (show RowS w7.drew (.slice (some ⟨gw, 1, none⟩) ws.length (cw - 1)) ws from by
                    have h := (HW5.out.back 1 (by simp)).go (below_drw w7)
                    rw [Nat.zero_add] at h
                    exact h)
                  have HRW0 := Lib.hid (fun (h : ws = []) (a : Option Addr) => show RowS w7.drew (.slice a 0 0) ws from by rw [h]; exact RowS.none0 (by omega))
                  have hcw := HW5.out.2
                  obtain ⟨a8, c8, e8, hcw1, hcw2, -⟩ := hcw
                  cases e8
                  have hcw1' : ws.length + 1 ≤ cw := hcw1
                  have Hwcw := Lib.hid hcw1'
                  have CD := Lib.hid (fun vv (hvv : RowS w7.drew vv ws) => show Calls Tryz.prog 16 #[.pointer (some ⟨db, 0, none⟩), .string (mkB v), vv] w7.drew fun e w' => DoPost db w7.drew r e w' from by
                    rw [hre]
                    exact desk_do db T v vv ws w7.drew (HT.out.below (below_dw (below_two HB1.out (HBw7.out.mono (by have := Hdb.out; omega))))) (HTn.out.go (below_dw (below_two HB1.out (HBw7.out.mono (by have := Hdb.out; omega))))) (HD7.out.go (below_drw w7)) hvv (by omega) (fun x hx => (Hne.out x (List.mem_cons_of_mem _ hx)).2))
                  have hlow1 : (1 : Int) ≤ (ws.length : Int) + 1 := by omega
                  have HRI := Lib.hid (show RowS w7.drew (.slice (if cw = 1 then some ⟨gw, 0, none⟩ else some ⟨gw, 1, none⟩) ws.length (cw - 1)) ws from by
                    split
                    · rename_i h1
                      have hw0 : ws = [] := List.eq_nil_of_length_eq_zero (by omega)
                      subst hw0
                      exact RowS.none0 (by omega)
                    · exact HRW.out)
                  obtain ⟨X10, hX10⟩ : ∃ X10 : ByteArray, X10 = mkB r.1 ++ ⟨#[10]⟩ := ⟨_, rfl⟩
                  have hX10e : X10 = mkB (r.1 ++ [10]) := by
                    rw [hX10]; apply ByteArray.ext; simp [mkB, ByteArray.data_append]
                  have hsz10 : (mkB O).size + X10.size ≤ 1000000 := by rw [hX10e]; exact hsz9
                  have eS9 := Lib.hid (show mkB O ++ X10 = mkB (O ++ r.1 ++ [10]) by rw [hX10e, mkB_append, List.append_assoc])
                  have CW := Lib.hid (fun X (hX : Bd bb (mkB O) X) => b_Write bb (mkB O) X10 X hX hsz10 (Nat.le_of_lt hX.lt))
                  have HX10 := Lib.hid hX10
                  clear hX10 hX10e hsz10
                  have hn63 : (ws.length : Int) + 1 ≤ 9223372036854775807 := by omega
                  clear hcw1 hcw1' hre hTe hOe e0 hq1 hq2 HRW0 hr800 hO1 hsz9 HW5 Hstr
                  go_region_law (first
                    | (go_simp; go_at_call 16; (with_reducible refine (CD.out _ HRI.out).mono ?_); rintro e w8 ⟨rfl, hD8, hg8⟩; have HD8 := Lib.hid hD8; have HG8 := Lib.hid hg8; have HBd8 := Lib.hid ((HBd7.out.drewN 1).grown hg8 hdbb); clear hD8 hg8)
                    | (go_simp; go_at_call 15; rw [← HX10.out]; (with_reducible refine (CW.out w8 HBd8.out).mono ?_); rintro e w9 ⟨rfl, hB9, hb9, -⟩; have HB9 := Lib.hid hB9; have Hb9 := Lib.hid hb9; clear hB9 hb9))
                  all_goals
                    have HD9 := Lib.hid (show DeskAt db r.2 w9 from ⟨(Hb9.out.block db hdbb).trans HD8.out.1, HD8.out.2⟩)
                    have HBz := Lib.hid (show Below db W1 w9 from ((HBw7.out.trans ((below_drw w7).mono (by have := blk_lt HD7.out.1; omega))).grown HG8.out (by have := blk_lt HD7.out.1; show db ≤ w7.drew.heap.size; exact Nat.le_of_lt this) (fun g e => by cases e; exact Nat.le_refl _)).trans (Hb9.out.mono (Nat.le_of_lt hdbb)))
                    have HO9 := Lib.hid (show Bd bb (mkB (O ++ r.1 ++ [10])) w9 by rw [← eS9.out]; exact HB9.out)
                    have HL9 := Lib.hid (show (O ++ r.1 ++ [10]).length ≤ (k + 1) * 801 by
                      have a1 := Hr8.out
                      have a2 := HLen.out
                      simp only [List.length_append, List.length_singleton]; omega)
                    go_wp2_with (fail)
                    go_roundw
                    case rel => exact ⟨k + 1, by omega, by go_num, by rw [Hrun.out]; exact HD9.out, by rw [Hrun.out]; exact HO9.out, by rw [Hrun.out]; exact HL9.out, HBz.out⟩
                    case measure => simp [intOf]; omega
        · obtain rfl : k = N := by omega
          rw [List.take_of_length_le (by rw [← HN.out]; exact Nat.le_refl _)] at HBd
          have HBf := Lib.hid (show Below w.heap.size w wo from below_two HB1.out (HB.out.mono (by have := Hdb.out; omega)))
          have CS := Lib.hid (b_String bb (mkB (runA LS).1) wo HBd.out (Nat.le_of_lt HBd.out.lt))
          have Hbw := Lib.hid (show w.heap.size ≤ bb by have := HB1.out.size; have := Hdb.out; omega)
          go_wp2_with (fail)
          refine CS.out.mono ?_
          rintro e wz ⟨rfl, hbz⟩
          have HBz := Lib.hid (show Below w.heap.size w wz from HBf.out.trans (hbz.mono Hbw.out))
          clear hbz
          go_wp2
          go_ret
          exact ⟨by rw [HR3.out]; rfl, HBz.out⟩
end Go.Proofs.YtlfneeobnihocaaGreatDoor

/- The walks of the reference's TextLines and LineWords. Texts of at most 65536 bytes. -/
namespace Go.Proofs.YtlfneeobnihocaaGreatDoor
set_option maxRecDepth 100000
set_option linter.unusedVariables false
open Go.RowKit Tally
set_option maxHeartbeats 4000000 in
theorem ref_TextLines (s : ByteArray) (w : World) (hs : s.size ≤ 65536) :
    Calls Tryz.prog 8 #[.string s] w fun e w' => ∃ v, e = .returned v ∧ RowS w' v (linesL s.data.toList) ∧ Below w.heap.size w w' := by
  have HP := Lib.hid (ref_Pieces s 10 w (by omega))
  obtain ⟨l, hl⟩ : ∃ l, l = s.data.toList := ⟨_, rfl⟩
  rw [← hl] at HP ⊢
  have hsl : l.length = s.size := by rw [hl, Array.length_toList]; rfl
  obtain ⟨ps, hps⟩ : ∃ ps, ps = pcs 10 l := ⟨_, rfl⟩
  rw [← hps] at HP
  have hpl : ps.length ≤ s.size + 1 := by rw [hps, ← hsl]; exact pcs_len_le 10 l
  have hp0 : 0 < ps.length := by rw [hps]; exact List.length_pos_iff.mpr (pcs_ne 10 l)
  obtain ⟨M, hM⟩ : ∃ M, ps.length = M + 1 := ⟨ps.length - 1, by omega⟩
  have HLL := Lib.hid (show linesL l = if ats ps M = [] then ps.take M else ps by rw [linesL_eq, ← hps, show ps.length - 1 = M by omega])
  have Hps := Lib.hid hM
  obtain ⟨LS, hLS⟩ : ∃ LS, LS = linesL l := ⟨_, rfl⟩
  rw [← hLS] at HLL ⊢
  clear hl hps hp0 hsl hLS
  rw [hM] at hpl
  go_enter Tryz.func8, Tryz.ntmps8
  go_wp2_with (fail)
  refine HP.out.mono ?_
  rintro e w1 ⟨v1, rfl, hn, hb⟩
  have HB := Lib.hid hb
  have HN := Lib.hid hn.row
  obtain ⟨-, a, cap, rfl, hc1, hc2, hr⟩ := hn.row
  obtain ⟨b, off, rfl, hbl, -, hcell⟩ := hr (by rw [hM]; omega)
  have cM := hcell M (by rw [hM]; omega)
  rw [hM] at hc1 HN ⊢
  clear hn hb hr hcell HP hM
  have hwM : IntKind.i64.wrap ((M : Int) + 1 - 1) = (M : Int) := by rw [show (M : Int) + 1 - 1 = (M : Int) by omega]; exact IntWalk.i64_in _ (by omega)
  have hM63 : (M : Int) + 1 - 1 = (M : Int) := by omega
  have hMc : (M : Int) ≤ (cap : Int) := by omega
  obtain ⟨ZL, hZL⟩ : ∃ ZL, ZL = ats ps M := ⟨_, rfl⟩
  rw [← hZL] at cM HLL
  have key : (ZL.isEmpty = true ∧ ZL = []) ∨ (ZL.isEmpty = false ∧ ¬ ZL = []) := by
    cases ZL with
    | nil => exact .inl ⟨rfl, rfl⟩
    | cons x y => exact .inr ⟨rfl, fun h => by cases h⟩
  clear hZL
  rcases key with ⟨k1, k2⟩ | ⟨k1, k2⟩
  · have HR := Lib.hid (show RowS w1 (.slice (some ⟨b, off, none⟩) M cap) LS by
      rw [HLL.out, if_pos k2]
      have h := HN.out
      rw [← Hps.out] at h
      exact h.front M (by rw [Hps.out]; omega))
    go_wp2
    go_ret
    exact ⟨_, rfl, HR.out, HB.out⟩
  · have HR := Lib.hid (show RowS w1 (.slice (some ⟨b, off, none⟩) (M + 1) cap) LS by rw [HLL.out, if_neg k2]; exact HN.out)
    go_wp2
    go_ret
    exact ⟨_, rfl, HR.out, HB.out⟩
set_option maxHeartbeats 4000000 in
theorem ref_LineWords (P : Bs) (w : World) (hs : P.length ≤ 65536) :
    Calls Tryz.prog 9 #[.string (mkB P)] w fun e w' => ∃ v, e = .returned v ∧ NewS w.heap.size w' v (wordsL P) ∧ Below w.heap.size w w' := by
  have HP := Lib.hid (ref_Pieces (mkB P) 32 w (by rw [mkB_size]; omega))
  rw [mkB_data] at HP
  have hplen := pcs_len_le 32 P
  have HPl := Lib.hid (show (pcs 32 P).length ≤ 100000 by omega)
  obtain ⟨WL, hWL⟩ : ∃ WL, WL = wordsL P := ⟨_, rfl⟩
  have HWL := Lib.hid (show WL = (pcs 32 P).filter fun p => !p.isEmpty from hWL)
  rw [← hWL]
  obtain ⟨PP, hPP⟩ : ∃ PP, PP = pcs 32 P := ⟨_, rfl⟩
  rw [← hPP] at HP HPl HWL
  clear hplen hPP hWL
  go_enter Tryz.func9, Tryz.ntmps9
  go_wp2_with (fail)
  refine HP.out.mono ?_
  rintro e w4 ⟨v1, rfl, hn, hb⟩
  have HB := Lib.hid hb
  have HR4 := Lib.hid hn.row
  obtain ⟨a, cap, rfl⟩ := hn.isSlice
  have hpl63 := HPl.out
  have hw4 := hb.size
  clear hn hb HP
  go_wp2_with (fail)
  go_loopw [3, 5] (fun ov jv wr => ∃ j : Nat, j ≤ PP.length ∧ jv = .int .i64 (j : Int) ∧ Hid (NewS w4.heap.size wr ov ((PP.take j).filter fun p => !p.isEmpty)) ∧ Hid (Below w4.heap.size w4 wr)) (fun _ jv _ => PP.length - (intOf jv).toNat)
  case atStart => exact ⟨0, Nat.zero_le _, rfl, NewS.nilS _ _, Below.refl _ _⟩
  case round =>
    obtain ⟨j, hj, rfl, HS5, HB5⟩ := hrel
    have hB5s := HB5.out.size
    by_cases hz2 : j < PP.length
    · have hz2' : (j : Int) < (PP.length : Int) := by omega
      have hRow := HR4.out.go HB5.out
      obtain ⟨-, a9, c9, e9, -, -, h9⟩ := hRow
      cases e9
      obtain ⟨b9, o9, e9, hb9, -, hc9⟩ := h9 (by omega)
      subst e9
      have cj := hc9 j hz2
      have HTj := Lib.hid (ats_take_snoc (ls := PP) hz2)
      obtain ⟨x, hx⟩ : ∃ x, x = ats PP j := ⟨_, rfl⟩
      rw [← hx] at cj HTj
      clear h9 hc9 hx
      obtain ⟨ao, co, rfl⟩ := HS5.out.isSlice
      by_cases hxe : x = []
      · have Hf := Lib.hid (show (PP.take (j + 1)).filter (fun p => !p.isEmpty) = (PP.take j).filter (fun p => !p.isEmpty) by rw [HTj.out, List.filter_append, hxe]; simp)
        subst hxe
        go_wp2
        go_roundw
        case rel => exact ⟨j + 1, by omega, by go_num, by rw [Hf.out]; exact HS5.out, HB5.out⟩
        case measure => simp [intOf]; omega
      · have hxe2 : x.isEmpty = false := by
          cases x with
          | nil => exact absurd rfl hxe
          | cons _ _ => rfl
        have Hf := Lib.hid (show (PP.take (j + 1)).filter (fun p => !p.isEmpty) = (PP.take j).filter (fun p => !p.isEmpty) ++ [x] by rw [HTj.out, List.filter_append]; simp [hxe2])
        have HFl := Lib.hid (show ((PP.take j).filter fun p => !p.isEmpty).length ≤ 100000 from Nat.le_trans (List.length_filter_le _ _) (by rw [List.length_take]; have := HPl.out; omega))
        obtain ⟨FL, hFL⟩ : ∃ FL, FL = (PP.take j).filter fun p => !p.isEmpty := ⟨_, rfl⟩
        rw [← hFL] at HS5 Hf HFl ⊢
        have hcap : FL.length + 1 ≤ 1000000 := by have := HFl.out; omega
        clear hFL
        go_wp2_with (at_builtin; refine wpList_appS rfl _ _ rfl w4.heap.size _ _ rfl HS5.out x rfl hcap hB5s ?_; intro v6 w6 hn6 hb6; have HS6 := Lib.hid hn6; have HB6 := Lib.hid (HB5.out.trans hb6); clear hn6 hb6)
        go_roundw
        case rel => exact ⟨j + 1, by omega, by go_num, by rw [Hf.out]; exact HS6.out, HB6.out⟩
        case measure => simp [intOf]; omega
    · obtain rfl : j = PP.length := by omega
      rw [List.take_of_length_le (Nat.le_refl _)] at HS5
      have HF := Lib.hid (show NewS w.heap.size wr _ WL by rw [HWL.out]; exact HS5.out.mono hw4)
      have HBf := Lib.hid (below_two HB.out HB5.out)
      go_wp2
      go_ret
      exact ⟨_, rfl, HF.out, HBf.out⟩
end Go.Proofs.YtlfneeobnihocaaGreatDoor
