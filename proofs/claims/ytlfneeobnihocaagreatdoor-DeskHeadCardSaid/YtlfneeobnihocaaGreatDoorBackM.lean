/- Plain law: what is printed of a right circuit is read as it was; what is read is printed as it stood. No condition. -/
import Derived.Test.YtlfneeobnihocaaGreatDoorParseW
namespace Go.Proofs.YtlfneeobnihocaaGreatDoor
set_option maxRecDepth 100000
set_option linter.unusedVariables false
open Go.RowKit Tally
/-- a numeral, as it is printed -/
def numL (n : Int) : List UInt8 := Lib.decDigits n.toNat
theorem digit_d {x : Nat} (h : x < 10) : (UInt8.ofNat (48 + x)).toNat = 48 + x := by
  rw [UInt8.toNat_ofNat']; omega
theorem numL_mem {n : Int} (h0 : 0 ≤ n) (h : n < 100) : ∀ b ∈ numL n, 48 ≤ b.toNat ∧ b.toNat ≤ 57 := by
  unfold numL
  by_cases h1 : n.toNat < 10
  · rw [Lib.decDigits_one h1]
    intro b hb
    rw [List.mem_singleton.mp hb, digit_d h1]; omega
  · rw [Lib.decDigits_two h1 (by omega)]
    intro b hb
    simp only [List.mem_cons, List.not_mem_nil, or_false] at hb
    rcases hb with rfl | rfl
    · rw [digit_d (by omega)]; omega
    · rw [digit_d (by omega)]; omega
theorem numP_numL {n : Int} (h0 : 0 ≤ n) (h : n < 100) : numP (numL n) = n := by
  unfold numL
  by_cases h1 : n.toNat < 10
  · rw [Lib.decDigits_one h1, numP1_d (by unfold digB; rw [digit_d h1]; exact decide_eq_true (by omega)), digit_d h1]; omega
  · rw [Lib.decDigits_two h1 (by omega)]
    have d1 := digit_d (x := n.toNat / 10) (by omega)
    have d2 := digit_d (x := n.toNat % 10) (by omega)
    rw [numP2_d (by rw [d1]; omega) (by unfold digB; rw [d1]; exact decide_eq_true (by omega)) (by unfold digB; rw [d2]; exact decide_eq_true (by omega)), d1, d2]; omega
theorem u8_of {a : UInt8} {x : Nat} (h : a.toNat = x) (hx : x < 256) : UInt8.ofNat x = a := by
  apply UInt8.toNat_inj.mp
  rw [UInt8.toNat_ofNat', h]; omega
theorem numL_numP {l : List UInt8} (h : 0 ≤ numP l) : numL (numP l) = l := by
  unfold numL
  match l, h with
  | [a], h =>
    have e : numP [a] = if digB a then (a.toNat : Int) - 48 else -1 := rfl
    by_cases ha : digB a = true
    · rw [if_pos ha] at e
      unfold digB at ha; have ha := of_decide_eq_true ha
      rw [e, Lib.decDigits_one (by omega), u8_of (a := a) (by omega) (by omega)]
    · rw [if_neg ha] at e; omega
  | [a, b], h =>
    have e : numP [a, b] = if (a.toNat : Int) = 48 then -1 else if digB a && digB b then 10 * ((a.toNat : Int) - 48) + ((b.toNat : Int) - 48) else -1 := rfl
    by_cases h0 : (a.toNat : Int) = 48
    · rw [if_pos h0] at e; omega
    · rw [if_neg h0] at e
      by_cases hd : (digB a && digB b) = true
      · rw [if_pos hd] at e
        rw [Bool.and_eq_true] at hd
        unfold digB at hd
        have ha := of_decide_eq_true hd.1
        have hb := of_decide_eq_true hd.2
        rw [e, Lib.decDigits_two (by omega) (by omega), u8_of (a := a) (by omega) (by omega), u8_of (a := b) (by omega) (by omega)]
      · rw [if_neg hd] at e; omega
  | [], h => exact absurd h (by decide)
  | a :: b :: c :: r, h => exact absurd (show (0 : Int) ≤ -1 from h) (by decide)
def lnI (n : Int) : List UInt8 := inputsL ++ 32 :: numL n
def lnL (n : Int) : List UInt8 := layerL ++ 32 :: numL n
def wordL (m : Bool) : List UInt8 := if m then mulL else addL
def lnG (g : Gt) : List UInt8 := wordL g.mul ++ 32 :: (numL g.a ++ 32 :: numL g.b)
def layLines (l : Ly) : List (List UInt8) := lnL l.log :: l.gates.map lnG
def bodyLines (ls : List Ly) : List (List UInt8) := ls.flatMap layLines
def linesOf (c : Ci) : List (List UInt8) := lnI c.log :: bodyLines c.layers
/-- lines as a text -/
def unl : List (List UInt8) → List UInt8
  | [] => []
  | p :: ps => p ++ 10 :: unl ps
theorem unl_append : ∀ a b : List (List UInt8), unl (a ++ b) = unl a ++ unl b
  | [], b => rfl
  | p :: ps, b => by show p ++ 10 :: unl (ps ++ b) = (p ++ 10 :: unl ps) ++ unl b; rw [unl_append ps b]; simp
/-- pieces put together -/
def joinP (c : UInt8) : List (List UInt8) → List UInt8
  | [] => []
  | [x] => x
  | x :: y :: r => x ++ c :: joinP c (y :: r)
theorem joinP_pcs (c : UInt8) : ∀ l : List UInt8, joinP c (pcs c l) = l
  | [] => rfl
  | b :: l => by
    have ih := joinP_pcs c l
    obtain ⟨p, ps, hp⟩ := pcs_head c l
    by_cases h : b = c
    · have e : pcs c (b :: l) = [] :: pcs c l := by show (if b = c then _ else _) = _; rw [if_pos h]
      rw [e, hp]
      show [] ++ c :: joinP c (p :: ps) = _
      rw [← hp, ih, h]; rfl
    · rw [pcs_cons c b l h hp]
      rw [hp] at ih
      cases ps with
      | nil => show b :: p = _; rw [show p = l from ih]
      | cons q r => show b :: (p ++ c :: joinP c (q :: r)) = _; rw [show p ++ c :: joinP c (q :: r) = l from ih]
theorem joinP_unl : ∀ ls : List (List UInt8), joinP 10 (ls ++ [[]]) = unl ls
  | [] => rfl
  | p :: ps => by
    have ih := joinP_unl ps
    match h : ps ++ [[]] with
    | [] => simp at h
    | q :: r =>
      rw [List.cons_append, h]
      show p ++ 10 :: joinP 10 (q :: r) = p ++ 10 :: unl ps
      rw [← h, ih]
theorem pcs_unl : ∀ ls : List (List UInt8), (∀ p ∈ ls, ∀ x ∈ p, x ≠ 10) → pcs 10 (unl ls) = ls ++ [[]]
  | [], _ => rfl
  | p :: ps, h => by
    show pcs 10 (p ++ 10 :: unl ps) = _
    rw [pcs_sep 10 p _ (h p (by simp)), pcs_unl ps fun q hq => h q (by simp [hq])]; rfl
-- the printed text is the lines
theorem numB_list (n : Int) : (numB n).data.toList = numL n := by simp [numB, numL]
theorem inB_list (n : Int) : (inB n).data.toList = unl [lnI n] := by
  simp [inB, ByteArray.data_append, numB_list, unl, lnI, inputsL]
theorem headB_list (n : Int) : (headB n).data.toList = unl [lnL n] := by
  simp [headB, ByteArray.data_append, numB_list, unl, lnL, layerL]
theorem gateB_list (g : Gt) : (gateB g).data.toList = unl [lnG g] := by
  obtain ⟨m, a, b⟩ := g
  cases m <;> simp [gateB, wordB, ByteArray.data_append, numB_list, unl, lnG, wordL, addL, mulL]
theorem gatesB_list (gs : List Gt) : ∀ j, j ≤ gs.length → (gatesB gs j).data.toList = unl ((gs.take j).map lnG)
  | 0, _ => by simp [gatesB, unl]
  | j + 1, h => by
    show (gatesB gs j ++ gateB (atg gs j)).data.toList = _
    rw [ByteArray.data_append, Array.toList_append, gatesB_list gs j (by omega), gateB_list, List.take_add_one, List.map_append, unl_append]
    congr 1
    have hj : j < gs.length := by omega
    rw [List.getElem?_eq_getElem hj]
    simp [atg, hj]
theorem layB_list (l : Ly) : (layB l).data.toList = unl (layLines l) := by
  unfold layB
  rw [ByteArray.data_append, Array.toList_append, headB_list, gatesB_list _ _ (Nat.le_refl _), List.take_length]
  show _ = unl ([lnL l.log] ++ l.gates.map lnG)
  rw [unl_append]
theorem laysB_list (ls : List Ly) : ∀ k, k ≤ ls.length → (laysB ls k).data.toList = unl (bodyLines (ls.take k))
  | 0, _ => by simp [laysB, unl, bodyLines]
  | k + 1, h => by
    show (laysB ls k ++ layB (aty ls k)).data.toList = _
    rw [ByteArray.data_append, Array.toList_append, laysB_list ls k (by omega), layB_list, List.take_add_one]
    unfold bodyLines
    rw [List.flatMap_append, unl_append]
    congr 1
    have hk : k < ls.length := by omega
    rw [List.getElem?_eq_getElem hk]
    simp [aty, hk]
theorem circB_list (c : Ci) : (circB c).data.toList = unl (linesOf c) := by
  unfold circB
  rw [ByteArray.data_append, Array.toList_append, inB_list, laysB_list _ _ (Nat.le_refl _), List.take_length]
  show _ = unl ([lnI c.log] ++ bodyLines c.layers)
  rw [unl_append]
-- the pieces of a line
theorem num_no {n : Int} (h0 : 0 ≤ n) (h : n < 100) (c : UInt8) (hc : c.toNat < 48) : ∀ x ∈ numL n, x ≠ c := fun x hx e => by
  have := (numL_mem h0 h x hx).1; rw [e] at this; omega
theorem pcs_lnI {n : Int} (h0 : 0 ≤ n) (h : n < 100) : pcs 32 (lnI n) = [inputsL, numL n] := by
  unfold lnI; rw [pcs_sep 32 inputsL _ (by decide), pcs_none 32 _ (num_no h0 h 32 (by decide))]
theorem pcs_lnL {n : Int} (h0 : 0 ≤ n) (h : n < 100) : pcs 32 (lnL n) = [layerL, numL n] := by
  unfold lnL; rw [pcs_sep 32 layerL _ (by decide), pcs_none 32 _ (num_no h0 h 32 (by decide))]
theorem pcs_lnG {g : Gt} (ha : 0 ≤ g.a) (ha2 : g.a < 100) (hb : 0 ≤ g.b) (hb2 : g.b < 100) : pcs 32 (lnG g) = [wordL g.mul, numL g.a, numL g.b] := by
  unfold lnG
  rw [pcs_sep 32 (wordL g.mul) _ (by cases g.mul <;> decide), pcs_sep 32 (numL g.a) _ (num_no ha ha2 32 (by decide)), pcs_none 32 _ (num_no hb hb2 32 (by decide))]
theorem stepL_eq (c : Ci) (f : Bool) (h : List UInt8) (t : List (List UInt8)) : stepLine c f (h :: t) = if numsOk t = false then none
      else if h = inputsL then (if f = true ∧ t.length = 1 then some ⟨numP (ats t 0), c.layers⟩ else none)
      else if h = layerL then (if f = false ∧ t.length = 1 then some ⟨c.log, c.layers ++ [⟨numP (ats t 0), []⟩]⟩ else none)
      else if h = addL ∨ h = mulL then
        (if f = false ∧ t.length = 2 ∧ 0 < c.layers.length then
          some ⟨c.log, c.layers.set (c.layers.length - 1) ⟨(aty c.layers (c.layers.length - 1)).log, (aty c.layers (c.layers.length - 1)).gates ++ [⟨decide (h = mulL), numP (ats t 0), numP (ats t 1)⟩]⟩⟩ else none)
      else none := rfl
theorem numsOk_one {a : Int} (h0 : 0 ≤ a) (h : a < 100) : numsOk [numL a] = true := by
  simp [numsOk, numP_numL h0 h, h0]
theorem numsOk_two {a b : Int} (h0 : 0 ≤ a) (h : a < 100) (k0 : 0 ≤ b) (k : b < 100) : numsOk [numL a, numL b] = true := by
  simp [numsOk, numP_numL h0 h, h0, numP_numL k0 k, k0]
theorem step_lnI {n : Int} (h0 : 0 ≤ n) (h : n < 100) (c : Ci) : stepLine c true [inputsL, numL n] = some ⟨n, c.layers⟩ := by
  rw [stepL_eq, if_neg (by rw [numsOk_one h0 h]; decide), if_pos rfl, if_pos ⟨rfl, rfl⟩]
  show some (Ci.mk (numP (numL n)) _) = _
  rw [numP_numL h0 h]
theorem step_lnL {n : Int} (h0 : 0 ≤ n) (h : n < 100) (c : Ci) : stepLine c false [layerL, numL n] = some ⟨c.log, c.layers ++ [⟨n, []⟩]⟩ := by
  rw [stepL_eq, if_neg (by rw [numsOk_one h0 h]; decide), if_neg (by decide), if_pos rfl, if_pos ⟨rfl, rfl⟩]
  show some (Ci.mk _ (_ ++ [Ly.mk (numP (numL n)) []])) = _
  rw [numP_numL h0 h]
theorem aty_last (ls : List Ly) (y : Ly) : aty (ls ++ [y]) ((ls ++ [y]).length - 1) = y := by simp [aty]
theorem set_last (ls : List Ly) (y z : Ly) : (ls ++ [y]).set ((ls ++ [y]).length - 1) z = ls ++ [z] := by
  rw [show (ls ++ [y]).length - 1 = ls.length by simp, List.set_append_right _ _ (Nat.le_refl _)]; simp
theorem step_lnG {g : Gt} (ha : 0 ≤ g.a) (ha2 : g.a < 100) (hb : 0 ≤ g.b) (hb2 : g.b < 100) (lg y : Int) (ls : List Ly) (gs : List Gt) :
    stepLine ⟨lg, ls ++ [⟨y, gs⟩]⟩ false [wordL g.mul, numL g.a, numL g.b] = some ⟨lg, ls ++ [⟨y, gs ++ [g]⟩]⟩ := by
  rw [stepL_eq, if_neg (by rw [numsOk_two ha ha2 hb hb2]; decide), if_neg (by cases g.mul <;> decide), if_neg (by cases g.mul <;> decide), if_pos (by cases g.mul <;> simp [wordL]), if_pos ⟨rfl, rfl, by simp⟩]
  dsimp only
  rw [set_last, aty_last]
  show some (Ci.mk lg (ls ++ [Ly.mk y (gs ++ [⟨_, numP (numL g.a), numP (numL g.b)⟩])])) = _
  rw [numP_numL ha ha2, numP_numL hb hb2, show decide (wordL g.mul = mulL) = g.mul by cases g.mul <;> decide]
theorem parseL_go {n : Nat} {c c' : Ci} {p : List UInt8} {q : List (List UInt8)} (hq : q ≠ []) (h : stepLine c (n == 1) (pcs 32 p) = some c') : parseL n c (p :: q) = parseL (n + 1) c' q := by
  cases q with
  | nil => exact absurd rfl hq
  | cons a r =>
    show (match stepLine c (n == 1) (pcs 32 p) with | none => (Sum.inl n : Nat ⊕ Ci) | some c' => parseL (n + 1) c' (a :: r)) = _
    rw [h]
/-- gates of small numbers -/
def SmG (g : Gt) : Prop := 0 ≤ g.a ∧ g.a < 100 ∧ 0 ≤ g.b ∧ g.b < 100
theorem parse_gates (lg y : Int) (ls : List Ly) (q : List (List UInt8)) (hq : q ≠ []) : ∀ (gs2 gs : List Gt) (n : Nat), (∀ g ∈ gs2, SmG g) → n ≠ 1 → 0 < n →
    ∃ m, m ≠ 1 ∧ 0 < m ∧ parseL n ⟨lg, ls ++ [⟨y, gs⟩]⟩ (gs2.map lnG ++ q) = parseL m ⟨lg, ls ++ [⟨y, gs ++ gs2⟩]⟩ q
  | [], gs, n, _, hn, h0 => ⟨n, hn, h0, by simp⟩
  | g :: r, gs, n, hs, hn, h0 => by
    obtain ⟨a, b, c, d⟩ := hs g (by simp)
    obtain ⟨m, hm, hm0, he⟩ := parse_gates lg y ls q hq r (gs ++ [g]) (n + 1) (fun x hx => hs x (by simp [hx])) (by omega) (by omega)
    refine ⟨m, hm, hm0, ?_⟩
    show parseL n _ (lnG g :: (r.map lnG ++ q)) = _
    rw [parseL_go (by simp [hq]) (by rw [pcs_lnG a b c d, show (n == 1) = false from beq_false_of_ne hn]; exact step_lnG a b c d lg y ls gs), he]
    simp
theorem parse_body (lg : Int) (q : List (List UInt8)) (hq : q ≠ []) : ∀ (l2 ls : List Ly) (n : Nat), (∀ y ∈ l2, 0 ≤ y.log ∧ y.log < 100 ∧ ∀ g ∈ y.gates, SmG g) → n ≠ 1 → 0 < n →
    ∃ m, m ≠ 1 ∧ 0 < m ∧ parseL n ⟨lg, ls⟩ (bodyLines l2 ++ q) = parseL m ⟨lg, ls ++ l2⟩ q
  | [], ls, n, _, hn, h0 => ⟨n, hn, h0, by simp [bodyLines]⟩
  | y :: r, ls, n, hs, hn, h0 => by
    obtain ⟨a, b, hg⟩ := hs y (by simp)
    have hq2 : bodyLines r ++ q ≠ [] := by simp [hq]
    obtain ⟨m1, k1, k2, e1⟩ := parse_gates lg y.log ls (bodyLines r ++ q) hq2 y.gates [] (n + 1) hg (by omega) (by omega)
    obtain ⟨m, k3, k4, e2⟩ := parse_body lg q hq r (ls ++ [y]) m1 (fun x hx => hs x (by simp [hx])) k1 k2
    refine ⟨m, k3, k4, ?_⟩
    have e0 : bodyLines (y :: r) ++ q = lnL y.log :: (y.gates.map lnG ++ (bodyLines r ++ q)) := by simp [bodyLines, layLines]
    rw [e0, parseL_go (by simp [hq]) (by rw [pcs_lnL a b, show (n == 1) = false from beq_false_of_ne hn]; exact step_lnL a b _)]
    dsimp only
    rw [e1]
    rw [List.nil_append]
    show parseL m1 ⟨lg, ls ++ [y]⟩ _ = _
    rw [e2]
    simp
/-- a circuit of small numbers -/
def SmC (c : Ci) : Prop := 0 ≤ c.log ∧ c.log < 100 ∧ ∀ y ∈ c.layers, 0 ≤ y.log ∧ y.log < 100 ∧ ∀ g ∈ y.gates, SmG g
theorem parse_lines (c : Ci) (h : SmC c) : parseL 1 emptyC (linesOf c ++ [[]]) = .inr c := by
  obtain ⟨a, b, hl⟩ := h
  obtain ⟨m, hm, hm0, e⟩ := parse_body c.log [[]] (by simp) c.layers [] 2 hl (by omega) (by omega)
  show parseL 1 emptyC (lnI c.log :: (bodyLines c.layers ++ [[]])) = _
  rw [parseL_go (by simp) (by rw [pcs_lnI a b]; exact step_lnI a b emptyC)]
  show parseL 2 ⟨c.log, []⟩ _ = _
  rw [e]
  show (if m ≠ 1 ∧ ([] : List UInt8) = [] then _ else _) = _
  rw [if_pos ⟨hm, rfl⟩, List.nil_append]
theorem line_no {c : Ci} (h : SmC c) : ∀ p ∈ linesOf c, ∀ x ∈ p, x ≠ 10 := by
  obtain ⟨a, b, hl⟩ := h
  intro p hp x hx
  unfold linesOf at hp
  rcases List.mem_cons.mp hp with rfl | hp
  · unfold lnI at hx
    rw [List.mem_append, List.mem_cons] at hx
    rcases hx with hx | rfl | hx
    · exact (show ∀ x ∈ inputsL, x ≠ 10 by decide) x hx
    · decide
    · exact num_no a b 10 (by decide) x hx
  · unfold bodyLines at hp
    obtain ⟨y, hy, hp⟩ := List.mem_flatMap.mp hp
    obtain ⟨a, b, hg⟩ := hl y hy
    unfold layLines at hp
    rcases List.mem_cons.mp hp with rfl | hp
    · unfold lnL at hx
      rw [List.mem_append, List.mem_cons] at hx
      rcases hx with hx | rfl | hx
      · exact (show ∀ x ∈ layerL, x ≠ 10 by decide) x hx
      · decide
      · exact num_no a b 10 (by decide) x hx
    · obtain ⟨g, hg', rfl⟩ := List.mem_map.mp hp
      obtain ⟨a, b, c, d⟩ := hg g hg'
      unfold lnG at hx
      rw [List.mem_append, List.mem_cons, List.mem_append, List.mem_cons] at hx
      rcases hx with hx | rfl | hx | rfl | hx
      · exact (show ∀ (m : Bool), ∀ x ∈ wordL m, x ≠ 10 by decide) g.mul x hx
      · decide
      · exact num_no a b 10 (by decide) x hx
      · decide
      · exact num_no c d 10 (by decide) x hx
theorem Good.small {c : Ci} (h : Good c) : SmC c := by
  refine ⟨h.log0, by have := h.log4; omega, fun y hy => ?_⟩
  obtain ⟨k, hk, rfl⟩ := List.getElem_of_mem hy
  have e : c.layers[k] = aty c.layers k := by simp [aty, hk]
  rw [e]
  refine ⟨h.l0 k hk, by have := h.l4 k hk; omega, fun g hg => ?_⟩
  obtain ⟨j, hj, rfl⟩ := List.getElem_of_mem hg
  have e2 : (aty c.layers k).gates[j] = atg (aty c.layers k).gates j := by simp [atg, hj]
  rw [e2]
  exact h.gates100 hk hj
/-- what is printed is read as it was -/
theorem back_print {c : Ci} (hc : checkC c = 0) : parseR (circB c).data.toList = (c, 0, 0) := by
  have hG := good_of_check hc
  have hsz := circB_size hG
  have hS := hG.small
  unfold parseR
  rw [if_neg (by rw [Array.length_toList]; show ¬ 4096 < (circB c).size; omega), circB_list, pcs_unl _ (line_no hS), parse_lines c hS]
  show (if checkC c = 0 then _ else _) = _
  rw [if_pos hc]
-- what is read
theorem numsOk_at {t : List (List UInt8)} (h : ¬ numsOk t = false) {j : Nat} (hj : j < t.length) : 0 ≤ numP (ats t j) := by
  have h1 : numsOk t = true := by cases hh : numsOk t with | true => rfl | false => exact absurd hh h
  unfold numsOk at h1
  rw [List.all_eq_true] at h1
  have := h1 t[j] (List.getElem_mem hj)
  simpa [ats, hj] using this
theorem body_snoc (ls : List Ly) (y : Ly) : bodyLines (ls ++ [y]) = bodyLines ls ++ layLines y := by simp [bodyLines]
theorem step_first {c c' : Ci} {p : List UInt8} (h : stepLine c true (pcs 32 p) = some c') : ∃ n, p = lnI n ∧ c' = ⟨n, c.layers⟩ := by
  have hj := joinP_pcs 32 p
  obtain ⟨a, t, e⟩ := pcs_head 32 p
  rw [e] at h hj
  rw [stepL_eq] at h
  by_cases k0 : numsOk t = false
  · rw [if_pos k0] at h; cases h
  rw [if_neg k0] at h
  by_cases k1 : a = inputsL
  · rw [if_pos k1] at h
    by_cases k : true = true ∧ t.length = 1
    · rw [if_pos k] at h
      cases h
      match t, k.2 with
      | [x], _ =>
        refine ⟨_, ?_, rfl⟩
        have h0 := numsOk_at k0 (j := 0) (by simp)
        have h1 : numL (numP x) = x := numL_numP h0
        rw [← hj, k1]
        show inputsL ++ 32 :: x = inputsL ++ 32 :: numL (numP x)
        rw [h1]
    · rw [if_neg k] at h; cases h
  · rw [if_neg k1] at h
    by_cases k2 : a = layerL
    · rw [if_pos k2, if_neg (fun e => by cases e.1)] at h; cases h
    · rw [if_neg k2] at h
      by_cases k3 : a = addL ∨ a = mulL
      · rw [if_pos k3, if_neg (fun e => by cases e.1)] at h; cases h
      · rw [if_neg k3] at h; cases h
theorem step_next {c c' : Ci} {p : List UInt8} (h : stepLine c false (pcs 32 p) = some c') : linesOf c' = linesOf c ++ [p] := by
  have hj := joinP_pcs 32 p
  obtain ⟨a, t, e⟩ := pcs_head 32 p
  rw [e] at h hj
  rw [stepL_eq] at h
  by_cases k0 : numsOk t = false
  · rw [if_pos k0] at h; cases h
  rw [if_neg k0] at h
  by_cases k1 : a = inputsL
  · rw [if_pos k1, if_neg (fun e => by cases e.1)] at h; cases h
  rw [if_neg k1] at h
  by_cases k2 : a = layerL
  · rw [if_pos k2] at h
    by_cases k : false = false ∧ t.length = 1
    · rw [if_pos k] at h
      cases h
      match t, k.2 with
      | [x], _ =>
        have h0 := numsOk_at k0 (j := 0) (by simp)
        have h1 : numL (numP x) = x := numL_numP h0
        show lnI c.log :: bodyLines (c.layers ++ [⟨numP x, []⟩]) = _
        rw [body_snoc]
        show lnI c.log :: (bodyLines c.layers ++ [lnL (numP x)]) = lnI c.log :: bodyLines c.layers ++ [p]
        rw [← hj, k2]
        show _ = lnI c.log :: (bodyLines c.layers ++ [layerL ++ 32 :: x])
        unfold lnL
        rw [h1]
    · rw [if_neg k] at h; cases h
  rw [if_neg k2] at h
  by_cases k3 : a = addL ∨ a = mulL
  · rw [if_pos k3] at h
    by_cases k : false = false ∧ t.length = 2 ∧ 0 < c.layers.length
    · rw [if_pos k] at h
      cases h
      match t, k.2.1 with
      | [x, z], _ =>
        have h0 := numsOk_at k0 (j := 0) (by simp)
        have h2 := numsOk_at k0 (j := 1) (by simp)
        have h1 : numL (numP x) = x := numL_numP h0
        have h3 : numL (numP z) = z := numL_numP h2
        have hw : wordL (decide (a = mulL)) = a := by rcases k3 with rfl | rfl <;> decide
        obtain ⟨ls, y, hls⟩ : ∃ ls y, c.layers = ls ++ [y] := by
          have hne : c.layers ≠ [] := by intro e; rw [e] at k; exact absurd k.2.2 (by simp)
          exact ⟨_, _, (List.dropLast_concat_getLast hne).symm⟩
        obtain ⟨lg, L⟩ := c
        dsimp only at hls ⊢
        subst hls
        show lnI lg :: bodyLines ((ls ++ [y]).set ((ls ++ [y]).length - 1) ⟨(aty (ls ++ [y]) ((ls ++ [y]).length - 1)).log, (aty (ls ++ [y]) ((ls ++ [y]).length - 1)).gates ++ [⟨decide (a = mulL), numP x, numP z⟩]⟩) = (lnI lg :: bodyLines (ls ++ [y])) ++ [p]
        rw [set_last, aty_last, body_snoc, body_snoc, List.cons_append, List.append_assoc]
        congr 2
        show lnL y.log :: (y.gates ++ [_]).map lnG = (lnL y.log :: y.gates.map lnG) ++ [p]
        rw [List.map_append, List.cons_append]
        congr 2
        show [lnG ⟨decide (a = mulL), numP x, numP z⟩] = [p]
        unfold lnG
        dsimp only
        rw [hw, h1, h3, ← hj]
        rfl
    · rw [if_neg k] at h; cases h
  · rw [if_neg k3] at h; cases h
theorem read_next : ∀ (ps : List (List UInt8)) (n : Nat) (c c' : Ci), n ≠ 1 → 0 < n → parseL n c ps = .inr c' → linesOf c ++ ps = linesOf c' ++ [[]]
  | [], n, c, c', _, _, h => by cases h
  | [p], n, c, c', hn, h0, h => by
    have e : parseL n c [p] = if n ≠ 1 ∧ p = [] then .inr c else .inl n := rfl
    rw [e] at h
    by_cases hp : n ≠ 1 ∧ p = []
    · rw [if_pos hp] at h; cases h; rw [hp.2]
    · rw [if_neg hp] at h; cases h
  | p :: q :: r, n, c, c', hn, h0, h => by
    have e : parseL n c (p :: q :: r) = match stepLine c (n == 1) (pcs 32 p) with | none => .inl n | some c' => parseL (n + 1) c' (q :: r) := rfl
    rw [e, show (n == 1) = false from beq_false_of_ne hn] at h
    match hs : stepLine c false (pcs 32 p) with
    | none => rw [hs] at h; cases h
    | some c1 =>
      rw [hs] at h
      have ih := read_next (q :: r) (n + 1) c1 c' (by omega) (by omega) h
      rw [step_next hs] at ih
      rw [← ih]; simp
theorem read_all {ps : List (List UInt8)} {c' : Ci} (h : parseL 1 emptyC ps = .inr c') : ps = linesOf c' ++ [[]] := by
  match ps, h with
  | [], h => cases h
  | [p], h =>
    have e : parseL 1 emptyC [p] = if (1 : Nat) ≠ 1 ∧ p = [] then .inr emptyC else .inl 1 := rfl
    rw [e, if_neg (fun h => h.1 rfl)] at h; cases h
  | p :: q :: r, h =>
    have e : parseL 1 emptyC (p :: q :: r) = match stepLine emptyC true (pcs 32 p) with | none => .inl 1 | some c' => parseL 2 c' (q :: r) := rfl
    rw [e] at h
    match hs : stepLine emptyC true (pcs 32 p) with
    | none => rw [hs] at h; cases h
    | some c1 =>
      rw [hs] at h
      have ih := read_next (q :: r) 2 c1 c' (by omega) (by omega) h
      obtain ⟨n, rfl, rfl⟩ := step_first hs
      rw [← ih]; rfl
/-- what is read is printed as it stood -/
theorem back_read {s : ByteArray} (h : (parseR s.data.toList).2.2 = 0) : checkC (parseR s.data.toList).1 = 0 ∧ circB (parseR s.data.toList).1 = s := by
  unfold parseR at h ⊢
  by_cases hb : 4096 < s.data.toList.length
  · rw [if_pos hb] at h; exact absurd h (by decide)
  rw [if_neg hb] at h ⊢
  match hp : parseL 1 emptyC (pcs 10 s.data.toList) with
  | .inl n => rw [hp] at h; exact absurd h (by show ¬ (3 : Int) = 0; decide)
  | .inr c =>
    rw [hp] at h
    dsimp only at h ⊢
    by_cases hc : checkC c = 0
    · rw [if_pos hc]
      refine ⟨hc, ?_⟩
      have e := read_all hp
      have e2 := joinP_pcs 10 s.data.toList
      rw [e, joinP_unl, ← circB_list] at e2
      exact ByteArray.ext (Array.toList_inj.mp e2)
    · rw [if_neg hc] at h
      exact absurd h (by show ¬ (checkC c : Int) = 0; omega)
/-- an error leaves an empty circuit -/
theorem bad_read {s : List UInt8} (h : (parseR s).2.2 ≠ 0) : (parseR s).1 = emptyC ∧ 0 ≤ (parseR s).2.1 := by
  unfold parseR at h ⊢
  by_cases hb : 4096 < s.length
  · rw [if_pos hb]; exact ⟨rfl, by decide⟩
  rw [if_neg hb] at h ⊢
  match hp : parseL 1 emptyC (pcs 10 s) with
  | .inl n => exact ⟨rfl, Int.natCast_nonneg n⟩
  | .inr c =>
    rw [hp] at h
    dsimp only at h ⊢
    by_cases hc : checkC c = 0
    · rw [if_pos hc] at h; exact absurd rfl h
    · rw [if_neg hc]; exact ⟨rfl, Int.le_refl 0⟩
end Go.Proofs.YtlfneeobnihocaaGreatDoor
