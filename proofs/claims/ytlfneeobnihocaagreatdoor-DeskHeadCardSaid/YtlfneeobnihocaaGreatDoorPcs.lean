/- Several texts in one: TextM, Pcs. What each says, and its conditions, stands at its head. -/
import Derived.Test.YtlfneeobnihocaaGreatDoorRCircW
import Derived.Lib.ItoaNum
import Derived.Lib.SplitLaws
import Derived.Lib.CutLaws
/- Plain law: the text of a circuit, as bytes, and how long it is. No condition. -/
namespace Go.Proofs.YtlfneeobnihocaaGreatDoor
set_option maxRecDepth 100000
set_option linter.unusedVariables false
open Go.RowKit Tally
/-- a small number's numeral -/
def numB (n : Int) : ByteArray := ⟨(Lib.decDigits n.toNat).toArray⟩
theorem numB_size {n : Int} (h0 : 0 ≤ n) (h : n < 100) : (numB n).size ≤ 2 := by
  show (Lib.decDigits n.toNat).toArray.size ≤ 2
  rw [List.size_toArray]
  by_cases h1 : n.toNat < 10
  · rw [Lib.decDigits_one h1]; simp
  · rw [Lib.decDigits_two h1 (by omega)]; simp
def inB (n : Int) : ByteArray := ⟨#[105, 110, 112, 117, 116, 115, 32]⟩ ++ numB n ++ ⟨#[10]⟩
def headB (n : Int) : ByteArray := ⟨#[108, 97, 121, 101, 114, 32]⟩ ++ numB n ++ ⟨#[10]⟩
def wordB (m : Bool) : ByteArray := if m then ⟨#[109, 117, 108, 32]⟩ else ⟨#[97, 100, 100, 32]⟩
def gateB (g : Gt) : ByteArray := wordB g.mul ++ numB g.a ++ ⟨#[32]⟩ ++ numB g.b ++ ⟨#[10]⟩
def gatesB (gs : List Gt) : Nat → ByteArray
  | 0 => ByteArray.empty
  | j + 1 => gatesB gs j ++ gateB (atg gs j)
def layB (l : Ly) : ByteArray := headB l.log ++ gatesB l.gates l.gates.length
def laysB (ls : List Ly) : Nat → ByteArray
  | 0 => ByteArray.empty
  | k + 1 => laysB ls k ++ layB (aty ls k)
def circB (c : Ci) : ByteArray := inB c.log ++ laysB c.layers c.layers.length
theorem wordB_size (m : Bool) : (wordB m).size = 4 := by cases m <;> rfl
theorem inB_size {n : Int} (h0 : 0 ≤ n) (h : n < 100) : (inB n).size ≤ 10 := by
  have := numB_size h0 h
  have e1 : (⟨#[105, 110, 112, 117, 116, 115, 32]⟩ : ByteArray).size = 7 := rfl
  have e2 : (⟨#[10]⟩ : ByteArray).size = 1 := rfl
  unfold inB; rw [ByteArray.size_append, ByteArray.size_append, e1, e2]; omega
theorem headB_size {n : Int} (h0 : 0 ≤ n) (h : n < 100) : (headB n).size ≤ 9 := by
  have := numB_size h0 h
  have e1 : (⟨#[108, 97, 121, 101, 114, 32]⟩ : ByteArray).size = 6 := rfl
  have e2 : (⟨#[10]⟩ : ByteArray).size = 1 := rfl
  unfold headB; rw [ByteArray.size_append, ByteArray.size_append, e1, e2]; omega
theorem gateB_size {g : Gt} (ha : 0 ≤ g.a) (ha2 : g.a < 100) (hb : 0 ≤ g.b) (hb2 : g.b < 100) : (gateB g).size ≤ 10 := by
  have h1 := numB_size ha ha2
  have h2 := numB_size hb hb2
  have e1 : (⟨#[32]⟩ : ByteArray).size = 1 := rfl
  have e2 : (⟨#[10]⟩ : ByteArray).size = 1 := rfl
  unfold gateB; rw [ByteArray.size_append, ByteArray.size_append, ByteArray.size_append, ByteArray.size_append, wordB_size, e1, e2]; omega
theorem gatesB_size {gs : List Gt} (h : ∀ j, j < gs.length → 0 ≤ (atg gs j).a ∧ (atg gs j).a < 100 ∧ 0 ≤ (atg gs j).b ∧ (atg gs j).b < 100) : ∀ j, j ≤ gs.length → (gatesB gs j).size ≤ 10 * j
  | 0, _ => by simp [gatesB]
  | j + 1, hj => by
    have h1 := gatesB_size h j (by omega)
    obtain ⟨a, b, c, d⟩ := h j (by omega)
    have h2 := gateB_size a b c d
    show (gatesB gs j ++ gateB (atg gs j)).size ≤ _
    rw [ByteArray.size_append]; omega
theorem Good.gates100 {c : Ci} (h : Good c) {k : Nat} (hk : k < c.layers.length) {j : Nat} (hj : j < (aty c.layers k).gates.length) :
    0 ≤ (atg (aty c.layers k).gates j).a ∧ (atg (aty c.layers k).gates j).a < 100 ∧ 0 ≤ (atg (aty c.layers k).gates j).b ∧ (atg (aty c.layers k).gates j).b < 100 := by
  obtain ⟨h1, h2, h3, h4⟩ := gateOk_bd (h.gate k hk j hj)
  have := (pow4 (h.below4 (k := k) (by omega))).2
  omega
theorem Good.len16 {c : Ci} (h : Good c) {k : Nat} (hk : k < c.layers.length) : (aty c.layers k).gates.length ≤ 16 := by
  rw [h.len k hk]; exact (pow4 (h.l4 k hk)).2
theorem layB_size {c : Ci} (h : Good c) {k : Nat} (hk : k < c.layers.length) : (layB (aty c.layers k)).size ≤ 169 := by
  have h1 := headB_size (h.l0 k hk) (by have := h.l4 k hk; omega)
  have h2 := gatesB_size (fun j hj => h.gates100 hk hj) _ (Nat.le_refl _)
  have h3 := h.len16 hk
  unfold layB; rw [ByteArray.size_append]; omega
theorem laysB_size {c : Ci} (h : Good c) : ∀ k, k ≤ c.layers.length → (laysB c.layers k).size ≤ 169 * k
  | 0, _ => by simp [laysB]
  | k + 1, hk => by
    have h1 := laysB_size h k (by omega)
    have h2 := layB_size h (k := k) (by omega)
    show (laysB c.layers k ++ layB (aty c.layers k)).size ≤ _
    rw [ByteArray.size_append]; omega
theorem circB_size {c : Ci} (h : Good c) : (circB c).size ≤ 700 := by
  have h1 := laysB_size h _ (Nat.le_refl _)
  have h2 := inB_size h.log0 (by have := h.log4; omega)
  have := h.n4
  unfold circB; rw [ByteArray.size_append]; omega
end Go.Proofs.YtlfneeobnihocaaGreatDoor

/- Plain law: the pieces of a text between bytes of one sort, numerals, what a circuit's text says. No condition. -/
namespace Go.Proofs.YtlfneeobnihocaaGreatDoor
set_option maxRecDepth 100000
set_option linter.unusedVariables false
open Go.RowKit Tally
/-- the pieces of a text between bytes c -/
def pcs (c : UInt8) : List UInt8 → List (List UInt8)
  | [] => [[]]
  | b :: r => if b = c then [] :: pcs c r else
    match pcs c r with
    | [] => [[b]]
    | p :: ps => (b :: p) :: ps
theorem pcs_ne (c : UInt8) (l : List UInt8) : pcs c l ≠ [] := by
  cases l with
  | nil => simp [pcs]
  | cons b r =>
    unfold pcs
    split
    · simp
    · split <;> simp
theorem pcs_head (c : UInt8) (r : List UInt8) : ∃ p ps, pcs c r = p :: ps := by
  match h : pcs c r with
  | [] => exact absurd h (pcs_ne c r)
  | p :: ps => exact ⟨p, ps, rfl⟩
theorem pcs_cons (c b : UInt8) (r : List UInt8) (h : b ≠ c) {p : List UInt8} {ps : List (List UInt8)} (hp : pcs c r = p :: ps) : pcs c (b :: r) = (b :: p) :: ps := by
  show (if b = c then _ else _) = _
  rw [if_neg h, hp]
theorem pcs_append (c : UInt8) : ∀ (l r : List UInt8), (∀ x ∈ l, x ≠ c) → ∀ {p ps}, pcs c r = p :: ps → pcs c (l ++ r) = (l ++ p) :: ps
  | [], r, _, p, ps, h => by simpa using h
  | b :: l, r, hl, p, ps, h => by
    rw [List.cons_append, pcs_cons c b (l ++ r) (hl b (by simp)) (pcs_append c l r (fun x hx => hl x (by simp [hx])) h)]
    rfl
theorem pcs_none (c : UInt8) (l : List UInt8) (h : ∀ x ∈ l, x ≠ c) : pcs c l = [l] := by
  have := pcs_append c l [] h (p := []) (ps := []) rfl
  simpa using this
theorem pcs_sep (c : UInt8) (l r : List UInt8) (h : ∀ x ∈ l, x ≠ c) : pcs c (l ++ c :: r) = l :: pcs c r := by
  have := pcs_append c l (c :: r) h (p := []) (ps := pcs c r) (by show (if c = c then _ else _) = _; rw [if_pos rfl])
  simpa using this
theorem pcs_snoc_eq (c : UInt8) : ∀ l : List UInt8, pcs c (l ++ [c]) = pcs c l ++ [[]]
  | [] => by show (if c = c then _ else _) = _; rw [if_pos rfl]; rfl
  | b :: l => by
    have ih := pcs_snoc_eq c l
    by_cases h : b = c
    · show (if b = c then [] :: pcs c (l ++ [c]) else _) = (if b = c then _ else _) ++ _
      rw [if_pos h, if_pos h, ih]; rfl
    · obtain ⟨p, ps, hp⟩ := pcs_head c l
      rw [hp, List.cons_append] at ih
      rw [List.cons_append, pcs_cons c b _ h ih, pcs_cons c b l h hp]; rfl
theorem pcs_snoc_ne (c b : UInt8) (hb : b ≠ c) : ∀ l : List UInt8, ∃ q x, pcs c l = q ++ [x] ∧ pcs c (l ++ [b]) = q ++ [x ++ [b]]
  | [] => ⟨[], [], rfl, pcs_none c [b] (by simpa using hb)⟩
  | a :: l => by
    obtain ⟨q, x, h1, h2⟩ := pcs_snoc_ne c b hb l
    by_cases h : a = c
    · refine ⟨[] :: q, x, ?_, ?_⟩
      · show (if a = c then _ else _) = _
        rw [if_pos h, h1]; rfl
      · show (if a = c then [] :: pcs c (l ++ [b]) else _) = _
        rw [if_pos h, h2]; rfl
    · cases q with
      | nil => exact ⟨[], a :: x, pcs_cons c a l h h1, pcs_cons c a (l ++ [b]) h h2⟩
      | cons p ps => exact ⟨(a :: p) :: ps, x, pcs_cons c a l h h1, pcs_cons c a (l ++ [b]) h h2⟩
theorem pcs_length (c : UInt8) : ∀ l : List UInt8, (pcs c l).length = l.count c + 1
  | [] => rfl
  | b :: l => by
    have ih := pcs_length c l
    by_cases h : b = c
    · show (if b = c then _ else _ : List (List UInt8)).length = _
      rw [if_pos h, List.length_cons, ih, h, List.count_cons_self]
    · obtain ⟨p, ps, hp⟩ := pcs_head c l
      rw [pcs_cons c b l h hp, List.count_cons_of_ne h]
      rw [hp] at ih
      exact ih
/-- an index tells where the first piece ends -/
theorem index_split (c : UInt8) : ∀ l : List UInt8, (Lib.index l [c] = -1 ∧ ∀ x ∈ l, x ≠ c) ∨ ∃ a r, l = a ++ c :: r ∧ (∀ x ∈ a, x ≠ c) ∧ Lib.index l [c] = (a.length : Int)
  | [] => Or.inl ⟨rfl, by simp⟩
  | b :: l => by
    by_cases h : b = c
    · subst h
      exact Or.inr ⟨[], l, rfl, by simp, by unfold Lib.index; rw [if_pos (by simp [List.isPrefixOf])]; rfl⟩
    · have hp : ([c] : List UInt8).isPrefixOf (b :: l) = false := by simp [List.isPrefixOf, Ne.symm h]
      have hix : Lib.index (b :: l) [c] = if Lib.index l [c] == -1 then -1 else Lib.index l [c] + 1 := by rw [Lib.index, hp]; simp
      rcases index_split c l with ⟨h1, h2⟩ | ⟨a, r, rfl, h2, h3⟩
      · refine Or.inl ⟨by rw [hix, h1]; rfl, fun x hx => ?_⟩
        rcases List.mem_cons.mp hx with rfl | hx
        · exact h
        · exact h2 x hx
      · refine Or.inr ⟨b :: a, r, rfl, fun x hx => ?_, ?_⟩
        · rcases List.mem_cons.mp hx with rfl | hx
          · exact h
          · exact h2 x hx
        · rw [hix, h3, if_neg (by simp)]
          simp
theorem splitK_pcs (c : UInt8) : ∀ (k : Nat) (l : List UInt8), l.count c = k → Lib.splitK [c] 0 k l = pcs c l
  | 0, l, h => by
    have : ∀ x ∈ l, x ≠ c := fun x hx e => by
      have := List.count_eq_zero.mp h
      exact this (e ▸ hx)
    rw [pcs_none c l this]; rfl
  | k + 1, l, h => by
    rcases index_split c l with ⟨h1, h2⟩ | ⟨a, r, rfl, h2, h3⟩
    · have : l.count c = 0 := List.count_eq_zero.mpr fun hm => h2 c hm rfl
      omega
    · have hc : r.count c = k := by
        rw [List.count_append, List.count_cons_self, List.count_eq_zero.mpr (fun hm => h2 c hm rfl)] at h; omega
      unfold Lib.splitK
      rw [h3, if_neg (by simp)]
      have e1 : ((a.length : Int).toNat + 0) = a.length := by omega
      have e2 : ((a.length : Int).toNat + [c].length) = a.length + 1 := by simp
      rw [e1, e2, show (a ++ c :: r).take a.length = a by simp, show (a ++ c :: r).drop (a.length + 1) = r by
        rw [List.drop_append]; simp, splitK_pcs c k r hc, pcs_sep c a r h2]
/-- bytes as a string -/
abbrev mkB (l : List UInt8) : ByteArray := ⟨l.toArray⟩
theorem mkB_toList (s : ByteArray) : mkB s.data.toList = s := rfl
theorem splitB_pcs (c : UInt8) (s : ByteArray) : Lib.splitB ⟨#[c]⟩ 0 (Lib.countB s ⟨#[c]⟩) s = (pcs c s.data.toList).map mkB := by
  have h1 := Lib.splitB_data ⟨#[c]⟩ 0 (Lib.countB s ⟨#[c]⟩) s
  have h2 : Lib.countB s ⟨#[c]⟩ = s.data.toList.count c := by
    have := Lib.count_one c s.data.toList
    exact this
  rw [h2, splitK_pcs c _ _ rfl] at h1
  have h3 := congrArg (List.map mkB) h1
  rw [List.map_map, show (mkB ∘ fun x : ByteArray => x.data.toList) = id from rfl, List.map_id] at h3
  rw [h2]
  exact h3
end Go.Proofs.YtlfneeobnihocaaGreatDoor
