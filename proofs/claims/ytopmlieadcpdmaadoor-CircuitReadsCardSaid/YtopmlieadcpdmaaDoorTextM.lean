/- Plain law: the text of a circuit, as bytes, and how long it is. No condition. -/
import Derived.Test.YtopmlieadcpdmaaDoorRCircW
import Derived.Lib.ItoaNum
namespace Go.Proofs.YtopmlieadcpdmaaDoor
set_option maxRecDepth 100000
set_option linter.unusedVariables false
open Go.RowKit Tally
/-- a small number's numeral -/
def numB (n : Int) : ByteArray := ⟨(Lib.decDigits n.toNat).toArray⟩
theorem numB_size {n : Int} (h0 : 0 ≤ n) (h : n < 100) : (numB n).size ≤ 2 := by
  show (Lib.decDigits n.toNat).toArray.size ≤ 2
  rw [List.size_toArray]
  by_cases h1 : n.toNat < 10
  · rw [Lib.decDigits_one h1]; simp
  · rw [Lib.decDigits_two h1 (by omega)]; simp
def inB (n : Int) : ByteArray := ⟨#[105, 110, 112, 117, 116, 115, 32]⟩ ++ numB n ++ ⟨#[10]⟩
def headB (n : Int) : ByteArray := ⟨#[108, 97, 121, 101, 114, 32]⟩ ++ numB n ++ ⟨#[10]⟩
def wordB (m : Bool) : ByteArray := if m then ⟨#[109, 117, 108, 32]⟩ else ⟨#[97, 100, 100, 32]⟩
def gateB (g : Gt) : ByteArray := wordB g.mul ++ numB g.a ++ ⟨#[32]⟩ ++ numB g.b ++ ⟨#[10]⟩
def gatesB (gs : List Gt) : Nat → ByteArray
  | 0 => ByteArray.empty
  | j + 1 => gatesB gs j ++ gateB (atg gs j)
def layB (l : Ly) : ByteArray := headB l.log ++ gatesB l.gates l.gates.length
def laysB (ls : List Ly) : Nat → ByteArray
  | 0 => ByteArray.empty
  | k + 1 => laysB ls k ++ layB (aty ls k)
def circB (c : Ci) : ByteArray := inB c.log ++ laysB c.layers c.layers.length
theorem wordB_size (m : Bool) : (wordB m).size = 4 := by cases m <;> rfl
theorem inB_size {n : Int} (h0 : 0 ≤ n) (h : n < 100) : (inB n).size ≤ 10 := by
  have := numB_size h0 h
  have e1 : (⟨#[105, 110, 112, 117, 116, 115, 32]⟩ : ByteArray).size = 7 := rfl
  have e2 : (⟨#[10]⟩ : ByteArray).size = 1 := rfl
  unfold inB; rw [ByteArray.size_append, ByteArray.size_append, e1, e2]; omega
theorem headB_size {n : Int} (h0 : 0 ≤ n) (h : n < 100) : (headB n).size ≤ 9 := by
  have := numB_size h0 h
  have e1 : (⟨#[108, 97, 121, 101, 114, 32]⟩ : ByteArray).size = 6 := rfl
  have e2 : (⟨#[10]⟩ : ByteArray).size = 1 := rfl
  unfold headB; rw [ByteArray.size_append, ByteArray.size_append, e1, e2]; omega
theorem gateB_size {g : Gt} (ha : 0 ≤ g.a) (ha2 : g.a < 100) (hb : 0 ≤ g.b) (hb2 : g.b < 100) : (gateB g).size ≤ 10 := by
  have h1 := numB_size ha ha2
  have h2 := numB_size hb hb2
  have e1 : (⟨#[32]⟩ : ByteArray).size = 1 := rfl
  have e2 : (⟨#[10]⟩ : ByteArray).size = 1 := rfl
  unfold gateB; rw [ByteArray.size_append, ByteArray.size_append, ByteArray.size_append, ByteArray.size_append, wordB_size, e1, e2]; omega
theorem gatesB_size {gs : List Gt} (h : ∀ j, j < gs.length → 0 ≤ (atg gs j).a ∧ (atg gs j).a < 100 ∧ 0 ≤ (atg gs j).b ∧ (atg gs j).b < 100) : ∀ j, j ≤ gs.length → (gatesB gs j).size ≤ 10 * j
  | 0, _ => by simp [gatesB]
  | j + 1, hj => by
    have h1 := gatesB_size h j (by omega)
    obtain ⟨a, b, c, d⟩ := h j (by omega)
    have h2 := gateB_size a b c d
    show (gatesB gs j ++ gateB (atg gs j)).size ≤ _
    rw [ByteArray.size_append]; omega
theorem Good.gates100 {c : Ci} (h : Good c) {k : Nat} (hk : k < c.layers.length) {j : Nat} (hj : j < (aty c.layers k).gates.length) :
    0 ≤ (atg (aty c.layers k).gates j).a ∧ (atg (aty c.layers k).gates j).a < 100 ∧ 0 ≤ (atg (aty c.layers k).gates j).b ∧ (atg (aty c.layers k).gates j).b < 100 := by
  obtain ⟨h1, h2, h3, h4⟩ := gateOk_bd (h.gate k hk j hj)
  have := (pow4 (h.below4 (k := k) (by omega))).2
  omega
theorem Good.len16 {c : Ci} (h : Good c) {k : Nat} (hk : k < c.layers.length) : (aty c.layers k).gates.length ≤ 16 := by
  rw [h.len k hk]; exact (pow4 (h.l4 k hk)).2
theorem layB_size {c : Ci} (h : Good c) {k : Nat} (hk : k < c.layers.length) : (layB (aty c.layers k)).size ≤ 169 := by
  have h1 := headB_size (h.l0 k hk) (by have := h.l4 k hk; omega)
  have h2 := gatesB_size (fun j hj => h.gates100 hk hj) _ (Nat.le_refl _)
  have h3 := h.len16 hk
  unfold layB; rw [ByteArray.size_append]; omega
theorem laysB_size {c : Ci} (h : Good c) : ∀ k, k ≤ c.layers.length → (laysB c.layers k).size ≤ 169 * k
  | 0, _ => by simp [laysB]
  | k + 1, hk => by
    have h1 := laysB_size h k (by omega)
    have h2 := layB_size h (k := k) (by omega)
    show (laysB c.layers k ++ layB (aty c.layers k)).size ≤ _
    rw [ByteArray.size_append]; omega
theorem circB_size {c : Ci} (h : Good c) : (circB c).size ≤ 700 := by
  have h1 := laysB_size h _ (Nat.le_refl _)
  have h2 := inB_size h.log0 (by have := h.log4; omega)
  have := h.n4
  unfold circB; rw [ByteArray.size_append]; omega
end Go.Proofs.YtopmlieadcpdmaaDoor
