/- Several texts in one: GkrM, GkrV. What each says, and its conditions, stands at its head. -/
import Derived.Test.YtlfneeobnihocaaGreatDoorRCircW
import Derived.Test.YtlfneeobnihocaaGreatDoorPoly
import Derived.Test.YtlfneeobnihocaaGreatDoorVerify
/- Plain law: the tables of a layer, and what is told of it; no program in sight, no condition. -/
namespace Go.Proofs.YtlfneeobnihocaaGreatDoor
set_option maxRecDepth 100000
set_option linter.unusedVariables false
open Tally
theorem sumTo_mul2 (f : Nat → F) (m n : Nat) : sumTo f (m * n) = sumTo (fun a => sumTo (fun b => f (a * n + b)) n) m := by
  induction m with
  | zero => rw [Nat.zero_mul]; rfl
  | succ m ih =>
    rw [Nat.succ_mul, sumTo_split, ih]
    show _ = sumTo _ m + _
    congr 1
    exact sumTo_congr fun b _ => by rw [Nat.add_comm]
theorem sumTo_mulr (c : F) (f : Nat → F) (n : Nat) : sumTo (fun k => f k * c) n = sumTo f n * c := by
  rw [show (fun k => f k * c) = fun k => c * f k from funext fun k => by grind, sumTo_mul]; grind
theorem eqAt_append (x y : List F) : ∀ i, eqAt (x ++ y) i = eqAt x (i / 2 ^ y.length) * eqAt y (i % 2 ^ y.length) := by
  refine snoc_ind (Q := fun y => ∀ i, eqAt (x ++ y) i = eqAt x (i / 2 ^ y.length) * eqAt y (i % 2 ^ y.length)) ?_ ?_ y
  · intro i; rw [List.append_nil, List.length_nil, Nat.pow_zero, Nat.div_one, eqAt_nil, mul_one']
  · intro y u ih i
    rw [← List.append_assoc, eqAt_snoc, ih, eqAt_snoc, List.length_append, List.length_singleton]
    rw [Nat.pow_succ, Nat.mul_comm (2 ^ y.length) 2, Nat.mod_mul_right_mod, Nat.mod_mul_right_div_self, Nat.div_div_eq_div_mul]
    grind
theorem bits_join (a b m : Nat) : ∀ k (_ : b < 2 ^ k), bitsF (a * 2 ^ k + b) (m + k) = bitsF a m ++ bitsF b k := by
  intro k
  induction k generalizing b with
  | zero =>
    intro hb
    have : b = 0 := by simpa using hb
    subst this
    simp [bitsF]
  | succ k ih =>
    intro hb
    rw [Nat.pow_succ] at hb
    have e1 : (a * 2 ^ (k + 1) + b) / 2 = a * 2 ^ k + b / 2 := by
      rw [Nat.pow_succ, show a * (2 ^ k * 2) = 2 * (a * 2 ^ k) by rw [← Nat.mul_assoc, Nat.mul_comm], Nat.mul_add_div (by decide)]
    have e2 : (a * 2 ^ (k + 1) + b) % 2 = b % 2 := by
      rw [Nat.pow_succ, show a * (2 ^ k * 2) = 2 * (a * 2 ^ k) by rw [← Nat.mul_assoc, Nat.mul_comm], Nat.mul_add_mod]
    rw [← Nat.add_assoc]
    show bitsF ((a * 2 ^ (k + 1) + b) / 2) (m + k) ++ [if (a * 2 ^ (k + 1) + b) % 2 = 1 then 1 else 0] = bitsF a m ++ (bitsF (b / 2) k ++ [if b % 2 = 1 then 1 else 0])
    rw [e1, e2, ih (b / 2) (by omega), List.append_assoc]
/-- the table of the gates of a sort -/
def wireTab (gs : List Gt) (mul : Bool) (z : List F) (n : Nat) : List F := (List.range (n * n)).map fun q => sumTo (fun g => if (atg gs g).mul = mul ∧ (atg gs g).a.toNat * n + (atg gs g).b.toNat = q then eqAt z g else 0) gs.length
/-- the four tables of a layer -/
def layT (gs : List Gt) (z V : List F) (n : Nat) : Tb := ⟨wireTab gs false z n, wireTab gs true z n, (List.range (n * n)).map fun q => atF V (q / n), (List.range (n * n)).map fun q => atF V (q % n)⟩
theorem layT_len (gs : List Gt) (z V : List F) (n : Nat) : (layT gs z V n).Len (n * n) := ⟨by simp [layT, wireTab], by simp [layT, wireTab], by simp [layT], by simp [layT]⟩
theorem sq_pow (k : Nat) : 2 ^ k * 2 ^ k = 2 ^ (2 * k) := by rw [← Nat.pow_add]; congr 1; omega
theorem range_at {n : Nat} (f : Nat → F) (i : Nat) (h : i < n) : atF ((List.range n).map f) i = f i := by simp [atF, h]
/-- all gates lie within -/
def GatesIn (gs : List Gt) (n : Nat) : Prop := ∀ j, j < gs.length → (atg gs j).a.toNat < n ∧ (atg gs j).b.toNat < n
theorem idx_lt {a b n : Nat} (ha : a < n) (hb : b < n) : a * n + b < n * n := by
  have : (a + 1) * n ≤ n * n := Nat.mul_le_mul_right n (by omega)
  rw [Nat.succ_mul] at this; omega
theorem idx_div {a b n : Nat} (hb : b < n) : (a * n + b) / n = a := by
  rw [Nat.mul_comm, Nat.mul_add_div (by omega), Nat.div_eq_of_lt hb, Nat.add_zero]
theorem idx_mod {a b n : Nat} (hb : b < n) : (a * n + b) % n = b := by
  rw [Nat.mul_comm, Nat.mul_add_mod, Nat.mod_eq_of_lt hb]
theorem eval_wire (gs : List Gt) (mul : Bool) (z x y : List F) (n : Nat) (hy : y.length = x.length) (hn : n = 2 ^ x.length) (hG : GatesIn gs n) : evalF (wireTab gs mul z n) (x ++ y) = wiredF gs mul z x y := by
  have hl : (wireTab gs mul z n).length = n * n := by simp [wireTab]
  have hN : n * n = 2 ^ (x ++ y).length := by rw [hn, sq_pow, List.length_append, hy]; congr 1; omega
  rw [eval_dot _ _ (by rw [hl, hN])]
  unfold dotEq wiredF
  rw [hl]
  have e1 : sumTo (fun b => atF (wireTab gs mul z n) b * eqAt (x ++ y) b) (n * n) = sumTo (fun b => sumTo (fun g => (if (atg gs g).mul = mul ∧ (atg gs g).a.toNat * n + (atg gs g).b.toNat = b then eqAt z g else 0) * eqAt (x ++ y) b) gs.length) (n * n) :=
    sumTo_congr fun b hb => by
      unfold wireTab
      rw [range_at _ b hb, sumTo_mulr]
  rw [e1, sumTo_swap]
  refine sumTo_congr fun g hg => ?_
  obtain ⟨hA, hB⟩ := hG g hg
  unfold wireT
  by_cases hm : (atg gs g).mul = mul
  · rw [if_pos hm, sumTo_one _ (n * n) ((atg gs g).a.toNat * n + (atg gs g).b.toNat) (idx_lt hA hB)]
    · rw [if_pos ⟨hm, rfl⟩, eqAt_append, hy, ← hn, idx_div hB, idx_mod hB]
    · intro k _ hne
      rw [if_neg (fun h => hne h.2.symm)]; exact zero_mul' _
  · rw [if_neg hm]
    refine sumTo_zero _ _ fun k _ => ?_
    rw [if_neg (fun h => hm h.1)]; exact zero_mul' _
theorem eval_vx (V x y : List F) (n : Nat) (hy : y.length = x.length) (hn : n = 2 ^ x.length) (hV : V.length = n) : evalF ((List.range (n * n)).map fun q => atF V (q / n)) (x ++ y) = evalF V x := by
  have hN : n * n = 2 ^ (x ++ y).length := by rw [hn, sq_pow, List.length_append, hy]; congr 1; omega
  rw [eval_dot _ _ (by simpa using hN), eval_dot V x (by rw [hV, hn])]
  unfold dotEq
  rw [List.length_map, List.length_range, sumTo_mul2, hV]
  refine sumTo_congr fun a ha => ?_
  rw [sumTo_congr (g := fun b => (atF V a * eqAt x a) * eqAt y b) (fun b hb => by
    rw [range_at _ _ (idx_lt ha hb), eqAt_append, hy, ← hn, idx_div hb, idx_mod hb]; grind)]
  rw [sumTo_mul, show n = 2 ^ y.length by rw [hn, hy], sum_eqs, mul_one']
theorem eval_vy (V x y : List F) (n : Nat) (hy : y.length = x.length) (hn : n = 2 ^ x.length) (hV : V.length = n) : evalF ((List.range (n * n)).map fun q => atF V (q % n)) (x ++ y) = evalF V y := by
  have hN : n * n = 2 ^ (x ++ y).length := by rw [hn, sq_pow, List.length_append, hy]; congr 1; omega
  rw [eval_dot _ _ (by simpa using hN), eval_dot V y (by rw [hV, hn, hy])]
  unfold dotEq
  rw [List.length_map, List.length_range, sumTo_mul2]
  rw [sumTo_congr (g := fun a => eqAt x a * sumTo (fun b => atF V b * eqAt y b) n) (fun a ha => by
    rw [← sumTo_mul]
    exact sumTo_congr fun b hb => by rw [range_at _ _ (idx_lt ha hb), eqAt_append, hy, ← hn, idx_div hb, idx_mod hb]; grind)]
  rw [sumTo_mulr, show sumTo (fun a => eqAt x a) n = 1 by rw [hn]; exact sum_eqs x, one_mul', hV]
/-- what a step of a layer tells at x and y -/
def stepAt (gs : List Gt) (z V x y : List F) : F := stepF gs z x y (evalF V x) (evalF V y)
/-- the sum of what is left, fixed at p, is that of all steps behind p -/
theorem sum_fixes (gs : List Gt) (z V : List F) (k m : Nat) (p : List F) (hV : V.length = 2 ^ k) (hG : GatesIn gs (2 ^ k)) (hp : p.length + m = 2 * k) :
    ((layT gs z V (2 ^ k)).fixes p).sum = sumTo (fun b => stepAt gs z V ((p ++ bitsF b m).take k) ((p ++ bitsF b m).drop k)) (2 ^ m) := by
  have hL : (layT gs z V (2 ^ k)).Len (2 ^ (p.length + m)) := by rw [hp, ← sq_pow]; exact layT_len gs z V (2 ^ k)
  unfold Tb.sum
  rw [(hL.fixes p).a]
  refine sumTo_congr fun b hb => ?_
  have hq : (p ++ bitsF b m).length = 2 * k := by rw [List.length_append, bitsF_length]; exact hp
  have hsp : p ++ bitsF b m = (p ++ bitsF b m).take k ++ (p ++ bitsF b m).drop k := (List.take_append_drop k _).symm
  have hx : ((p ++ bitsF b m).take k).length = k := by rw [List.length_take, hq]; omega
  have hy : ((p ++ bitsF b m).drop k).length = k := by rw [List.length_drop, hq]; omega
  rw [Tb.fixes_eq]
  show atF (fixes _ p) b * (atF (fixes _ p) b + atF (fixes _ p) b) + atF (fixes _ p) b * (atF (fixes _ p) b * atF (fixes _ p) b) = _
  rw [← eval_ahead _ p b m hL.a hb, ← eval_ahead _ p b m hL.m hb, ← eval_ahead _ p b m hL.x hb, ← eval_ahead _ p b m hL.y hb]
  generalize (p ++ bitsF b m).take k = X at *
  generalize (p ++ bitsF b m).drop k = Y at *
  rw [hsp]
  show evalF (wireTab gs false z (2 ^ k)) _ * (evalF ((List.range (2 ^ k * 2 ^ k)).map fun q => atF V (q / 2 ^ k)) _ + evalF ((List.range (2 ^ k * 2 ^ k)).map fun q => atF V (q % 2 ^ k)) _) + evalF (wireTab gs true z (2 ^ k)) _ * (evalF ((List.range (2 ^ k * 2 ^ k)).map fun q => atF V (q / 2 ^ k)) _ * evalF ((List.range (2 ^ k * 2 ^ k)).map fun q => atF V (q % 2 ^ k)) _) = _
  rw [eval_wire gs false z X Y _ (by rw [hx, hy]) (by rw [hx]) hG, eval_wire gs true z X Y _ (by rw [hx, hy]) (by rw [hx]) hG, eval_vx V X Y _ (by rw [hx, hy]) (by rw [hx]) hV, eval_vy V X Y _ (by rw [hx, hy]) (by rw [hx]) hV]
  rfl
/-- a layer's value at a point is the sum of all steps -/
theorem layer_tells (gs : List Gt) (z V : List F) (k : Nat) (hG : GatesIn gs (2 ^ k)) (hz : gs.length = 2 ^ z.length) :
    evalF (layF V gs) z = sumTo (fun a => sumTo (fun b => stepF gs z (bitsF a k) (bitsF b k) (atF V a) (atF V b)) (2 ^ k)) (2 ^ k) := by
  rw [eval_dot _ _ (by rw [layF_length, hz])]
  unfold dotEq
  rw [layF_length]
  have one : ∀ g, g < gs.length → ∀ a, a < 2 ^ k → ∀ b, b < 2 ^ k → ∀ mul, wireT gs mul z (bitsF a k) (bitsF b k) g = if (atg gs g).mul = mul ∧ (atg gs g).a.toNat = a ∧ (atg gs g).b.toNat = b then eqAt z g else 0 := by
    intro g hg a ha b hb mul
    obtain ⟨hA, hB⟩ := hG g hg
    unfold wireT
    rw [eqAt_bits a _ k ha hA, eqAt_bits b _ k hb hB]
    by_cases h1 : (atg gs g).mul = mul <;> by_cases h2 : a = (atg gs g).a.toNat <;> by_cases h3 : b = (atg gs g).b.toNat <;>
      simp [h1, h2, h3, eq_comm] <;> grind
  have tot : ∀ a, a < 2 ^ k → ∀ b, b < 2 ^ k → stepF gs z (bitsF a k) (bitsF b k) (atF V a) (atF V b) = sumTo (fun g => if (atg gs g).a.toNat = a ∧ (atg gs g).b.toNat = b then gateF V (atg gs g) * eqAt z g else 0) gs.length := by
    intro a ha b hb
    unfold stepF wiredF
    rw [← sumTo_mulr, ← sumTo_mulr, ← sumTo_add]
    refine sumTo_congr fun g hg => ?_
    rw [one g hg a ha b hb false, one g hg a ha b hb true]
    unfold gateF
    by_cases h : (atg gs g).a.toNat = a ∧ (atg gs g).b.toNat = b
    · obtain ⟨ha', hb'⟩ := h
      rw [if_pos (⟨ha', hb'⟩ : (atg gs g).a.toNat = a ∧ (atg gs g).b.toNat = b), ha', hb']
      cases hm : (atg gs g).mul with
      | false =>
        rw [if_pos ⟨rfl, rfl, rfl⟩, if_neg (fun e => by cases e.1), zero_mul', add_zero']
        simp only [Bool.false_eq_true, if_false]; grind
      | true =>
        rw [if_neg (fun e => by cases e.1), if_pos ⟨rfl, rfl, rfl⟩, zero_mul', zero_add']
        simp only [if_true]; grind
    · rw [if_neg (fun e => h e.2), if_neg (fun e => h e.2), if_neg h, zero_mul', zero_mul', add_zero']
  rw [sumTo_congr (f := fun a => sumTo (fun b => stepF gs z (bitsF a k) (bitsF b k) (atF V a) (atF V b)) (2 ^ k)) (g := fun a => sumTo (fun g => sumTo (fun b => if (atg gs g).a.toNat = a ∧ (atg gs g).b.toNat = b then gateF V (atg gs g) * eqAt z g else 0) (2 ^ k)) gs.length) (fun a ha => by
    rw [sumTo_congr (fun b hb => tot a ha b hb), sumTo_swap])]
  rw [sumTo_swap]
  refine sumTo_congr fun g hg => ?_
  obtain ⟨hA, hB⟩ := hG g hg
  rw [sumTo_one _ (2 ^ k) (atg gs g).a.toNat hA (fun a _ hne => sumTo_zero _ _ fun b _ => by rw [if_neg (fun e => hne e.1.symm)])]
  rw [sumTo_one _ (2 ^ k) (atg gs g).b.toNat hB (fun b _ hne => by rw [if_neg (fun e => hne e.2.symm)])]
  rw [if_pos ⟨rfl, rfl⟩, layF_at V gs g hg]
/-- in the first k fixings y stays, in the others x -/
structure Split (T : Tb) (k j : Nat) : Prop where
  y : j ≤ k → ∀ i, i < 2 ^ (2 * k - j) → atF T.y i = atF T.y (i % 2 ^ k)
  x : ∀ i i', i < 2 ^ (2 * k - j) → i' < 2 ^ (2 * k - j) → i / 2 ^ k = i' / 2 ^ k → atF T.x i = atF T.x i'
theorem split_start (gs : List Gt) (z V : List F) (k : Nat) : Split (layT gs z V (2 ^ k)) k 0 := by
  refine ⟨fun _ i hi => ?_, fun i i' hi hi' e => ?_⟩
  · rw [Nat.sub_zero, ← sq_pow] at hi
    show atF ((List.range _).map _) _ = atF ((List.range _).map _) _
    have hm : i % 2 ^ k < 2 ^ k := Nat.mod_lt _ (Nat.pow_pos (by decide))
    rw [range_at _ i hi, range_at _ (i % 2 ^ k) (Nat.lt_of_lt_of_le hm (Nat.le_mul_of_pos_left _ (Nat.pow_pos (by decide)))), Nat.mod_mod]
  · rw [Nat.sub_zero, ← sq_pow] at hi hi'
    show atF ((List.range _).map _) _ = atF ((List.range _).map _) _
    rw [range_at _ i hi, range_at _ i' hi', e]
theorem Split.half {T : Tb} {k j : Nat} (h : Split T k j) (hj : j < 2 * k) : T.Half (2 ^ (2 * k - (j + 1))) := by
  intro i hi
  have e : 2 ^ (2 * k - j) = 2 ^ (2 * k - (j + 1)) + 2 ^ (2 * k - (j + 1)) := by
    rw [show 2 * k - j = (2 * k - (j + 1)) + 1 by omega, Nat.pow_succ]; omega
  rcases Nat.lt_or_ge j k with hk | hk
  · right
    rw [h.y (by omega) i (by omega), h.y (by omega) (i + _) (by omega)]
    have : 2 ^ (2 * k - (j + 1)) = 2 ^ k * 2 ^ (k - (j + 1)) := by rw [← Nat.pow_add]; congr 1; omega
    rw [this, Nat.add_mul_mod_self_left]
  · left
    have hle : 2 ^ (2 * k - j) ≤ 2 ^ k := Nat.pow_le_pow_right (by decide) (by omega)
    refine h.x _ _ (by omega) (by omega) ?_
    rw [Nat.div_eq_of_lt (by omega), Nat.div_eq_of_lt (by omega)]
theorem Split.fix {T : Tb} {k j : Nat} (h : Split T k j) (hj : j < 2 * k) (hL : T.Len (2 ^ (2 * k - j))) (u : F) : Split (T.fix u) k (j + 1) := by
  have e : 2 ^ (2 * k - j) = 2 * 2 ^ (2 * k - (j + 1)) := by
    rw [show 2 * k - j = (2 * k - (j + 1)) + 1 by omega, Nat.pow_succ]; omega
  have hf : ∀ l : List F, l.length = 2 ^ (2 * k - j) → ∀ i, i < 2 ^ (2 * k - (j + 1)) → atF (fixF l u) i = btw (atF l i) (atF l (i + 2 ^ (2 * k - (j + 1)))) u := fun l hl i hi => by
    rw [fixF_at l u i (by omega), show l.length / 2 = 2 ^ (2 * k - (j + 1)) by omega]
  refine ⟨fun hjk i hi => ?_, fun i i' hi hi' hd => ?_⟩
  · have hle : 2 ^ k ≤ 2 ^ (2 * k - (j + 1)) := Nat.pow_le_pow_right (by decide) (by omega)
    have hm : i % 2 ^ k < 2 ^ k := Nat.mod_lt _ (Nat.pow_pos (by decide))
    have e2 : 2 ^ (2 * k - (j + 1)) = 2 ^ k * 2 ^ (k - (j + 1)) := by rw [← Nat.pow_add]; congr 1; omega
    show atF (fixF T.y u) i = atF (fixF T.y u) (i % 2 ^ k)
    rw [hf _ hL.y i hi, hf _ hL.y (i % 2 ^ k) (by omega)]
    have a1 := h.y (by omega) i (by omega)
    have a2 := h.y (by omega) (i + 2 ^ (2 * k - (j + 1))) (by omega)
    have a3 := h.y (by omega) (i % 2 ^ k + 2 ^ (2 * k - (j + 1))) (by omega)
    rw [e2, Nat.add_mul_mod_self_left, ← e2] at a2 a3
    rw [Nat.mod_mod] at a3
    rw [a1, a2, a3]
  · show atF (fixF T.x u) i = atF (fixF T.x u) i'
    rw [hf _ hL.x i hi, hf _ hL.x i' hi', h.x i i' (by omega) (by omega) hd]
    congr 1
    refine h.x _ _ (by omega) (by omega) ?_
    rcases Nat.lt_or_ge j k with hk | hk
    · have e2 : 2 ^ (2 * k - (j + 1)) = 2 ^ k * 2 ^ (k - (j + 1)) := by rw [← Nat.pow_add]; congr 1; omega
      rw [e2, Nat.add_mul_div_left _ _ (Nat.pow_pos (by decide)), Nat.add_mul_div_left _ _ (Nat.pow_pos (by decide)), hd]
    · have hle : 2 ^ (2 * k - j) ≤ 2 ^ k := Nat.pow_le_pow_right (by decide) (by omega)
      rw [Nat.div_eq_of_lt (by omega), Nat.div_eq_of_lt (by omega)]
/-- a layer's tables, fixed at p -/
theorem lay_fixes (gs : List Gt) (z V : List F) (k : Nat) (p : List F) (hp : p.length ≤ 2 * k) : ((layT gs z V (2 ^ k)).fixes p).Len (2 ^ (2 * k - p.length)) ∧ Split ((layT gs z V (2 ^ k)).fixes p) k p.length := by
  revert hp
  refine snoc_ind (Q := fun p => p.length ≤ 2 * k → ((layT gs z V (2 ^ k)).fixes p).Len (2 ^ (2 * k - p.length)) ∧ Split ((layT gs z V (2 ^ k)).fixes p) k p.length) ?_ ?_ p
  · intro _
    refine ⟨?_, split_start gs z V k⟩
    rw [List.length_nil, Nat.sub_zero, ← sq_pow]; exact layT_len gs z V (2 ^ k)
  · intro p u ih hp
    rw [List.length_append, List.length_singleton] at hp ⊢
    obtain ⟨h1, h2⟩ := ih (by omega)
    rw [Tb.fixes_snoc]
    refine ⟨Tb.Len.fix ?_ u, h2.fix (by omega) h1 u⟩
    have e : 2 ^ (2 * k - p.length) = 2 * 2 ^ (2 * k - (p.length + 1)) := by
      rw [show 2 * k - p.length = (2 * k - (p.length + 1)) + 1 by omega, Nat.pow_succ]; omega
    rwa [← e]
/-- what is claimed behind p -/
def sumAt (gs : List Gt) (z V : List F) (k : Nat) (p : List F) : F := ((layT gs z V (2 ^ k)).fixes p).sum
/-- the round that is told behind p -/
def roundAt (gs : List Gt) (z V : List F) (k : Nat) (p : List F) : List F := ((layT gs z V (2 ^ k)).fixes p).round
theorem roundAt_length (gs : List Gt) (z V : List F) (k : Nat) (p : List F) : (roundAt gs z V k p).length = 3 := Tb.round_length _
theorem lag_roundAt (gs : List Gt) (z V : List F) (k : Nat) (p : List F) (hp : p.length < 2 * k) (u : F) : lag (roundAt gs z V k p) u = sumAt gs z V k (p ++ [u]) := by
  obtain ⟨h1, h2⟩ := lay_fixes gs z V k p (by omega)
  have e : 2 ^ (2 * k - p.length) = 2 * 2 ^ (2 * k - (p.length + 1)) := by
    rw [show 2 * k - p.length = (2 * k - (p.length + 1)) + 1 by omega, Nat.pow_succ]; omega
  unfold roundAt sumAt
  rw [Tb.fixes_snoc, Tb.lag_round (by rw [← e]; exact h1) (h2.half hp) u]
theorem sumAt_split (gs : List Gt) (z V : List F) (k : Nat) (p : List F) (hp : p.length < 2 * k) : sumAt gs z V k (p ++ [0]) + sumAt gs z V k (p ++ [1]) = sumAt gs z V k p := by
  obtain ⟨h1, _⟩ := lay_fixes gs z V k p (by omega)
  have e : 2 ^ (2 * k - p.length) = 2 * 2 ^ (2 * k - (p.length + 1)) := by
    rw [show 2 * k - p.length = (2 * k - (p.length + 1)) + 1 by omega, Nat.pow_succ]; omega
  unfold sumAt
  rw [Tb.fixes_snoc, Tb.fixes_snoc, Tb.sum_split (by rw [← e]; exact h1)]
theorem sumAt_end (gs : List Gt) (z V : List F) (k : Nat) (p : List F) (hp : p.length = 2 * k) (hV : V.length = 2 ^ k) (hG : GatesIn gs (2 ^ k)) : sumAt gs z V k p = stepAt gs z V (p.take k) (p.drop k) := by
  unfold sumAt
  rw [sum_fixes gs z V k 0 p hV hG (by omega)]
  simp only [bitsF, List.append_nil, Nat.pow_zero, sumTo]
  exact zero_add' _
theorem sumAt_start (gs : List Gt) (z V : List F) (k : Nat) (hV : V.length = 2 ^ k) (hG : GatesIn gs (2 ^ k)) (hz : gs.length = 2 ^ z.length) : sumAt gs z V k [] = evalF (layF V gs) z := by
  unfold sumAt
  rw [sum_fixes gs z V k (2 * k) [] hV hG (by simp), layer_tells gs z V k hG hz, ← sq_pow, sumTo_mul2]
  refine sumTo_congr fun a ha => sumTo_congr fun b hb => ?_
  have e : bitsF (a * 2 ^ k + b) (2 * k) = bitsF a k ++ bitsF b k := by
    have := bits_join a b k k hb
    rwa [show k + k = 2 * k by omega] at this
  rw [List.nil_append, e, List.take_left' (bitsF_length a k), List.drop_left' (bitsF_length a k)]
  unfold stepAt
  rw [eval_bits V a k hV ha, eval_bits V b k hV hb]
end Go.Proofs.YtlfneeobnihocaaGreatDoor

/- Plain law: proofs, layer by layer: what is proved is held to be right; who lies has told a wrong polynomial that is right at its draw; no program in sight, no condition. -/
namespace Go.Proofs.YtlfneeobnihocaaGreatDoor
set_option maxRecDepth 100000
set_option linter.unusedVariables false
open Tally
/-- a part of a proof -/
structure Pt where
  rounds : List (List F)
  line : List F
/-- what is told of a layer with the draws d -/
def partF (gs : List Gt) (z V : List F) (k : Nat) (d : List F) : Pt := ⟨(List.range (2 * k)).map fun j => roundAt gs z V k (d.take j), partL V (d.take k) ((d.drop k).take k)⟩
/-- where the layer below is claimed -/
def nextZ (k : Nat) (d : List F) : List F := lineF (d.take k) ((d.drop k).take k) (atF d (2 * k))
/-- the parts of the layers below i -/
def proofFrom (c : Ci) (I : List F) : Nat → List F → List F → List Pt
  | 0, _, _ => []
  | i + 1, z, d => partF (aty c.layers i).gates z (valF c I i) (belowLog c i).toNat d :: proofFrom c I i (nextZ (belowLog c i).toNat d) (d.drop (2 * (belowLog c i).toNat + 1))
/-- what is claimed behind a part, if it holds -/
def holdsF (gs : List Gt) (z : List F) (cl : F) (k : Nat) (P : Pt) (d : List F) : Option F :=
  match told cl P.rounds (d.take (2 * k)) with
  | none => none
  | some now => if stepF gs z (d.take k) ((d.drop k).take k) (lag P.line 0) (if k = 0 then lag P.line 0 else lag P.line 1) = now then some (lag P.line (atF d (2 * k))) else none
/-- what is claimed at last, and where, if all hold -/
def holdsFrom (c : Ci) : Nat → List F → F → List Pt → List F → Option (F × List F)
  | 0, z, cl, _, _ => some (cl, z)
  | _ + 1, _, _, [], _ => none
  | i + 1, z, cl, P :: ps, d => match holdsF (aty c.layers i).gates z cl (belowLog c i).toNat P d with
    | none => none
    | some cl' => holdsFrom c i (nextZ (belowLog c i).toNat d) cl' ps (d.drop (2 * (belowLog c i).toNat + 1))
/-- as many draws as the layers below i want -/
def needFrom (c : Ci) : Nat → Nat
  | 0 => 0
  | i + 1 => 2 * (belowLog c i).toNat + 1 + needFrom c i
theorem nextZ_length (k : Nat) (d : List F) (h : 2 * k < d.length) : (nextZ k d).length = k := by
  unfold nextZ
  rw [lineF_length _ _ _ (by rw [List.length_take, List.length_take, List.length_drop]; omega), List.length_take]; omega
theorem Good.gatesIn {c : Ci} (h : Good c) {i : Nat} (hi : i < c.layers.length) : GatesIn (aty c.layers i).gates (2 ^ (belowLog c i).toNat) := by
  intro j hj
  obtain ⟨h1, h2, h3, h4⟩ := gateOk_bd (h.gate i hi j hj)
  generalize 2 ^ (belowLog c i).toNat = N at *
  omega
/-- rounds that are told rightly are held -/
theorem told_lay (gs : List Gt) (z V : List F) (k : Nat) (d : List F) (hd : 2 * k ≤ d.length) : ∀ j, j ≤ 2 * k →
    toldTo (sumAt gs z V k []) ((List.range (2 * k)).map fun j => roundAt gs z V k (d.take j)) (d.take (2 * k)) j = some (sumAt gs z V k (d.take j))
  | 0, _ => by rw [List.take_zero]; rfl
  | j + 1, hj => by
    have hl : (d.take j).length = j := by rw [List.length_take]; omega
    have e : ((List.range (2 * k)).map fun j => roundAt gs z V k (d.take j))[j]?.getD [] = roundAt gs z V k (d.take j) := by
      simp [show j < 2 * k by omega]
    have e0 : atF (roundAt gs z V k (d.take j)) 0 = sumAt gs z V k (d.take j ++ [0]) := by
      rw [← lag_roundAt gs z V k _ (by omega) 0]
      exact (lag_at _ (by rw [roundAt_length]; omega) 0 (by rw [roundAt_length]; omega)).symm
    have e1 : atF (roundAt gs z V k (d.take j)) 1 = sumAt gs z V k (d.take j ++ [1]) := by
      rw [← lag_roundAt gs z V k _ (by omega) 1]
      exact (lag_at _ (by rw [roundAt_length]; omega) 1 (by rw [roundAt_length]; omega)).symm
    simp only [toldTo]
    rw [told_lay gs z V k d hd j (by omega)]
    simp only []
    rw [e, e0, e1, sumAt_split gs z V k _ (by omega), if_pos rfl, lag_roundAt gs z V k _ (by omega)]
    have e2 : atF (d.take (2 * k)) j = atF d j := by simp [atF, show j < 2 * k by omega]
    rw [e2, ← take_snoc d j 0 (by omega)]
theorem take_part (k : Nat) (d : List F) (h : 2 * k ≤ d.length) : (d.take (2 * k)).take k = d.take k ∧ (d.take (2 * k)).drop k = (d.drop k).take k := by
  refine ⟨by rw [List.take_take]; congr 1; omega, ?_⟩
  rw [List.drop_take]; congr 1; omega
/-- a part that is told rightly holds -/
theorem holds_lay (gs : List Gt) (z V : List F) (k : Nat) (d : List F) (hd : 2 * k < d.length) (hV : V.length = 2 ^ k) (hk : k < 1000) (hG : GatesIn gs (2 ^ k)) (hz : gs.length = 2 ^ z.length) :
    holdsF gs z (evalF (layF V gs) z) k (partF gs z V k d) d = some (evalF V (nextZ k d)) := by
  have hx : (d.take k).length = k := by rw [List.length_take]; omega
  have hy : ((d.drop k).take k).length = k := by rw [List.length_take, List.length_drop]; omega
  have ht : told (sumAt gs z V k []) ((List.range (2 * k)).map fun j => roundAt gs z V k (d.take j)) (d.take (2 * k)) = some (sumAt gs z V k (d.take (2 * k))) := by
    unfold told
    have := told_lay gs z V k d (by omega) (2 * k) (Nat.le_refl _)
    rwa [List.length_map, List.length_range]
  have hl : ∀ t, lag (partL V (d.take k) ((d.drop k).take k)) t = evalF V (lineF (d.take k) ((d.drop k).take k) t) := fun t => lag_partL V _ _ (by rw [hx, hy]) (by rw [hx, hV]) (by rw [hx]; exact hk) t
  have h0 : lag (partL V (d.take k) ((d.drop k).take k)) 0 = evalF V (d.take k) := by rw [hl, lineF_zero _ _ (by rw [hx, hy])]
  have h1 : (if k = 0 then lag (partL V (d.take k) ((d.drop k).take k)) 0 else lag (partL V (d.take k) ((d.drop k).take k)) 1) = evalF V ((d.drop k).take k) := by
    by_cases hk0 : k = 0
    · rw [if_pos hk0, h0]; subst hk0; simp
    · rw [if_neg hk0, hl, lineF_one _ _ (by rw [hx, hy])]
  unfold holdsF partF
  simp only []
  rw [← sumAt_start gs z V k hV hG hz, ht]
  simp only []
  rw [h1, h0, sumAt_end gs z V k _ (by rw [List.length_take]; omega) hV hG, (take_part k d (by omega)).1, (take_part k d (by omega)).2, if_pos (show stepF gs z (d.take k) ((d.drop k).take k) (evalF V (d.take k)) (evalF V ((d.drop k).take k)) = stepAt gs z V (d.take k) ((d.drop k).take k) from rfl), hl]
  rfl
/-- where a right proof ends -/
def endZ (c : Ci) : Nat → List F → List F → List F
  | 0, z, _ => z
  | i + 1, _, d => endZ c i (nextZ (belowLog c i).toNat d) (d.drop (2 * (belowLog c i).toNat + 1))
/-- what is proved is held -/
theorem holds_right {c : Ci} (hg : Good c) (I : List F) (hI : I.length = 2 ^ c.log.toNat) : ∀ i, i ≤ c.layers.length → ∀ z d : List F, z.length = (belowLog c i).toNat → d.length = needFrom c i →
    holdsFrom c i z (evalF (valF c I i) z) (proofFrom c I i z d) d = some (evalF I (endZ c i z d), endZ c i z d)
  | 0, _, z, d, _, _ => rfl
  | i + 1, hi, z, d, hz, hd => by
    have hd' : d.length = 2 * (belowLog c i).toNat + 1 + needFrom c i := hd
    have hV := valF_length hg I hI i (by omega)
    have h4 := hg.below4 (k := i) (by omega)
    have h1 := holds_lay (aty c.layers i).gates z (valF c I i) (belowLog c i).toNat d (by omega) hV (by omega) (hg.gatesIn (by omega)) (by rw [hz, belowLog_succ]; exact hg.len i (by omega))
    have h2 := holds_right hg I hI i (by omega) (nextZ (belowLog c i).toNat d) (d.drop (2 * (belowLog c i).toNat + 1)) (nextZ_length _ d (by omega)) (by rw [List.length_drop]; omega)
    show (match holdsF (aty c.layers i).gates z (evalF (layF (valF c I i) (aty c.layers i).gates) z) (belowLog c i).toNat (partF (aty c.layers i).gates z (valF c I i) (belowLog c i).toNat d) d with
      | none => none
      | some cl' => holdsFrom c i (nextZ (belowLog c i).toNat d) cl' (proofFrom c I i (nextZ (belowLog c i).toNat d) (d.drop (2 * (belowLog c i).toNat + 1))) (d.drop (2 * (belowLog c i).toNat + 1))) = _
    rw [h1]
    exact h2
/-- wrong, and right at x -/
def Unlike (a b : List F) (x : F) : Prop := (lag a 0 ≠ lag b 0 ∨ lag a 1 ≠ lag b 1) ∧ lag a x = lag b x
/-- a part as it must be -/
structure Pt.Ok (P : Pt) (k : Nat) : Prop where
  n : P.rounds.length = 2 * k
  r : ∀ j, j < 2 * k → (P.rounds[j]?.getD []).length = 3
  l : P.line.length = k + 1
theorem toldTo_some {c y : F} {R : List (List F)} {D : List F} {k : Nat} (h : toldTo c R D (k + 1) = some y) :
    ∃ x, toldTo c R D k = some x ∧ atF (R[k]?.getD []) 0 + atF (R[k]?.getD []) 1 = x ∧ y = lag (R[k]?.getD []) (atF D k) := by
  simp only [toldTo] at h
  cases e : toldTo c R D k with
  | none => rw [e] at h; simp at h
  | some x =>
    rw [e] at h
    simp only [] at h
    split at h
    · rename_i h2
      exact ⟨x, rfl, h2, (Option.some.inj h).symm⟩
    · cases h
/-- rounds: a wrong claim that ends right -/
theorem lie_rounds (gs : List Gt) (z V : List F) (k : Nat) (d : List F) (hd : 2 * k ≤ d.length) (P : Pt) (hP : P.Ok k) (cl : F) (hne : cl ≠ sumAt gs z V k []) : ∀ j y, j ≤ 2 * k → toldTo cl P.rounds (d.take (2 * k)) j = some y → y = sumAt gs z V k (d.take j) →
    ∃ r, r < 2 * k ∧ Unlike (P.rounds[r]?.getD []) (roundAt gs z V k (d.take r)) (atF d r)
  | 0, y, _, h, e => by
    exfalso
    have h' : some cl = some y := h
    rw [List.take_zero] at e
    exact hne ((Option.some.inj h').trans e)
  | j + 1, y, hj, h, e => by
    obtain ⟨x, hx, hs, hy⟩ := toldTo_some h
    have hl : (d.take j).length = j := by rw [List.length_take]; omega
    have e2 : atF (d.take (2 * k)) j = atF d j := by simp [atF, show j < 2 * k by omega]
    rw [e2] at hy
    by_cases hxe : x = sumAt gs z V k (d.take j)
    · exact lie_rounds gs z V k d hd P hP cl hne j x (by omega) hx hxe
    · have h3 := hP.r j (by omega)
      refine ⟨j, by omega, ?_, ?_⟩
      · apply Classical.byContradiction
        intro hno
        have q0 : lag (P.rounds[j]?.getD []) 0 = lag (roundAt gs z V k (d.take j)) 0 := Classical.byContradiction fun q => hno (.inl q)
        have q1 : lag (P.rounds[j]?.getD []) 1 = lag (roundAt gs z V k (d.take j)) 1 := Classical.byContradiction fun q => hno (.inr q)
        have a0 : lag (P.rounds[j]?.getD []) 0 = atF (P.rounds[j]?.getD []) 0 := lag_at _ (by omega) 0 (by omega)
        have a1 : lag (P.rounds[j]?.getD []) 1 = atF (P.rounds[j]?.getD []) 1 := lag_at _ (by omega) 1 (by omega)
        apply hxe
        rw [← hs, ← a0, ← a1, q0, q1, lag_roundAt gs z V k _ (by omega), lag_roundAt gs z V k _ (by omega), sumAt_split gs z V k _ (by omega)]
      · rw [← hy, e, lag_roundAt gs z V k _ (by omega), ← take_snoc d j 0 (by omega)]
/-- a part of a wrong claim that ends right -/
theorem lie_part (gs : List Gt) (z V : List F) (k : Nat) (d : List F) (hd : 2 * k < d.length) (hV : V.length = 2 ^ k) (hk : k < 1000) (hG : GatesIn gs (2 ^ k)) (hz : gs.length = 2 ^ z.length) (P : Pt) (hP : P.Ok k) (cl cl' : F)
    (hne : cl ≠ evalF (layF V gs) z) (h : holdsF gs z cl k P d = some cl') (he : cl' = evalF V (nextZ k d)) :
    (∃ r, r < 2 * k ∧ Unlike (P.rounds[r]?.getD []) ((partF gs z V k d).rounds[r]?.getD []) (atF d r)) ∨ Unlike P.line (partF gs z V k d).line (atF d (2 * k)) := by
  have hx : (d.take k).length = k := by rw [List.length_take]; omega
  have hy : ((d.drop k).take k).length = k := by rw [List.length_take, List.length_drop]; omega
  have hl : ∀ t, lag (partL V (d.take k) ((d.drop k).take k)) t = evalF V (lineF (d.take k) ((d.drop k).take k) t) := fun t => lag_partL V _ _ (by rw [hx, hy]) (by rw [hx, hV]) (by rw [hx]; exact hk) t
  unfold holdsF at h
  cases ht : told cl P.rounds (d.take (2 * k)) with
  | none => rw [ht] at h; cases h
  | some now =>
    rw [ht] at h
    simp only [] at h
    by_cases hs : stepF gs z (d.take k) ((d.drop k).take k) (lag P.line 0) (if k = 0 then lag P.line 0 else lag P.line 1) = now
    · rw [if_pos hs] at h
      have hc := Option.some.inj h
      by_cases hn : now = sumAt gs z V k (d.take (2 * k))
      · left
        unfold told at ht
        rw [hP.n] at ht
        obtain ⟨r, hr, hu⟩ := lie_rounds gs z V k d (by omega) P hP cl (by rw [sumAt_start gs z V k hV hG hz]; exact hne) (2 * k) now (Nat.le_refl _) ht hn
        refine ⟨r, hr, ?_⟩
        have e : (partF gs z V k d).rounds[r]?.getD [] = roundAt gs z V k (d.take r) := by simp [partF, hr]
        rw [e]; exact hu
      · right
        refine ⟨?_, ?_⟩
        · apply Classical.byContradiction
          intro hno
          have q0 : lag P.line 0 = evalF V (d.take k) := by
            rw [show lag P.line 0 = lag (partL V (d.take k) ((d.drop k).take k)) 0 from Classical.byContradiction fun q => hno (.inl q), hl, lineF_zero _ _ (by rw [hx, hy])]
          have q1 : (if k = 0 then lag P.line 0 else lag P.line 1) = evalF V ((d.drop k).take k) := by
            by_cases hk0 : k = 0
            · rw [if_pos hk0, q0]; subst hk0; simp
            · rw [if_neg hk0, show lag P.line 1 = lag (partL V (d.take k) ((d.drop k).take k)) 1 from Classical.byContradiction fun q => hno (.inr q), hl, lineF_one _ _ (by rw [hx, hy])]
          apply hn
          rw [← hs, q1, q0, sumAt_end gs z V k _ (by rw [List.length_take]; omega) hV hG, (take_part k d (by omega)).1, (take_part k d (by omega)).2]
          rfl
        · rw [hc, he]
          exact (hl _).symm
    · rw [if_neg hs] at h; cases h
/-- somewhere a wrong polynomial is told that is right at its draw -/
inductive Lies (c : Ci) (I : List F) : Nat → List F → List Pt → List F → Prop
  | round (i : Nat) (z d : List F) (P : Pt) (ps : List Pt) (r : Nat) (hr : r < 2 * (belowLog c i).toNat) (h : Unlike (P.rounds[r]?.getD []) ((partF (aty c.layers i).gates z (valF c I i) (belowLog c i).toNat d).rounds[r]?.getD []) (atF d r)) : Lies c I (i + 1) z (P :: ps) d
  | line (i : Nat) (z d : List F) (P : Pt) (ps : List Pt) (h : Unlike P.line (partF (aty c.layers i).gates z (valF c I i) (belowLog c i).toNat d).line (atF d (2 * (belowLog c i).toNat))) : Lies c I (i + 1) z (P :: ps) d
  | more (i : Nat) (z d : List F) (P : Pt) (ps : List Pt) (h : Lies c I i (nextZ (belowLog c i).toNat d) ps (d.drop (2 * (belowLog c i).toNat + 1))) : Lies c I (i + 1) z (P :: ps) d
/-- parts as they must be -/
def PtsOk (c : Ci) : Nat → List Pt → Prop
  | 0, _ => True
  | _ + 1, [] => False
  | i + 1, P :: ps => P.Ok (belowLog c i).toNat ∧ PtsOk c i ps
theorem lies {c : Ci} (hg : Good c) (I : List F) (hI : I.length = 2 ^ c.log.toNat) : ∀ i, i ≤ c.layers.length → ∀ (z d : List F) (cl : F) (ps : List Pt) (cl' : F) (z' : List F), z.length = (belowLog c i).toNat → d.length = needFrom c i → PtsOk c i ps →
    cl ≠ evalF (valF c I i) z → holdsFrom c i z cl ps d = some (cl', z') → cl' = evalF I z' → Lies c I i z ps d
  | 0, _, z, d, cl, ps, cl', z', _, _, _, hne, h, he => by
    exfalso
    have h' : some (cl, z) = some (cl', z') := h
    cases h'
    exact hne he
  | i + 1, hi, z, d, cl, [], cl', z', _, _, hp, _, _, _ => hp.elim
  | i + 1, hi, z, d, cl, P :: ps, cl', z', hz, hd, ⟨hP, hps⟩, hne, h, he => by
    have hd' : d.length = 2 * (belowLog c i).toNat + 1 + needFrom c i := hd
    have hV := valF_length hg I hI i (by omega)
    have h4 := hg.below4 (k := i) (by omega)
    have h' : (match holdsF (aty c.layers i).gates z cl (belowLog c i).toNat P d with
      | none => none
      | some cl' => holdsFrom c i (nextZ (belowLog c i).toNat d) cl' ps (d.drop (2 * (belowLog c i).toNat + 1))) = some (cl', z') := h
    cases e : holdsF (aty c.layers i).gates z cl (belowLog c i).toNat P d with
    | none => rw [e] at h'; cases h'
    | some c2 =>
      rw [e] at h'
      simp only [] at h'
      by_cases hc : c2 = evalF (valF c I i) (nextZ (belowLog c i).toNat d)
      · rcases lie_part (aty c.layers i).gates z (valF c I i) (belowLog c i).toNat d (by omega) hV (by omega) (hg.gatesIn (by omega)) (by rw [hz, belowLog_succ]; exact hg.len i (by omega)) P hP cl c2 hne e hc with ⟨r, hr, hu⟩ | hu
        · exact .round i z d P ps r hr hu
        · exact .line i z d P ps hu
      · exact .more i z d P ps (lies hg I hI i (by omega) _ _ c2 ps cl' z' (nextZ_length _ d (by omega)) (by rw [List.length_drop]; omega) hps hc h' he)
end Go.Proofs.YtlfneeobnihocaaGreatDoor
