/- Plain law: the tables of a layer, and what is told of it; no program in sight, no condition. -/
import Derived.Test.YtnleihjdllpniaaDoorCircM
import Derived.Test.YtnleihjdllpniaaDoorPoly
namespace Go.Proofs.YtnleihjdllpniaaDoor
set_option maxRecDepth 100000
set_option linter.unusedVariables false
open Tally
theorem sumTo_mul2 (f : Nat → F) (m n : Nat) : sumTo f (m * n) = sumTo (fun a => sumTo (fun b => f (a * n + b)) n) m := by
  induction m with
  | zero => rw [Nat.zero_mul]; rfl
  | succ m ih =>
    rw [Nat.succ_mul, sumTo_split, ih]
    show _ = sumTo _ m + _
    congr 1
    exact sumTo_congr fun b _ => by rw [Nat.add_comm]
theorem sumTo_mulr (c : F) (f : Nat → F) (n : Nat) : sumTo (fun k => f k * c) n = sumTo f n * c := by
  rw [show (fun k => f k * c) = fun k => c * f k from funext fun k => by grind, sumTo_mul]; grind
theorem eqAt_append (x y : List F) : ∀ i, eqAt (x ++ y) i = eqAt x (i / 2 ^ y.length) * eqAt y (i % 2 ^ y.length) := by
  refine snoc_ind (Q := fun y => ∀ i, eqAt (x ++ y) i = eqAt x (i / 2 ^ y.length) * eqAt y (i % 2 ^ y.length)) ?_ ?_ y
  · intro i; rw [List.append_nil, List.length_nil, Nat.pow_zero, Nat.div_one, eqAt_nil, mul_one']
  · intro y u ih i
    rw [← List.append_assoc, eqAt_snoc, ih, eqAt_snoc, List.length_append, List.length_singleton]
    rw [Nat.pow_succ, Nat.mul_comm (2 ^ y.length) 2, Nat.mod_mul_right_mod, Nat.mod_mul_right_div_self, Nat.div_div_eq_div_mul]
    grind
theorem bits_join (a b m : Nat) : ∀ k (_ : b < 2 ^ k), bitsF (a * 2 ^ k + b) (m + k) = bitsF a m ++ bitsF b k := by
  intro k
  induction k generalizing b with
  | zero =>
    intro hb
    have : b = 0 := by simpa using hb
    subst this
    simp [bitsF]
  | succ k ih =>
    intro hb
    rw [Nat.pow_succ] at hb
    have e1 : (a * 2 ^ (k + 1) + b) / 2 = a * 2 ^ k + b / 2 := by
      rw [Nat.pow_succ, show a * (2 ^ k * 2) = 2 * (a * 2 ^ k) by rw [← Nat.mul_assoc, Nat.mul_comm], Nat.mul_add_div (by decide)]
    have e2 : (a * 2 ^ (k + 1) + b) % 2 = b % 2 := by
      rw [Nat.pow_succ, show a * (2 ^ k * 2) = 2 * (a * 2 ^ k) by rw [← Nat.mul_assoc, Nat.mul_comm], Nat.mul_add_mod]
    rw [← Nat.add_assoc]
    show bitsF ((a * 2 ^ (k + 1) + b) / 2) (m + k) ++ [if (a * 2 ^ (k + 1) + b) % 2 = 1 then 1 else 0] = bitsF a m ++ (bitsF (b / 2) k ++ [if b % 2 = 1 then 1 else 0])
    rw [e1, e2, ih (b / 2) (by omega), List.append_assoc]
/-- the table of the gates of a sort -/
def wireTab (gs : List Gt) (mul : Bool) (z : List F) (n : Nat) : List F := (List.range (n * n)).map fun q => sumTo (fun g => if (atg gs g).mul = mul ∧ (atg gs g).a.toNat * n + (atg gs g).b.toNat = q then eqAt z g else 0) gs.length
/-- the four tables of a layer -/
def layT (gs : List Gt) (z V : List F) (n : Nat) : Tb := ⟨wireTab gs false z n, wireTab gs true z n, (List.range (n * n)).map fun q => atF V (q / n), (List.range (n * n)).map fun q => atF V (q % n)⟩
theorem layT_len (gs : List Gt) (z V : List F) (n : Nat) : (layT gs z V n).Len (n * n) := ⟨by simp [layT, wireTab], by simp [layT, wireTab], by simp [layT], by simp [layT]⟩
theorem sq_pow (k : Nat) : 2 ^ k * 2 ^ k = 2 ^ (2 * k) := by rw [← Nat.pow_add]; congr 1; omega
theorem range_at {n : Nat} (f : Nat → F) (i : Nat) (h : i < n) : atF ((List.range n).map f) i = f i := by simp [atF, h]
/-- all gates lie within -/
def GatesIn (gs : List Gt) (n : Nat) : Prop := ∀ j, j < gs.length → (atg gs j).a.toNat < n ∧ (atg gs j).b.toNat < n
theorem idx_lt {a b n : Nat} (ha : a < n) (hb : b < n) : a * n + b < n * n := by
  have : (a + 1) * n ≤ n * n := Nat.mul_le_mul_right n (by omega)
  rw [Nat.succ_mul] at this; omega
theorem idx_div {a b n : Nat} (hb : b < n) : (a * n + b) / n = a := by
  rw [Nat.mul_comm, Nat.mul_add_div (by omega), Nat.div_eq_of_lt hb, Nat.add_zero]
theorem idx_mod {a b n : Nat} (hb : b < n) : (a * n + b) % n = b := by
  rw [Nat.mul_comm, Nat.mul_add_mod, Nat.mod_eq_of_lt hb]
theorem eval_wire (gs : List Gt) (mul : Bool) (z x y : List F) (n : Nat) (hy : y.length = x.length) (hn : n = 2 ^ x.length) (hG : GatesIn gs n) : evalF (wireTab gs mul z n) (x ++ y) = wiredF gs mul z x y := by
  have hl : (wireTab gs mul z n).length = n * n := by simp [wireTab]
  have hN : n * n = 2 ^ (x ++ y).length := by rw [hn, sq_pow, List.length_append, hy]; congr 1; omega
  rw [eval_dot _ _ (by rw [hl, hN])]
  unfold dotEq wiredF
  rw [hl]
  have e1 : sumTo (fun b => atF (wireTab gs mul z n) b * eqAt (x ++ y) b) (n * n) = sumTo (fun b => sumTo (fun g => (if (atg gs g).mul = mul ∧ (atg gs g).a.toNat * n + (atg gs g).b.toNat = b then eqAt z g else 0) * eqAt (x ++ y) b) gs.length) (n * n) :=
    sumTo_congr fun b hb => by
      unfold wireTab
      rw [range_at _ b hb, sumTo_mulr]
  rw [e1, sumTo_swap]
  refine sumTo_congr fun g hg => ?_
  obtain ⟨hA, hB⟩ := hG g hg
  unfold wireT
  by_cases hm : (atg gs g).mul = mul
  · rw [if_pos hm, sumTo_one _ (n * n) ((atg gs g).a.toNat * n + (atg gs g).b.toNat) (idx_lt hA hB)]
    · rw [if_pos ⟨hm, rfl⟩, eqAt_append, hy, ← hn, idx_div hB, idx_mod hB]
    · intro k _ hne
      rw [if_neg (fun h => hne h.2.symm)]; exact zero_mul' _
  · rw [if_neg hm]
    refine sumTo_zero _ _ fun k _ => ?_
    rw [if_neg (fun h => hm h.1)]; exact zero_mul' _
theorem eval_vx (V x y : List F) (n : Nat) (hy : y.length = x.length) (hn : n = 2 ^ x.length) (hV : V.length = n) : evalF ((List.range (n * n)).map fun q => atF V (q / n)) (x ++ y) = evalF V x := by
  have hN : n * n = 2 ^ (x ++ y).length := by rw [hn, sq_pow, List.length_append, hy]; congr 1; omega
  rw [eval_dot _ _ (by simpa using hN), eval_dot V x (by rw [hV, hn])]
  unfold dotEq
  rw [List.length_map, List.length_range, sumTo_mul2, hV]
  refine sumTo_congr fun a ha => ?_
  rw [sumTo_congr (g := fun b => (atF V a * eqAt x a) * eqAt y b) (fun b hb => by
    rw [range_at _ _ (idx_lt ha hb), eqAt_append, hy, ← hn, idx_div hb, idx_mod hb]; grind)]
  rw [sumTo_mul, show n = 2 ^ y.length by rw [hn, hy], sum_eqs, mul_one']
theorem eval_vy (V x y : List F) (n : Nat) (hy : y.length = x.length) (hn : n = 2 ^ x.length) (hV : V.length = n) : evalF ((List.range (n * n)).map fun q => atF V (q % n)) (x ++ y) = evalF V y := by
  have hN : n * n = 2 ^ (x ++ y).length := by rw [hn, sq_pow, List.length_append, hy]; congr 1; omega
  rw [eval_dot _ _ (by simpa using hN), eval_dot V y (by rw [hV, hn, hy])]
  unfold dotEq
  rw [List.length_map, List.length_range, sumTo_mul2]
  rw [sumTo_congr (g := fun a => eqAt x a * sumTo (fun b => atF V b * eqAt y b) n) (fun a ha => by
    rw [← sumTo_mul]
    exact sumTo_congr fun b hb => by rw [range_at _ _ (idx_lt ha hb), eqAt_append, hy, ← hn, idx_div hb, idx_mod hb]; grind)]
  rw [sumTo_mulr, show sumTo (fun a => eqAt x a) n = 1 by rw [hn]; exact sum_eqs x, one_mul', hV]
/-- what a step of a layer tells at x and y -/
def stepAt (gs : List Gt) (z V x y : List F) : F := stepF gs z x y (evalF V x) (evalF V y)
/-- the sum of what is left, fixed at p, is that of all steps behind p -/
theorem sum_fixes (gs : List Gt) (z V : List F) (k m : Nat) (p : List F) (hV : V.length = 2 ^ k) (hG : GatesIn gs (2 ^ k)) (hp : p.length + m = 2 * k) :
    ((layT gs z V (2 ^ k)).fixes p).sum = sumTo (fun b => stepAt gs z V ((p ++ bitsF b m).take k) ((p ++ bitsF b m).drop k)) (2 ^ m) := by
  have hL : (layT gs z V (2 ^ k)).Len (2 ^ (p.length + m)) := by rw [hp, ← sq_pow]; exact layT_len gs z V (2 ^ k)
  unfold Tb.sum
  rw [(hL.fixes p).a]
  refine sumTo_congr fun b hb => ?_
  have hq : (p ++ bitsF b m).length = 2 * k := by rw [List.length_append, bitsF_length]; exact hp
  have hsp : p ++ bitsF b m = (p ++ bitsF b m).take k ++ (p ++ bitsF b m).drop k := (List.take_append_drop k _).symm
  have hx : ((p ++ bitsF b m).take k).length = k := by rw [List.length_take, hq]; omega
  have hy : ((p ++ bitsF b m).drop k).length = k := by rw [List.length_drop, hq]; omega
  rw [Tb.fixes_eq]
  show atF (fixes _ p) b * (atF (fixes _ p) b + atF (fixes _ p) b) + atF (fixes _ p) b * (atF (fixes _ p) b * atF (fixes _ p) b) = _
  rw [← eval_ahead _ p b m hL.a hb, ← eval_ahead _ p b m hL.m hb, ← eval_ahead _ p b m hL.x hb, ← eval_ahead _ p b m hL.y hb]
  generalize (p ++ bitsF b m).take k = X at *
  generalize (p ++ bitsF b m).drop k = Y at *
  rw [hsp]
  show evalF (wireTab gs false z (2 ^ k)) _ * (evalF ((List.range (2 ^ k * 2 ^ k)).map fun q => atF V (q / 2 ^ k)) _ + evalF ((List.range (2 ^ k * 2 ^ k)).map fun q => atF V (q % 2 ^ k)) _) + evalF (wireTab gs true z (2 ^ k)) _ * (evalF ((List.range (2 ^ k * 2 ^ k)).map fun q => atF V (q / 2 ^ k)) _ * evalF ((List.range (2 ^ k * 2 ^ k)).map fun q => atF V (q % 2 ^ k)) _) = _
  rw [eval_wire gs false z X Y _ (by rw [hx, hy]) (by rw [hx]) hG, eval_wire gs true z X Y _ (by rw [hx, hy]) (by rw [hx]) hG, eval_vx V X Y _ (by rw [hx, hy]) (by rw [hx]) hV, eval_vy V X Y _ (by rw [hx, hy]) (by rw [hx]) hV]
  rfl
/-- a layer's value at a point is the sum of all steps -/
theorem layer_tells (gs : List Gt) (z V : List F) (k : Nat) (hG : GatesIn gs (2 ^ k)) (hz : gs.length = 2 ^ z.length) :
    evalF (layF V gs) z = sumTo (fun a => sumTo (fun b => stepF gs z (bitsF a k) (bitsF b k) (atF V a) (atF V b)) (2 ^ k)) (2 ^ k) := by
  rw [eval_dot _ _ (by rw [layF_length, hz])]
  unfold dotEq
  rw [layF_length]
  have one : ∀ g, g < gs.length → ∀ a, a < 2 ^ k → ∀ b, b < 2 ^ k → ∀ mul, wireT gs mul z (bitsF a k) (bitsF b k) g = if (atg gs g).mul = mul ∧ (atg gs g).a.toNat = a ∧ (atg gs g).b.toNat = b then eqAt z g else 0 := by
    intro g hg a ha b hb mul
    obtain ⟨hA, hB⟩ := hG g hg
    unfold wireT
    rw [eqAt_bits a _ k ha hA, eqAt_bits b _ k hb hB]
    by_cases h1 : (atg gs g).mul = mul <;> by_cases h2 : a = (atg gs g).a.toNat <;> by_cases h3 : b = (atg gs g).b.toNat <;>
      simp [h1, h2, h3, eq_comm] <;> grind
  have tot : ∀ a, a < 2 ^ k → ∀ b, b < 2 ^ k → stepF gs z (bitsF a k) (bitsF b k) (atF V a) (atF V b) = sumTo (fun g => if (atg gs g).a.toNat = a ∧ (atg gs g).b.toNat = b then gateF V (atg gs g) * eqAt z g else 0) gs.length := by
    intro a ha b hb
    unfold stepF wiredF
    rw [← sumTo_mulr, ← sumTo_mulr, ← sumTo_add]
    refine sumTo_congr fun g hg => ?_
    rw [one g hg a ha b hb false, one g hg a ha b hb true]
    unfold gateF
    by_cases h : (atg gs g).a.toNat = a ∧ (atg gs g).b.toNat = b
    · obtain ⟨ha', hb'⟩ := h
      rw [if_pos (⟨ha', hb'⟩ : (atg gs g).a.toNat = a ∧ (atg gs g).b.toNat = b), ha', hb']
      cases hm : (atg gs g).mul with
      | false =>
        rw [if_pos ⟨rfl, rfl, rfl⟩, if_neg (fun e => by cases e.1), zero_mul', add_zero']
        simp only [Bool.false_eq_true, if_false]; grind
      | true =>
        rw [if_neg (fun e => by cases e.1), if_pos ⟨rfl, rfl, rfl⟩, zero_mul', zero_add']
        simp only [if_true]; grind
    · rw [if_neg (fun e => h e.2), if_neg (fun e => h e.2), if_neg h, zero_mul', zero_mul', add_zero']
  rw [sumTo_congr (f := fun a => sumTo (fun b => stepF gs z (bitsF a k) (bitsF b k) (atF V a) (atF V b)) (2 ^ k)) (g := fun a => sumTo (fun g => sumTo (fun b => if (atg gs g).a.toNat = a ∧ (atg gs g).b.toNat = b then gateF V (atg gs g) * eqAt z g else 0) (2 ^ k)) gs.length) (fun a ha => by
    rw [sumTo_congr (fun b hb => tot a ha b hb), sumTo_swap])]
  rw [sumTo_swap]
  refine sumTo_congr fun g hg => ?_
  obtain ⟨hA, hB⟩ := hG g hg
  rw [sumTo_one _ (2 ^ k) (atg gs g).a.toNat hA (fun a _ hne => sumTo_zero _ _ fun b _ => by rw [if_neg (fun e => hne e.1.symm)])]
  rw [sumTo_one _ (2 ^ k) (atg gs g).b.toNat hB (fun b _ hne => by rw [if_neg (fun e => hne e.2.symm)])]
  rw [if_pos ⟨rfl, rfl⟩, layF_at V gs g hg]
/-- in the first k fixings y stays, in the others x -/
structure Split (T : Tb) (k j : Nat) : Prop where
  y : j ≤ k → ∀ i, i < 2 ^ (2 * k - j) → atF T.y i = atF T.y (i % 2 ^ k)
  x : ∀ i i', i < 2 ^ (2 * k - j) → i' < 2 ^ (2 * k - j) → i / 2 ^ k = i' / 2 ^ k → atF T.x i = atF T.x i'
theorem split_start (gs : List Gt) (z V : List F) (k : Nat) : Split (layT gs z V (2 ^ k)) k 0 := by
  refine ⟨fun _ i hi => ?_, fun i i' hi hi' e => ?_⟩
  · rw [Nat.sub_zero, ← sq_pow] at hi
    show atF ((List.range _).map _) _ = atF ((List.range _).map _) _
    have hm : i % 2 ^ k < 2 ^ k := Nat.mod_lt _ (Nat.pow_pos (by decide))
    rw [range_at _ i hi, range_at _ (i % 2 ^ k) (Nat.lt_of_lt_of_le hm (Nat.le_mul_of_pos_left _ (Nat.pow_pos (by decide)))), Nat.mod_mod]
  · rw [Nat.sub_zero, ← sq_pow] at hi hi'
    show atF ((List.range _).map _) _ = atF ((List.range _).map _) _
    rw [range_at _ i hi, range_at _ i' hi', e]
theorem Split.half {T : Tb} {k j : Nat} (h : Split T k j) (hj : j < 2 * k) : T.Half (2 ^ (2 * k - (j + 1))) := by
  intro i hi
  have e : 2 ^ (2 * k - j) = 2 ^ (2 * k - (j + 1)) + 2 ^ (2 * k - (j + 1)) := by
    rw [show 2 * k - j = (2 * k - (j + 1)) + 1 by omega, Nat.pow_succ]; omega
  rcases Nat.lt_or_ge j k with hk | hk
  · right
    rw [h.y (by omega) i (by omega), h.y (by omega) (i + _) (by omega)]
    have : 2 ^ (2 * k - (j + 1)) = 2 ^ k * 2 ^ (k - (j + 1)) := by rw [← Nat.pow_add]; congr 1; omega
    rw [this, Nat.add_mul_mod_self_left]
  · left
    have hle : 2 ^ (2 * k - j) ≤ 2 ^ k := Nat.pow_le_pow_right (by decide) (by omega)
    refine h.x _ _ (by omega) (by omega) ?_
    rw [Nat.div_eq_of_lt (by omega), Nat.div_eq_of_lt (by omega)]
theorem Split.fix {T : Tb} {k j : Nat} (h : Split T k j) (hj : j < 2 * k) (hL : T.Len (2 ^ (2 * k - j))) (u : F) : Split (T.fix u) k (j + 1) := by
  have e : 2 ^ (2 * k - j) = 2 * 2 ^ (2 * k - (j + 1)) := by
    rw [show 2 * k - j = (2 * k - (j + 1)) + 1 by omega, Nat.pow_succ]; omega
  have hf : ∀ l : List F, l.length = 2 ^ (2 * k - j) → ∀ i, i < 2 ^ (2 * k - (j + 1)) → atF (fixF l u) i = btw (atF l i) (atF l (i + 2 ^ (2 * k - (j + 1)))) u := fun l hl i hi => by
    rw [fixF_at l u i (by omega), show l.length / 2 = 2 ^ (2 * k - (j + 1)) by omega]
  refine ⟨fun hjk i hi => ?_, fun i i' hi hi' hd => ?_⟩
  · have hle : 2 ^ k ≤ 2 ^ (2 * k - (j + 1)) := Nat.pow_le_pow_right (by decide) (by omega)
    have hm : i % 2 ^ k < 2 ^ k := Nat.mod_lt _ (Nat.pow_pos (by decide))
    have e2 : 2 ^ (2 * k - (j + 1)) = 2 ^ k * 2 ^ (k - (j + 1)) := by rw [← Nat.pow_add]; congr 1; omega
    show atF (fixF T.y u) i = atF (fixF T.y u) (i % 2 ^ k)
    rw [hf _ hL.y i hi, hf _ hL.y (i % 2 ^ k) (by omega)]
    have a1 := h.y (by omega) i (by omega)
    have a2 := h.y (by omega) (i + 2 ^ (2 * k - (j + 1))) (by omega)
    have a3 := h.y (by omega) (i % 2 ^ k + 2 ^ (2 * k - (j + 1))) (by omega)
    rw [e2, Nat.add_mul_mod_self_left, ← e2] at a2 a3
    rw [Nat.mod_mod] at a3
    rw [a1, a2, a3]
  · show atF (fixF T.x u) i = atF (fixF T.x u) i'
    rw [hf _ hL.x i hi, hf _ hL.x i' hi', h.x i i' (by omega) (by omega) hd]
    congr 1
    refine h.x _ _ (by omega) (by omega) ?_
    rcases Nat.lt_or_ge j k with hk | hk
    · have e2 : 2 ^ (2 * k - (j + 1)) = 2 ^ k * 2 ^ (k - (j + 1)) := by rw [← Nat.pow_add]; congr 1; omega
      rw [e2, Nat.add_mul_div_left _ _ (Nat.pow_pos (by decide)), Nat.add_mul_div_left _ _ (Nat.pow_pos (by decide)), hd]
    · have hle : 2 ^ (2 * k - j) ≤ 2 ^ k := Nat.pow_le_pow_right (by decide) (by omega)
      rw [Nat.div_eq_of_lt (by omega), Nat.div_eq_of_lt (by omega)]
/-- a layer's tables, fixed at p -/
theorem lay_fixes (gs : List Gt) (z V : List F) (k : Nat) (p : List F) (hp : p.length ≤ 2 * k) : ((layT gs z V (2 ^ k)).fixes p).Len (2 ^ (2 * k - p.length)) ∧ Split ((layT gs z V (2 ^ k)).fixes p) k p.length := by
  revert hp
  refine snoc_ind (Q := fun p => p.length ≤ 2 * k → ((layT gs z V (2 ^ k)).fixes p).Len (2 ^ (2 * k - p.length)) ∧ Split ((layT gs z V (2 ^ k)).fixes p) k p.length) ?_ ?_ p
  · intro _
    refine ⟨?_, split_start gs z V k⟩
    rw [List.length_nil, Nat.sub_zero, ← sq_pow]; exact layT_len gs z V (2 ^ k)
  · intro p u ih hp
    rw [List.length_append, List.length_singleton] at hp ⊢
    obtain ⟨h1, h2⟩ := ih (by omega)
    rw [Tb.fixes_snoc]
    refine ⟨Tb.Len.fix ?_ u, h2.fix (by omega) h1 u⟩
    have e : 2 ^ (2 * k - p.length) = 2 * 2 ^ (2 * k - (p.length + 1)) := by
      rw [show 2 * k - p.length = (2 * k - (p.length + 1)) + 1 by omega, Nat.pow_succ]; omega
    rwa [← e]
/-- what is claimed behind p -/
def sumAt (gs : List Gt) (z V : List F) (k : Nat) (p : List F) : F := ((layT gs z V (2 ^ k)).fixes p).sum
/-- the round that is told behind p -/
def roundAt (gs : List Gt) (z V : List F) (k : Nat) (p : List F) : List F := ((layT gs z V (2 ^ k)).fixes p).round
theorem roundAt_length (gs : List Gt) (z V : List F) (k : Nat) (p : List F) : (roundAt gs z V k p).length = 3 := Tb.round_length _
theorem lag_roundAt (gs : List Gt) (z V : List F) (k : Nat) (p : List F) (hp : p.length < 2 * k) (u : F) : lag (roundAt gs z V k p) u = sumAt gs z V k (p ++ [u]) := by
  obtain ⟨h1, h2⟩ := lay_fixes gs z V k p (by omega)
  have e : 2 ^ (2 * k - p.length) = 2 * 2 ^ (2 * k - (p.length + 1)) := by
    rw [show 2 * k - p.length = (2 * k - (p.length + 1)) + 1 by omega, Nat.pow_succ]; omega
  unfold roundAt sumAt
  rw [Tb.fixes_snoc, Tb.lag_round (by rw [← e]; exact h1) (h2.half hp) u]
theorem sumAt_split (gs : List Gt) (z V : List F) (k : Nat) (p : List F) (hp : p.length < 2 * k) : sumAt gs z V k (p ++ [0]) + sumAt gs z V k (p ++ [1]) = sumAt gs z V k p := by
  obtain ⟨h1, _⟩ := lay_fixes gs z V k p (by omega)
  have e : 2 ^ (2 * k - p.length) = 2 * 2 ^ (2 * k - (p.length + 1)) := by
    rw [show 2 * k - p.length = (2 * k - (p.length + 1)) + 1 by omega, Nat.pow_succ]; omega
  unfold sumAt
  rw [Tb.fixes_snoc, Tb.fixes_snoc, Tb.sum_split (by rw [← e]; exact h1)]
theorem sumAt_end (gs : List Gt) (z V : List F) (k : Nat) (p : List F) (hp : p.length = 2 * k) (hV : V.length = 2 ^ k) (hG : GatesIn gs (2 ^ k)) : sumAt gs z V k p = stepAt gs z V (p.take k) (p.drop k) := by
  unfold sumAt
  rw [sum_fixes gs z V k 0 p hV hG (by omega)]
  simp only [bitsF, List.append_nil, Nat.pow_zero, sumTo]
  exact zero_add' _
theorem sumAt_start (gs : List Gt) (z V : List F) (k : Nat) (hV : V.length = 2 ^ k) (hG : GatesIn gs (2 ^ k)) (hz : gs.length = 2 ^ z.length) : sumAt gs z V k [] = evalF (layF V gs) z := by
  unfold sumAt
  rw [sum_fixes gs z V k (2 * k) [] hV hG (by simp), layer_tells gs z V k hG hz, ← sq_pow, sumTo_mul2]
  refine sumTo_congr fun a ha => sumTo_congr fun b hb => ?_
  have e : bitsF (a * 2 ^ k + b) (2 * k) = bitsF a k ++ bitsF b k := by
    have := bits_join a b k k hb
    rwa [show k + k = 2 * k by omega] at this
  rw [List.nil_append, e, List.take_left' (bitsF_length a k), List.drop_left' (bitsF_length a k)]
  unfold stepAt
  rw [eval_bits V a k hV ha, eval_bits V b k hV hb]
end Go.Proofs.YtnleihjdllpniaaDoor
