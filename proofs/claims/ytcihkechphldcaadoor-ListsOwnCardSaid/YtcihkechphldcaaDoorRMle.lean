/- The walks of the reference's tables: Eval, bits, joined, Fix, Partial. The lists are slices of 64-bit numbers; tables have 2^n numbers, n to 8. -/
import Derived.Test.YtcihkechphldcaaDoorKeepM
import Derived.Test.YtcihkechphldcaaDoorFar
import Derived.Test.YtcihkechphldcaaDoorOpen
import Derived.IntWalk
import Derived.Laws.AppendOwnNone
import Derived.Deep.RegionHeld3
namespace Go.Proofs.YtcihkechphldcaaDoor
set_option maxRecDepth 100000
set_option linter.unusedVariables false
open Go.RowKit Tally
/-- append of a list -/
theorem wpList_appL {ops : Array Oper} {rest : List Oper} {o : Oper} {a : Act} {Q : Exit → Act → World → Prop} {w : World} (hgd : o.guard = none) (s x : Operand)
    (ho : o.op = .call { callee := .builtin .append, args := #[s, x], argTypes := #[22, 22] })
    (B : Nat) (v : Value) (l : List Int) (hs : a.eval s = v) (hown : NewU B w v l) (u : Value) (m : List Int) (hx : a.eval x = u) (hu : RowU w u m) (hnil : NilOk u)
    (hlen : l.length + m.length ≤ 17592186043904) (hB : B ≤ w.heap.size)
    (h : ∀ v' w', NewU B w' v' (l ++ m) → Below B w w' → wpList Tryd.prog ops Q rest (a.put o.dst v') w') : wpList Tryd.prog ops Q (o :: rest) a w := by
  obtain ⟨i0, hi1, hz0, hz1, hz2⟩ := info_parts Tryd.infoU
  obtain ⟨hu1, hu2, ad, cap, rfl, hu3⟩ := hu
  have hU : ∀ x ∈ l ++ m, U64 x := fun x hx => by
    rcases List.mem_append.mp hx with hx | hx
    · exact hown.1 x hx
    · exact hu1 x hx
  have hlt := hown.2.2.lt
  have main : ∀ (ad : Addr), (a.eval x = .slice (some ad) m.length cap) → (∀ j u, (m.map (Value.int .u64))[j]? = some u → w.cell? (ad.add j) = some u) → wpList Tryd.prog ops Q (o :: rest) a w := by
    intro ad hx hnews
    refine wpList_append_own _ hgd s x _ ho B 31 i0 (.int .u64 0) 1 8 Tryd.underlying22 hi1 hz0 hz1 hz2 rfl (by decide) v l.length _ hs hown.2.2 ad m.length cap (m.map (Value.int .u64)) hx (by simp) hnews
      (by intro y hy; obtain ⟨x, _, rfl⟩ := List.mem_map.mp hy; rfl) (by unfold maxLen; omega) (by omega) hB ?_
    intro v' w' h1 h2 _
    exact h v' w' ⟨hU, by simp; omega, by simpa using h1⟩ ((Below.refl B w).grown h2 hB fun k hk => (hlt k hk).1)
  rcases Nat.eq_zero_or_pos m.length with h0 | h0
  · have hm : m = [] := List.eq_nil_of_length_eq_zero h0
    subst hm
    cases ad with
    | none =>
      obtain rfl : cap = 0 := hnil _ _ rfl
      refine wpList_append_own_none hgd s x _ ho B 31 i0 1 Tryd.underlying22 hi1 v l.length _ hs hown.2.2 hx ?_
      exact h v w (by rw [List.append_nil]; exact hown) (Below.refl _ _)
    | some ad => exact main ad hx (fun j u hu => by simp at hu)
  · obtain ⟨b, off, rfl, _, hc⟩ := hu3 h0
    refine main _ hx fun j u hu => ?_
    have hj : j < m.length := by
      rcases Nat.lt_or_ge j m.length with h' | h'
      · exact h'
      · rw [List.getElem?_eq_none (by simp; omega)] at hu; cases hu
    rw [Addr.add_lit, hc j hj]
    simpa [at0, hj] using hu
theorem eval_step (t p : List Int) (b : Nat) (c : Int) (hb : b < t.length) (h : c = psi (sumTo (fun b => atF (t.map phi) b * eqAt (p.map phi) b) b)) :
    psi (phi c + phi (psi (phi (at0 t b) * phi (psi (eqAt (p.map phi) b))))) = psi (sumTo (fun b => atF (t.map phi) b * eqAt (p.map phi) b) (b + 1)) := by
  rw [h, phi_psi, phi_psi, phi_psi, sumTo, atF_map t b hb]
/-- bits as numbers -/
def bitsI (b n : Nat) : List Int := (bitsF b n).map psi
theorem bitsI_step (b j n : Nat) (h0 : 0 < j) (hj : j ≤ n) : bitsI (b / 2 ^ (j - 1)) (n - (j - 1)) = bitsI (b / 2 ^ j) (n - j) ++ [((b / 2 ^ (j - 1) % 2 : Nat) : Int)] := by
  unfold bitsI
  rw [show n - (j - 1) = (n - j) + 1 by omega, bitsF, List.map_append]
  have e : b / 2 ^ (j - 1) / 2 = b / 2 ^ j := by rw [Nat.div_div_eq_div_mul, ← Nat.pow_succ, show (j - 1).succ = j by omega]
  rw [e]
  congr 1
  rw [List.map_cons, List.map_nil]
  congr 1
  split <;> rename_i hc
  · rw [hc]; exact psi_one
  · rw [show b / 2 ^ (j - 1) % 2 = 0 by omega]; exact psi_zero
theorem shr_bit (b k : Nat) : ((b : Int) / 2 ^ k).tmod 2 = ((b / 2 ^ k % 2 : Nat) : Int) := by
  have e : ((b : Int) / 2 ^ k) = ((b / 2 ^ k : Nat) : Int) := by simp
  rw [e]; generalize b / 2 ^ k = m
  rw [Int.tmod_eq_emod_of_nonneg (by omega)]; omega
/-- v is a slice of slices that reads as ll; what has no memory has no room -/
def RowUN (w : World) (v : Value) (ll : List (List Int)) : Prop :=
  ll.length ≤ 9223372036854775807 ∧ ∃ a cap, v = .slice a ll.length cap ∧
    (0 < ll.length → ∃ b off, a = some ⟨b, off, none⟩ ∧ b < w.heap.size ∧ ∀ j, j < ll.length → ∃ u, w.cell? ⟨b, off + j, none⟩ = some u ∧ RowU w u (atl ll j) ∧ NilOk u)
theorem RowUN.rows {w : World} {v : Value} {ll : List (List Int)} (h : RowUN w v ll) : RowUU w v ll := by
  obtain ⟨h1, a, cap, rfl, h2⟩ := h
  refine ⟨h1, a, cap, rfl, fun h0 => ?_⟩
  obtain ⟨b, off, e, hlt, hc⟩ := h2 h0
  exact ⟨b, off, e, hlt, fun j hj => let ⟨u, c1, c2, _⟩ := hc j hj; ⟨u, c1, c2⟩⟩
theorem RowUN.lit1 (w : World) (v : Value) (l : List Int) (n : Nat) (h : RowU w v l) (hv : NilOk v) (hn : w.heap.size = n) : RowUN (w.alloc (.cells #[v] 22)) (.slice (some ⟨n, 0, none⟩) 1 1) [l] := by
  subst hn
  refine ⟨by simp, _, 1, rfl, fun _ => ⟨w.heap.size, 0, rfl, by simp, fun j hj => ?_⟩⟩
  obtain rfl : j = 0 := by simp at hj; omega
  exact ⟨v, by rw [World.cell?_alloc_at _ _ _ _ rfl]; rfl, h.more _, hv⟩
theorem RowUN.lit2 (w : World) (v v2 : Value) (l l2 : List Int) (n : Nat) (h : RowU w v l) (hv : NilOk v) (h2 : RowU w v2 l2) (hv2 : NilOk v2) (hn : w.heap.size = n) : RowUN (w.alloc (.cells #[v, v2] 22)) (.slice (some ⟨n, 0, none⟩) 2 2) [l, l2] := by
  subst hn
  refine ⟨by simp, _, 2, rfl, fun _ => ⟨w.heap.size, 0, rfl, by simp, fun j hj => ?_⟩⟩
  have hj2 : j = 0 ∨ j = 1 := by simp at hj; omega
  rcases hj2 with rfl | rfl
  · exact ⟨v, by rw [World.cell?_alloc_at _ _ _ _ rfl]; rfl, h.more _, hv⟩
  · exact ⟨v2, by rw [World.cell?_alloc_at _ _ _ _ rfl]; rfl, h2.more _, hv2⟩
theorem flat_snoc (ll : List (List Int)) (k : Nat) (h : k < ll.length) : (ll.take (k + 1)).flatten = (ll.take k).flatten ++ atl ll k := by
  rw [List.take_succ_eq_append_getElem h, List.flatten_append]
  simp [atl, List.getElem?_eq_getElem h]
theorem flat_le (ll : List (List Int)) (k m : Nat) (h : ∀ j, j < ll.length → (atl ll j).length ≤ m) (hk : k ≤ ll.length) : ((ll.take k).flatten).length ≤ k * m := by
  induction k with
  | zero => simp
  | succ k ih =>
    rw [flat_snoc ll k (by omega), List.length_append, Nat.succ_mul]
    have := h k (by omega)
    have := ih (by omega)
    omega
theorem two_le {a b : List Int} (ha : a.length ≤ 1000) (hb : b.length ≤ 1000) : ∀ j, j < [a, b].length → (atl [a, b] j).length ≤ 1000 := by
  intro j hj
  have hj2 : j = 0 ∨ j = 1 := by simp at hj; omega
  rcases hj2 with rfl | rfl
  · exact ha
  · exact hb
theorem fix_elem (t : List Int) (x : Int) (n b : Nat) (hn : t.length = 2 ^ (n + 1)) (hb : b < 2 ^ n) : dotEq (t.map phi) (([[x], bitsI b n].flatten).map phi) = atF (fixF (t.map phi) (phi x)) b := by
  have e : ([[x], bitsI b n].flatten).map phi = [phi x] ++ bitsF b n := by
    simp only [bitsI, List.flatten_cons, List.flatten_nil, List.append_nil, List.map_append, List.map_cons, List.map_nil, mapphi_psi]
  rw [e, ← eval_dot _ _ (by simp [bitsF_length, hn]), eval_ahead (t.map phi) [phi x] b n (by simp [hn]; congr 1; omega) hb]; rfl
theorem fixF_take_snoc (T : List F) (x : F) (k : Nat) (h : k < T.length / 2) : ((fixF T x).take (k + 1)).map psi = ((fixF T x).take k).map psi ++ [psi (atF (fixF T x) k)] := by
  rw [take_snoc _ k 0 (by rw [fixF_length]; exact h), List.map_append]; rfl
theorem below_dr (w : World) : Below w.heap.size w w.drew := below_drewN (Below.refl _ _) 1
/-- the tables with the first variables at some numbers -/
def fixed (ll : List (List Int)) (p : List Int) : List (List F) := ll.map fun t => fixes (t.map phi) (p.map phi)
theorem part_elem (t p : List Int) (d b : Nat) (hn : t.length = 2 ^ (p.length + d)) (hb : b < 2 ^ d) : dotEq (t.map phi) (p.map phi ++ (bitsI b d).map phi) = atF (fixes (t.map phi) (p.map phi)) b := by
  rw [show (bitsI b d).map phi = bitsF b d from mapphi_psi _, ← eval_dot _ _ (by simp [bitsF_length, hn]), eval_ahead (t.map phi) (p.map phi) b d (by simp [hn]) hb]
theorem prod_step (ll : List (List Int)) (p : List Int) (i b : Nat) (hi : i < ll.length) : prodAt ((fixed ll p).take (i + 1)) b = prodAt ((fixed ll p).take i) b * atF (fixes ((atl ll i).map phi) (p.map phi)) b := by
  rw [take_snoc _ i [] (by simpa [fixed] using hi), prodAt_snoc]
  congr 2
  simp [fixed, atl, hi]
end Go.Proofs.YtcihkechphldcaaDoor
