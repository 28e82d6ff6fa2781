/- Mathematics of the sum of products of tables: a round's polynomial is the sum with one variable left free; what is told of right rounds; where a wrong claim ends right, some round is wrong and right at its draw. No program in sight. -/
import Derived.Test.YtaaaoljllpbplaaDoorSumP
import Derived.Test.YtaaaoljllpbplaaDoorVerify
namespace Go.Proofs.YtaaaoljllpbplaaDoor
set_option maxRecDepth 100000
set_option linter.unusedVariables false
open Go.RowKit Tally
theorem btw_zero (a b : F) : btw a b 0 = a := by unfold btw; grind
theorem btw_one (a b : F) : btw a b 1 = b := by unfold btw; grind
/-- times a + c x -/
def mulL2 (a c : F) (l : List F) : List F := addL (smul a l) (0 :: smul c l)
theorem hor_mulL2 (a c : F) (l : List F) (x : F) : hor (mulL2 a c l) x = hor l x * (a + x * c) := by
  unfold mulL2; rw [hor_addL, hor_cons, hor_smul, hor_smul]; grind
theorem mulL2_length (a c : F) (l : List F) : (mulL2 a c l).length = l.length + 1 := by
  unfold mulL2; rw [addL_length]; simp [smul]
/-- the product of all tables' numbers at b, the first variable left free -/
def prodP (l : List (List F)) (N b : Nat) (acc : List F) : List F := l.foldl (fun p t => mulL2 (atF t b) (atF t (b + N) - atF t b) p) acc
theorem prodP_length (l : List (List F)) (N b : Nat) : ∀ acc : List F, (prodP l N b acc).length = acc.length + l.length := by
  induction l with
  | nil => intro acc; rfl
  | cons t l ih =>
    intro acc
    show (prodP l N b _).length = _
    rw [ih, mulL2_length]; simp; omega
theorem hor_prodP (l : List (List F)) (N b : Nat) (hb : b < N) (hl : ∀ t ∈ l, t.length = 2 * N) (x : F) : ∀ (acc : List F) (y : F), hor acc x = y → hor (prodP l N b acc) x = (l.map (fixF · x)).foldl (fun p t => p * atF t b) y := by
  induction l with
  | nil => intro acc y h; exact h
  | cons t l ih =>
    intro acc y h
    show hor (prodP l N b _) x = _
    rw [List.map_cons, List.foldl_cons]
    refine ih (fun t ht => hl t (List.mem_cons_of_mem _ ht)) _ _ ?_
    have h1 := hl t List.mem_cons_self
    have h2 : t.length / 2 = N := by omega
    rw [hor_mulL2, h, fixF_at t x b (by omega), h2]; rfl
/-- all of them together, up to m -/
def sumP (l : List (List F)) (N : Nat) : Nat → List F
  | 0 => []
  | m + 1 => addL (sumP l N m) (prodP l N m [1])
theorem sumP_length (l : List (List F)) (N m : Nat) : (sumP l N m).length ≤ l.length + 1 := by
  induction m with
  | zero => simp [sumP]
  | succ m ih => simp only [sumP]; rw [addL_length, prodP_length]; simp; omega
theorem hor_sumP (l : List (List F)) (N : Nat) (hl : ∀ t ∈ l, t.length = 2 * N) (x : F) : ∀ m, m ≤ N → hor (sumP l N m) x = claimF (l.map (fixF · x)) m
  | 0, _ => rfl
  | m + 1, h => by
    simp only [sumP]
    rw [hor_addL, hor_sumP l N hl x m (by omega), hor_prodP l N m (by omega) hl x [1] 1 (by rw [hor_cons, hor_nil, mul_zero', add_zero'])]
    rfl
theorem tabs_len {ll : List (List Int)} {n : Nat} (h : Facts ll n) : ∀ t ∈ tabs ll, t.length = 2 ^ n := by
  intro t ht
  obtain ⟨u, hu, rfl⟩ := List.mem_map.mp ht
  obtain ⟨j, hj, rfl⟩ := List.getElem_of_mem hu
  have := h.2.2.2 j hj
  rw [List.length_map]
  simpa [atl, hj] using this
/-- a round is the polynomial of the sum with the first variable left free -/
theorem lag_round {ll : List (List Int)} {n : Nat} (h : Facts ll (n + 1)) (x : F) : lag ((roundI ll n).map phi) x = claimF ((tabs ll).map (fixF · x)) (2 ^ n) := by
  have h2 : ∀ t ∈ tabs ll, t.length = 2 * 2 ^ n := fun t ht => by rw [tabs_len h t ht, Nat.pow_succ]; omega
  rw [← hor_sumP (tabs ll) (2 ^ n) h2 x (2 ^ n) (Nat.le_refl _)]
  symm
  have hlen : ((roundI ll n).map phi).length = ll.length + 1 := by rw [List.length_map, roundI_length]
  have h3 := h.2.2.1
  refine hor_lag _ _ (by omega) ?_ ?_ x
  · have := sumP_length (tabs ll) (2 ^ n) (2 ^ n)
    rw [hlen]; simpa using this
  · intro i hi
    rw [hlen] at hi
    rw [hor_sumP (tabs ll) (2 ^ n) h2 (phi i) (2 ^ n) (Nat.le_refl _)]
    have e1 : atF ((roundI ll n).map phi) i = claimF (tabs (fixAll ll (phi i))) (2 ^ n) := by
      rw [show atF ((roundI ll n).map phi) i = phi (at0 (roundI ll n) i) from atF_map _ i (by rw [roundI_length]; omega)]
      have : at0 (roundI ll n) i = psi (claimF (tabs (fixAll ll (phi i))) (2 ^ n)) := by
        unfold roundI
        rw [show at0 ((List.range (ll.length + 1)).map fun (k : Nat) => psi (claimF (tabs (fixAll ll (phi k))) (2 ^ n))) i = ((((List.range (ll.length + 1)).map fun (k : Nat) => psi (claimF (tabs (fixAll ll (phi k))) (2 ^ n))))[i]?).getD 0 from rfl, List.getElem?_map, List.getElem?_range hi]
        rfl
      rw [this, phi_psi]
    rw [e1, tabs_fixAll]
theorem foldl_mul (l : List (List F)) (f g : List F → F) (h : ∀ t ∈ l, f t = g t) : ∀ y : F, l.foldl (fun p t => p * f t) y = l.foldl (fun p t => p * g t) y := by
  induction l with
  | nil => intro y; rfl
  | cons t l ih =>
    intro y
    rw [List.foldl_cons, List.foldl_cons, h t List.mem_cons_self]
    exact ih (fun u hu => h u (List.mem_cons_of_mem _ hu)) _
/-- the sum is that with the first variable 0, and that with it 1 -/
theorem claim_split (l : List (List F)) (N : Nat) (hl : ∀ t ∈ l, t.length = 2 * N) : claimF l (2 * N) = claimF (l.map (fixF · 0)) N + claimF (l.map (fixF · 1)) N := by
  unfold claimF
  rw [show 2 * N = N + N by omega, sumTo_split]
  congr 1
  · refine sumTo_congr fun b hb => ?_
    unfold prodAt
    rw [List.foldl_map]
    refine foldl_mul l _ _ (fun t ht => ?_) 1
    have := hl t ht
    rw [fixF_at t 0 b (by omega), btw_zero]
  · refine sumTo_congr fun b hb => ?_
    unfold prodAt
    rw [List.foldl_map]
    refine foldl_mul l _ _ (fun t ht => ?_) 1
    have := hl t ht
    rw [fixF_at t 1 b (by omega), btw_one, show t.length / 2 = N by omega]
theorem round_sum {ll : List (List Int)} {n : Nat} (h : Facts ll (n + 1)) : lag ((roundI ll n).map phi) 0 + lag ((roundI ll n).map phi) 1 = claimF (tabs ll) (2 ^ (n + 1)) := by
  have h2 : ∀ t ∈ tabs ll, t.length = 2 * 2 ^ n := fun t ht => by rw [tabs_len h t ht, Nat.pow_succ]; omega
  rw [lag_round h, lag_round h, show 2 ^ (n + 1) = 2 * 2 ^ n by rw [Nat.pow_succ]; omega, claim_split _ _ h2]
theorem lag_zero (v : List F) (h1 : 2 ≤ v.length) (h2 : v.length < 2305843009213693951) : lag v 0 = atF v 0 := lag_at v h2 0 (by omega)
theorem lag_one (v : List F) (h1 : 2 ≤ v.length) (h2 : v.length < 2305843009213693951) : lag v 1 = atF v 1 := lag_at v h2 1 (by omega)
theorem provesI_at (ll : List (List Int)) (ds : List Int) (n k : Nat) (h : k < n) : atl (provesI ll ds n) k = roundI (fixesAll ll (ds.take k)) (n - k - 1) := by
  unfold provesI
  rw [show atl ((List.range n).map fun k => roundI (fixesAll ll (ds.take k)) (n - k - 1)) k = (((List.range n).map fun k => roundI (fixesAll ll (ds.take k)) (n - k - 1))[k]?).getD [] from rfl, List.getElem?_map, List.getElem?_range h]
  rfl
theorem round_len {ll : List (List Int)} {ds : List Int} {n : Nat} (h : Facts ll n) (k : Nat) (hk : k < n) : (atl (provesI ll ds n) k).length = ll.length + 1 := by
  rw [provesI_at ll ds n k hk, roundI_length, fixesAll_length]
theorem good_proves {ll : List (List Int)} {ds : List Int} {n : Nat} (h : Facts ll n) : good (provesI ll ds n) := by
  intro j hj
  rw [provesI_length] at hj
  have h1 := h.2.1; have h2 := h.2.2.1
  rw [round_len h j hj, round_len h 0 (by omega)]
  omega
/-- the true claim behind k rounds -/
def trueC (ll : List (List Int)) (ds : List Int) (n k : Nat) : F := claimF (tabs (fixesAll ll (ds.take k))) (2 ^ (n - k))
theorem trueC_sum {ll : List (List Int)} {ds : List Int} {n : Nat} (h : Facts ll n) (hd : ds.length = n) (k : Nat) (hk : k < n) :
    lag ((atl (provesI ll ds n) k).map phi) 0 + lag ((atl (provesI ll ds n) k).map phi) 1 = trueC ll ds n k := by
  have h1 := fixesAll_facts ds h hd k (by omega)
  rw [show n - k = (n - k - 1) + 1 by omega] at h1
  rw [provesI_at ll ds n k hk, round_sum h1]
  unfold trueC
  rw [show n - k - 1 + 1 = n - k by omega]
theorem trueC_draw {ll : List (List Int)} {ds : List Int} {n : Nat} (h : Facts ll n) (hd : ds.length = n) (k : Nat) (hk : k < n) :
    lag ((atl (provesI ll ds n) k).map phi) (phi (at0 ds k)) = trueC ll ds n (k + 1) := by
  have h1 := fixesAll_facts ds h hd k (by omega)
  rw [show n - k = (n - k - 1) + 1 by omega] at h1
  rw [provesI_at ll ds n k hk, lag_round h1]
  unfold trueC
  rw [fixesAll_snoc ll ds k (by omega), tabs_fixAll, show n - (k + 1) = n - k - 1 by omega]
/-- what is proved is held to be right -/
theorem told_right {ll : List (List Int)} {ds : List Int} {n : Nat} (h : Facts ll n) (hd : ds.length = n) : ∀ k, k ≤ n → toldTo (trueC ll ds n 0) (phis (provesI ll ds n)) (ds.map phi) k = some (trueC ll ds n k)
  | 0, _ => rfl
  | k + 1, hk => by
    have hl : k < (provesI ll ds n).length := by rw [provesI_length]; omega
    have hn := round_len (ds := ds) h k (by omega)
    have h1 := h.2.1; have h2 := h.2.2.1
    have e := told_step (told_right h hd k (by omega)) hl (by omega) (by omega) ?_
    · rw [e, trueC_draw h hd k (by omega)]
    · rw [← trueC_sum h hd k (by omega), lag_zero _ (by rw [List.length_map]; omega) (by rw [List.length_map]; omega), lag_one _ (by rw [List.length_map]; omega) (by rw [List.length_map]; omega)]
      rw [show atF ((atl (provesI ll ds n) k).map phi) 0 = phi (at0 (atl (provesI ll ds n) k) 0) from atF_map _ 0 (by omega), show atF ((atl (provesI ll ds n) k).map phi) 1 = phi (at0 (atl (provesI ll ds n) k) 1) from atF_map _ 1 (by omega)]
theorem claimF_one (l : List (List F)) : claimF l 1 = prodAt l 0 := by
  unfold claimF; simp only [sumTo]; grind
/-- what is left is the tables' values there -/
def endF (ll : List (List Int)) (ds : List Int) : F := prodAt (fixed ll ds) 0
theorem trueC_end (ll : List (List Int)) (ds : List Int) (n : Nat) (hd : ds.length = n) : trueC ll ds n n = endF ll ds := by
  unfold trueC endF
  rw [Nat.sub_self, Nat.pow_zero, claimF_one, List.take_of_length_le (by omega), tabs_fixesAll]
end Go.Proofs.YtaaaoljllpbplaaDoor
