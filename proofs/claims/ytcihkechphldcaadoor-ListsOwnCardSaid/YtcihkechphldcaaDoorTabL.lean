/- Several texts in one: LookM, TabL. What each says, and its conditions, stands at its head. -/
import Derived.Test.YtcihkechphldcaaDoorLooks
import Derived.Test.YtcihkechphldcaaDoorTreeK
/- Mathematics of openings: what a look answers, what is opened, that what is opened holds. No condition. -/
namespace Go.Proofs.YtcihkechphldcaaDoor
set_option maxRecDepth 100000
set_option linter.unusedVariables false
open Go.RowKit Tally
/-- the number that stands behind step k of a look at place p -/
def nextKI (o : Oi) (x : Lk) (n p k : Nat) : Int :=
  if k + 1 < n then (if 2 ^ (n - k - 1) ≤ 2 * (p % 2 ^ (n - k - 1)) then (ata x.pairs (k + 1)).2 else (ata x.pairs (k + 1)).1) else o.value
/-- the root at which step k must come out -/
def rootI (root : Int) (o : Oi) (k : Nat) : Int := if k = 0 then root else at0 o.roots (k - 1)
def standB (root : Int) (n p : Nat) (pr : Int × Int) (pt : List Int × List Int) : Bool :=
  decide (climbF pr.1 pt.1 p = phi root) && decide (climbF pr.2 pt.2 (p + 2 ^ (n - 1)) = phi root)
def stepB (root : Int) (pt : List Int) (o : Oi) (x : Lk) (p k : Nat) : Bool :=
  standB (rootI root o k) (pt.length - k) (p % 2 ^ (pt.length - k - 1)) (ata x.pairs k) (atb x.paths k) &&
    decide (btw (phi (ata x.pairs k).1) (phi (ata x.pairs k).2) (phi (at0 pt k)) = phi (nextKI o x pt.length p k))
/-- does a look hold, up to step k? -/
def holdB (root : Int) (pt : List Int) (o : Oi) (x : Lk) (p k : Nat) : Bool := (List.range k).all (stepB root pt o x p)
def looksB (root : Int) (pt places : List Int) (o : Oi) (i : Nat) : Bool := (List.range i).all fun j => holdB root pt o (atk o.looks j) (at0 places j).toNat pt.length
/-- what Look answers, where the form is right -/
def lookB (root : Int) (pt places : List Int) (o : Oi) : Bool := decide (pairF (phi o.value) 0 = phi (at0 o.roots (pt.length - 1))) && looksB root pt places o places.length
def placesB (places : List Int) (half : Int) (i : Nat) : Bool := (List.range i).all fun j => decide (0 ≤ at0 places j ∧ at0 places j < half)
/-- a look's form, of n variables -/
def lkForm (n : Nat) (x : Lk) : Prop := x.pairs.length = n ∧ x.paths.length = n ∧ ∀ k, k < n → (atb x.paths k).1.length = n - k ∧ (atb x.paths k).2.length = n - k
def OForm (n m : Nat) (o : Oi) : Prop := o.roots.length = n ∧ o.looks.length = m ∧ ∀ i, i < m → lkForm n (atk o.looks i)
theorem holdB_succ (root : Int) (pt : List Int) (o : Oi) (x : Lk) (p k : Nat) : holdB root pt o x p (k + 1) = (holdB root pt o x p k && stepB root pt o x p k) := by
  simp [holdB, List.range_succ, List.all_append]
theorem holdB_false {root : Int} {pt : List Int} {o : Oi} {x : Lk} {p k n : Nat} (hk : k < n) (h : stepB root pt o x p k = false) : holdB root pt o x p n = false := by
  rw [holdB, Bool.eq_false_iff]
  intro e
  rw [List.all_eq_true] at e
  exact absurd (e k (List.mem_range.2 hk)) (by simp [h])
theorem looksB_succ (root : Int) (pt places : List Int) (o : Oi) (i : Nat) : looksB root pt places o (i + 1) = (looksB root pt places o i && holdB root pt o (atk o.looks i) (at0 places i).toNat pt.length) := by
  simp [looksB, List.range_succ, List.all_append]
theorem looksB_false {root : Int} {pt places : List Int} {o : Oi} {i n : Nat} (hi : i < n) (h : holdB root pt o (atk o.looks i) (at0 places i).toNat pt.length = false) : looksB root pt places o n = false := by
  rw [looksB, Bool.eq_false_iff]
  intro e
  rw [List.all_eq_true] at e
  exact absurd (e i (List.mem_range.2 hi)) (by simp [h])
theorem placesB_succ (places : List Int) (half : Int) (i : Nat) : placesB places half (i + 1) = (placesB places half i && decide (0 ≤ at0 places i ∧ at0 places i < half)) := by
  simp [placesB, List.range_succ, List.all_append]
theorem placesB_at {places : List Int} {half : Int} {n i : Nat} (h : placesB places half n = true) (hi : i < n) : 0 ≤ at0 places i ∧ at0 places i < half := by
  rw [placesB, List.all_eq_true] at h
  exact of_decide_eq_true (h i (List.mem_range.2 hi))
theorem placesB_false {places : List Int} {half : Int} {n i : Nat} (hi : i < n) (h : ¬ (0 ≤ at0 places i ∧ at0 places i < half)) : placesB places half n = false := by
  rw [Bool.eq_false_iff]
  exact fun e => h (placesB_at e hi)
/-- table k of an opening -/
def tabF (t pt : List Int) (k : Nat) : List F := fixes (t.map phi) ((pt.map phi).take k)
def tabI (t pt : List Int) (k : Nat) : List Int := if k = 0 then t else (tabF t pt k).map psi
theorem tabI_phi (t pt : List Int) (k : Nat) : (tabI t pt k).map phi = tabF t pt k := by
  unfold tabI
  split
  · rename_i h; subst h; simp [tabF, fixes]
  · exact mapphi_psi _
theorem tabF_zero (t pt : List Int) : tabF t pt 0 = t.map phi := by simp [tabF, fixes]
theorem tabF_succ (t pt : List Int) (k : Nat) (hk : k < pt.length) : tabF t pt (k + 1) = fixF (tabF t pt k) (phi (at0 pt k)) := by
  unfold tabF
  rw [List.take_add_one, List.getElem?_map, List.getElem?_eq_getElem hk]
  simp only [Option.map_some, Option.toList_some]
  rw [fixes_snoc]
  simp [at0, hk]
theorem tabF_length (t pt : List Int) (hn : t.length = 2 ^ pt.length) (k : Nat) : k ≤ pt.length → (tabF t pt k).length = 2 ^ (pt.length - k) := by
  induction k with
  | zero => intro _; rw [tabF_zero, List.length_map, hn]; rfl
  | succ k ih =>
    intro hk
    rw [tabF_succ t pt k (by omega), fixF_length, ih (by omega), show pt.length - k = pt.length - (k + 1) + 1 by omega, Nat.pow_succ]
    omega
theorem tabI_length (t pt : List Int) (hn : t.length = 2 ^ pt.length) (k : Nat) (hk : k ≤ pt.length) : (tabI t pt k).length = 2 ^ (pt.length - k) := by
  have := tabF_length t pt hn k hk
  rw [← tabI_phi, List.length_map] at this
  exact this
def rootOf (t pt : List Int) (k : Nat) : Int := psi (rootF (tabI t pt (k + 1)) (pt.length - (k + 1)))
def pairOf (t pt : List Int) (p k : Nat) : Int × Int :=
  (psi (phi (at0 (tabI t pt k) (p % 2 ^ (pt.length - k - 1)))), psi (phi (at0 (tabI t pt k) (p % 2 ^ (pt.length - k - 1) + 2 ^ (pt.length - k - 1)))))
def pathOf (t pt : List Int) (p k : Nat) : List Int × List Int :=
  ((pathF (tabI t pt k) (pt.length - k) (p % 2 ^ (pt.length - k - 1))).map psi, (pathF (tabI t pt k) (pt.length - k) (p % 2 ^ (pt.length - k - 1) + 2 ^ (pt.length - k - 1))).map psi)
def lookOf (t pt : List Int) (p : Nat) : Lk := ⟨(List.range pt.length).map (pairOf t pt p), (List.range pt.length).map (pathOf t pt p)⟩
/-- what is opened -/
def openI (t pt places : List Int) : Oi := ⟨(List.range pt.length).map (rootOf t pt), at0 (tabI t pt pt.length) 0, places.map fun p => lookOf t pt p.toNat⟩
theorem ata_pairOf (t pt : List Int) (p k : Nat) (hk : k < pt.length) : ata (lookOf t pt p).pairs k = pairOf t pt p k := by simp [ata, lookOf, hk]
theorem atb_pathOf (t pt : List Int) (p k : Nat) (hk : k < pt.length) : atb (lookOf t pt p).paths k = pathOf t pt p k := by simp [atb, lookOf, hk]
theorem openI_form (t pt places : List Int) (v : Int) : OForm pt.length places.length { openI t pt places with value := v } := by
  refine ⟨by simp [openI], by simp [openI], fun i hi => ?_⟩
  have e : atk (openI t pt places).looks i = lookOf t pt (at0 places i).toNat := by simp [atk, openI, at0, hi]
  show lkForm _ (atk (openI t pt places).looks i)
  rw [e]
  refine ⟨by simp [lookOf], by simp [lookOf], fun k hk => ?_⟩
  rw [atb_pathOf _ _ _ _ hk]
  constructor <;> simp [pathOf, pathF, pathN_length]
theorem climbF_norm (x : Int) (p : List Int) (i : Nat) : climbF (psi (phi x)) p i = climbF x p i := by simp [climbF, phi_psi]
theorem plc_half (p m : Nat) : (if 2 ^ (m + 1) ≤ 2 * (p % 2 ^ (m + 1)) then p % 2 ^ m + 2 ^ m else p % 2 ^ m) = p % 2 ^ (m + 1) := by
  have e : p % 2 ^ (m + 1) = p % 2 ^ m + 2 ^ m * (p / 2 ^ m % 2) := by rw [Nat.pow_succ, Nat.mod_mul]
  have hm : p % 2 ^ m < 2 ^ m := Nat.mod_lt _ (Nat.pow_pos (by decide))
  rcases Nat.mod_two_eq_zero_or_one (p / 2 ^ m) with h | h
  · rw [h] at e
    rw [if_neg (by rw [e, Nat.pow_succ]; omega), e]; omega
  · rw [h] at e
    rw [if_pos (by rw [e, Nat.pow_succ]; omega), e]; omega
theorem open_step (t pt places : List Int) (hn : t.length = 2 ^ pt.length) (p k : Nat) (hk : k < pt.length) : stepB (psi (rootF t pt.length)) pt (openI t pt places) (lookOf t pt p) p k = true := by
  have hl := tabI_length t pt hn k (by omega)
  obtain ⟨m, hm⟩ : ∃ m, pt.length - k - 1 = m := ⟨_, rfl⟩
  have hm1 : pt.length - k = m + 1 := by omega
  have hq : p % 2 ^ m < 2 ^ m := Nat.mod_lt _ (Nat.pow_pos (by decide))
  have hq1 : p % 2 ^ m < 2 ^ (m + 1) := by rw [Nat.pow_succ]; omega
  have hq2 : p % 2 ^ m + 2 ^ m < 2 ^ (m + 1) := by rw [Nat.pow_succ]; omega
  rw [hm1] at hl
  have hr : phi (rootI (psi (rootF t pt.length)) (openI t pt places) k) = rootF (tabI t pt k) (m + 1) := by
    unfold rootI
    split
    · rename_i h0; subst h0
      rw [phi_psi, show tabI t pt 0 = t from rfl]
      congr 1
    · rename_i h0
      have : at0 (openI t pt places).roots (k - 1) = rootOf t pt (k - 1) := by simp [openI, at0, show k - 1 < pt.length by omega]
      rw [this, rootOf, phi_psi, show k - 1 + 1 = k by omega, hm1]
  unfold stepB standB
  rw [ata_pairOf _ _ _ _ hk, atb_pathOf _ _ _ _ hk, hr]
  simp only [pairOf, pathOf, hm1, Nat.add_sub_cancel]
  rw [climbF_norm, climbF_norm, climb_root _ _ _ hl hq1, climb_root _ _ _ hl hq2, phi_psi, phi_psi]
  simp only [decide_true, Bool.true_and, decide_eq_true_eq]
  have hphi : ∀ j, j < 2 ^ (m + 1) → phi (at0 (tabI t pt k) j) = atF (tabF t pt k) j := fun j hj => by
    rw [← tabI_phi]
    simp [at0, atF, show j < (tabI t pt k).length by omega]
  have hF : (tabF t pt k).length / 2 = 2 ^ m := by
    rw [← tabI_phi, List.length_map, hl, Nat.pow_succ]; omega
  have hfix : btw (phi (at0 (tabI t pt k) (p % 2 ^ m))) (phi (at0 (tabI t pt k) (p % 2 ^ m + 2 ^ m))) (phi (at0 pt k)) = atF (tabF t pt (k + 1)) (p % 2 ^ m) := by
    rw [hphi _ hq1, hphi _ hq2, tabF_succ _ _ _ hk, fixF_at _ _ _ (by rw [hF]; exact hq), hF]
  rw [hfix]
  have hphi2 : ∀ j, j < 2 ^ m → phi (at0 (tabI t pt (k + 1)) j) = atF (tabF t pt (k + 1)) j := fun j hj => by
    have := tabI_length t pt hn (k + 1) (by omega)
    rw [show pt.length - (k + 1) = m by omega] at this
    rw [← tabI_phi]
    simp [at0, atF, show j < (tabI t pt (k + 1)).length by omega]
  unfold nextKI
  rw [hm]
  by_cases hk1 : k + 1 < pt.length
  · obtain ⟨r, hr⟩ : ∃ r, m = r + 1 := ⟨m - 1, by omega⟩
    rw [if_pos hk1, ata_pairOf _ _ _ _ hk1]
    simp only [pairOf, show pt.length - (k + 1) - 1 = r by omega]
    subst hr
    have hs := plc_half p r
    split
    · rename_i h2
      rw [if_pos h2] at hs
      rw [phi_psi, hs, hphi2 _ hq]
    · rename_i h2
      rw [if_neg h2] at hs
      rw [phi_psi, hs, hphi2 _ hq]
  · rw [if_neg hk1]
    have h0 : m = 0 := by omega
    subst h0
    show _ = phi (at0 (tabI t pt pt.length) 0)
    rw [show p % 2 ^ 0 = 0 by simp [Nat.mod_one], show pt.length = k + 1 by omega, hphi2 0 (by simp)]
theorem open_holds (t pt places : List Int) (hn : t.length = 2 ^ pt.length) (h1 : 1 ≤ pt.length) : lookB (psi (rootF t pt.length)) pt places (openI t pt places) = true := by
  unfold lookB
  have hroot : at0 (openI t pt places).roots (pt.length - 1) = rootOf t pt (pt.length - 1) := by simp [openI, at0, show pt.length - 1 < pt.length by omega]
  have hl := tabI_length t pt hn pt.length (Nat.le_refl _)
  rw [Nat.sub_self] at hl
  have hlast : phi (rootOf t pt (pt.length - 1)) = pairF (phi (openI t pt places).value) 0 := by
    rw [rootOf, phi_psi, show pt.length - 1 + 1 = pt.length by omega, Nat.sub_self]
    match h : tabI t pt pt.length, hl with
    | [x], _ => simp [rootF, rootN, leafs, atF, openI, h, at0]
  rw [hroot, hlast]
  simp only [decide_true, Bool.true_and]
  unfold looksB
  rw [List.all_eq_true]
  intro i hi
  have hi := List.mem_range.1 hi
  have e : atk (openI t pt places).looks i = lookOf t pt (at0 places i).toNat := by simp [atk, openI, at0, hi]
  rw [e]
  unfold holdB
  rw [List.all_eq_true]
  intro k hk
  exact open_step t pt places hn _ k (List.mem_range.1 hk)
theorem lookB_first {root : Int} {pt places : List Int} {o : Oi} (h : lookB root pt places o = true) : pairF (phi o.value) 0 = phi (at0 o.roots (pt.length - 1)) := by
  unfold lookB at h
  rw [Bool.and_eq_true] at h
  exact of_decide_eq_true h.1
/-- who tells another value, and is held to be right, has told one of which the sponge makes the same -/
theorem open_bent (t pt places : List Int) (hn : t.length = 2 ^ pt.length) (h1 : 1 ≤ pt.length) (v : Int) (h : lookB (psi (rootF t pt.length)) pt places { openI t pt places with value := v } = true) : pairF (phi v) 0 = pairF (phi (openI t pt places).value) 0 :=
  (lookB_first h).trans (lookB_first (open_holds t pt places hn h1)).symm
theorem open_value (t pt places : List Int) (hn : t.length = 2 ^ pt.length) (h1 : 1 ≤ pt.length) : (openI t pt places).value = psi (evalF (t.map phi) (pt.map phi)) := by
  have hl := tabF_length t pt hn pt.length (Nat.le_refl _)
  rw [Nat.sub_self] at hl
  show at0 (tabI t pt pt.length) 0 = _
  unfold tabI
  rw [if_neg (by omega)]
  have e : tabF t pt pt.length = fixes (t.map phi) (pt.map phi) := by
    unfold tabF; rw [List.take_of_length_le (by simp)]
  have h0 : 0 < (tabF t pt pt.length).length := by rw [hl]; simp
  show at0 ((tabF t pt pt.length).map psi) 0 = psi (evalF (t.map phi) (pt.map phi))
  rw [evalF, ← e]
  simp [at0, atF, h0]
end Go.Proofs.YtcihkechphldcaaDoor

/- A row of tables that a call makes and appends to, of which some lie elsewhere; append of a look, at a step of a region that draws its order. No condition. -/
namespace Go.Proofs.YtcihkechphldcaaDoor
set_option maxRecDepth 100000
set_option linter.unusedVariables false
open Go.ChangeShapes Go.WideShapes Go.ChangeAt Go.RowKit Go.Deep Go.Joins
/-- v is a slice of slices in memory from block B on, that its holder may append to; it reads as ll; what its rows are stays whatever is written to it, to the blocks L to B, and to the block X -/
def NewTb (L : Nat) (X : Option Nat) (B : Nat) (w : World) (v : Value) (ll : List (List Int)) : Prop :=
  ll.length ≤ 1000 ∧ ∃ us : List Value, us.length = ll.length ∧ w.ownsRow B 22 1 v ll.length us ∧
    ∀ j, j < ll.length → ∃ u, us[j]? = some u ∧ Far (fun b => (L ≤ b ∧ b < B) ∨ v.ownBlock = some b ∨ X = some b) (fun w => RowU w u (atl ll j)) w
theorem NewTb.nil (L : Nat) (X : Option Nat) (B : Nat) (w : World) : NewTb L X B w (.slice none 0 0) [] := ⟨by simp, [], rfl, World.ownsRow_nil w B _ _, fun j hj => absurd hj (by simp)⟩
theorem NewTb.go {L : Nat} {X : Option Nat} {B : Nat} {w w' : World} {v : Value} {ll : List (List Int)} (h : NewTb L X B w v ll) (hb : Below w.heap.size w w') : NewTb L X B w' v ll := by
  obtain ⟨h1, us, h2, h3, h4⟩ := h
  refine ⟨h1, us, h2, ownsRow_below h3 hb (Nat.le_refl _), fun j hj => ?_⟩
  obtain ⟨u, e, hs⟩ := h4 j hj
  exact ⟨u, e, hs.go hb⟩
theorem NewTb.lt {L : Nat} {X : Option Nat} {B : Nat} {w : World} {v : Value} {ll : List (List Int)} (h : NewTb L X B w v ll) {g : Nat} (hg : v.ownBlock = some g) : B ≤ g ∧ g < w.heap.size := by
  obtain ⟨_, us, _, ho, _⟩ := h
  exact ho.lt g hg
theorem NewTb.low {L : Nat} {X : Option Nat} {B g : Nat} {w : World} {v : Value} {ll : List (List Int)} (h : NewTb L X B w v ll) (hL : L ≤ g) (hg : g < B) (j : Nat) (u : Value) : NewTb L X B (w.setCell ⟨g, j, none⟩ u) v ll := by
  have hlt := fun b (e : v.ownBlock = some b) => h.lt e
  obtain ⟨h1, us, h2, h3, h4⟩ := h
  refine ⟨h1, us, h2, ownsRow_same h3 fun b e => Below.heap_setCell _ _ _ _ (by show b ≠ g; have := (hlt b e).1; omega), fun j' hj => ?_⟩
  obtain ⟨u1, e1, hs⟩ := h4 j' hj
  exact ⟨u1, e1, hs.set (.inl ⟨hL, hg⟩) j u⟩
theorem NewTb.isSlice {L : Nat} {X : Option Nat} {B : Nat} {w : World} {v : Value} {ll : List (List Int)} (h : NewTb L X B w v ll) : ∃ a c, v = .slice a ll.length c := by
  obtain ⟨_, us, _, h3, _⟩ := h
  rcases h3.2 with ⟨rfl, h0⟩ | ⟨g, cap, cur, rfl, _⟩
  · exact ⟨none, 0, by rw [h0]⟩
  · exact ⟨_, _, rfl⟩
theorem NewTb.rows {L : Nat} {X : Option Nat} {B : Nat} {w : World} {v : Value} {ll : List (List Int)} (h : NewTb L X B w v ll) : RowUU w v ll := by
  obtain ⟨h1, us, h2, h3, h4⟩ := h
  have h3' := h3
  refine ⟨by omega, ?_⟩
  rcases h3.2 with ⟨rfl, h0⟩ | ⟨g, cap, cur, rfl, hg, hh, hn, hcap, hs, ht⟩
  · exact ⟨none, 0, by rw [h0], fun hl => by omega⟩
  · refine ⟨_, cap, rfl, fun hl => ⟨g, 0, rfl, (h3'.lt g rfl).2, fun j hj => ?_⟩⟩
    obtain ⟨u, e, hs⟩ := h4 j hj
    refine ⟨u, ?_, hs.now⟩
    have := h3'.cellAt j (by omega)
    rw [Nat.zero_add, this]; exact e
theorem NewTb.far {L : Nat} {X : Option Nat} {B : Nat} {w : World} {v : Value} {ll : List (List Int)} (h : NewTb L X B w v ll) : Far (fun b => L ≤ b ∧ b < B) (fun w => RowUU w v ll) w := by
  have hlt := fun b (e : v.ownBlock = some b) => h.lt e
  obtain ⟨h1, us, h2, h3, h4⟩ := h
  intro w' hs hk
  refine NewTb.rows (L := L) (X := X) (B := B) ⟨h1, us, h2, ownsRow_same h3 fun g hg => hk g (hlt g hg).2 (by have := (hlt g hg).1; show ¬ (L ≤ g ∧ g < B); omega), fun j hj => ?_⟩
  obtain ⟨u, e, hF⟩ := h4 j hj
  exact ⟨u, e, hF.step hs fun b hlt hn => hk b hlt fun e => hn (.inl e)⟩
/-- the other row X grows, or moves to a block of its own: the tables stay -/
theorem NewTb.grownX {L : Nat} {X X' : Option Nat} {B : Nat} {w w' : World} {v : Value} {ll : List (List Int)} (h : NewTb L X B w v ll) (hg : w.grownBy w' X) (hne : ∀ g, v.ownBlock = some g → X ≠ some g) (hX : X' = X ∨ ∃ b, X' = some b ∧ w.heap.size ≤ b) : NewTb L X' B w' v ll := by
  obtain ⟨h1, us, h2, h3, h4⟩ := h
  refine ⟨h1, us, h2, ownsRow_grown h3 hg hne, fun j hj => ?_⟩
  obtain ⟨u, e, hs⟩ := h4 j hj
  refine ⟨u, e, hs.fresh hg.size (fun b hlt hn => hg.block b hlt fun e => hn (.inr (.inr e.symm))) fun b hlt e => ?_⟩
  rcases e with e | e | e
  · exact .inl e
  · exact .inr (.inl e)
  · rcases hX with rfl | ⟨b', rfl, hb⟩
    · exact .inr (.inr e)
    · cases e; omega
/-- what is far from three rows stays so where one of them grows, or moves -/
theorem far_grownX {S : Nat → Prop} {X X' : Option Nat} {Q : World → Prop} {w w' : World} (h : Far (fun b => S b ∨ X = some b) Q w) (hg : w.grownBy w' X) (hX : X' = X ∨ ∃ b, X' = some b ∧ w.heap.size ≤ b) : Far (fun b => S b ∨ X' = some b) Q w' := by
  refine h.fresh hg.size (fun b hlt hn => hg.block b hlt fun e => hn (.inr e.symm)) fun b hlt e => ?_
  rcases e with e | e
  · exact .inl e
  · rcases hX with rfl | ⟨b', rfl, hb⟩
    · exact .inr e
    · cases e; omega
/-- append of a table -/
theorem wpList_appTb {ops : Array Oper} {rest : List Oper} {o : Oper} {a : Act} {Q : Exit → Act → World → Prop} {w0 : World} (hgd : o.guard = none) (s x : Operand)
    (ho : o.op = .call { callee := .builtin .append, args := #[s, x], argTypes := #[36, 36] })
    (L : Nat) (X : Option Nat) (B : Nat) (v : Value) (ll : List (List Int)) (hs : a.eval s = v) (hown : NewTb L X B w0 v ll) (u : Value) (l : List Int) (hu : Far (fun b => (L ≤ b ∧ b < B) ∨ v.ownBlock = some b ∨ X = some b) (fun w => RowU w u l) w0)
    (hx : a.eval x = .slice (some ⟨w0.heap.size, 0, none⟩) 1 1) (hlen : ll.length + 1 ≤ 1000) (hB : B ≤ w0.heap.size)
    (h : ∀ v' w', NewTb L X B w' v' (ll ++ [l]) → Far (fun b => (L ≤ b ∧ b < B) ∨ v'.ownBlock = some b ∨ X = some b) (fun w => RowU w u l) w' → Below B w0 w' → w0.grownBy w' v.ownBlock → (v'.ownBlock = v.ownBlock ∨ ∃ b, v'.ownBlock = some b ∧ w0.heap.size ≤ b) → wpList Tryd.prog ops Q rest (a.put o.dst v') w') : wpList Tryd.prog ops Q (o :: rest) a (w0.alloc (.cells #[u] 22)) := by
  obtain ⟨i0, hi1, hz0, hz1, hz2⟩ := info_parts Tryd.infoUU
  obtain ⟨h1, us, h2, h3, h4⟩ := hown
  have hlt := h3.lt
  have h1c := hu.now.oneCellL
  refine wpList_append_own_at _ hgd s x _ ho B 22 i0 (.slice none 0 0) 1 24 Tryd.underlying36 hi1 hz0 hz1 hz2 rfl (by decide) v ll.length us hs (h3.alloc _) ⟨w0.heap.size, 0, none⟩ 1 1 [u] hx (by simp) ?_ (by simpa using h1c) (by unfold maxLen; omega) (by omega) (by simp; omega) ?_
  · exact World.news_of_block (cs := #[u]) (t := 22) (fr := (0, 0)) (alloc_blk w0 _)
  · intro v' w' h5 h6 _ h8
    have hal : Below w0.heap.size w0 (w0.alloc (.cells #[u] 22)) := (Below.refl _ _).alloc (Nat.le_refl _) _
    have hsz : (w0.alloc (.cells #[u] 22)).heap.size = w0.heap.size + 1 := by simp
    have hg0 : w0.grownBy w' v.ownBlock := grownBy_chainL (below_toGrownL hal _) h6
    have hbl : Below B w0 w' := ((Below.refl B w0).alloc hB _).grown h6 (by simp; omega) fun k hk => (hlt k hk).1
    have move : ∀ Q, Far (fun b => (L ≤ b ∧ b < B) ∨ v.ownBlock = some b ∨ X = some b) Q w0 → Far (fun b => (L ≤ b ∧ b < B) ∨ v'.ownBlock = some b ∨ X = some b) Q w' := by
      intro Q hQ
      rcases h8 with h8 | h8
      · rw [h8]; exact hQ.grown hg0 fun g hg _ => .inr (.inl hg)
      · refine hQ.fresh hg0.size (fun b hlt hn => hg0.block b hlt fun e => hn (.inr (.inl e.symm))) fun b hlt e => ?_
        rcases e with e | e | e
        · exact .inl e
        · rw [h8, hsz] at e; cases e; omega
        · exact .inr (.inr e)
    refine h v' w' ⟨by simp; omega, us ++ [u], by simp [h2], by simpa using h5, fun j hj => ?_⟩ (move _ hu) hbl hg0 (h8.imp id fun e => ⟨_, e, by rw [hsz]; omega⟩)
    by_cases hj2 : j < ll.length
    · obtain ⟨y, e, hs⟩ := h4 j hj2
      refine ⟨y, by rw [List.getElem?_append_left (by omega)]; exact e, ?_⟩
      rw [atl_append_left _ _ _ hj2]
      exact move _ hs
    · obtain rfl : j = ll.length := by simp at hj; omega
      refine ⟨u, by rw [← h2]; simp, ?_⟩
      rw [atl_append_last]; exact move _ hu
/-- append of one number; whether the row moved -/
theorem wpList_appUx {ops : Array Oper} {rest : List Oper} {o : Oper} {a : Act} {Q : Exit → Act → World → Prop} {w0 : World} (hgd : o.guard = none) (s x : Operand)
    (ho : o.op = .call { callee := .builtin .append, args := #[s, x], argTypes := #[22, 22] })
    (B : Nat) (v : Value) (l : List Int) (hs : a.eval s = v) (hown : NewU B w0 v l) (y : Int) (hx : a.eval x = .slice (some ⟨w0.heap.size, 0, none⟩) 1 1) (hy : U64 y)
    (hlen : l.length + 1 ≤ 17592186043904) (hB : B ≤ w0.heap.size)
    (h : ∀ v' w', NewU B w' v' (l ++ [y]) → Below B w0 w' → w0.grownBy w' v.ownBlock → (v'.ownBlock = v.ownBlock ∨ ∃ b, v'.ownBlock = some b ∧ w0.heap.size ≤ b) → wpList Tryd.prog ops Q rest (a.put o.dst v') w') : wpList Tryd.prog ops Q (o :: rest) a (w0.alloc (.cells #[.int .u64 y] 31)) := by
  obtain ⟨i0, hi1, hz0, hz1, hz2⟩ := info_parts Tryd.infoU
  have hlt := hown.2.2.lt
  refine wpList_append_own_at _ hgd s x _ ho B 31 i0 (.int .u64 0) 1 8 Tryd.underlying22 hi1 hz0 hz1 hz2 rfl (by decide) v l.length _ hs (hown.2.2.alloc _) ⟨w0.heap.size, 0, none⟩ 1 1 [.int .u64 y] hx rfl ?_ (by simp [Value.oneCell']) (by unfold maxLen; omega) (by omega) (by simp; omega) ?_
  · exact World.news_of_block (cs := #[.int .u64 y]) (t := 31) (fr := (0, 0)) (alloc_blk w0 _)
  · intro v' w' h5 h6 _ h8
    have hal : Below w0.heap.size w0 (w0.alloc (.cells #[.int .u64 y] 31)) := (Below.refl _ _).alloc (Nat.le_refl _) _
    have hsz : (w0.alloc (.cells #[.int .u64 y] 31)).heap.size = w0.heap.size + 1 := by simp
    have hg0 : w0.grownBy w' v.ownBlock := grownBy_chainL (below_toGrownL hal _) h6
    have hbl : Below B w0 w' := ((Below.refl B w0).alloc hB _).grown h6 (by simp; omega) fun k hk => (hlt k hk).1
    refine h v' w' ⟨?_, by simp; omega, by simpa using h5⟩ hbl hg0 (h8.imp id fun e => ⟨_, e, by rw [hsz]; omega⟩)
    intro z hz
    rcases List.mem_append.mp hz with hz | hz
    · exact hown.1 z hz
    · rw [List.mem_singleton.mp hz]; exact hy
/-- append of a look, at a step of a region that draws its order -/
theorem step_appK {ops : Array Oper} {o : Oper} {a : Act} {K : Act → World → Prop} {Q : Exit → Act → World → Prop} {E : Prop} {w0 : World} (hgd : o.guard = none) (s x : Operand)
    (ho : o.op = .call { callee := .builtin .append, args := #[s, x], argTypes := #[40, 40] })
    (B : Nat) (v : Value) (ll : List Lk) (hs : a.eval s = v) (hown : NewK B w0 v ll) (u u2 : Value) (l : Lk) (hu : Far (fun b => b < B ∨ v.ownBlock = some b) (fun w => NewA 0 w u l.pairs ∧ NewB none 0 w u2 l.paths) w0)
    (hx : a.eval x = .slice (some ⟨w0.heap.size, 0, none⟩) 1 1) (hlen : ll.length + 1 ≤ 1000) (hB : B ≤ w0.heap.size)
    (h : ∀ v' w', NewK B w' v' (ll ++ [l]) → w0.grownBy w' v.ownBlock → K (a.put o.dst v') w') :
    if Region.wanted o (yielded ops a.tmps) = true then Oper.wp Tryd.prog o a (w0.alloc (.cells #[u, u2] 50)) K Q else E := by
  obtain ⟨i0, hi1, hz0, hz1, hz2⟩ := info_parts Tryd.infoK
  obtain ⟨h1, us, h2, h3, h4⟩ := hown
  have hlt := h3.lt
  have h1c := hu.now.1.row.oneCell
  have h2c := hu.now.2.row.oneCell
  refine step_append_lies _ hgd s x _ ho B 50 i0 (.agg #[.slice none 0 0, .slice none 0 0]) 2 48 Tryd.underlying40 hi1 hz0 hz1 hz2 rfl (by decide) v ll.length us hs (h3.alloc _) ⟨w0.heap.size, 0, none⟩ 1 1 [u, u2] hx rfl
    (World.news_of_block (cs := #[u, u2]) (t := 50) (fr := (0, 0)) (alloc_blk w0 _)) (by simpa using ⟨h1c, h2c⟩) (by decide) (by unfold maxLen; omega) (by omega) (by simp; omega) (w0.heap.size + 1) (by simp) ?_
  intro g cap w' h5 h6 h8 _
  have hal : Below w0.heap.size w0 (w0.alloc (.cells #[u, u2] 50)) := (Below.refl _ _).alloc (Nat.le_refl _) _
  have hg0 : w0.grownBy w' v.ownBlock := grownBy_chainL (below_toGrownL hal _) h6
  have move : ∀ Q, Far (fun b => b < B ∨ v.ownBlock = some b) Q w0 → Far (fun b => b < B ∨ some g = some b) Q w' := by
    intro Q hQ
    rcases h8 with h8 | h8
    · rw [← h8]; exact hQ.grown hg0 fun g hg _ => .inr hg
    · refine hQ.fresh hg0.size (fun b hlt hn => hg0.block b hlt fun e => hn (.inr e.symm)) fun b hlt e => ?_
      rcases e with e | e
      · exact .inl e
      · cases e; omega
  refine h _ w' ⟨by simp; omega, us ++ [u, u2], by simp [h2]; omega, by simpa using h5, fun j hj => ?_⟩ hg0
  by_cases hj2 : j < ll.length
  · obtain ⟨y, y2, e, e2, hs⟩ := h4 j hj2
    refine ⟨y, y2, by rw [List.getElem?_append_left (by omega)]; exact e, by rw [List.getElem?_append_left (by omega)]; exact e2, ?_⟩
    rw [atk_append_left _ _ _ hj2]
    exact move _ hs
  · obtain rfl : j = ll.length := by simp at hj; omega
    refine ⟨u, u2, ?_, ?_, ?_⟩
    · rw [List.getElem?_append_right (by omega), show ll.length * 2 - us.length = 0 by omega]; rfl
    · rw [List.getElem?_append_right (by omega), show ll.length * 2 + 1 - us.length = 1 by omega]; rfl
    · rw [atk_append_last]; exact move _ hu
theorem NewK.farRow {B : Nat} {w : World} {v : Value} {l : List Lk} (h : NewK B w v l) : Far (fun b => b < B) (fun W => RowK W v l) w := by
  have hlt := fun b (e : v.ownBlock = some b) => h.lt e
  obtain ⟨h1, us, h2, h3, h4⟩ := h
  intro w' hs hk
  refine NewK.row (B := B) ⟨h1, us, h2, ownsRow_same h3 fun g hg => hk g (hlt g hg).2 (by have := (hlt g hg).1; show ¬ g < B; omega), fun j hj => ?_⟩
  obtain ⟨u, u2, e, e2, hF⟩ := h4 j hj
  exact ⟨u, u2, e, e2, hF.step hs fun b hlt hn => hk b hlt fun e => hn (.inl e)⟩
/-- the row itself, whatever is written below it -/
theorem NewK.far0 {B : Nat} {w : World} {v : Value} {l : List Lk} (h : NewK B w v l) : Far (fun b => b < B) (fun W => NewK 0 W v l) w := by
  have hlt := fun b (e : v.ownBlock = some b) => h.lt e
  obtain ⟨h1, us, h2, h3, h4⟩ := h
  intro w' hs hk
  refine ⟨h1, us, h2, ownsRow_mono (ownsRow_same h3 fun g hg => hk g (hlt g hg).2 (by have := (hlt g hg).1; show ¬ g < B; omega)) (Nat.zero_le _), fun j hj => ?_⟩
  obtain ⟨u, u2, e, e2, hF⟩ := h4 j hj
  exact ⟨u, u2, e, e2, (hF.step hs fun b hlt hn => hk b hlt fun e => hn (.inl e)).less fun b _ e => e.elim (fun e => absurd e (Nat.not_lt_zero _)) .inr⟩
theorem NewK.grownOther {B : Nat} {w w' : World} {v : Value} {l : List Lk} {r : Option Nat} (h : NewK B w v l) (hg : w.grownBy w' r) (hr : ∀ g, r = some g → g < B) : NewK B w' v l := by
  have hlt := fun b (e : v.ownBlock = some b) => h.lt e
  obtain ⟨h1, us, h2, h3, h4⟩ := h
  refine ⟨h1, us, h2, ownsRow_grown h3 hg (fun g hv e => by have := hr g e; have := (hlt g hv).1; omega), fun j hj => ?_⟩
  obtain ⟨u, u2, e, e2, hs⟩ := h4 j hj
  exact ⟨u, u2, e, e2, hs.grown hg fun g e _ => .inl (hr g e)⟩
end Go.Proofs.YtcihkechphldcaaDoor
