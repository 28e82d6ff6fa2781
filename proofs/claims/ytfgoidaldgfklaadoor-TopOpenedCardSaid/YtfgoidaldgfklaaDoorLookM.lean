/- Mathematics of openings: what a look answers, what is opened, that what is opened holds. No condition. -/
import Derived.Test.YtfgoidaldgfklaaDoorLooks
import Derived.Test.YtfgoidaldgfklaaDoorTreeK
namespace Go.Proofs.YtfgoidaldgfklaaDoor
set_option maxRecDepth 100000
set_option linter.unusedVariables false
open Go.RowKit Tally
/-- the number that stands behind step k of a look at place p -/
def nextKI (o : Oi) (x : Lk) (n p k : Nat) : Int :=
  if k + 1 < n then (if 2 ^ (n - k - 1) ≤ 2 * (p % 2 ^ (n - k - 1)) then (ata x.pairs (k + 1)).2 else (ata x.pairs (k + 1)).1) else o.value
/-- the root at which step k must come out -/
def rootI (root : Int) (o : Oi) (k : Nat) : Int := if k = 0 then root else at0 o.roots (k - 1)
def standB (root : Int) (n p : Nat) (pr : Int × Int) (pt : List Int × List Int) : Bool :=
  decide (climbF pr.1 pt.1 p = phi root) && decide (climbF pr.2 pt.2 (p + 2 ^ (n - 1)) = phi root)
def stepB (root : Int) (pt : List Int) (o : Oi) (x : Lk) (p k : Nat) : Bool :=
  standB (rootI root o k) (pt.length - k) (p % 2 ^ (pt.length - k - 1)) (ata x.pairs k) (atb x.paths k) &&
    decide (btw (phi (ata x.pairs k).1) (phi (ata x.pairs k).2) (phi (at0 pt k)) = phi (nextKI o x pt.length p k))
/-- does a look hold, up to step k? -/
def holdB (root : Int) (pt : List Int) (o : Oi) (x : Lk) (p k : Nat) : Bool := (List.range k).all (stepB root pt o x p)
def looksB (root : Int) (pt places : List Int) (o : Oi) (i : Nat) : Bool := (List.range i).all fun j => holdB root pt o (atk o.looks j) (at0 places j).toNat pt.length
/-- what Look answers, where the form is right -/
def lookB (root : Int) (pt places : List Int) (o : Oi) : Bool := decide (pairF (phi o.value) 0 = phi (at0 o.roots (pt.length - 1))) && looksB root pt places o places.length
def placesB (places : List Int) (half : Int) (i : Nat) : Bool := (List.range i).all fun j => decide (0 ≤ at0 places j ∧ at0 places j < half)
/-- a look's form, of n variables -/
def lkForm (n : Nat) (x : Lk) : Prop := x.pairs.length = n ∧ x.paths.length = n ∧ ∀ k, k < n → (atb x.paths k).1.length = n - k ∧ (atb x.paths k).2.length = n - k
def OForm (n m : Nat) (o : Oi) : Prop := o.roots.length = n ∧ o.looks.length = m ∧ ∀ i, i < m → lkForm n (atk o.looks i)
theorem holdB_succ (root : Int) (pt : List Int) (o : Oi) (x : Lk) (p k : Nat) : holdB root pt o x p (k + 1) = (holdB root pt o x p k && stepB root pt o x p k) := by
  simp [holdB, List.range_succ, List.all_append]
theorem holdB_false {root : Int} {pt : List Int} {o : Oi} {x : Lk} {p k n : Nat} (hk : k < n) (h : stepB root pt o x p k = false) : holdB root pt o x p n = false := by
  rw [holdB, Bool.eq_false_iff]
  intro e
  rw [List.all_eq_true] at e
  exact absurd (e k (List.mem_range.2 hk)) (by simp [h])
theorem looksB_succ (root : Int) (pt places : List Int) (o : Oi) (i : Nat) : looksB root pt places o (i + 1) = (looksB root pt places o i && holdB root pt o (atk o.looks i) (at0 places i).toNat pt.length) := by
  simp [looksB, List.range_succ, List.all_append]
theorem looksB_false {root : Int} {pt places : List Int} {o : Oi} {i n : Nat} (hi : i < n) (h : holdB root pt o (atk o.looks i) (at0 places i).toNat pt.length = false) : looksB root pt places o n = false := by
  rw [looksB, Bool.eq_false_iff]
  intro e
  rw [List.all_eq_true] at e
  exact absurd (e i (List.mem_range.2 hi)) (by simp [h])
theorem placesB_succ (places : List Int) (half : Int) (i : Nat) : placesB places half (i + 1) = (placesB places half i && decide (0 ≤ at0 places i ∧ at0 places i < half)) := by
  simp [placesB, List.range_succ, List.all_append]
theorem placesB_at {places : List Int} {half : Int} {n i : Nat} (h : placesB places half n = true) (hi : i < n) : 0 ≤ at0 places i ∧ at0 places i < half := by
  rw [placesB, List.all_eq_true] at h
  exact of_decide_eq_true (h i (List.mem_range.2 hi))
theorem placesB_false {places : List Int} {half : Int} {n i : Nat} (hi : i < n) (h : ¬ (0 ≤ at0 places i ∧ at0 places i < half)) : placesB places half n = false := by
  rw [Bool.eq_false_iff]
  exact fun e => h (placesB_at e hi)
/-- table k of an opening -/
def tabF (t pt : List Int) (k : Nat) : List F := fixes (t.map phi) ((pt.map phi).take k)
def tabI (t pt : List Int) (k : Nat) : List Int := if k = 0 then t else (tabF t pt k).map psi
theorem tabI_phi (t pt : List Int) (k : Nat) : (tabI t pt k).map phi = tabF t pt k := by
  unfold tabI
  split
  · rename_i h; subst h; simp [tabF, fixes]
  · exact mapphi_psi _
theorem tabF_zero (t pt : List Int) : tabF t pt 0 = t.map phi := by simp [tabF, fixes]
theorem tabF_succ (t pt : List Int) (k : Nat) (hk : k < pt.length) : tabF t pt (k + 1) = fixF (tabF t pt k) (phi (at0 pt k)) := by
  unfold tabF
  rw [List.take_add_one, List.getElem?_map, List.getElem?_eq_getElem hk]
  simp only [Option.map_some, Option.toList_some]
  rw [fixes_snoc]
  simp [at0, hk]
theorem tabF_length (t pt : List Int) (hn : t.length = 2 ^ pt.length) (k : Nat) : k ≤ pt.length → (tabF t pt k).length = 2 ^ (pt.length - k) := by
  induction k with
  | zero => intro _; rw [tabF_zero, List.length_map, hn]; rfl
  | succ k ih =>
    intro hk
    rw [tabF_succ t pt k (by omega), fixF_length, ih (by omega), show pt.length - k = pt.length - (k + 1) + 1 by omega, Nat.pow_succ]
    omega
theorem tabI_length (t pt : List Int) (hn : t.length = 2 ^ pt.length) (k : Nat) (hk : k ≤ pt.length) : (tabI t pt k).length = 2 ^ (pt.length - k) := by
  have := tabF_length t pt hn k hk
  rw [← tabI_phi, List.length_map] at this
  exact this
def rootOf (t pt : List Int) (k : Nat) : Int := psi (rootF (tabI t pt (k + 1)) (pt.length - (k + 1)))
def pairOf (t pt : List Int) (p k : Nat) : Int × Int :=
  (psi (phi (at0 (tabI t pt k) (p % 2 ^ (pt.length - k - 1)))), psi (phi (at0 (tabI t pt k) (p % 2 ^ (pt.length - k - 1) + 2 ^ (pt.length - k - 1)))))
def pathOf (t pt : List Int) (p k : Nat) : List Int × List Int :=
  ((pathF (tabI t pt k) (pt.length - k) (p % 2 ^ (pt.length - k - 1))).map psi, (pathF (tabI t pt k) (pt.length - k) (p % 2 ^ (pt.length - k - 1) + 2 ^ (pt.length - k - 1))).map psi)
def lookOf (t pt : List Int) (p : Nat) : Lk := ⟨(List.range pt.length).map (pairOf t pt p), (List.range pt.length).map (pathOf t pt p)⟩
/-- what is opened -/
def openI (t pt places : List Int) : Oi := ⟨(List.range pt.length).map (rootOf t pt), at0 (tabI t pt pt.length) 0, places.map fun p => lookOf t pt p.toNat⟩
theorem ata_pairOf (t pt : List Int) (p k : Nat) (hk : k < pt.length) : ata (lookOf t pt p).pairs k = pairOf t pt p k := by simp [ata, lookOf, hk]
theorem atb_pathOf (t pt : List Int) (p k : Nat) (hk : k < pt.length) : atb (lookOf t pt p).paths k = pathOf t pt p k := by simp [atb, lookOf, hk]
theorem openI_form (t pt places : List Int) (v : Int) : OForm pt.length places.length { openI t pt places with value := v } := by
  refine ⟨by simp [openI], by simp [openI], fun i hi => ?_⟩
  have e : atk (openI t pt places).looks i = lookOf t pt (at0 places i).toNat := by simp [atk, openI, at0, hi]
  show lkForm _ (atk (openI t pt places).looks i)
  rw [e]
  refine ⟨by simp [lookOf], by simp [lookOf], fun k hk => ?_⟩
  rw [atb_pathOf _ _ _ _ hk]
  constructor <;> simp [pathOf, pathF, pathN_length]
theorem climbF_norm (x : Int) (p : List Int) (i : Nat) : climbF (psi (phi x)) p i = climbF x p i := by simp [climbF, phi_psi]
theorem plc_half (p m : Nat) : (if 2 ^ (m + 1) ≤ 2 * (p % 2 ^ (m + 1)) then p % 2 ^ m + 2 ^ m else p % 2 ^ m) = p % 2 ^ (m + 1) := by
  have e : p % 2 ^ (m + 1) = p % 2 ^ m + 2 ^ m * (p / 2 ^ m % 2) := by rw [Nat.pow_succ, Nat.mod_mul]
  have hm : p % 2 ^ m < 2 ^ m := Nat.mod_lt _ (Nat.pow_pos (by decide))
  rcases Nat.mod_two_eq_zero_or_one (p / 2 ^ m) with h | h
  · rw [h] at e
    rw [if_neg (by rw [e, Nat.pow_succ]; omega), e]; omega
  · rw [h] at e
    rw [if_pos (by rw [e, Nat.pow_succ]; omega), e]; omega
theorem open_step (t pt places : List Int) (hn : t.length = 2 ^ pt.length) (p k : Nat) (hk : k < pt.length) : stepB (psi (rootF t pt.length)) pt (openI t pt places) (lookOf t pt p) p k = true := by
  have hl := tabI_length t pt hn k (by omega)
  obtain ⟨m, hm⟩ : ∃ m, pt.length - k - 1 = m := ⟨_, rfl⟩
  have hm1 : pt.length - k = m + 1 := by omega
  have hq : p % 2 ^ m < 2 ^ m := Nat.mod_lt _ (Nat.pow_pos (by decide))
  have hq1 : p % 2 ^ m < 2 ^ (m + 1) := by rw [Nat.pow_succ]; omega
  have hq2 : p % 2 ^ m + 2 ^ m < 2 ^ (m + 1) := by rw [Nat.pow_succ]; omega
  rw [hm1] at hl
  have hr : phi (rootI (psi (rootF t pt.length)) (openI t pt places) k) = rootF (tabI t pt k) (m + 1) := by
    unfold rootI
    split
    · rename_i h0; subst h0
      rw [phi_psi, show tabI t pt 0 = t from rfl]
      congr 1
    · rename_i h0
      have : at0 (openI t pt places).roots (k - 1) = rootOf t pt (k - 1) := by simp [openI, at0, show k - 1 < pt.length by omega]
      rw [this, rootOf, phi_psi, show k - 1 + 1 = k by omega, hm1]
  unfold stepB standB
  rw [ata_pairOf _ _ _ _ hk, atb_pathOf _ _ _ _ hk, hr]
  simp only [pairOf, pathOf, hm1, Nat.add_sub_cancel]
  rw [climbF_norm, climbF_norm, climb_root _ _ _ hl hq1, climb_root _ _ _ hl hq2, phi_psi, phi_psi]
  simp only [decide_true, Bool.true_and, decide_eq_true_eq]
  have hphi : ∀ j, j < 2 ^ (m + 1) → phi (at0 (tabI t pt k) j) = atF (tabF t pt k) j := fun j hj => by
    rw [← tabI_phi]
    simp [at0, atF, show j < (tabI t pt k).length by omega]
  have hF : (tabF t pt k).length / 2 = 2 ^ m := by
    rw [← tabI_phi, List.length_map, hl, Nat.pow_succ]; omega
  have hfix : btw (phi (at0 (tabI t pt k) (p % 2 ^ m))) (phi (at0 (tabI t pt k) (p % 2 ^ m + 2 ^ m))) (phi (at0 pt k)) = atF (tabF t pt (k + 1)) (p % 2 ^ m) := by
    rw [hphi _ hq1, hphi _ hq2, tabF_succ _ _ _ hk, fixF_at _ _ _ (by rw [hF]; exact hq), hF]
  rw [hfix]
  have hphi2 : ∀ j, j < 2 ^ m → phi (at0 (tabI t pt (k + 1)) j) = atF (tabF t pt (k + 1)) j := fun j hj => by
    have := tabI_length t pt hn (k + 1) (by omega)
    rw [show pt.length - (k + 1) = m by omega] at this
    rw [← tabI_phi]
    simp [at0, atF, show j < (tabI t pt (k + 1)).length by omega]
  unfold nextKI
  rw [hm]
  by_cases hk1 : k + 1 < pt.length
  · obtain ⟨r, hr⟩ : ∃ r, m = r + 1 := ⟨m - 1, by omega⟩
    rw [if_pos hk1, ata_pairOf _ _ _ _ hk1]
    simp only [pairOf, show pt.length - (k + 1) - 1 = r by omega]
    subst hr
    have hs := plc_half p r
    split
    · rename_i h2
      rw [if_pos h2] at hs
      rw [phi_psi, hs, hphi2 _ hq]
    · rename_i h2
      rw [if_neg h2] at hs
      rw [phi_psi, hs, hphi2 _ hq]
  · rw [if_neg hk1]
    have h0 : m = 0 := by omega
    subst h0
    show _ = phi (at0 (tabI t pt pt.length) 0)
    rw [show p % 2 ^ 0 = 0 by simp [Nat.mod_one], show pt.length = k + 1 by omega, hphi2 0 (by simp)]
theorem open_holds (t pt places : List Int) (hn : t.length = 2 ^ pt.length) (h1 : 1 ≤ pt.length) : lookB (psi (rootF t pt.length)) pt places (openI t pt places) = true := by
  unfold lookB
  have hroot : at0 (openI t pt places).roots (pt.length - 1) = rootOf t pt (pt.length - 1) := by simp [openI, at0, show pt.length - 1 < pt.length by omega]
  have hl := tabI_length t pt hn pt.length (Nat.le_refl _)
  rw [Nat.sub_self] at hl
  have hlast : phi (rootOf t pt (pt.length - 1)) = pairF (phi (openI t pt places).value) 0 := by
    rw [rootOf, phi_psi, show pt.length - 1 + 1 = pt.length by omega, Nat.sub_self]
    match h : tabI t pt pt.length, hl with
    | [x], _ => simp [rootF, rootN, leafs, atF, openI, h, at0]
  rw [hroot, hlast]
  simp only [decide_true, Bool.true_and]
  unfold looksB
  rw [List.all_eq_true]
  intro i hi
  have hi := List.mem_range.1 hi
  have e : atk (openI t pt places).looks i = lookOf t pt (at0 places i).toNat := by simp [atk, openI, at0, hi]
  rw [e]
  unfold holdB
  rw [List.all_eq_true]
  intro k hk
  exact open_step t pt places hn _ k (List.mem_range.1 hk)
theorem lookB_first {root : Int} {pt places : List Int} {o : Oi} (h : lookB root pt places o = true) : pairF (phi o.value) 0 = phi (at0 o.roots (pt.length - 1)) := by
  unfold lookB at h
  rw [Bool.and_eq_true] at h
  exact of_decide_eq_true h.1
/-- who tells another value, and is held to be right, has told one of which the sponge makes the same -/
theorem open_bent (t pt places : List Int) (hn : t.length = 2 ^ pt.length) (h1 : 1 ≤ pt.length) (v : Int) (h : lookB (psi (rootF t pt.length)) pt places { openI t pt places with value := v } = true) : pairF (phi v) 0 = pairF (phi (openI t pt places).value) 0 :=
  (lookB_first h).trans (lookB_first (open_holds t pt places hn h1)).symm
theorem open_value (t pt places : List Int) (hn : t.length = 2 ^ pt.length) (h1 : 1 ≤ pt.length) : (openI t pt places).value = psi (evalF (t.map phi) (pt.map phi)) := by
  have hl := tabF_length t pt hn pt.length (Nat.le_refl _)
  rw [Nat.sub_self] at hl
  show at0 (tabI t pt pt.length) 0 = _
  unfold tabI
  rw [if_neg (by omega)]
  have e : tabF t pt pt.length = fixes (t.map phi) (pt.map phi) := by
    unfold tabF; rw [List.take_of_length_le (by simp)]
  have h0 : 0 < (tabF t pt pt.length).length := by rw [hl]; simp
  show at0 ((tabF t pt pt.length).map psi) 0 = psi (evalF (t.map phi) (pt.map phi))
  rw [evalF, ← e]
  simp [at0, atF, h0]
end Go.Proofs.YtfgoidaldgfklaaDoor
