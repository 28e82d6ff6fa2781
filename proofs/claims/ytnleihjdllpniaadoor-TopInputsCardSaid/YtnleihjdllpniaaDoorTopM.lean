/- Plain law: a proof that holds for wrong outputs has told a list that is wrong, and right at its draw; where a right proof ends; no program in sight, no condition. -/
import Derived.Test.YtnleihjdllpniaaDoorFiatM
namespace Go.Proofs.YtnleihjdllpniaaDoor
set_option maxRecDepth 100000
set_option linter.unusedVariables false
open Tally
theorem atl_app_left (a b : List (List Int)) {j : Nat} (h : j < a.length) : atl (a ++ b) j = atl a j := by unfold atl; rw [List.getElem?_append_left h]
theorem atl_app_right (a b : List (List Int)) {n : Nat} (h : a.length = n) (j : Nat) : atl (a ++ b) (n + j) = atl b j := by
  unfold atl; rw [List.getElem?_append_right (by omega), h, Nat.add_sub_cancel_left]
theorem getD_toF (l : List (List Int)) (r : Nat) : (l.map (·.map phi))[r]?.getD [] = (atl l r).map phi := by
  unfold atl
  rw [List.getElem?_map]
  cases l[r]? <;> rfl
theorem flatP_cons (P : Pi) (ps : List Pi) : flatP (P :: ps) = listsP P ++ flatP ps := rfl
theorem atF_drop (d : List F) (n m : Nat) : atF (d.drop n) m = atF d (n + m) := by simp [atF]
/-- who lies has told, at some place, a list that is wrong, and right at its draw -/
theorem lies_flat (c : Ci) (I : List F) : ∀ i (z d : List Int) (ps : List Pi), ps.length = i → (∀ j, j < i → PiOk (atp ps j) (belowLog c (i - 1 - j)).toNat) → d.length = needFrom c i →
    Lies c I i (z.map phi) (ps.map Pi.toF) (d.map phi) → ∃ m, m < needFrom c i ∧ Unlike ((atl (flatP ps) m).map phi) ((atl (flatP (proofFromI c I i z d)) m).map phi) (atF (d.map phi) m)
  | 0, z, d, ps, hl, _, _, h => by cases h
  | i + 1, z, d, [], hl, _, _, h => by cases hl
  | i + 1, z, d, P :: ps, hl, hP, hd, h => by
    have hk := hP 0 (by omega)
    rw [show i + 1 - 1 - 0 = i by omega] at hk
    have hk : PiOk P (belowLog c i).toNat := hk
    have hdn : d.length = 2 * (belowLog c i).toNat + 1 + needFrom c i := hd
    have e : proofFromI c I (i + 1) z d = (⟨roundsI (aty c.layers i).gates z ((valF c I i).map psi) (belowLog c i).toNat d, pLineI ((valF c I i).map psi) (belowLog c i).toNat d⟩ : Pi) :: proofFromI c I i (nextI (belowLog c i).toNat d) (d.drop (2 * (belowLog c i).toNat + 1)) := rfl
    have eF : (⟨roundsI (aty c.layers i).gates z ((valF c I i).map psi) (belowLog c i).toNat d, pLineI ((valF c I i).map psi) (belowLog c i).toNat d⟩ : Pi).toF = partF (aty c.layers i).gates (z.map phi) (valF c I i) (belowLog c i).toNat (d.map phi) := by
      have h1 := proofFromI_toF c I (i + 1) z d
      rw [e, List.map_cons] at h1
      exact (List.cons.inj h1).1
    have hneed : needFrom c (i + 1) = 2 * (belowLog c i).toNat + 1 + needFrom c i := rfl
    obtain ⟨Q, hQ⟩ : ∃ Q : Pi, Q = ⟨roundsI (aty c.layers i).gates z ((valF c I i).map psi) (belowLog c i).toNat d, pLineI ((valF c I i).map psi) (belowLog c i).toNat d⟩ := ⟨_, rfl⟩
    have hQl : (listsP Q).length = 2 * (belowLog c i).toNat + 1 := by rw [hQ]; unfold listsP; simp [roundsI_length]
    have hQr : Q.rounds.length = 2 * (belowLog c i).toNat := by rw [hQ]; exact roundsI_length _ _ _ _ _
    rw [← hQ] at e eF
    rw [e, flatP_cons, flatP_cons, hneed]
    clear hQ
    cases h with
    | round _ _ _ _ _ r hr hu =>
      refine ⟨r, by omega, ?_⟩
      rw [atl_app_left _ _ (by rw [hk.lists]; omega), atl_app_left _ _ (by rw [hQl]; omega)]
      rw [← eF] at hu
      have hu : Unlike ((P.rounds.map (·.map phi))[r]?.getD []) ((Q.rounds.map (·.map phi))[r]?.getD []) (atF (d.map phi) r) := hu
      rw [getD_toF, getD_toF] at hu
      unfold listsP
      rw [atl_app_left _ _ (by rw [hk.n]; exact hr), atl_app_left _ _ (by rw [hQr]; exact hr)]
      exact hu
    | line _ _ _ _ _ hu =>
      refine ⟨2 * (belowLog c i).toNat, by omega, ?_⟩
      rw [atl_app_left _ _ (by rw [hk.lists]; omega), atl_app_left _ _ (by rw [hQl]; omega)]
      rw [← eF] at hu
      have a1 := atl_app_right P.rounds [P.line] hk.n 0
      have a2 := atl_app_right Q.rounds [Q.line] hQr 0
      rw [Nat.add_zero] at a1 a2
      unfold listsP
      rw [a1, a2]
      exact hu
    | more _ _ _ _ _ h' =>
      have en : nextZ (belowLog c i).toNat (d.map phi) = (nextI (belowLog c i).toNat d).map phi := (mapphi_psi _).symm
      rw [en, ← List.map_drop] at h'
      obtain ⟨m, hm, hu⟩ := lies_flat c I i (nextI (belowLog c i).toNat d) (d.drop (2 * (belowLog c i).toNat + 1)) ps (by simpa using hl) (fun j hj => by
        have := hP (j + 1) (by omega)
        rw [show i + 1 - 1 - (j + 1) = i - 1 - j by omega] at this
        exact this) (by rw [List.length_drop]; omega) h'
      refine ⟨2 * (belowLog c i).toNat + 1 + m, by omega, ?_⟩
      rw [atl_app_right _ _ hk.lists, atl_app_right _ _ hQl]
      rw [List.map_drop, atF_drop] at hu
      exact hu
theorem ptsOk_of (c : Ci) : ∀ i (ps : List Pi), ps.length = i → (∀ j, j < i → PiOk (atp ps j) (belowLog c (i - 1 - j)).toNat) → PtsOk c i (ps.map Pi.toF)
  | 0, _, _, _ => trivial
  | i + 1, [], h, _ => by cases h
  | i + 1, P :: ps, h, hP => by
    have hk := hP 0 (by omega)
    rw [show i + 1 - 1 - 0 = i by omega] at hk
    have hk : PiOk P (belowLog c i).toNat := hk
    refine ⟨hk.toF, ptsOk_of c i ps (by simpa using h) fun j hj => ?_⟩
    have := hP (j + 1) (by omega)
    rw [show i + 1 - 1 - (j + 1) = i - 1 - j by omega] at this
    exact this
theorem verO_yes {inp : List F} {o : Option (F × List F)} (h : verO inp o = true) : ∃ z, o = some (evalF inp z, z) := by
  cases o with
  | none => cases h
  | some x =>
    obtain ⟨cl, z⟩ := x
    have h : (psi (evalF inp z) == psi cl) = true := h
    have := psi_inj (eq_of_beq h)
    exact ⟨z, by rw [this]⟩
/-- outputs that are wrong where the proof begins, and a proof that holds: somewhere it lies -/
theorem sound_flat {c : Ci} (hg : Good c) (inp out d : List Int) (ps : List Pi) (hi : inp.length = 2 ^ c.log.toNat) (hd : d.length = drawsN c) (hS : ShapedI c ps) (hv : verB c inp out ps d = true)
    (hne : evalF (out.map phi) (topZ c d) ≠ evalF (valF c (inp.map phi) c.layers.length) (topZ c d)) :
    ∃ m, m < needFrom c c.layers.length ∧ Unlike ((atl (flatP ps) m).map phi) ((atl (flatP (proveI c inp d)) m).map phi) (atF (d.map phi) ((belowLog c c.layers.length).toNat + m)) := by
  have hPP : ∀ j, j < c.layers.length → PiOk (atp ps j) (belowLog c (c.layers.length - 1 - j)).toNat := fun j hj => hS.2 j (by rw [hS.1]; exact hj)
  obtain ⟨z', hz'⟩ := verO_yes hv
  have hl := lies hg (inp.map phi) (by rw [List.length_map, hi]) c.layers.length (Nat.le_refl _) (topZ c d) ((d.map phi).drop (belowLog c c.layers.length).toNat) (evalF (out.map phi) (topZ c d)) (ps.map Pi.toF) _ z' (topZ_length d hd)
    (by rw [List.length_drop, List.length_map, hd]; unfold drawsN; omega) (ptsOk_of c _ ps hS.1 hPP) hne hz' rfl
  have e1 : topZ c d = (d.take (belowLog c c.layers.length).toNat).map phi := by unfold topZ; rw [List.map_take]
  rw [e1, ← List.map_drop] at hl
  obtain ⟨m, hm, hu⟩ := lies_flat c (inp.map phi) c.layers.length _ _ ps hS.1 hPP (by rw [List.length_drop, hd]; unfold drawsN; omega) hl
  refine ⟨m, hm, ?_⟩
  rw [List.map_drop, atF_drop] at hu
  exact hu
/-- where a right proof ends -/
theorem endZ_low (c : Ci) : ∀ i (z d : List F), d.length = needFrom c (i + 1) → endZ c (i + 1) z d = nextZ (belowLog c 0).toNat (d.drop (needFrom c (i + 1) - needFrom c 1))
  | 0, z, d, _ => by
    show nextZ (belowLog c 0).toNat d = _
    rw [show needFrom c (0 + 1) - needFrom c 1 = 0 from Nat.sub_self _, List.drop_zero]
  | i + 1, z, d, h => by
    have hn : needFrom c (i + 1 + 1) = 2 * (belowLog c (i + 1)).toNat + 1 + needFrom c (i + 1) := rfl
    show endZ c (i + 1) (nextZ (belowLog c (i + 1)).toNat d) (d.drop (2 * (belowLog c (i + 1)).toNat + 1)) = _
    rw [endZ_low c i _ _ (by rw [List.length_drop]; omega), List.drop_drop]
    have h1 : needFrom c 1 ≤ needFrom c (i + 1) := by
      clear h hn
      induction i with
      | zero => exact Nat.le_refl _
      | succ i ih => exact Nat.le_trans ih (by show _ ≤ 2 * _ + 1 + needFrom c (i + 1); omega)
    congr 2; omega
theorem lowZ_eq {c : Ci} (hg : Good c) (d : List Int) (hd : d.length = drawsN c) (k : Nat) (hk : k = c.log.toNat) :
    2 * k + 1 ≤ drawsN c ∧ lowZ c d = lineF ((d.map phi).drop (drawsN c - 1 - 2 * k) |>.take k) ((d.map phi).drop (drawsN c - 1 - k) |>.take k) (atF (d.map phi) (drawsN c - 1)) := by
  obtain ⟨i, hi⟩ : ∃ i, c.layers.length = i + 1 := ⟨c.layers.length - 1, by have := hg.n1; omega⟩
  have hb0 : (belowLog c 0).toNat = k := by rw [hk]; rfl
  have h1 : needFrom c 1 = 2 * k + 1 := by show 2 * (belowLog c 0).toNat + 1 + 0 = _; rw [hb0]
  have hle : ∀ i, needFrom c 1 ≤ needFrom c (i + 1) := fun i => by
    induction i with
    | zero => exact Nat.le_refl _
    | succ i ih => exact Nat.le_trans ih (by show _ ≤ 2 * _ + 1 + needFrom c (i + 1); omega)
  have hD : drawsN c = (belowLog c c.layers.length).toNat + needFrom c c.layers.length := rfl
  have h2 := hle i
  rw [← hi] at h2
  refine ⟨by omega, ?_⟩
  unfold lowZ
  have e := endZ_low c i (topZ c d) ((d.map phi).drop (belowLog c c.layers.length).toNat) (by rw [List.length_drop, List.length_map, hd, ← hi]; omega)
  rw [← hi] at e
  rw [e, List.drop_drop, hb0, h1]
  unfold nextZ
  rw [List.drop_drop, atF_drop]
  have a1 : (belowLog c c.layers.length).toNat + (needFrom c c.layers.length - (2 * k + 1)) = drawsN c - 1 - 2 * k := by omega
  have a2 : drawsN c - 1 - 2 * k + k = drawsN c - 1 - k := by omega
  have a3 : drawsN c - 1 - 2 * k + 2 * k = drawsN c - 1 := by omega
  rw [a1, a2, a3]
end Go.Proofs.YtnleihjdllpniaaDoor
