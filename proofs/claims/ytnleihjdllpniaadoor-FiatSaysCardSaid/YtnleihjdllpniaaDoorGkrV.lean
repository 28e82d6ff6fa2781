/- Plain law: proofs, layer by layer: what is proved is held to be right; who lies has told a wrong polynomial that is right at its draw; no program in sight, no condition. -/
import Derived.Test.YtnleihjdllpniaaDoorGkrM
import Derived.Test.YtnleihjdllpniaaDoorVerify
namespace Go.Proofs.YtnleihjdllpniaaDoor
set_option maxRecDepth 100000
set_option linter.unusedVariables false
open Tally
/-- a part of a proof -/
structure Pt where
  rounds : List (List F)
  line : List F
/-- what is told of a layer with the draws d -/
def partF (gs : List Gt) (z V : List F) (k : Nat) (d : List F) : Pt := ⟨(List.range (2 * k)).map fun j => roundAt gs z V k (d.take j), partL V (d.take k) ((d.drop k).take k)⟩
/-- where the layer below is claimed -/
def nextZ (k : Nat) (d : List F) : List F := lineF (d.take k) ((d.drop k).take k) (atF d (2 * k))
/-- the parts of the layers below i -/
def proofFrom (c : Ci) (I : List F) : Nat → List F → List F → List Pt
  | 0, _, _ => []
  | i + 1, z, d => partF (aty c.layers i).gates z (valF c I i) (belowLog c i).toNat d :: proofFrom c I i (nextZ (belowLog c i).toNat d) (d.drop (2 * (belowLog c i).toNat + 1))
/-- what is claimed behind a part, if it holds -/
def holdsF (gs : List Gt) (z : List F) (cl : F) (k : Nat) (P : Pt) (d : List F) : Option F :=
  match told cl P.rounds (d.take (2 * k)) with
  | none => none
  | some now => if stepF gs z (d.take k) ((d.drop k).take k) (lag P.line 0) (if k = 0 then lag P.line 0 else lag P.line 1) = now then some (lag P.line (atF d (2 * k))) else none
/-- what is claimed at last, and where, if all hold -/
def holdsFrom (c : Ci) : Nat → List F → F → List Pt → List F → Option (F × List F)
  | 0, z, cl, _, _ => some (cl, z)
  | _ + 1, _, _, [], _ => none
  | i + 1, z, cl, P :: ps, d => match holdsF (aty c.layers i).gates z cl (belowLog c i).toNat P d with
    | none => none
    | some cl' => holdsFrom c i (nextZ (belowLog c i).toNat d) cl' ps (d.drop (2 * (belowLog c i).toNat + 1))
/-- as many draws as the layers below i want -/
def needFrom (c : Ci) : Nat → Nat
  | 0 => 0
  | i + 1 => 2 * (belowLog c i).toNat + 1 + needFrom c i
theorem nextZ_length (k : Nat) (d : List F) (h : 2 * k < d.length) : (nextZ k d).length = k := by
  unfold nextZ
  rw [lineF_length _ _ _ (by rw [List.length_take, List.length_take, List.length_drop]; omega), List.length_take]; omega
theorem Good.gatesIn {c : Ci} (h : Good c) {i : Nat} (hi : i < c.layers.length) : GatesIn (aty c.layers i).gates (2 ^ (belowLog c i).toNat) := by
  intro j hj
  obtain ⟨h1, h2, h3, h4⟩ := gateOk_bd (h.gate i hi j hj)
  generalize 2 ^ (belowLog c i).toNat = N at *
  omega
/-- rounds that are told rightly are held -/
theorem told_lay (gs : List Gt) (z V : List F) (k : Nat) (d : List F) (hd : 2 * k ≤ d.length) : ∀ j, j ≤ 2 * k →
    toldTo (sumAt gs z V k []) ((List.range (2 * k)).map fun j => roundAt gs z V k (d.take j)) (d.take (2 * k)) j = some (sumAt gs z V k (d.take j))
  | 0, _ => by rw [List.take_zero]; rfl
  | j + 1, hj => by
    have hl : (d.take j).length = j := by rw [List.length_take]; omega
    have e : ((List.range (2 * k)).map fun j => roundAt gs z V k (d.take j))[j]?.getD [] = roundAt gs z V k (d.take j) := by
      simp [show j < 2 * k by omega]
    have e0 : atF (roundAt gs z V k (d.take j)) 0 = sumAt gs z V k (d.take j ++ [0]) := by
      rw [← lag_roundAt gs z V k _ (by omega) 0]
      exact (lag_at _ (by rw [roundAt_length]; omega) 0 (by rw [roundAt_length]; omega)).symm
    have e1 : atF (roundAt gs z V k (d.take j)) 1 = sumAt gs z V k (d.take j ++ [1]) := by
      rw [← lag_roundAt gs z V k _ (by omega) 1]
      exact (lag_at _ (by rw [roundAt_length]; omega) 1 (by rw [roundAt_length]; omega)).symm
    simp only [toldTo]
    rw [told_lay gs z V k d hd j (by omega)]
    simp only []
    rw [e, e0, e1, sumAt_split gs z V k _ (by omega), if_pos rfl, lag_roundAt gs z V k _ (by omega)]
    have e2 : atF (d.take (2 * k)) j = atF d j := by simp [atF, show j < 2 * k by omega]
    rw [e2, ← take_snoc d j 0 (by omega)]
theorem take_part (k : Nat) (d : List F) (h : 2 * k ≤ d.length) : (d.take (2 * k)).take k = d.take k ∧ (d.take (2 * k)).drop k = (d.drop k).take k := by
  refine ⟨by rw [List.take_take]; congr 1; omega, ?_⟩
  rw [List.drop_take]; congr 1; omega
/-- a part that is told rightly holds -/
theorem holds_lay (gs : List Gt) (z V : List F) (k : Nat) (d : List F) (hd : 2 * k < d.length) (hV : V.length = 2 ^ k) (hk : k < 1000) (hG : GatesIn gs (2 ^ k)) (hz : gs.length = 2 ^ z.length) :
    holdsF gs z (evalF (layF V gs) z) k (partF gs z V k d) d = some (evalF V (nextZ k d)) := by
  have hx : (d.take k).length = k := by rw [List.length_take]; omega
  have hy : ((d.drop k).take k).length = k := by rw [List.length_take, List.length_drop]; omega
  have ht : told (sumAt gs z V k []) ((List.range (2 * k)).map fun j => roundAt gs z V k (d.take j)) (d.take (2 * k)) = some (sumAt gs z V k (d.take (2 * k))) := by
    unfold told
    have := told_lay gs z V k d (by omega) (2 * k) (Nat.le_refl _)
    rwa [List.length_map, List.length_range]
  have hl : ∀ t, lag (partL V (d.take k) ((d.drop k).take k)) t = evalF V (lineF (d.take k) ((d.drop k).take k) t) := fun t => lag_partL V _ _ (by rw [hx, hy]) (by rw [hx, hV]) (by rw [hx]; exact hk) t
  have h0 : lag (partL V (d.take k) ((d.drop k).take k)) 0 = evalF V (d.take k) := by rw [hl, lineF_zero _ _ (by rw [hx, hy])]
  have h1 : (if k = 0 then lag (partL V (d.take k) ((d.drop k).take k)) 0 else lag (partL V (d.take k) ((d.drop k).take k)) 1) = evalF V ((d.drop k).take k) := by
    by_cases hk0 : k = 0
    · rw [if_pos hk0, h0]; subst hk0; simp
    · rw [if_neg hk0, hl, lineF_one _ _ (by rw [hx, hy])]
  unfold holdsF partF
  simp only []
  rw [← sumAt_start gs z V k hV hG hz, ht]
  simp only []
  rw [h1, h0, sumAt_end gs z V k _ (by rw [List.length_take]; omega) hV hG, (take_part k d (by omega)).1, (take_part k d (by omega)).2, if_pos (show stepF gs z (d.take k) ((d.drop k).take k) (evalF V (d.take k)) (evalF V ((d.drop k).take k)) = stepAt gs z V (d.take k) ((d.drop k).take k) from rfl), hl]
  rfl
/-- where a right proof ends -/
def endZ (c : Ci) : Nat → List F → List F → List F
  | 0, z, _ => z
  | i + 1, _, d => endZ c i (nextZ (belowLog c i).toNat d) (d.drop (2 * (belowLog c i).toNat + 1))
/-- what is proved is held -/
theorem holds_right {c : Ci} (hg : Good c) (I : List F) (hI : I.length = 2 ^ c.log.toNat) : ∀ i, i ≤ c.layers.length → ∀ z d : List F, z.length = (belowLog c i).toNat → d.length = needFrom c i →
    holdsFrom c i z (evalF (valF c I i) z) (proofFrom c I i z d) d = some (evalF I (endZ c i z d), endZ c i z d)
  | 0, _, z, d, _, _ => rfl
  | i + 1, hi, z, d, hz, hd => by
    have hd' : d.length = 2 * (belowLog c i).toNat + 1 + needFrom c i := hd
    have hV := valF_length hg I hI i (by omega)
    have h4 := hg.below4 (k := i) (by omega)
    have h1 := holds_lay (aty c.layers i).gates z (valF c I i) (belowLog c i).toNat d (by omega) hV (by omega) (hg.gatesIn (by omega)) (by rw [hz, belowLog_succ]; exact hg.len i (by omega))
    have h2 := holds_right hg I hI i (by omega) (nextZ (belowLog c i).toNat d) (d.drop (2 * (belowLog c i).toNat + 1)) (nextZ_length _ d (by omega)) (by rw [List.length_drop]; omega)
    show (match holdsF (aty c.layers i).gates z (evalF (layF (valF c I i) (aty c.layers i).gates) z) (belowLog c i).toNat (partF (aty c.layers i).gates z (valF c I i) (belowLog c i).toNat d) d with
      | none => none
      | some cl' => holdsFrom c i (nextZ (belowLog c i).toNat d) cl' (proofFrom c I i (nextZ (belowLog c i).toNat d) (d.drop (2 * (belowLog c i).toNat + 1))) (d.drop (2 * (belowLog c i).toNat + 1))) = _
    rw [h1]
    exact h2
/-- wrong, and right at x -/
def Unlike (a b : List F) (x : F) : Prop := (lag a 0 ≠ lag b 0 ∨ lag a 1 ≠ lag b 1) ∧ lag a x = lag b x
/-- a part as it must be -/
structure Pt.Ok (P : Pt) (k : Nat) : Prop where
  n : P.rounds.length = 2 * k
  r : ∀ j, j < 2 * k → (P.rounds[j]?.getD []).length = 3
  l : P.line.length = k + 1
theorem toldTo_some {c y : F} {R : List (List F)} {D : List F} {k : Nat} (h : toldTo c R D (k + 1) = some y) :
    ∃ x, toldTo c R D k = some x ∧ atF (R[k]?.getD []) 0 + atF (R[k]?.getD []) 1 = x ∧ y = lag (R[k]?.getD []) (atF D k) := by
  simp only [toldTo] at h
  cases e : toldTo c R D k with
  | none => rw [e] at h; simp at h
  | some x =>
    rw [e] at h
    simp only [] at h
    split at h
    · rename_i h2
      exact ⟨x, rfl, h2, (Option.some.inj h).symm⟩
    · cases h
/-- rounds: a wrong claim that ends right -/
theorem lie_rounds (gs : List Gt) (z V : List F) (k : Nat) (d : List F) (hd : 2 * k ≤ d.length) (P : Pt) (hP : P.Ok k) (cl : F) (hne : cl ≠ sumAt gs z V k []) : ∀ j y, j ≤ 2 * k → toldTo cl P.rounds (d.take (2 * k)) j = some y → y = sumAt gs z V k (d.take j) →
    ∃ r, r < 2 * k ∧ Unlike (P.rounds[r]?.getD []) (roundAt gs z V k (d.take r)) (atF d r)
  | 0, y, _, h, e => by
    exfalso
    have h' : some cl = some y := h
    rw [List.take_zero] at e
    exact hne ((Option.some.inj h').trans e)
  | j + 1, y, hj, h, e => by
    obtain ⟨x, hx, hs, hy⟩ := toldTo_some h
    have hl : (d.take j).length = j := by rw [List.length_take]; omega
    have e2 : atF (d.take (2 * k)) j = atF d j := by simp [atF, show j < 2 * k by omega]
    rw [e2] at hy
    by_cases hxe : x = sumAt gs z V k (d.take j)
    · exact lie_rounds gs z V k d hd P hP cl hne j x (by omega) hx hxe
    · have h3 := hP.r j (by omega)
      refine ⟨j, by omega, ?_, ?_⟩
      · apply Classical.byContradiction
        intro hno
        have q0 : lag (P.rounds[j]?.getD []) 0 = lag (roundAt gs z V k (d.take j)) 0 := Classical.byContradiction fun q => hno (.inl q)
        have q1 : lag (P.rounds[j]?.getD []) 1 = lag (roundAt gs z V k (d.take j)) 1 := Classical.byContradiction fun q => hno (.inr q)
        have a0 : lag (P.rounds[j]?.getD []) 0 = atF (P.rounds[j]?.getD []) 0 := lag_at _ (by omega) 0 (by omega)
        have a1 : lag (P.rounds[j]?.getD []) 1 = atF (P.rounds[j]?.getD []) 1 := lag_at _ (by omega) 1 (by omega)
        apply hxe
        rw [← hs, ← a0, ← a1, q0, q1, lag_roundAt gs z V k _ (by omega), lag_roundAt gs z V k _ (by omega), sumAt_split gs z V k _ (by omega)]
      · rw [← hy, e, lag_roundAt gs z V k _ (by omega), ← take_snoc d j 0 (by omega)]
/-- a part of a wrong claim that ends right -/
theorem lie_part (gs : List Gt) (z V : List F) (k : Nat) (d : List F) (hd : 2 * k < d.length) (hV : V.length = 2 ^ k) (hk : k < 1000) (hG : GatesIn gs (2 ^ k)) (hz : gs.length = 2 ^ z.length) (P : Pt) (hP : P.Ok k) (cl cl' : F)
    (hne : cl ≠ evalF (layF V gs) z) (h : holdsF gs z cl k P d = some cl') (he : cl' = evalF V (nextZ k d)) :
    (∃ r, r < 2 * k ∧ Unlike (P.rounds[r]?.getD []) ((partF gs z V k d).rounds[r]?.getD []) (atF d r)) ∨ Unlike P.line (partF gs z V k d).line (atF d (2 * k)) := by
  have hx : (d.take k).length = k := by rw [List.length_take]; omega
  have hy : ((d.drop k).take k).length = k := by rw [List.length_take, List.length_drop]; omega
  have hl : ∀ t, lag (partL V (d.take k) ((d.drop k).take k)) t = evalF V (lineF (d.take k) ((d.drop k).take k) t) := fun t => lag_partL V _ _ (by rw [hx, hy]) (by rw [hx, hV]) (by rw [hx]; exact hk) t
  unfold holdsF at h
  cases ht : told cl P.rounds (d.take (2 * k)) with
  | none => rw [ht] at h; cases h
  | some now =>
    rw [ht] at h
    simp only [] at h
    by_cases hs : stepF gs z (d.take k) ((d.drop k).take k) (lag P.line 0) (if k = 0 then lag P.line 0 else lag P.line 1) = now
    · rw [if_pos hs] at h
      have hc := Option.some.inj h
      by_cases hn : now = sumAt gs z V k (d.take (2 * k))
      · left
        unfold told at ht
        rw [hP.n] at ht
        obtain ⟨r, hr, hu⟩ := lie_rounds gs z V k d (by omega) P hP cl (by rw [sumAt_start gs z V k hV hG hz]; exact hne) (2 * k) now (Nat.le_refl _) ht hn
        refine ⟨r, hr, ?_⟩
        have e : (partF gs z V k d).rounds[r]?.getD [] = roundAt gs z V k (d.take r) := by simp [partF, hr]
        rw [e]; exact hu
      · right
        refine ⟨?_, ?_⟩
        · apply Classical.byContradiction
          intro hno
          have q0 : lag P.line 0 = evalF V (d.take k) := by
            rw [show lag P.line 0 = lag (partL V (d.take k) ((d.drop k).take k)) 0 from Classical.byContradiction fun q => hno (.inl q), hl, lineF_zero _ _ (by rw [hx, hy])]
          have q1 : (if k = 0 then lag P.line 0 else lag P.line 1) = evalF V ((d.drop k).take k) := by
            by_cases hk0 : k = 0
            · rw [if_pos hk0, q0]; subst hk0; simp
            · rw [if_neg hk0, show lag P.line 1 = lag (partL V (d.take k) ((d.drop k).take k)) 1 from Classical.byContradiction fun q => hno (.inr q), hl, lineF_one _ _ (by rw [hx, hy])]
          apply hn
          rw [← hs, q1, q0, sumAt_end gs z V k _ (by rw [List.length_take]; omega) hV hG, (take_part k d (by omega)).1, (take_part k d (by omega)).2]
          rfl
        · rw [hc, he]
          exact (hl _).symm
    · rw [if_neg hs] at h; cases h
/-- somewhere a wrong polynomial is told that is right at its draw -/
inductive Lies (c : Ci) (I : List F) : Nat → List F → List Pt → List F → Prop
  | round (i : Nat) (z d : List F) (P : Pt) (ps : List Pt) (r : Nat) (hr : r < 2 * (belowLog c i).toNat) (h : Unlike (P.rounds[r]?.getD []) ((partF (aty c.layers i).gates z (valF c I i) (belowLog c i).toNat d).rounds[r]?.getD []) (atF d r)) : Lies c I (i + 1) z (P :: ps) d
  | line (i : Nat) (z d : List F) (P : Pt) (ps : List Pt) (h : Unlike P.line (partF (aty c.layers i).gates z (valF c I i) (belowLog c i).toNat d).line (atF d (2 * (belowLog c i).toNat))) : Lies c I (i + 1) z (P :: ps) d
  | more (i : Nat) (z d : List F) (P : Pt) (ps : List Pt) (h : Lies c I i (nextZ (belowLog c i).toNat d) ps (d.drop (2 * (belowLog c i).toNat + 1))) : Lies c I (i + 1) z (P :: ps) d
/-- parts as they must be -/
def PtsOk (c : Ci) : Nat → List Pt → Prop
  | 0, _ => True
  | _ + 1, [] => False
  | i + 1, P :: ps => P.Ok (belowLog c i).toNat ∧ PtsOk c i ps
theorem lies {c : Ci} (hg : Good c) (I : List F) (hI : I.length = 2 ^ c.log.toNat) : ∀ i, i ≤ c.layers.length → ∀ (z d : List F) (cl : F) (ps : List Pt) (cl' : F) (z' : List F), z.length = (belowLog c i).toNat → d.length = needFrom c i → PtsOk c i ps →
    cl ≠ evalF (valF c I i) z → holdsFrom c i z cl ps d = some (cl', z') → cl' = evalF I z' → Lies c I i z ps d
  | 0, _, z, d, cl, ps, cl', z', _, _, _, hne, h, he => by
    exfalso
    have h' : some (cl, z) = some (cl', z') := h
    cases h'
    exact hne he
  | i + 1, hi, z, d, cl, [], cl', z', _, _, hp, _, _, _ => hp.elim
  | i + 1, hi, z, d, cl, P :: ps, cl', z', hz, hd, ⟨hP, hps⟩, hne, h, he => by
    have hd' : d.length = 2 * (belowLog c i).toNat + 1 + needFrom c i := hd
    have hV := valF_length hg I hI i (by omega)
    have h4 := hg.below4 (k := i) (by omega)
    have h' : (match holdsF (aty c.layers i).gates z cl (belowLog c i).toNat P d with
      | none => none
      | some cl' => holdsFrom c i (nextZ (belowLog c i).toNat d) cl' ps (d.drop (2 * (belowLog c i).toNat + 1))) = some (cl', z') := h
    cases e : holdsF (aty c.layers i).gates z cl (belowLog c i).toNat P d with
    | none => rw [e] at h'; cases h'
    | some c2 =>
      rw [e] at h'
      simp only [] at h'
      by_cases hc : c2 = evalF (valF c I i) (nextZ (belowLog c i).toNat d)
      · rcases lie_part (aty c.layers i).gates z (valF c I i) (belowLog c i).toNat d (by omega) hV (by omega) (hg.gatesIn (by omega)) (by rw [hz, belowLog_succ]; exact hg.len i (by omega)) P hP cl c2 hne e hc with ⟨r, hr, hu⟩ | hu
        · exact .round i z d P ps r hr hu
        · exact .line i z d P ps hu
      · exact .more i z d P ps (lies hg I hI i (by omega) _ _ c2 ps cl' z' (nextZ_length _ d (by omega)) (by rw [List.length_drop]; omega) hps hc h' he)
end Go.Proofs.YtnleihjdllpniaaDoor
