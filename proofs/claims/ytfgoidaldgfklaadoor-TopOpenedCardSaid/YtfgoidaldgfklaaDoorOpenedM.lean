/- Plain law: who looks into a table at all its places, and finds nothing unlike, is told its value. No condition. -/
import Derived.Test.YtfgoidaldgfklaaDoorLookM
namespace Go.Proofs.YtfgoidaldgfklaaDoor
set_option maxRecDepth 100000
set_option linter.unusedVariables false
open Go.RowKit Tally
/-- one of a pair -/
def sd (pr : Int × Int) (s : Nat) : Int := if s = 0 then pr.1 else pr.2
/-- the place of a look's number in its table -/
def plc (r i s : Nat) : Nat := i % 2 ^ r + s * 2 ^ r
/-- does another look tell another number at the same place? -/
def tellsB (o : Oi) (n m j : Nat) (v : Int) (s i : Nat) : Bool :=
  (List.range m).any fun k => (List.range 2).any fun u => decide (plc (n - j - 1) k u = plc (n - j - 1) i s) && decide (psi (phi (sd (ata (atk o.looks k).pairs j) u)) ≠ psi (phi v))
/-- the numbers told of table j are right -/
def LevelI (t pt : List Int) (o : Oi) (m j : Nat) : Prop := ∀ i, i < m → ∀ s, s < 2 → phi (sd (ata (atk o.looks i).pairs j) s) = atF (tabF t pt j) (plc (pt.length - j - 1) i s)
theorem looks_step {root : Int} {pt places : List Int} {o : Oi} (h : lookB root pt places o = true) {i k : Nat} (hi : i < places.length) (hk : k < pt.length) :
    btw (phi (ata (atk o.looks i).pairs k).1) (phi (ata (atk o.looks i).pairs k).2) (phi (at0 pt k)) = phi (nextKI o (atk o.looks i) pt.length (at0 places i).toNat k) := by
  unfold lookB at h
  rw [Bool.and_eq_true] at h
  have h2 := h.2
  unfold looksB at h2
  rw [List.all_eq_true] at h2
  have h3 := h2 i (List.mem_range.2 hi)
  unfold holdB at h3
  rw [List.all_eq_true] at h3
  have h4 := h3 k (List.mem_range.2 hk)
  unfold stepB at h4
  rw [Bool.and_eq_true] at h4
  exact of_decide_eq_true h4.2
theorem level_fold {root : Int} {t pt places : List Int} {o : Oi} (hn : t.length = 2 ^ pt.length) (h : lookB root pt places o = true) {m : Nat} (hm : places.length = m) (hp : ∀ i, i < m → at0 places i = (i : Int)) {k : Nat} (hk : k < pt.length)
    (L : LevelI t pt o m k) {i : Nat} (hi : i < m) : phi (nextKI o (atk o.looks i) pt.length i k) = atF (tabF t pt (k + 1)) (i % 2 ^ (pt.length - k - 1)) := by
  have e := looks_step h (i := i) (by omega) hk
  rw [hp i hi, Int.toNat_natCast] at e
  rw [← e]
  have l0 := L i hi 0 (by omega)
  have l1 := L i hi 1 (by omega)
  obtain ⟨r, hr⟩ : ∃ r, pt.length - k - 1 = r := ⟨_, rfl⟩
  rw [hr] at l0 l1 ⊢
  have hlen := tabF_length t pt hn k (by omega)
  rw [show pt.length - k = r + 1 by omega, Nat.pow_succ] at hlen
  have hlt : i % 2 ^ r < 2 ^ r := Nat.mod_lt _ (Nat.pow_pos (by decide))
  have hF : (tabF t pt k).length / 2 = 2 ^ r := by rw [hlen]; omega
  rw [show phi (ata (atk o.looks i).pairs k).1 = atF (tabF t pt k) (i % 2 ^ r) by rw [show (i % 2 ^ r) = plc r i 0 by simp [plc]]; exact l0,
    show phi (ata (atk o.looks i).pairs k).2 = atF (tabF t pt k) (i % 2 ^ r + 2 ^ r) by rw [show (i % 2 ^ r + 2 ^ r) = plc r i 1 by simp [plc]]; exact l1,
    tabF_succ _ _ _ hk, fixF_at _ _ _ (by rw [hF]; exact hlt), hF]
/-- the checked side of a look -/
theorem level_side {root : Int} {t pt places : List Int} {o : Oi} (hn : t.length = 2 ^ pt.length) (h : lookB root pt places o = true) {m : Nat} (hm : places.length = m) (hp : ∀ i, i < m → at0 places i = (i : Int)) {k : Nat} (hk : k + 1 < pt.length)
    (L : LevelI t pt o m k) {i : Nat} (hi : i < m) : ∃ u, u < 2 ∧ plc (pt.length - (k + 1) - 1) i u = i % 2 ^ (pt.length - k - 1) ∧ phi (sd (ata (atk o.looks i).pairs (k + 1)) u) = atF (tabF t pt (k + 1)) (i % 2 ^ (pt.length - k - 1)) := by
  have e := level_fold hn h hm hp (by omega) L hi
  unfold nextKI at e
  rw [if_pos hk] at e
  obtain ⟨r, hr⟩ : ∃ r, pt.length - (k + 1) - 1 = r := ⟨_, rfl⟩
  have hr1 : pt.length - k - 1 = r + 1 := by omega
  rw [hr1] at e ⊢
  rw [hr]
  have hs := plc_half i r
  by_cases hc : 2 ^ (r + 1) ≤ 2 * (i % 2 ^ (r + 1))
  · rw [if_pos hc] at e hs
    exact ⟨1, by omega, by simp [plc, hs], e⟩
  · rw [if_neg hc] at e hs
    exact ⟨0, by omega, by simp [plc, hs], e⟩
theorem right_side (t pt : List Int) (hn : t.length = 2 ^ pt.length) {j : Nat} (hj : j < pt.length) (i s : Nat) (hs : s < 2) : sd (pairOf t pt i j) s = psi (atF (tabF t pt j) (plc (pt.length - j - 1) i s)) := by
  obtain ⟨r, hr⟩ : ∃ r, pt.length - j - 1 = r := ⟨_, rfl⟩
  have hl := tabI_length t pt hn j (by omega)
  rw [show pt.length - j = r + 1 by omega, Nat.pow_succ] at hl
  have hlt : i % 2 ^ r < 2 ^ r := Nat.mod_lt _ (Nat.pow_pos (by decide))
  have hphi : ∀ q, q < 2 ^ r * 2 → phi (at0 (tabI t pt j) q) = atF (tabF t pt j) q := fun q hq => by
    rw [← tabI_phi]
    simp [at0, atF, show q < (tabI t pt j).length by omega]
  unfold pairOf
  rw [hr]
  have h01 : s = 0 ∨ s = 1 := by omega
  rcases h01 with rfl | rfl
  · rw [show sd (psi (phi (at0 (tabI t pt j) (i % 2 ^ r))), psi (phi (at0 (tabI t pt j) (i % 2 ^ r + 2 ^ r)))) 0 = psi (phi (at0 (tabI t pt j) (i % 2 ^ r))) from rfl, hphi _ (by omega)]
    simp [plc]
  · rw [show sd (psi (phi (at0 (tabI t pt j) (i % 2 ^ r))), psi (phi (at0 (tabI t pt j) (i % 2 ^ r + 2 ^ r)))) 1 = psi (phi (at0 (tabI t pt j) (i % 2 ^ r + 2 ^ r))) from rfl, hphi _ (by omega)]
    simp [plc]
/-- nothing unlike is found at level k + 1: it is right -/
theorem level_next {root : Int} {t pt places : List Int} {o : Oi} (hn : t.length = 2 ^ pt.length) (h : lookB root pt places o = true) {m : Nat} (hm : places.length = m) (hm2 : m = 2 ^ (pt.length - 1)) (hp : ∀ i, i < m → at0 places i = (i : Int)) {k : Nat} (hk : k + 1 < pt.length)
    (L : LevelI t pt o m k)
    (hf : ∀ i, i < m → ∀ s, s < 2 → psi (phi (sd (ata (atk o.looks i).pairs (k + 1)) s)) ≠ sd (pairOf t pt i (k + 1)) s → tellsB o pt.length m (k + 1) (sd (ata (atk o.looks i).pairs (k + 1)) s) s i = false) :
    LevelI t pt o m (k + 1) := by
  intro i hi s hs
  by_cases hv : psi (phi (sd (ata (atk o.looks i).pairs (k + 1)) s)) = sd (pairOf t pt i (k + 1)) s
  · rw [right_side t pt hn hk i s hs] at hv
    have := congrArg phi hv
    rwa [phi_psi, phi_psi] at this
  · exfalso
    have h1 := hf i hi s hs hv
    obtain ⟨r, hr⟩ : ∃ r, pt.length - (k + 1) - 1 = r := ⟨_, rfl⟩
    have hr1 : pt.length - k - 1 = r + 1 := by omega
    have hlt : i % 2 ^ r < 2 ^ r := Nat.mod_lt _ (Nat.pow_pos (by decide))
    obtain ⟨P, hP⟩ : ∃ P, P = plc r i s := ⟨_, rfl⟩
    have hP2 : P < 2 ^ (r + 1) := by
      rw [hP, Nat.pow_succ]
      unfold plc
      have h01 : s = 0 ∨ s = 1 := by omega
      rcases h01 with rfl | rfl <;> omega
    have hPm : P < m := Nat.lt_of_lt_of_le hP2 (by rw [hm2]; exact Nat.pow_le_pow_right (by decide) (by omega))
    obtain ⟨u, hu, hpl, hval⟩ := level_side hn h hm hp hk L hPm
    rw [hr, hr1, Nat.mod_eq_of_lt hP2] at hpl
    rw [hr1, Nat.mod_eq_of_lt hP2] at hval
    unfold tellsB at h1
    rw [hr, List.any_eq_false] at h1
    have h2 := h1 P (List.mem_range.2 hPm)
    rw [Bool.not_eq_true, List.any_eq_false] at h2
    have h3 := h2 u (List.mem_range.2 hu)
    apply h3
    rw [Bool.and_eq_true]
    refine ⟨decide_eq_true (hpl.trans hP), decide_eq_true fun e => hv ?_⟩
    rw [right_side t pt hn hk i s hs, hr, ← hP, ← hval]
    exact e.symm
theorem level_zero {t pt : List Int} {o : Oi} (hn : t.length = 2 ^ pt.length) (h1 : 1 ≤ pt.length) {m : Nat} (hm2 : m = 2 ^ (pt.length - 1))
    (hf : ∀ i, i < m → ∀ s, s < 2 → psi (phi (sd (ata (atk o.looks i).pairs 0) s)) = psi (phi (at0 t (i + s * m)))) : LevelI t pt o m 0 := by
  intro i hi s hs
  have := congrArg phi (hf i hi s hs)
  rw [phi_psi, phi_psi] at this
  rw [this, tabF_zero]
  have e : plc (pt.length - 0 - 1) i s = i + s * m := by
    unfold plc
    rw [show pt.length - 0 - 1 = pt.length - 1 by omega, ← hm2, Nat.mod_eq_of_lt hi]
  rw [e]
  have hl : i + s * m < t.length := by
    rw [hn, show pt.length = pt.length - 1 + 1 by omega, Nat.pow_succ, ← hm2]
    have h01 : s = 0 ∨ s = 1 := by omega
    rcases h01 with rfl | rfl <;> omega
  simp [at0, atF, hl]
theorem level_all {root : Int} {t pt places : List Int} {o : Oi} (hn : t.length = 2 ^ pt.length) (h1 : 1 ≤ pt.length) (h : lookB root pt places o = true) {m : Nat} (hm : places.length = m) (hm2 : m = 2 ^ (pt.length - 1)) (hp : ∀ i, i < m → at0 places i = (i : Int))
    (h0 : LevelI t pt o m 0)
    (hf : ∀ j, 1 ≤ j → j < pt.length → ∀ i, i < m → ∀ s, s < 2 → psi (phi (sd (ata (atk o.looks i).pairs j) s)) ≠ sd (pairOf t pt i j) s → tellsB o pt.length m j (sd (ata (atk o.looks i).pairs j) s) s i = false) :
    ∀ k, k < pt.length → LevelI t pt o m k
  | 0, _ => h0
  | k + 1, hk => level_next hn h hm hm2 hp hk (level_all hn h1 h hm hm2 hp h0 hf k (by omega)) (hf (k + 1) (by omega) hk)
/-- the value is the table's -/
theorem opened_value {root : Int} {t pt places : List Int} {o : Oi} (hn : t.length = 2 ^ pt.length) (h1 : 1 ≤ pt.length) (h : lookB root pt places o = true) {m : Nat} (hm : places.length = m) (hm2 : m = 2 ^ (pt.length - 1)) (hp : ∀ i, i < m → at0 places i = (i : Int))
    (h0 : ∀ i, i < m → ∀ s, s < 2 → psi (phi (sd (ata (atk o.looks i).pairs 0) s)) = psi (phi (at0 t (i + s * m))))
    (hf : ∀ j, 1 ≤ j → j < pt.length → ∀ i, i < m → ∀ s, s < 2 → psi (phi (sd (ata (atk o.looks i).pairs j) s)) ≠ sd (pairOf t pt i j) s → tellsB o pt.length m j (sd (ata (atk o.looks i).pairs j) s) s i = false) :
    psi (phi o.value) = (openI t pt places).value := by
  have L := level_all hn h1 h hm hm2 hp (level_zero hn h1 hm2 h0) hf (pt.length - 1) (by omega)
  have hm1 : 0 < m := by rw [hm2]; exact Nat.pow_pos (by decide)
  have e := level_fold hn h hm hp (by omega) L hm1
  unfold nextKI at e
  rw [if_neg (by omega), show pt.length - 1 + 1 = pt.length by omega, show 0 % 2 ^ (pt.length - (pt.length - 1) - 1) = 0 by simp] at e
  rw [e]
  show _ = at0 (tabI t pt pt.length) 0
  unfold tabI
  rw [if_neg (by omega)]
  have hl := tabF_length t pt hn pt.length (Nat.le_refl _)
  rw [Nat.sub_self] at hl
  have hlt : 0 < (tabF t pt pt.length).length := by rw [hl]; decide
  simp [at0, atF, hlt]
end Go.Proofs.YtfgoidaldgfklaaDoor
