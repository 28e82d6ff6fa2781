/- What SumBent's walk needs: one number of one round bent, in memory and in what is told. No program in sight but its numbers of types. -/
import Derived.Test.YtaaaoljllpbplaaDoorSumSoundWalk
import Derived.Test.YtaaaoljllpbplaaDoorSumPD
namespace Go.Proofs.YtaaaoljllpbplaaDoor
set_option maxRecDepth 100000
set_option linter.unusedVariables false
open Go.RowKit Tally
theorem atl_set_self (ll : List (List Int)) (i : Nat) (l : List Int) (h : i < ll.length) : atl (ll.set i l) i = l := by simp [atl, h]
theorem atl_set_ne (ll : List (List Int)) (i j : Nat) (l : List Int) (h : i ≠ j) : atl (ll.set i l) j = atl ll j := by simp [atl, h]
/-- one number of one row is bent; the rest stays -/
theorem NewUUd.bend {B M : Nat} {w : World} {v : Value} {ll : List (List Int)} (h : NewUUd B M w v ll) (i : Nat) (hi : i < ll.length) (h0 : 0 < (atl ll i).length) :
    ∃ a c0 g c, v = .slice (some ⟨a, 0, none⟩) ll.length c0 ∧ w.cell? ⟨a, i, none⟩ = some (.slice (some ⟨g, 0, none⟩) (atl ll i).length c) ∧ NewU B w (.slice (some ⟨g, 0, none⟩) (atl ll i).length c) (atl ll i) ∧ B ≤ g ∧
      ∀ b x, U64 x → RowUU (w.setCell ⟨g, b, none⟩ (.int .u64 x)) v (ll.set i ((atl ll i).set b x)) := by
  obtain ⟨h1, us, h2, h3, h4⟩ := h
  have h3' := h3
  obtain ⟨u, e, hu, hn, hm, hd⟩ := h4 i hi
  have hu' := hu
  rcases hu.2.2.2 with ⟨rfl, hl0⟩ | ⟨g, cap, cur, rfl, _⟩
  · omega
  rcases h3.2 with ⟨rfl, hz⟩ | ⟨a, c0, cur0, rfl, _⟩
  · omega
  refine ⟨a, c0, g, cap, rfl, ?_, hu', (hu'.lt rfl).1, fun b x hx => ?_⟩
  · have := h3'.cellAt i (by omega)
    rw [this]; exact e
  · have hag : a ≠ g := fun q => hn a rfl (by rw [q]; rfl)
    have hgr := grownBy_setCell w g b (.int .u64 x)
    refine ⟨by rw [List.length_set]; omega, some ⟨a, 0, none⟩, c0, by rw [List.length_set], fun _ => ⟨a, 0, rfl, Nat.lt_of_lt_of_le (h3'.lt a rfl).2 hgr.size, fun j hj => ?_⟩⟩
    rw [List.length_set] at hj
    have hst : (w.setCell ⟨g, b, none⟩ (.int .u64 x)).ownsRow B 22 1 (.slice (some ⟨a, 0, none⟩) ll.length c0) ll.length us := ownsRow_grown h3' hgr (fun g' hg' hr => hag (by cases hg'; cases hr; rfl))
    by_cases hij : i = j
    · subst hij
      refine ⟨.slice (some ⟨g, 0, none⟩) (atl ll i).length cap, ?_, ?_⟩
      · have := hst.cellAt i (by omega)
        rw [Nat.zero_add, this]; exact e
      · rw [atl_set_self _ _ _ hi]
        exact (hu'.set b x hx).row
    · obtain ⟨y, ey, hy, hyn, hym, hyd⟩ := h4 j hj
      refine ⟨y, ?_, ?_⟩
      · have := hst.cellAt j (by omega)
        rw [Nat.zero_add, this]; exact ey
      · rw [atl_set_ne _ _ _ _ hij]
        refine (hy.grownOther hgr (fun g' hg' hr => ?_)).row
        have hgg : g = g' := by cases hr; rfl
        subst hgg
        rcases Nat.lt_or_gt_of_ne hij with hlt | hlt
        · exact hyd i _ hlt e g rfl hg'
        · exact hd j _ hlt ey g hg' rfl
theorem toldTo_congr {c : F} {R R' : List (List F)} {D : List F} : ∀ k, (∀ j, j < k → R[j]?.getD [] = R'[j]?.getD []) → toldTo c R D k = toldTo c R' D k
  | 0, _ => rfl
  | k + 1, h => by
    simp only [toldTo]
    rw [toldTo_congr k (fun j hj => h j (by omega)), h k (by omega)]
theorem bent_len {P : List (List Int)} {i b : Nat} {x : Int} (j : Nat) (hi : i < P.length) : (atl (P.set i ((atl P i).set b x)) j).length = (atl P j).length := by
  by_cases h : i = j
  · subst h; rw [atl_set_self _ _ _ hi, List.length_set]
  · rw [atl_set_ne _ _ _ _ h]
theorem good_bent {P : List (List Int)} {i b : Nat} {x : Int} (hi : i < P.length) (h : good P) : good (P.set i ((atl P i).set b x)) := by
  intro j hj
  rw [List.length_set] at hj
  rw [bent_len j hi, bent_len 0 hi]
  exact h j hj
/-- one value bent at 0 or 1 is told -/
theorem told_bent {T : List (List Int)} {d : List Int} {n : Nat} (hf : Facts T n) (hd : d.length = n) (i b : Nat) (hi : i < n) (hb : b < 2) (y : F) (hy : y ≠ 0) :
    told (phi (psi (claimF (tabs T) (2 ^ n)))) (phis ((provesI T d n).set i ((atl (provesI T d n) i).set b (psi (phi (at0 (atl (provesI T d n) i) b) + y))))) (d.map phi) = none := by
  have hPl := provesI_length T d n
  have hLl := round_len (ds := d) hf i hi
  have h1 := hf.2.1
  have hR := told_right hf hd i (by omega)
  have hS := trueC_sum hf hd i hi
  rw [lag_zero _ (by rw [List.length_map]; omega) (by rw [List.length_map]; have := hf.2.2.1; omega), lag_one _ (by rw [List.length_map]; omega) (by rw [List.length_map]; have := hf.2.2.1; omega),
    show atF ((atl (provesI T d n) i).map phi) 0 = phi (at0 (atl (provesI T d n) i) 0) from atF_map _ 0 (by omega), show atF ((atl (provesI T d n) i).map phi) 1 = phi (at0 (atl (provesI T d n) i) 1) from atF_map _ 1 (by omega)] at hS
  rw [phi_psi, ← trueC_zero T d n]
  generalize provesI T d n = P at *
  generalize hL : atl P i = L at *
  refine told_no (k := i) (x := trueC T d n i) ?_ (by rw [List.length_set]; omega) (by rw [atl_set_self _ _ _ (by omega), List.length_set]; omega) ?_
  · rw [← hR]
    refine toldTo_congr i (fun j hj => ?_)
    rw [phis_at _ j (by rw [List.length_set]; omega), phis_at _ j (by omega), atl_set_ne _ _ _ _ (by omega)]
  · rw [atl_set_self _ _ _ (by omega), ← hS]
    intro e
    rcases (show b = 0 ∨ b = 1 by omega) with rfl | rfl
    · rw [at0_set_self _ _ _ (by omega), at0_set_ne _ _ _ _ (by omega), phi_psi] at e
      exact hy (by grind)
    · rw [at0_set_self _ _ _ (by omega), at0_set_ne _ _ _ _ (by omega), phi_psi] at e
      exact hy (by grind)
end Go.Proofs.YtaaaoljllpbplaaDoor
