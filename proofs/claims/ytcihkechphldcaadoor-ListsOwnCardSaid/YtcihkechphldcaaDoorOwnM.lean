/- Several texts in one: Spoil, SpoilW, OwnM. What each says, and its conditions, stands at its head. -/
import Derived.Test.YtcihkechphldcaaDoorGkrProve
import Derived.Test.YtcihkechphldcaaDoorOpenOpen
import Derived.Test.YtcihkechphldcaaDoorKeepM
/- What is spoiled: rows of numbers and of pairs of one's own are written over, up to their cap; what lies in other blocks stays. No condition. -/
namespace Go.Proofs.YtcihkechphldcaaDoor
set_option maxRecDepth 100000
set_option linter.unusedVariables false
open Go.RowKit Tally
/-- some blocks of numbers or of pairs from B on are written over -/
structure Spoilt (B : Nat) (w w' : World) : Prop where
  below : Below B w w'
  blk : ∀ (g : Nat) (o : Obj), w.heap[g]? = some o → w'.heap[g]? = some o ∨ ∃ (cur cur' : Array Value) (e : TypeId), o = Obj.cells cur e (0, 0) ∧ (e = 31 ∨ e = 52) ∧ w'.heap[g]? = some (Obj.cells cur' e (0, 0)) ∧ cur'.size = cur.size
theorem Spoilt.refl (B : Nat) (w : World) : Spoilt B w w := ⟨Below.refl _ _, fun _ _ h => .inl h⟩
theorem Spoilt.trans {B : Nat} {a b c : World} (h : Spoilt B a b) (k : Spoilt B b c) : Spoilt B a c := by
  refine ⟨h.below.trans k.below, fun g o ho => ?_⟩
  rcases h.blk g o ho with h1 | ⟨cur, cur', e, rfl, he, h1, hs⟩
  · exact k.blk g o h1
  · rcases k.blk g _ h1 with h2 | ⟨cur2, cur3, e2, h3, he2, h2, hs2⟩
    · exact .inr ⟨cur, cur', e, rfl, he, h2, hs⟩
    · cases h3
      exact .inr ⟨cur, cur3, e, rfl, he, h2, hs2.trans hs⟩
theorem Spoilt.mono {B B' : Nat} {w w' : World} (h : Spoilt B w w') (hB : B' ≤ B) : Spoilt B' w w' := ⟨h.below.mono hB, h.blk⟩
theorem Spoilt.of {B : Nat} {w w' : World} (h : Below w.heap.size w w') (hB : B ≤ w.heap.size) : Spoilt B w w' :=
  ⟨h.mono hB, fun g o ho => .inl ((h.block g (blk_lt ho)).trans ho)⟩
theorem Spoilt.row {B B' : Nat} {w w' : World} (h : Spoilt B w w') {e : TypeId} {s : Nat} {v : Value} {n : Nat} {xs : List Value} (hr : w.ownsRow B' e s v n xs) (h1 : e ≠ 31) (h2 : e ≠ 52) : w'.ownsRow B' e s v n xs := by
  obtain ⟨hl, hr⟩ := hr
  refine ⟨hl, ?_⟩
  rcases hr with hr | ⟨g, cap, cur, rfl, hg, hh, r⟩
  · exact .inl hr
  · rcases h.blk g _ hh with h3 | ⟨cur2, cur3, e2, h3, he2, _⟩
    · exact .inr ⟨g, cap, cur, rfl, hg, h3, r⟩
    · cases h3
      rcases he2 with he2 | he2
      · exact absurd he2 h1
      · exact absurd he2 h2
theorem Spoilt.num {B B' : Nat} {w w' : World} (h : Spoilt B w w') {e : TypeId} {s : Nat} {v : Value} {n : Nat} {xs : List Value} (hr : w.ownsRow B' e s v n xs) : ∃ ys, w'.ownsRow B' e s v n ys := by
  obtain ⟨hl, hr⟩ := hr
  rcases hr with hr | ⟨g, cap, cur, rfl, hg, hh, h1, h2, h3, h4⟩
  · exact ⟨xs, hl, .inl hr⟩
  · rcases h.blk g _ hh with h5 | ⟨cur2, cur3, e2, h5, he2, h6, h7⟩
    · exact ⟨xs, hl, .inr ⟨g, cap, cur, rfl, hg, h5, h1, h2, h3, h4⟩⟩
    · cases h5
      refine ⟨cur3.toList.take (n * s), ?_, .inr ⟨g, cap, cur3, rfl, hg, h6, h1, h2, h7.trans h3, rfl⟩⟩
      have hm : n * s ≤ cap * s := Nat.mul_le_mul_right _ h1
      rw [List.length_take, Array.length_toList, h7, h3]; omega
/-- rows of one's own -/
def OwnU (B : Nat) (w : World) (v : Value) : Prop := ∃ n xs, w.ownsRow B 31 1 v n xs
def OwnA (B : Nat) (w : World) (v : Value) : Prop := ∃ n xs, w.ownsRow B 52 2 v n xs
def OwnUU (B : Nat) (w : World) (v : Value) : Prop := ∃ n us, w.ownsRow B 22 1 v n us ∧ ∀ j, j < n → ∃ u, us[j]? = some u ∧ OwnU B w u
def OwnB (B : Nat) (w : World) (v : Value) : Prop := ∃ n us, w.ownsRow B 53 2 v n us ∧ ∀ j, j < n → ∃ u u2, us[j * 2]? = some u ∧ us[j * 2 + 1]? = some u2 ∧ OwnU B w u ∧ OwnU B w u2
def OwnK (B : Nat) (w : World) (v : Value) : Prop := ∃ n us, w.ownsRow B 50 2 v n us ∧ ∀ j, j < n → ∃ u u2, us[j * 2]? = some u ∧ us[j * 2 + 1]? = some u2 ∧ OwnA B w u ∧ OwnB B w u2
def OwnP (B : Nat) (w : World) (v : Value) : Prop := ∃ n us, w.ownsRow B 67 2 v n us ∧ ∀ j, j < n → ∃ u u2, us[j * 2]? = some u ∧ us[j * 2 + 1]? = some u2 ∧ OwnUU B w u ∧ OwnU B w u2
theorem Spoilt.U {B B' : Nat} {w w' : World} (h : Spoilt B w w') {v : Value} (k : OwnU B' w v) : OwnU B' w' v := by
  obtain ⟨n, xs, k⟩ := k
  obtain ⟨ys, k⟩ := h.num k
  exact ⟨n, ys, k⟩
theorem Spoilt.A {B B' : Nat} {w w' : World} (h : Spoilt B w w') {v : Value} (k : OwnA B' w v) : OwnA B' w' v := by
  obtain ⟨n, xs, k⟩ := k
  obtain ⟨ys, k⟩ := h.num k
  exact ⟨n, ys, k⟩
theorem Spoilt.UU {B B' : Nat} {w w' : World} (h : Spoilt B w w') {v : Value} (k : OwnUU B' w v) : OwnUU B' w' v := by
  obtain ⟨n, us, k, k2⟩ := k
  refine ⟨n, us, h.row k (by decide) (by decide), fun j hj => ?_⟩
  obtain ⟨u, e, k3⟩ := k2 j hj
  exact ⟨u, e, h.U k3⟩
theorem Spoilt.B {B B' : Nat} {w w' : World} (h : Spoilt B w w') {v : Value} (k : OwnB B' w v) : OwnB B' w' v := by
  obtain ⟨n, us, k, k2⟩ := k
  refine ⟨n, us, h.row k (by decide) (by decide), fun j hj => ?_⟩
  obtain ⟨u, u2, e, e2, k3, k4⟩ := k2 j hj
  exact ⟨u, u2, e, e2, h.U k3, h.U k4⟩
theorem Spoilt.K {B B' : Nat} {w w' : World} (h : Spoilt B w w') {v : Value} (k : OwnK B' w v) : OwnK B' w' v := by
  obtain ⟨n, us, k, k2⟩ := k
  refine ⟨n, us, h.row k (by decide) (by decide), fun j hj => ?_⟩
  obtain ⟨u, u2, e, e2, k3, k4⟩ := k2 j hj
  exact ⟨u, u2, e, e2, h.A k3, h.B k4⟩
theorem Spoilt.P {B B' : Nat} {w w' : World} (h : Spoilt B w w') {v : Value} (k : OwnP B' w v) : OwnP B' w' v := by
  obtain ⟨n, us, k, k2⟩ := k
  refine ⟨n, us, h.row k (by decide) (by decide), fun j hj => ?_⟩
  obtain ⟨u, u2, e, e2, k3, k4⟩ := k2 j hj
  exact ⟨u, u2, e, e2, h.UU k3, h.U k4⟩
/-- what stays whatever is written below B lies from B on -/
theorem far_owns {B : Nat} {e : TypeId} {s : Nat} {v : Value} {w : World} (h : Far (fun b => b < B) (fun W => ∃ n xs, W.ownsRow 0 e s v n xs) w) {n : Nat} {xs : List Value} (hr : w.ownsRow 0 e s v n xs) : w.ownsRow B e s v n xs := by
  obtain ⟨hl, hr⟩ := hr
  refine ⟨hl, ?_⟩
  rcases hr with hr | ⟨g, cap, cur, rfl, hg, hh, r⟩
  · exact .inl hr
  · refine .inr ⟨g, cap, cur, rfl, ?_, hh, r⟩
    rcases Nat.lt_or_ge g B with hgB | hgB
    · exfalso
      obtain ⟨n2, xs2, _, h2⟩ := h { w with heap := w.heap.setIfInBounds g (.cells #[] e (0, 1)) } (by simp) (fun b _ hb => by
        have hb' : ¬ b < B := hb
        exact Array.getElem?_setIfInBounds_ne (by omega))
      rcases h2 with ⟨h2, _⟩ | ⟨g2, cap2, cur2, h2, _, h3, _⟩
      · cases h2
      · cases h2
        have h4 : (w.heap.setIfInBounds g (.cells #[] e (0, 1)))[g]? = some (.cells #[] e (0, 1)) := Array.getElem?_setIfInBounds_self_of_lt (blk_lt hh)
        have h3' : (w.heap.setIfInBounds g (.cells #[] e (0, 1)))[g]? = some (.cells cur2 e (0, 0)) := h3
        rw [h4] at h3'
        injection h3' with h5
        injection h5 with _ _ h6
        injection h6 with _ h7
        cases h7
    · exact hgB
theorem owns_len {B : Nat} {e : TypeId} {s : Nat} {a : Option Addr} {m c : Nat} {w : World} {n : Nat} {xs : List Value} (h : w.ownsRow B e s (.slice a m c) n xs) : n = m := by
  rcases h.2 with ⟨h, h0⟩ | ⟨g, cap, cur, h, _⟩
  · cases h; exact h0
  · cases h; rfl
theorem owns_lenEq {B B' : Nat} {e e' : TypeId} {s s' : Nat} {v : Value} {w w' : World} {n n' : Nat} {xs xs' : List Value} (h : w.ownsRow B e s v n xs) (k : w'.ownsRow B' e' s' v n' xs') : n = n' := by
  rcases h.2 with ⟨rfl, h0⟩ | ⟨g, cap, cur, rfl, _⟩
  · exact h0.trans (owns_len k).symm
  · exact (owns_len k).symm
theorem NewU.own {B : Nat} {w : World} {v : Value} {l : List Int} (h : NewU B w v l) : OwnU B w v := ⟨_, _, h.2.2⟩
theorem NewUU.own {B : Nat} {w : World} {v : Value} {ll : List (List Int)} (h : NewUU B w v ll) : OwnUU B w v := by
  obtain ⟨_, us, _, h3, h4⟩ := h
  refine ⟨_, us, h3, fun j hj => ?_⟩
  obtain ⟨u, e, hu, _⟩ := h4 j hj
  exact ⟨u, e, hu.own⟩
theorem far_U {B : Nat} {w : World} {v : Value} {l : List Int} (h : Far (fun b => b < B) (fun W => NewU 0 W v l) w) : OwnU B w v :=
  ⟨_, _, far_owns (h.imp fun _ h => ⟨_, _, h.2.2⟩) h.now.2.2⟩
theorem far_A {B : Nat} {w : World} {v : Value} {l : List (Int × Int)} (h : Far (fun b => b < B) (fun W => NewA 0 W v l) w) : OwnA B w v :=
  ⟨_, _, far_owns (h.imp fun _ h => ⟨_, _, h.2.2⟩) h.now.2.2⟩
/-- a row reads as one list -/
theorem owns_same {B B' : Nat} {e e' : TypeId} {s : Nat} {v : Value} {w w' : World} {n n' : Nat} {xs xs' : List Value} (h : w.ownsRow B e s v n xs) (k : w'.ownsRow B' e' s v n' xs') (hb : ∀ g, v.ownBlock = some g → w'.heap[g]? = w.heap[g]?) : n' = n ∧ xs' = xs := by
  obtain ⟨hl, h⟩ := h
  obtain ⟨kl, k⟩ := k
  rcases h with ⟨rfl, h0⟩ | ⟨g, cap, cur, rfl, hg, hh, h1, h2, h3, h4⟩
  · rcases k with ⟨_, k0⟩ | ⟨g', cap', cur', k0, _⟩
    · subst h0; subst k0
      rw [Nat.zero_mul] at hl kl
      rw [List.eq_nil_of_length_eq_zero hl, List.eq_nil_of_length_eq_zero kl]
      exact ⟨rfl, rfl⟩
    · cases k0
  · rcases k with ⟨k0, _⟩ | ⟨g', cap', cur', k0, _, kh, _, _, _, k4⟩
    · cases k0
    · cases k0
      rw [hb g rfl, hh] at kh
      cases kh
      exact ⟨rfl, k4.symm.trans h4⟩
theorem far_row {B : Nat} {e : TypeId} {s : Nat} {v : Value} {w : World} {n : Nat} {xs : List Value} {Q : World → List Value → Prop} (h : Far (fun b => b < B) (fun W => ∃ n xs, W.ownsRow 0 e s v n xs ∧ Q W xs) w) (hr : w.ownsRow 0 e s v n xs) : w.ownsRow B e s v n xs ∧ Far (fun b => b < B) (fun W => Q W xs) w := by
  have h1 := far_owns (h.imp fun _ ⟨n, xs, h, _⟩ => ⟨n, xs, h⟩) hr
  refine ⟨h1, fun w' hs hk => ?_⟩
  obtain ⟨n', xs', h2, h3⟩ := h w' hs hk
  obtain ⟨_, rfl⟩ := owns_same h1 h2 fun g hg => hk g (h1.lt g hg).2 (by have := (h1.lt g hg).1; show ¬ g < B; omega)
  exact h3
theorem NewU.own0 {B : Nat} {w : World} {v : Value} {l : List Int} (h : NewU B w v l) : OwnU 0 w v := ⟨_, _, ownsRow_mono h.2.2 (Nat.zero_le _)⟩
theorem far_ownU {B : Nat} {w : World} {v : Value} (h : Far (fun b => b < B) (fun W => OwnU 0 W v) w) : OwnU B w v := by
  obtain ⟨n, xs, k⟩ := h.now
  exact ⟨n, xs, far_owns h k⟩
theorem far_ownA {B : Nat} {w : World} {v : Value} (h : Far (fun b => b < B) (fun W => OwnA 0 W v) w) : OwnA B w v := by
  obtain ⟨n, xs, k⟩ := h.now
  exact ⟨n, xs, far_owns h k⟩
theorem far_ownUU {B : Nat} {w : World} {v : Value} (h : Far (fun b => b < B) (fun W => OwnUU 0 W v) w) : OwnUU B w v := by
  obtain ⟨n, us, k, k2⟩ := h.now
  obtain ⟨h1, h2⟩ := far_row (Q := fun W us => ∀ j, j < n → ∃ u, us[j]? = some u ∧ OwnU 0 W u) (fun w' hs hk => by
    obtain ⟨n', us', q1, q2⟩ := h w' hs hk
    obtain rfl := owns_lenEq k q1
    exact ⟨_, us', q1, q2⟩) k
  refine ⟨n, us, h1, fun j hj => ?_⟩
  obtain ⟨u, e, _⟩ := k2 j hj
  refine ⟨u, e, far_ownU fun w' hs hk => ?_⟩
  obtain ⟨u', e', q⟩ := h2 w' hs hk j hj
  rw [e] at e'; cases e'
  exact q
theorem far_ownB {B : Nat} {w : World} {v : Value} (h : Far (fun b => b < B) (fun W => OwnB 0 W v) w) : OwnB B w v := by
  obtain ⟨n, us, k, k2⟩ := h.now
  obtain ⟨h1, h2⟩ := far_row (Q := fun W us => ∀ j, j < n → ∃ u u2, us[j * 2]? = some u ∧ us[j * 2 + 1]? = some u2 ∧ OwnU 0 W u ∧ OwnU 0 W u2) (fun w' hs hk => by
    obtain ⟨n', us', q1, q2⟩ := h w' hs hk
    obtain rfl := owns_lenEq k q1
    exact ⟨_, us', q1, q2⟩) k
  refine ⟨n, us, h1, fun j hj => ?_⟩
  obtain ⟨u, u2, e, e2, _⟩ := k2 j hj
  refine ⟨u, u2, e, e2, far_ownU fun w' hs hk => ?_, far_ownU fun w' hs hk => ?_⟩
  · obtain ⟨u', u2', e', e2', q, _⟩ := h2 w' hs hk j hj
    rw [e] at e'; cases e'
    exact q
  · obtain ⟨u', u2', e', e2', _, q⟩ := h2 w' hs hk j hj
    rw [e2] at e2'; cases e2'
    exact q
theorem far_ownK {B : Nat} {w : World} {v : Value} (h : Far (fun b => b < B) (fun W => OwnK 0 W v) w) : OwnK B w v := by
  obtain ⟨n, us, k, k2⟩ := h.now
  obtain ⟨h1, h2⟩ := far_row (Q := fun W us => ∀ j, j < n → ∃ u u2, us[j * 2]? = some u ∧ us[j * 2 + 1]? = some u2 ∧ OwnA 0 W u ∧ OwnB 0 W u2) (fun w' hs hk => by
    obtain ⟨n', us', q1, q2⟩ := h w' hs hk
    obtain rfl := owns_lenEq k q1
    exact ⟨_, us', q1, q2⟩) k
  refine ⟨n, us, h1, fun j hj => ?_⟩
  obtain ⟨u, u2, e, e2, _⟩ := k2 j hj
  refine ⟨u, u2, e, e2, far_ownA fun w' hs hk => ?_, far_ownB fun w' hs hk => ?_⟩
  · obtain ⟨u', u2', e', e2', q, _⟩ := h2 w' hs hk j hj
    rw [e] at e'; cases e'
    exact q
  · obtain ⟨u', u2', e', e2', _, q⟩ := h2 w' hs hk j hj
    rw [e2] at e2'; cases e2'
    exact q
theorem far_ownP {B : Nat} {w : World} {v : Value} (h : Far (fun b => b < B) (fun W => OwnP 0 W v) w) : OwnP B w v := by
  obtain ⟨n, us, k, k2⟩ := h.now
  obtain ⟨h1, h2⟩ := far_row (Q := fun W us => ∀ j, j < n → ∃ u u2, us[j * 2]? = some u ∧ us[j * 2 + 1]? = some u2 ∧ OwnUU 0 W u ∧ OwnU 0 W u2) (fun w' hs hk => by
    obtain ⟨n', us', q1, q2⟩ := h w' hs hk
    obtain rfl := owns_lenEq k q1
    exact ⟨_, us', q1, q2⟩) k
  refine ⟨n, us, h1, fun j hj => ?_⟩
  obtain ⟨u, u2, e, e2, _⟩ := k2 j hj
  refine ⟨u, u2, e, e2, far_ownUU fun w' hs hk => ?_, far_ownU fun w' hs hk => ?_⟩
  · obtain ⟨u', u2', e', e2', q, _⟩ := h2 w' hs hk j hj
    rw [e] at e'; cases e'
    exact q
  · obtain ⟨u', u2', e', e2', _, q⟩ := h2 w' hs hk j hj
    rw [e2] at e2'; cases e2'
    exact q
theorem NewB.own {X : Option Nat} {B : Nat} {w : World} {v : Value} {l : List (List Int × List Int)} (h : NewB X B w v l) : OwnB 0 w v := by
  obtain ⟨_, us, _, h3, h4⟩ := h
  refine ⟨_, us, ownsRow_mono h3 (Nat.zero_le _), fun j hj => ?_⟩
  obtain ⟨u, u2, e, e2, hF⟩ := h4 j hj
  exact ⟨u, u2, e, e2, hF.now.1.own, hF.now.2.own⟩
theorem NewK.own {B : Nat} {w : World} {v : Value} {l : List Lk} (h : NewK B w v l) : OwnK 0 w v := by
  obtain ⟨_, us, _, h3, h4⟩ := h
  refine ⟨_, us, ownsRow_mono h3 (Nat.zero_le _), fun j hj => ?_⟩
  obtain ⟨u, u2, e, e2, hF⟩ := h4 j hj
  exact ⟨u, u2, e, e2, ⟨_, _, hF.now.1.2.2⟩, hF.now.2.own⟩
theorem NewP.own {B : Nat} {w : World} {v : Value} {l : List Pi} (h : NewP B w v l) : OwnP 0 w v := by
  obtain ⟨_, us, _, h3, h4⟩ := h
  refine ⟨_, us, ownsRow_mono h3 (Nat.zero_le _), fun j hj => ?_⟩
  obtain ⟨u, u2, e, e2, hF⟩ := h4 j hj
  exact ⟨u, u2, e, e2, hF.now.1.own, hF.now.2.own⟩
end Go.Proofs.YtcihkechphldcaaDoor

/- The walks of spoil: a row of one's own is written over, up to its cap. No condition. -/
namespace Go.Proofs.YtcihkechphldcaaDoor
set_option maxRecDepth 100000
set_option linter.unusedVariables false
open Go.RowKit Tally
theorem Spoilt.set {B : Nat} {w wr : World} (h : Spoilt B w wr) {g : Nat} {cur : Array Value} {e : TypeId} (hb : wr.heap[g]? = some (.cells cur e (0, 0))) (he : e = 31 ∨ e = 52) (hg : B ≤ g) (j : Nat) (u : Value) : Spoilt B w (wr.setCell ⟨g, j, none⟩ u) := by
  refine h.trans ⟨(Below.refl _ _).setCell (p := ⟨g, j, none⟩) hg u, fun b o hbo => ?_⟩
  by_cases hbg : b = g
  · subst hbg
    rw [hb] at hbo; cases hbo
    exact .inr ⟨cur, _, e, rfl, he, blk_setCell hb j u, by simp⟩
  · exact .inl ((Below.heap_setCell _ _ _ _ hbg).trans hbo)
set_option maxHeartbeats 2000000 in
theorem spoil_U (B : Nat) (v : Value) (x : Int) (w : World) (h : OwnU B w v) :
    Calls Tryd.prog 18 #[v, .int .u64 x] w fun e w' => e = .returned (.tuple #[]) ∧ Spoilt B w w' := by
  obtain ⟨n, xs, -, h | ⟨g, cap, cur, rfl, hg, hh, h1, h2, h3, -⟩⟩ := h
  · obtain ⟨rfl, rfl⟩ := h
    go_enter Tryd.func18, Tryd.ntmps18
    go_wp2_with (fail)
    go_loopw [4, 11] (fun iv jv wr => jv = .int .i64 0 ∧ wr = w) (fun _ _ _ => 0)
    case atStart => exact ⟨rfl, rfl⟩
    case round =>
      obtain ⟨rfl, rfl⟩ := hrel
      go_wp2
      go_end0
      exact ⟨rfl, Spoilt.refl _ _⟩
  · have hm : cap ≤ 9223372036854775807 := by unfold maxLen at h2; exact h2
    have H3 := Lib.hid h3
    have Hh := Lib.hid hh
    clear h3 hh h2
    go_enter Tryd.func18, Tryd.ntmps18
    go_wp2_with (fail)
    go_loopw [4, 11] (fun iv jv wr => ∃ (k : Nat) (cs : Array Value), k ≤ cap ∧ jv = .int .i64 (k : Int) ∧ Hid (wr.heap[g]? = some (.cells cs 31 (0, 0))) ∧ Hid (cs.size = cap * 1) ∧ Hid (Spoilt B w wr)) (fun _ jv _ => cap - (intOf jv).toNat)
    case atStart => exact ⟨0, cur, Nat.zero_le _, rfl, Hh.out, H3.out, Spoilt.refl _ _⟩
    case round =>
      obtain ⟨k, cs, hk, rfl, HB, HS, HR⟩ := hrel
      by_cases hz : k < cap
      · have hz' : (k : Int) < (cap : Int) := by omega
        obtain ⟨y, hy⟩ : ∃ y, wr.cell? ⟨g, k, none⟩ = some y := by
          rw [cell_blk HB.out k]
          exact ⟨_, Array.getElem?_eq_getElem (by rw [HS.out]; omega)⟩
        have ff := free_blk HB.out k
        go_wp2
        go_roundw
        case rel => exact ⟨k + 1, _, by omega, by go_num, blk_setCell HB.out k _, by have h9 : cs.size = cap * 1 := HS.out; show (cs.setIfInBounds _ _).size = cap * 1; rw [Array.size_setIfInBounds]; exact h9, HR.out.set HB.out (.inl rfl) hg k _⟩
        case measure => simp [intOf]; omega
      · obtain rfl : k = cap := by omega
        go_wp2
        go_end0
        exact ⟨rfl, HR.out⟩
set_option maxHeartbeats 2000000 in
theorem spoil_A (B : Nat) (v : Value) (x y : Int) (w : World) (hB : B ≤ w.heap.size) (h : OwnA B w v) :
    Calls Tryd.prog 19 #[v, .agg #[.int .u64 x, .int .u64 y]] w fun e w' => e = .returned (.tuple #[]) ∧ Spoilt B w w' := by
  obtain ⟨W, hW, c0, c1, B1, s1⟩ := copied2' w (.int .u64 x) (.int .u64 y) 52
  have HS1 := Lib.hid (Spoilt.of B1 hB)
  obtain ⟨bx, hbx⟩ : ∃ bx, bx = w.heap.size := ⟨_, rfl⟩
  have hbk : W.heap[w.heap.size]? = some (.cells #[.int .u64 x, .int .u64 y] 52 (0, 0)) := by rw [← hW]; exact alloc_blk w _
  have Hbk := Lib.hid hbk
  clear hbk
  obtain ⟨n, xs, -, h | ⟨g, cap, cur, rfl, hg, hh, h1, h2, h3, -⟩⟩ := h
  · obtain ⟨rfl, rfl⟩ := h
    clear B1 c0 c1 Hbk
    go_enter Tryd.func19, Tryd.ntmps19
    go_wp2_with (fail)
    clear hW s1
    go_loopw [4, 11] (fun iv jv wr => jv = .int .i64 0 ∧ wr = W) (fun _ _ _ => 0)
    case atStart => exact ⟨rfl, rfl⟩
    case round =>
      obtain ⟨rfl, rfl⟩ := hrel
      go_wp2
      go_end0
      exact ⟨rfl, HS1.out⟩
  · have hglt := blk_lt hh
    have hm : cap ≤ 9223372036854775807 := by unfold maxLen at h2; exact h2
    have H3 := Lib.hid h3
    have Hh := Lib.hid ((B1.block g hglt).trans hh)
    have hne : bx ≠ g := by omega
    rw [← hbx] at c0 c1 Hbk
    clear h3 hh h2 B1
    go_enter Tryd.func19, Tryd.ntmps19
    go_wp2_with (fail)
    rw [← hbx]
    clear hW s1 hbx
    go_loopw [4, 11] (fun iv jv wr => ∃ (k : Nat) (cs : Array Value), k ≤ cap ∧ jv = .int .i64 (k : Int) ∧ Hid (wr.heap[g]? = some (.cells cs 52 (0, 0))) ∧ Hid (cs.size = cap * 2) ∧ Hid (wr.heap[bx]? = some (.cells #[.int .u64 x, .int .u64 y] 52 (0, 0))) ∧ Hid (Spoilt B w wr)) (fun _ jv _ => cap - (intOf jv).toNat)
    case atStart => exact ⟨0, cur, Nat.zero_le _, rfl, Hh.out, H3.out, Hbk.out, HS1.out⟩
    case round =>
      obtain ⟨k, cs, hk, rfl, HB, HS, HX, HR⟩ := hrel
      clear c0 c1
      have c0 : wr.cell? ⟨bx, 0, none⟩ = some _ := cell_blk HX.out 0
      have c1 : wr.cell? ⟨bx, 1, none⟩ = some _ := cell_blk HX.out 1
      by_cases hz : k < cap
      · have hz' : (k : Int) < (cap : Int) := by omega
        obtain ⟨z, hy⟩ : ∃ y, wr.cell? ⟨g, k * 2, none⟩ = some y := by
          rw [cell_blk HB.out (k * 2)]
          exact ⟨_, Array.getElem?_eq_getElem (by rw [HS.out]; omega)⟩
        obtain ⟨z2, hy2⟩ : ∃ y, wr.cell? ⟨g, k * 2 + 1, none⟩ = some y := by
          rw [cell_blk HB.out (k * 2 + 1)]
          exact ⟨_, Array.getElem?_eq_getElem (by rw [HS.out]; omega)⟩
        have ff := free_blk HB.out
        go_wp2
        go_roundw
        case rel => exact ⟨k + 1, _, by omega, by go_num, blk_setCell (blk_setCell HB.out (k * 2) _) (k * 2 + 1) _, by have h9 : cs.size = cap * 2 := HS.out; show ((cs.setIfInBounds _ _).setIfInBounds _ _).size = cap * 2; rw [Array.size_setIfInBounds, Array.size_setIfInBounds]; exact h9, (Below.heap_setCell _ _ _ _ hne).trans ((Below.heap_setCell _ _ _ _ hne).trans HX.out), (HR.out.set HB.out (.inr rfl) hg (k * 2) _).set (blk_setCell HB.out (k * 2) _) (.inr rfl) hg (k * 2 + 1) _⟩
        case measure => simp [intOf]; omega
      · obtain rfl : k = cap := by omega
        go_wp2
        go_end0
        exact ⟨rfl, HR.out⟩
end Go.Proofs.YtcihkechphldcaaDoor

/- Rows of one's own, as the walk of ListsOwn meets them: their cells; append of six rows. No condition. -/
namespace Go.Proofs.YtcihkechphldcaaDoor
set_option maxRecDepth 100000
set_option linter.unusedVariables false
open Go.RowKit Tally
theorem OwnU.isSlice {B : Nat} {w : World} {v : Value} (h : OwnU B w v) : ∃ a n c, v = .slice a n c := by
  obtain ⟨n, xs, _, ⟨rfl, _⟩ | ⟨g, cap, cur, rfl, _⟩⟩ := h <;> exact ⟨_, _, _, rfl⟩
theorem OwnU.one {B : Nat} {w : World} {v : Value} (h : OwnU B w v) : v.oneCell' = true := by
  obtain ⟨a, n, c, rfl⟩ := h.isSlice; rfl
theorem OwnUU.isSlice {B : Nat} {w : World} {v : Value} (h : OwnUU B w v) : ∃ a n c, v = .slice a n c := by
  obtain ⟨n, xs, ⟨_, ⟨rfl, _⟩ | ⟨g, cap, cur, rfl, _⟩⟩, _⟩ := h <;> exact ⟨_, _, _, rfl⟩
theorem OwnB.isSlice {B : Nat} {w : World} {v : Value} (h : OwnB B w v) : ∃ a n c, v = .slice a n c := by
  obtain ⟨n, xs, ⟨_, ⟨rfl, _⟩ | ⟨g, cap, cur, rfl, _⟩⟩, _⟩ := h <;> exact ⟨_, _, _, rfl⟩
theorem OwnA.isSlice {B : Nat} {w : World} {v : Value} (h : OwnA B w v) : ∃ a n c, v = .slice a n c := by
  obtain ⟨n, xs, _, ⟨rfl, _⟩ | ⟨g, cap, cur, rfl, _⟩⟩ := h <;> exact ⟨_, _, _, rfl⟩
theorem OwnK.isSlice {B : Nat} {w : World} {v : Value} (h : OwnK B w v) : ∃ a n c, v = .slice a n c := by
  obtain ⟨n, xs, ⟨_, ⟨rfl, _⟩ | ⟨g, cap, cur, rfl, _⟩⟩, _⟩ := h <;> exact ⟨_, _, _, rfl⟩
theorem OwnP.isSlice {B : Nat} {w : World} {v : Value} (h : OwnP B w v) : ∃ a n c, v = .slice a n c := by
  obtain ⟨n, xs, ⟨_, ⟨rfl, _⟩ | ⟨g, cap, cur, rfl, _⟩⟩, _⟩ := h <;> exact ⟨_, _, _, rfl⟩
theorem owns_at {B : Nat} {w : World} {e : TypeId} {s : Nat} {a : Option Addr} {n m c : Nat} {xs : List Value} (h : w.ownsRow B e s (.slice a m c) n xs) {k : Nat} (hk : k < m) :
    n = m ∧ m ≤ 9223372036854775807 ∧ ∃ g, a = some ⟨g, 0, none⟩ ∧ g < w.heap.size ∧ ∀ j, j < m * s → w.cell? ⟨g, j, none⟩ = xs[j]? := by
  obtain rfl := owns_len h
  have h' := h
  rcases h.2 with ⟨e, h0⟩ | ⟨g, cap, cur, e, hg, hh, h1, h2, _⟩
  · omega
  · cases e
    refine ⟨rfl, by unfold maxLen at h2; omega, g, rfl, blk_lt hh, fun j hj => h'.cellAt j hj⟩
theorem OwnUU.at {B : Nat} {w : World} {a : Option Addr} {n c : Nat} (h : OwnUU B w (.slice a n c)) {k : Nat} (hk : k < n) :
    ∃ g u, a = some ⟨g, 0, none⟩ ∧ g < w.heap.size ∧ w.cell? ⟨g, k, none⟩ = some u ∧ OwnU B w u := by
  obtain ⟨n', us, h1, h2⟩ := h
  obtain ⟨rfl, _, g, rfl, hg, hc⟩ := owns_at h1 hk
  obtain ⟨u, e, hu⟩ := h2 k hk
  exact ⟨g, u, rfl, hg, (hc k (by omega)).trans e, hu⟩
theorem OwnB.at {B : Nat} {w : World} {a : Option Addr} {n c : Nat} (h : OwnB B w (.slice a n c)) {k : Nat} (hk : k < n) :
    ∃ g u u2, a = some ⟨g, 0, none⟩ ∧ g < w.heap.size ∧ w.cell? ⟨g, k * 2, none⟩ = some u ∧ w.cell? ⟨g, k * 2 + 1, none⟩ = some u2 ∧ OwnU B w u ∧ OwnU B w u2 := by
  obtain ⟨n', us, h1, h2⟩ := h
  obtain ⟨rfl, _, g, rfl, hg, hc⟩ := owns_at h1 hk
  obtain ⟨u, u2, e, e2, hu⟩ := h2 k hk
  exact ⟨g, u, u2, rfl, hg, (hc _ (by omega)).trans e, (hc _ (by omega)).trans e2, hu⟩
theorem OwnK.at {B : Nat} {w : World} {a : Option Addr} {n c : Nat} (h : OwnK B w (.slice a n c)) {k : Nat} (hk : k < n) :
    ∃ g u u2, a = some ⟨g, 0, none⟩ ∧ g < w.heap.size ∧ w.cell? ⟨g, k * 2, none⟩ = some u ∧ w.cell? ⟨g, k * 2 + 1, none⟩ = some u2 ∧ OwnA B w u ∧ OwnB B w u2 := by
  obtain ⟨n', us, h1, h2⟩ := h
  obtain ⟨rfl, _, g, rfl, hg, hc⟩ := owns_at h1 hk
  obtain ⟨u, u2, e, e2, hu⟩ := h2 k hk
  exact ⟨g, u, u2, rfl, hg, (hc _ (by omega)).trans e, (hc _ (by omega)).trans e2, hu⟩
theorem OwnP.at {B : Nat} {w : World} {a : Option Addr} {n c : Nat} (h : OwnP B w (.slice a n c)) {k : Nat} (hk : k < n) :
    ∃ g u u2, a = some ⟨g, 0, none⟩ ∧ g < w.heap.size ∧ w.cell? ⟨g, k * 2, none⟩ = some u ∧ w.cell? ⟨g, k * 2 + 1, none⟩ = some u2 ∧ OwnUU B w u ∧ OwnU B w u2 := by
  obtain ⟨n', us, h1, h2⟩ := h
  obtain ⟨rfl, _, g, rfl, hg, hc⟩ := owns_at h1 hk
  obtain ⟨u, u2, e, e2, hu⟩ := h2 k hk
  exact ⟨g, u, u2, rfl, hg, (hc _ (by omega)).trans e, (hc _ (by omega)).trans e2, hu⟩
theorem owns_max {B : Nat} {w : World} {e : TypeId} {s : Nat} {a : Option Addr} {n m c : Nat} {xs : List Value} (h : w.ownsRow B e s (.slice a m c) n xs) : m ≤ 9223372036854775807 := by
  rcases Nat.eq_zero_or_pos m with h0 | h0
  · omega
  · exact (owns_at h h0).2.1
theorem OwnUU.max {B : Nat} {w : World} {a : Option Addr} {n c : Nat} (h : OwnUU B w (.slice a n c)) : n ≤ 9223372036854775807 := by
  obtain ⟨_, _, h, _⟩ := h; exact owns_max h
theorem OwnB.max {B : Nat} {w : World} {a : Option Addr} {n c : Nat} (h : OwnB B w (.slice a n c)) : n ≤ 9223372036854775807 := by
  obtain ⟨_, _, h, _⟩ := h; exact owns_max h
theorem OwnK.max {B : Nat} {w : World} {a : Option Addr} {n c : Nat} (h : OwnK B w (.slice a n c)) : n ≤ 9223372036854775807 := by
  obtain ⟨_, _, h, _⟩ := h; exact owns_max h
theorem OwnP.max {B : Nat} {w : World} {a : Option Addr} {n c : Nat} (h : OwnP B w (.slice a n c)) : n ≤ 9223372036854775807 := by
  obtain ⟨_, _, h, _⟩ := h; exact owns_max h
/-- rows of unlike kinds lie in unlike blocks -/
theorem owns_apart {B B' : Nat} {w : World} {e e' : TypeId} {s s' : Nat} {v v' : Value} {n n' : Nat} {xs xs' : List Value} (h : w.ownsRow B e s v n xs) (k : w.ownsRow B' e' s' v' n' xs') (he : e ≠ e') : ∀ g, v.ownBlock = some g → v'.ownBlock ≠ some g := by
  intro g hg hg'
  rcases h.2 with ⟨rfl, _⟩ | ⟨g1, cap, cur, rfl, _, hh, _⟩
  · cases hg
  · rcases k.2 with ⟨rfl, _⟩ | ⟨g2, cap2, cur2, rfl, _, hh2, _⟩
    · cases hg'
    · cases hg; cases hg'
      rw [hh] at hh2; cases hh2
      exact he rfl
theorem OwnU.go {B : Nat} {w w' : World} {v : Value} (h : OwnU B w v) (hb : Below w.heap.size w w') : OwnU B w' v := by
  obtain ⟨n, xs, h⟩ := h
  exact ⟨n, xs, ownsRow_below h hb (Nat.le_refl _)⟩
theorem OwnUU.go {B : Nat} {w w' : World} {v : Value} (h : OwnUU B w v) (hb : Below w.heap.size w w') : OwnUU B w' v := by
  obtain ⟨n, us, h, h2⟩ := h
  refine ⟨n, us, ownsRow_below h hb (Nat.le_refl _), fun j hj => ?_⟩
  obtain ⟨u, e, hu⟩ := h2 j hj
  exact ⟨u, e, hu.go hb⟩
theorem OwnU.mono {B B' : Nat} {w : World} {v : Value} (h : OwnU B w v) (hB : B' ≤ B) : OwnU B' w v := by
  obtain ⟨n, xs, h⟩ := h
  exact ⟨n, xs, ownsRow_mono h hB⟩
theorem OwnUU.mono {B B' : Nat} {w : World} {v : Value} (h : OwnUU B w v) (hB : B' ≤ B) : OwnUU B' w v := by
  obtain ⟨n, us, h, h2⟩ := h
  refine ⟨n, us, ownsRow_mono h hB, fun j hj => ?_⟩
  obtain ⟨u, e, hu⟩ := h2 j hj
  exact ⟨u, e, hu.mono hB⟩
theorem OwnA.mono {B B' : Nat} {w : World} {v : Value} (h : OwnA B w v) (hB : B' ≤ B) : OwnA B' w v := by
  obtain ⟨n, xs, h⟩ := h
  exact ⟨n, xs, ownsRow_mono h hB⟩
theorem OwnB.mono {B B' : Nat} {w : World} {v : Value} (h : OwnB B w v) (hB : B' ≤ B) : OwnB B' w v := by
  obtain ⟨n, us, h, h2⟩ := h
  refine ⟨n, us, ownsRow_mono h hB, fun j hj => ?_⟩
  obtain ⟨u, u2, e, e2, hu, hu2⟩ := h2 j hj
  exact ⟨u, u2, e, e2, hu.mono hB, hu2.mono hB⟩
theorem OwnK.mono {B B' : Nat} {w : World} {v : Value} (h : OwnK B w v) (hB : B' ≤ B) : OwnK B' w v := by
  obtain ⟨n, us, h, h2⟩ := h
  refine ⟨n, us, ownsRow_mono h hB, fun j hj => ?_⟩
  obtain ⟨u, u2, e, e2, hu, hu2⟩ := h2 j hj
  exact ⟨u, u2, e, e2, hu.mono hB, hu2.mono hB⟩
theorem OwnP.mono {B B' : Nat} {w : World} {v : Value} (h : OwnP B w v) (hB : B' ≤ B) : OwnP B' w v := by
  obtain ⟨n, us, h, h2⟩ := h
  refine ⟨n, us, ownsRow_mono h hB, fun j hj => ?_⟩
  obtain ⟨u, u2, e, e2, hu, hu2⟩ := h2 j hj
  exact ⟨u, u2, e, e2, hu.mono hB, hu2.mono hB⟩
/-- a block of another kind stays -/
theorem Spoilt.box {B : Nat} {w w' : World} (h : Spoilt B w w') {g : Nat} {cs : Array Value} {t : TypeId} (hb : w.heap[g]? = some (.cells cs t (0, 0))) (h1 : t ≠ 31) (h2 : t ≠ 52) : w'.heap[g]? = some (.cells cs t (0, 0)) := by
  rcases h.blk g _ hb with h3 | ⟨cur, cur', e, h3, he, _⟩
  · exact h3
  · cases h3
    rcases he with he | he
    · exact absurd he h1
    · exact absurd he h2
theorem owns_keep {B : Nat} {w w' : World} {e : TypeId} {s : Nat} {v : Value} {n : Nat} {xs : List Value} (hk : ∀ (g : Nat) (cs : Array Value) (t : TypeId), w.heap[g]? = some (Obj.cells cs t (0, 0)) → t ≠ 22 → w'.heap[g]? = w.heap[g]?) (h : w.ownsRow B e s v n xs) (he : e ≠ 22) : w'.ownsRow B e s v n xs := by
  obtain ⟨hl, hr⟩ := h
  refine ⟨hl, ?_⟩
  rcases hr with hr | ⟨g, cap, cur, rfl, hg, hh, r⟩
  · exact .inl hr
  · exact .inr ⟨g, cap, cur, rfl, hg, (hk g _ _ hh he).trans hh, r⟩
theorem OwnK.keep {B : Nat} {w w' : World} {v : Value} (h : OwnK B w v) (hk : ∀ (g : Nat) (cs : Array Value) (t : TypeId), w.heap[g]? = some (Obj.cells cs t (0, 0)) → t ≠ 22 → w'.heap[g]? = w.heap[g]?) : OwnK B w' v := by
  have kU : ∀ {u}, OwnU B w u → OwnU B w' u := fun {u} ⟨n, xs, k⟩ => ⟨n, xs, owns_keep hk k (by decide)⟩
  have kA : ∀ {u}, OwnA B w u → OwnA B w' u := fun {u} ⟨n, xs, k⟩ => ⟨n, xs, owns_keep hk k (by decide)⟩
  have kB : ∀ {u}, OwnB B w u → OwnB B w' u := fun {u} ⟨n, xs, k, k2⟩ => ⟨n, xs, owns_keep hk k (by decide), fun j hj => by
    obtain ⟨y, y2, e, e2, hy, hy2⟩ := k2 j hj
    exact ⟨y, y2, e, e2, kU hy, kU hy2⟩⟩
  obtain ⟨n, us, k, k2⟩ := h
  refine ⟨n, us, owns_keep hk k (by decide), fun j hj => ?_⟩
  obtain ⟨y, y2, e, e2, hy, hy2⟩ := k2 j hj
  exact ⟨y, y2, e, e2, kA hy, kB hy2⟩
theorem owns_keepT {T : TypeId} {B : Nat} {w w' : World} {e : TypeId} {s : Nat} {v : Value} {n : Nat} {xs : List Value} (hk : ∀ (g : Nat) (cs : Array Value) (t : TypeId), w.heap[g]? = some (Obj.cells cs t (0, 0)) → t ≠ T → w'.heap[g]? = w.heap[g]?) (h : w.ownsRow B e s v n xs) (he : e ≠ T) : w'.ownsRow B e s v n xs := by
  obtain ⟨hl, hr⟩ := h
  refine ⟨hl, ?_⟩
  rcases hr with hr | ⟨g, cap, cur, rfl, hg, hh, r⟩
  · exact .inl hr
  · exact .inr ⟨g, cap, cur, rfl, hg, (hk g _ _ hh he).trans hh, r⟩
/-- a box of a proof is written -/
theorem OwnP.setBox {B : Nat} {w : World} {v : Value} (h : OwnP B w v) {g : Nat} {cs : Array Value} (hb : w.heap[g]? = some (.cells cs 63 (0, 0))) (j : Nat) (u : Value) : OwnP B (w.setCell ⟨g, j, none⟩ u) v := by
  have hk : ∀ (b : Nat) (cs : Array Value) (t : TypeId), w.heap[b]? = some (Obj.cells cs t (0, 0)) → t ≠ 63 → (w.setCell ⟨g, j, none⟩ u).heap[b]? = w.heap[b]? := fun b cs t hh ht => Below.heap_setCell _ _ _ _ (fun e => by
    have e' : b = g := e
    subst e'
    rw [hb] at hh; cases hh
    exact ht rfl)
  have kU : ∀ {u'}, OwnU B w u' → OwnU B (w.setCell ⟨g, j, none⟩ u) u' := fun {u'} ⟨n, xs, k⟩ => ⟨n, xs, owns_keepT hk k (by decide)⟩
  have kUU : ∀ {u'}, OwnUU B w u' → OwnUU B (w.setCell ⟨g, j, none⟩ u) u' := fun {u'} ⟨n, xs, k, k2⟩ => ⟨n, xs, owns_keepT hk k (by decide), fun j hj => by
    obtain ⟨y, e, hy⟩ := k2 j hj
    exact ⟨y, e, kU hy⟩⟩
  obtain ⟨n, us, k, k2⟩ := h
  refine ⟨n, us, owns_keepT hk k (by decide), fun j hj => ?_⟩
  obtain ⟨y, y2, e, e2, hy, hy2⟩ := k2 j hj
  exact ⟨y, y2, e, e2, kUU hy, kU hy2⟩
/-- append of six rows -/
theorem wpList_app6 {ops : Array Oper} {rest : List Oper} {o : Oper} {a : Act} {Q : Exit → Act → World → Prop} {w0 : World} (hgd : o.guard = none) (s x : Operand)
    (ho : o.op = .call { callee := .builtin .append, args := #[s, x], argTypes := #[36, 36] })
    (B : Nat) (v : Value) (ll : List (List Int)) (hs : a.eval s = v) (hown : NewUU B w0 v ll) (u1 u2 u3 u4 u5 u6 : Value) (hu : OwnU B w0 u1 ∧ OwnU B w0 u2 ∧ OwnU B w0 u3 ∧ OwnU B w0 u4 ∧ OwnU B w0 u5 ∧ OwnU B w0 u6)
    (hx : a.eval x = .slice (some ⟨w0.heap.size, 0, none⟩) 6 6) (hlen : ll.length ≤ 1000) (hB : B ≤ w0.heap.size)
    (h : ∀ v' w', OwnUU B w' v' → Below B w0 w' → (∀ (g : Nat) (cs : Array Value) (t : TypeId), w0.heap[g]? = some (Obj.cells cs t (0, 0)) → t ≠ 22 → w'.heap[g]? = w0.heap[g]?) → wpList Tryd.prog ops Q rest (a.put o.dst v') w') : wpList Tryd.prog ops Q (o :: rest) a (w0.alloc (.cells #[u1, u2, u3, u4, u5, u6] 22)) := by
  obtain ⟨i0, hi1, hz0, hz1, hz2⟩ := info_parts Tryd.infoUU
  obtain ⟨h1, us, h2, h3, h4⟩ := hown
  obtain ⟨k1, k2, k3, k4, k5, k6⟩ := hu
  have hlt := h3.lt
  refine wpList_append_own_at _ hgd s x _ ho B 22 i0 (.slice none 0 0) 1 24 Tryd.underlying36 hi1 hz0 hz1 hz2 rfl (by decide) v ll.length us hs (h3.alloc _) ⟨w0.heap.size, 0, none⟩ 6 6 [u1, u2, u3, u4, u5, u6] hx (by simp) ?_ (by simpa using ⟨k1.one, k2.one, k3.one, k4.one, k5.one, k6.one⟩) (by unfold maxLen; omega) (by omega) (by simp; omega) ?_
  · exact World.news_of_block (cs := #[u1, u2, u3, u4, u5, u6]) (t := 22) (fr := (0, 0)) (alloc_blk w0 _)
  · intro v' w' h5 h6 _ _
    have hal : Below w0.heap.size w0 (w0.alloc (.cells #[u1, u2, u3, u4, u5, u6] 22)) := (Below.refl _ _).alloc (Nat.le_refl _) _
    have hg0 : w0.grownBy w' v.ownBlock := grownBy_chainL (below_toGrownL hal _) h6
    have hbl : Below B w0 w' := ((Below.refl B w0).alloc hB _).grown h6 (by simp; omega) fun k hk => (hlt k hk).1
    have keep : ∀ {u}, OwnU B w0 u → OwnU B w' u := fun {u} ⟨n, xs, k⟩ => ⟨n, xs, ownsRow_grown k hg0 fun g hg => owns_apart k h3 (by decide) g hg⟩
    refine h v' w' ⟨_, _, h5, fun j hj => ?_⟩ hbl fun g cs t hg ht => hg0.block g (blk_lt hg) fun e => ?_
    · by_cases hj2 : j < ll.length
      · obtain ⟨y, e, hy, _⟩ := h4 j hj2
        exact ⟨y, by rw [List.getElem?_append_left (by omega)]; exact e, keep hy.own⟩
      · rw [List.getElem?_append_right (by omega), h2]
        have : j - ll.length < 6 := by omega
        match hm : j - ll.length, this with
        | 0, _ => exact ⟨u1, rfl, keep k1⟩
        | 1, _ => exact ⟨u2, rfl, keep k2⟩
        | 2, _ => exact ⟨u3, rfl, keep k3⟩
        | 3, _ => exact ⟨u4, rfl, keep k4⟩
        | 4, _ => exact ⟨u5, rfl, keep k5⟩
        | 5, _ => exact ⟨u6, rfl, keep k6⟩
    · rcases h3.2 with ⟨rfl, _⟩ | ⟨g1, cap, cur, rfl, _, hh, _⟩
      · cases e
      · cases e
        rw [hg] at hh; cases hh
        exact ht rfl
/-- a row of two rows, written out -/
theorem rowUU2 (w : World) (n : Nat) (v v2 : Value) (l l2 : List Int) (h : RowU w v l) (h2 : RowU w v2 l2) (hn : w.heap.size = n) : RowUU (w.alloc (.cells #[v, v2] 22)) (.slice (some ⟨n, 0, none⟩) 2 2) [l, l2] := by
  subst hn
  have hal : Below w.heap.size w (w.alloc (.cells #[v, v2] 22)) := (Below.refl _ _).alloc (Nat.le_refl _) _
  refine ⟨by simp, _, 2, rfl, fun _ => ⟨w.heap.size, 0, rfl, by simp, fun j hj => ?_⟩⟩
  have hb := alloc_blk w (.cells #[v, v2] 22)
  match j, hj with
  | 0, _ => exact ⟨v, cell_blk hb 0, h.go hal⟩
  | 1, _ => exact ⟨v2, cell_blk hb 1, h2.go hal⟩
end Go.Proofs.YtcihkechphldcaaDoor
