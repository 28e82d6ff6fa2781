/- Plain law: what is drawn for a proof that is told to a sponge; a proof that is told draw by draw is the one for all its draws; no program in sight, no condition. -/
import Derived.Test.YtlfneeobnihocaaGreatDoorGkrVerW
import Derived.Test.YtlfneeobnihocaaGreatDoorSponge
namespace Go.Proofs.YtlfneeobnihocaaGreatDoor
set_option maxRecDepth 100000
set_option linter.unusedVariables false
open Tally
/-- the words of a gate, of a layer, of a circuit -/
def gateW (g : Gt) : List Int := [if g.mul then 1 else 0, g.a, g.b]
def layerW (l : Ly) : List Int := l.log :: l.gates.flatMap gateW
def wordsI (c : Ci) : List Int := [c.log, (c.layers.length : Int)] ++ c.layers.flatMap layerW
/-- who tells draws: what the sponge holds, and what it gave -/
structure Tl where
  s : St
  ds : List Int
def Tl.give (t : Tl) : Tl := ⟨mix t.s, t.ds ++ [psi t.s.y]⟩
def Tl.told (t : Tl) (l : List Int) : Tl := ⟨mix (takeL l t.s), t.ds ++ [psi (takeL l t.s).y]⟩
def gives : Nat → Tl → Tl
  | 0, t => t
  | n + 1, t => (gives n t).give
def startT (c : Ci) (inp out : List Int) : Tl := ⟨takeL out (takeL inp (takeL (wordsI c) (newS 1))), []⟩
def begT (c : Ci) (inp out : List Int) : Tl := gives (belowLog c c.layers.length).toNat (startT c inp out)
/-- the lists of a proof, as they are told -/
def listsP (P : Pi) : List (List Int) := P.rounds ++ [P.line]
def flatP (ps : List Pi) : List (List Int) := ps.flatMap listsP
def tellL (ls : List (List Int)) (t : Tl) : Tl := ls.foldl Tl.told t
def endT (c : Ci) (inp out : List Int) (ps : List Pi) : Tl := tellL (flatP ps) (begT c inp out)
def drawnI (c : Ci) (inp out : List Int) (ps : List Pi) : List Int := (endT c inp out ps).ds
theorem told_ds (t : Tl) (l : List Int) : (t.told l).ds = t.ds ++ [psi (takeL l t.s).y] := rfl
theorem give_ds (t : Tl) : t.give.ds = t.ds ++ [psi t.s.y] := rfl
theorem tellL_cons (a : List Int) (ls : List (List Int)) (t : Tl) : tellL (a :: ls) t = tellL ls (t.told a) := by unfold tellL; rw [List.foldl_cons]
theorem tellL_append (a b : List (List Int)) (t : Tl) : tellL (a ++ b) t = tellL b (tellL a t) := List.foldl_append ..
theorem tellL_snoc (a : List (List Int)) (l : List Int) (t : Tl) : tellL (a ++ [l]) t = (tellL a t).told l := by rw [tellL_append]; rfl
theorem gives_length : ∀ n t, (gives n t).ds.length = t.ds.length + n
  | 0, _ => rfl
  | n + 1, t => by
    rw [show gives (n + 1) t = (gives n t).give from rfl, give_ds, List.length_append, gives_length n t, List.length_singleton]; omega
theorem begT_length (c : Ci) (inp out : List Int) : (begT c inp out).ds.length = (belowLog c c.layers.length).toNat := by
  unfold begT; rw [gives_length, show (startT c inp out).ds = [] from rfl, List.length_nil, Nat.zero_add]
theorem tellL_length (ls : List (List Int)) : ∀ t, (tellL ls t).ds.length = t.ds.length + ls.length := by
  induction ls with
  | nil => intro t; rfl
  | cons a ls ih =>
    intro t
    rw [tellL_cons, ih, told_ds, List.length_append, List.length_singleton, List.length_cons]; omega
theorem tellL_prefix (ls : List (List Int)) : ∀ t, ∃ r, (tellL ls t).ds = t.ds ++ r := by
  induction ls with
  | nil => intro t; exact ⟨[], (List.append_nil _).symm⟩
  | cons a ls ih =>
    intro t
    obtain ⟨r, hr⟩ := ih (t.told a)
    exact ⟨psi (takeL a t.s).y :: r, by rw [tellL_cons, hr, told_ds, List.append_assoc, List.singleton_append]⟩
theorem mem_tell (ls : List (List Int)) : ∀ t : Tl, (∀ x ∈ t.ds, U64 x) → ∀ x ∈ (tellL ls t).ds, U64 x := by
  induction ls with
  | nil => intro t h; exact h
  | cons a ls ih =>
    intro t h
    rw [tellL_cons]
    refine ih (t.told a) fun x hx => ?_
    rw [told_ds] at hx
    rcases List.mem_append.1 hx with hx | hx
    · exact h x hx
    · rw [List.mem_singleton.1 hx]; exact U64.psi _
/-- how many lists stand ahead of layer's part j -/
def offP (c : Ci) : Nat → Nat
  | 0 => 0
  | j + 1 => offP c j + (2 * (belowLog c (c.layers.length - 1 - j)).toNat + 1)
theorem flatP_take_succ (ps : List Pi) (j : Nat) (h : j < ps.length) : flatP (ps.take (j + 1)) = flatP (ps.take j) ++ listsP (atp ps j) := by
  unfold flatP
  rw [List.take_add_one, List.flatMap_append]
  congr 1
  simp [atp, List.getElem?_eq_getElem h]
theorem PiOk.lists {P : Pi} {k : Nat} (h : PiOk P k) : (listsP P).length = 2 * k + 1 := by unfold listsP; rw [List.length_append, h.n]; rfl
theorem flatP_take_length {c : Ci} {ps : List Pi} (h : ShapedI c ps) : ∀ j, j ≤ c.layers.length → (flatP (ps.take j)).length = offP c j
  | 0, _ => rfl
  | j + 1, hj => by
    rw [flatP_take_succ _ _ (by rw [h.1]; omega), List.length_append, flatP_take_length h j (by omega), (h.2 j (by rw [h.1]; omega)).lists]
    rfl
theorem flatP_split {ps : List Pi} {j : Nat} (h : j < ps.length) : flatP ps = flatP (ps.take j) ++ (listsP (atp ps j) ++ flatP (ps.drop (j + 1))) := by
  have e : flatP ps = flatP (ps.take (j + 1)) ++ flatP (ps.drop (j + 1)) := by unfold flatP; rw [← List.flatMap_append, List.take_append_drop]
  rw [e, flatP_take_succ ps j h, List.append_assoc]
theorem flatP_round {c : Ci} {ps : List Pi} (h : ShapedI c ps) {j i : Nat} (hj : j < c.layers.length) (hi : i < 2 * (belowLog c (c.layers.length - 1 - j)).toNat) : atl (flatP ps) (offP c j + i) = atl (atp ps j).rounds i := by
  have hp := h.2 j (by rw [h.1]; omega)
  rw [flatP_split (show j < ps.length by rw [h.1]; omega)]
  unfold atl
  rw [List.getElem?_append_right (by rw [flatP_take_length h j (by omega)]; omega), flatP_take_length h j (by omega), Nat.add_sub_cancel_left]
  rw [List.getElem?_append_left (by rw [hp.lists]; omega)]
  unfold listsP
  rw [List.getElem?_append_left (by rw [hp.n]; omega)]
theorem flatP_line {c : Ci} {ps : List Pi} (h : ShapedI c ps) {j : Nat} (hj : j < c.layers.length) : atl (flatP ps) (offP c j + 2 * (belowLog c (c.layers.length - 1 - j)).toNat) = (atp ps j).line := by
  have hp := h.2 j (by rw [h.1]; omega)
  rw [flatP_split (show j < ps.length by rw [h.1]; omega)]
  unfold atl
  rw [List.getElem?_append_right (by rw [flatP_take_length h j (by omega)]; omega), flatP_take_length h j (by omega), Nat.add_sub_cancel_left]
  rw [List.getElem?_append_left (by rw [hp.lists]; omega)]
  unfold listsP
  rw [List.getElem?_append_right (by rw [hp.n]; omega), hp.n, Nat.sub_self]
  rfl
theorem offP_need (c : Ci) : ∀ j, j ≤ c.layers.length → offP c j + needFrom c (c.layers.length - j) = needFrom c c.layers.length
  | 0, _ => by show 0 + _ = _; rw [Nat.zero_add]; rfl
  | j + 1, hj => by
    have := offP_need c j (by omega)
    rw [show c.layers.length - j = (c.layers.length - (j + 1)) + 1 by omega] at this
    have e : needFrom c ((c.layers.length - (j + 1)) + 1) = 2 * (belowLog c (c.layers.length - (j + 1))).toNat + 1 + needFrom c (c.layers.length - (j + 1)) := rfl
    rw [e] at this
    show offP c j + (2 * (belowLog c (c.layers.length - 1 - j)).toNat + 1) + _ = _
    rw [show c.layers.length - 1 - j = c.layers.length - (j + 1) by omega]
    omega
theorem offP_all (c : Ci) : offP c c.layers.length = needFrom c c.layers.length := by
  have := offP_need c _ (Nat.le_refl _)
  rw [Nat.sub_self] at this
  exact this
theorem flatP_length {c : Ci} {ps : List Pi} (h : ShapedI c ps) : (flatP ps).length = needFrom c c.layers.length := by
  rw [← offP_all, ← flatP_take_length h _ (Nat.le_refl _), List.take_of_length_le (by rw [h.1]; exact Nat.le_refl _)]
theorem drawnI_length {c : Ci} (inp out : List Int) {ps : List Pi} (h : ShapedI c ps) : (drawnI c inp out ps).length = drawsN c := by
  unfold drawnI endT
  rw [tellL_length, begT_length, flatP_length h]; rfl
/-- a list of a proof hangs on the draws ahead of it alone -/
theorem take_map_phi {d d' : List Int} {m j : Nat} (h : d.take m = d'.take m) (hj : j ≤ m) : (d.map phi).take j = (d'.map phi).take j := by
  rw [← List.map_take, ← List.map_take]
  have := congrArg (List.take j) h
  rw [List.take_take, List.take_take, Nat.min_eq_left hj] at this
  rw [this]
theorem from_hangs (c : Ci) (I : List F) : ∀ i z d d' m, m < needFrom c i → d.take m = d'.take m → d.length = needFrom c i → d'.length = needFrom c i → atl (flatP (proofFromI c I i z d)) m = atl (flatP (proofFromI c I i z d')) m
  | 0, _, _, _, m, hm, _, _, _ => absurd hm (by simp [needFrom])
  | i + 1, z, d, d', m, hm, h, hd, hd' => by
    have hm' : m < 2 * (belowLog c i).toNat + 1 + needFrom c i := hm
    have hdn : d.length = 2 * (belowLog c i).toNat + 1 + needFrom c i := hd
    have hdn' : d'.length = 2 * (belowLog c i).toNat + 1 + needFrom c i := hd'
    have e : ∀ d, proofFromI c I (i + 1) z d = ⟨roundsI (aty c.layers i).gates z ((valF c I i).map psi) (belowLog c i).toNat d, pLineI ((valF c I i).map psi) (belowLog c i).toNat d⟩ :: proofFromI c I i (nextI (belowLog c i).toNat d) (d.drop (2 * (belowLog c i).toNat + 1)) := fun _ => rfl
    rw [e, e]
    generalize (belowLog c i).toNat = k at *
    generalize (valF c I i).map psi = V at *
    generalize (aty c.layers i).gates = gs at *
    have ef : ∀ (P : Pi) (ps : List Pi), flatP (P :: ps) = listsP P ++ flatP ps := fun _ _ => rfl
    rw [ef, ef]
    have hl : ∀ d, (listsP ⟨roundsI gs z V k d, pLineI V k d⟩).length = 2 * k + 1 := fun d => by unfold listsP; simp [roundsI_length]
    by_cases hk : m < 2 * k + 1
    · unfold atl
      rw [List.getElem?_append_left (by rw [hl]; omega), List.getElem?_append_left (by rw [hl]; omega)]
      unfold listsP
      by_cases hk2 : m < 2 * k
      · rw [List.getElem?_append_left (by rw [roundsI_length]; omega), List.getElem?_append_left (by rw [roundsI_length]; omega)]
        unfold roundsI
        rw [List.getElem?_map, List.getElem?_map, List.getElem?_range hk2]
        simp only [Option.map_some]
        rw [take_map_phi h (Nat.le_refl _)]
      · obtain rfl : m = 2 * k := by omega
        rw [List.getElem?_append_right (by rw [roundsI_length]; omega), List.getElem?_append_right (by rw [roundsI_length]; omega)]
        rw [roundsI_length, roundsI_length, Nat.sub_self]
        unfold pLineI
        rw [take_map_phi h (show k ≤ 2 * k by omega)]
        have e2 : ((d.map phi).drop k).take k = ((d'.map phi).drop k).take k := by
          have h2 := take_map_phi h (Nat.le_refl (2 * k))
          have h3 := congrArg (List.drop k) h2
          rw [List.drop_take, List.drop_take, show 2 * k - k = k by omega] at h3
          exact h3
        rw [e2]
    · have hn : nextI k d = nextI k d' := by
        rw [← nextI_cut k m d (by omega), ← nextI_cut k m d' (by omega), h]
      rw [hn]
      unfold atl
      rw [List.getElem?_append_right (by rw [hl]; omega), List.getElem?_append_right (by rw [hl]; omega), hl, hl]
      have ih := from_hangs c I i (nextI k d') (d.drop (2 * k + 1)) (d'.drop (2 * k + 1)) (m - (2 * k + 1)) (by omega) (by
        have h3 := congrArg (List.drop (2 * k + 1)) h
        rw [List.drop_take, List.drop_take] at h3
        exact h3) (by rw [List.length_drop]; omega) (by rw [List.length_drop]; omega)
      exact ih
theorem prove_hangs {c : Ci} (inp : List Int) {d d' : List Int} {m : Nat} (hm : m < needFrom c c.layers.length) (hd : d.length = drawsN c) (hd' : d'.length = drawsN c) (h : d.take ((belowLog c c.layers.length).toNat + m) = d'.take ((belowLog c c.layers.length).toNat + m)) :
    atl (flatP (proveI c inp d)) m = atl (flatP (proveI c inp d')) m := by
  unfold proveI
  have e1 : d.take (belowLog c c.layers.length).toNat = d'.take (belowLog c c.layers.length).toNat := by
    have := congrArg (List.take (belowLog c c.layers.length).toNat) h
    rwa [List.take_take, List.take_take, Nat.min_eq_left (by omega)] at this
  rw [e1]
  refine from_hangs c _ _ _ _ _ m hm ?_ (by rw [List.length_drop, hd]; unfold drawsN; omega) (by rw [List.length_drop, hd']; unfold drawsN; omega)
  have := congrArg (List.drop (belowLog c c.layers.length).toNat) h
  rwa [List.drop_take, List.drop_take, Nat.add_sub_cancel_left] at this
/-- what is told, list by list -/
def runT (c : Ci) (inp out : List Int) : Nat → Tl
  | 0 => begT c inp out
  | m + 1 => (runT c inp out m).told (atl (flatP (proveI c inp (padTo (drawsN c) (runT c inp out m).ds))) m)
def fiatD (c : Ci) (inp out : List Int) : List Int := (runT c inp out (needFrom c c.layers.length)).ds
theorem runT_length (c : Ci) (inp out : List Int) : ∀ m, (runT c inp out m).ds.length = (belowLog c c.layers.length).toNat + m
  | 0 => begT_length c inp out
  | m + 1 => by
    rw [runT, told_ds, List.length_append, runT_length c inp out m, List.length_singleton]; omega
theorem runT_prefix (c : Ci) (inp out : List Int) (m : Nat) : ∀ n, m ≤ n → (runT c inp out n).ds.take ((belowLog c c.layers.length).toNat + m) = (runT c inp out m).ds
  | 0, h => by
    obtain rfl : m = 0 := by omega
    rw [List.take_of_length_le (by rw [runT_length]; omega)]
  | n + 1, h => by
    by_cases e : m = n + 1
    · subst e; rw [List.take_of_length_le (by rw [runT_length]; omega)]
    · have ih := runT_prefix c inp out m n (by omega)
      rw [runT, told_ds, List.take_append_of_le_length (by rw [runT_length]; omega), ih]
theorem fiatD_length (c : Ci) (inp out : List Int) : (fiatD c inp out).length = drawsN c := runT_length c inp out _
theorem run_told (c : Ci) (inp out : List Int) : ∀ m, m ≤ needFrom c c.layers.length → tellL ((flatP (proveI c inp (fiatD c inp out))).take m) (begT c inp out) = runT c inp out m
  | 0, _ => rfl
  | m + 1, hm => by
    have hs := shaped_prove c inp (fiatD c inp out) (fiatD_length c inp out)
    have hl := flatP_length hs
    have e : (flatP (proveI c inp (fiatD c inp out))).take (m + 1) = (flatP (proveI c inp (fiatD c inp out))).take m ++ [atl (flatP (proveI c inp (fiatD c inp out))) m] := by
      rw [List.take_add_one]
      congr 1
      unfold atl
      rw [List.getElem?_eq_getElem (by rw [hl]; omega)]
      rfl
    rw [e, tellL_snoc, run_told c inp out m (by omega)]
    show Tl.told _ _ = Tl.told _ _
    congr 1
    refine prove_hangs inp (by omega) (fiatD_length c inp out) (padTo_length _ _) ?_
    rw [show fiatD c inp out = (runT c inp out (needFrom c c.layers.length)).ds from rfl, runT_prefix c inp out m _ (by omega)]
    unfold padTo
    rw [List.take_append_of_le_length (by rw [List.length_take, runT_length]; unfold drawsN; omega)]
    rw [List.take_of_length_le (by rw [List.length_take, runT_length]; omega), List.take_of_length_le (by rw [runT_length]; unfold drawsN; omega)]
/-- the draws of a proof that was told draw by draw are its own -/
theorem drawn_prove (c : Ci) (inp out : List Int) : drawnI c inp out (proveI c inp (fiatD c inp out)) = fiatD c inp out := by
  have hs := shaped_prove c inp (fiatD c inp out) (fiatD_length c inp out)
  unfold drawnI endT
  have := run_told c inp out _ (Nat.le_refl _)
  rw [List.take_of_length_le (by rw [flatP_length hs]; exact Nat.le_refl _)] at this
  rw [this]; rfl
/-- the words of the first k layers; and of the first j gates of the next -/
def wordsTo (c : Ci) (k : Nat) : List Int := [c.log, (c.layers.length : Int)] ++ (c.layers.take k).flatMap layerW
def wordsAt (c : Ci) (k j : Nat) : List Int := wordsTo c k ++ ((aty c.layers k).log :: ((aty c.layers k).gates.take j).flatMap gateW)
theorem wordsTo_all (c : Ci) : wordsTo c c.layers.length = wordsI c := by unfold wordsTo wordsI; rw [List.take_of_length_le (Nat.le_refl _)]
theorem wordsAt_zero (c : Ci) (k : Nat) : wordsAt c k 0 = wordsTo c k ++ [(aty c.layers k).log] := rfl
theorem wordsAt_succ (c : Ci) (k : Nat) {j : Nat} (h : j < (aty c.layers k).gates.length) : wordsAt c k (j + 1) = wordsAt c k j ++ [if (atg (aty c.layers k).gates j).mul then 1 else 0, (atg (aty c.layers k).gates j).a, (atg (aty c.layers k).gates j).b] := by
  have e : ((aty c.layers k).gates.take (j + 1)).flatMap gateW = ((aty c.layers k).gates.take j).flatMap gateW ++ gateW (atg (aty c.layers k).gates j) := by
    rw [List.take_add_one, List.flatMap_append]
    congr 1
    simp [atg, List.getElem?_eq_getElem h]
  unfold wordsAt
  rw [e, List.append_assoc, List.cons_append]
  rfl
theorem wordsAt_all (c : Ci) {k : Nat} (h : k < c.layers.length) : wordsAt c k (aty c.layers k).gates.length = wordsTo c (k + 1) := by
  unfold wordsAt
  rw [List.take_of_length_le (Nat.le_refl _)]
  unfold wordsTo
  rw [List.append_assoc]
  congr 1
  rw [List.take_add_one, List.flatMap_append]
  congr 1
  simp [aty, List.getElem?_eq_getElem h, layerW]
theorem gatesW_length (l : List Gt) : (l.flatMap gateW).length = 3 * l.length := by
  induction l with
  | nil => rfl
  | cons a l ih => rw [List.flatMap_cons, List.length_append, ih, List.length_cons]; show 3 + _ = _; omega
theorem wordsAt_len {c : Ci} (k j : Nat) (hj : j ≤ (aty c.layers k).gates.length) : (wordsAt c k j).length = (wordsTo c k).length + (1 + 3 * j) := by
  unfold wordsAt
  rw [List.length_append, List.length_cons, gatesW_length, List.length_take, Nat.min_eq_left hj]; omega
theorem wordsTo_len {c : Ci} (h : Good c) : ∀ k, k ≤ c.layers.length → (wordsTo c k).length ≤ 2 + 49 * k
  | 0, _ => by show (2 : Nat) ≤ _; omega
  | k + 1, hk => by
    have ih := wordsTo_len h k (by omega)
    rw [← wordsAt_all c (by omega), wordsAt_len _ _ (Nat.le_refl _), h.len k (by omega)]
    have := (pow4 (h.l4 k (by omega))).2
    omega
theorem wordsI_len {c : Ci} (h : Good c) : (wordsI c).length ≤ 198 := by
  rw [← wordsTo_all]; have := wordsTo_len h _ (Nat.le_refl _); have := h.n4; omega
/-- what is told next -/
theorem runT_round (c : Ci) (inp out : List Int) {j i : Nat} (hj : j < c.layers.length) (hi : i < 2 * (belowLog c (c.layers.length - 1 - j)).toNat) :
    runT c inp out (offP c j + (i + 1)) = (runT c inp out (offP c j + i)).told (atl (atp (proveI c inp (padTo (drawsN c) (runT c inp out (offP c j + i)).ds)) j).rounds i) := by
  have hs := shaped_prove c inp (padTo (drawsN c) (runT c inp out (offP c j + i)).ds) (padTo_length _ _)
  rw [← flatP_round hs hj hi]; rfl
theorem runT_line (c : Ci) (inp out : List Int) {j : Nat} (hj : j < c.layers.length) :
    runT c inp out (offP c (j + 1)) = (runT c inp out (offP c j + 2 * (belowLog c (c.layers.length - 1 - j)).toNat)).told (atp (proveI c inp (padTo (drawsN c) (runT c inp out (offP c j + 2 * (belowLog c (c.layers.length - 1 - j)).toNat)).ds)) j).line := by
  have hs := shaped_prove c inp (padTo (drawsN c) (runT c inp out (offP c j + 2 * (belowLog c (c.layers.length - 1 - j)).toNat)).ds) (padTo_length _ _)
  rw [← flatP_line hs hj]; rfl
theorem offP_le (c : Ci) {j : Nat} (hj : j < c.layers.length) : offP c j + (2 * (belowLog c (c.layers.length - 1 - j)).toNat + 1) ≤ needFrom c c.layers.length := by
  have := offP_need c (j + 1) (by omega)
  have e : offP c (j + 1) = offP c j + (2 * (belowLog c (c.layers.length - 1 - j)).toNat + 1) := rfl
  omega
theorem padTo_self {n : Nat} {l : List Int} (h : l.length = n) : padTo n l = l := by
  unfold padTo; subst h; rw [List.take_of_length_le (Nat.le_refl _)]; simp
/-- the sponge behind the first k lists -/
def begS (c : Ci) (inp out : List Int) : Nat → St
  | 0 => newS 1
  | 1 => takeL (wordsI c) (newS 1)
  | 2 => takeL inp (takeL (wordsI c) (newS 1))
  | _ => takeL out (takeL inp (takeL (wordsI c) (newS 1)))
theorem startT_eq (c : Ci) (inp out : List Int) : startT c inp out = ⟨begS c inp out 3, []⟩ := rfl
end Go.Proofs.YtlfneeobnihocaaGreatDoor
