/- The walks of sum.Prove, of the reference's Rounds, and of the laws' same. The table of bits lies as its initialiser lays it. -/
import Derived.Test.YtcihkechphldcaaDoorSumSaysWalk
import Derived.Test.YtcihkechphldcaaDoorRTree
namespace Go.Proofs.YtcihkechphldcaaDoor
set_option maxRecDepth 100000
set_option linter.unusedVariables false
open Go.RowKit Tally
/-- append of one list; what lies in other blocks stays -/
theorem wpList_appUUk {ops : Array Oper} {rest : List Oper} {o : Oper} {a : Act} {Q : Exit → Act → World → Prop} {w0 : World} (hgd : o.guard = none) (s x : Operand)
    (ho : o.op = .call { callee := .builtin .append, args := #[s, x], argTypes := #[36, 36] })
    (B : Nat) (v : Value) (ll : List (List Int)) (hs : a.eval s = v) (hown : NewUU B w0 v ll) (u : Value) (l : List Int) (hu : NewU B w0 u l) (hne : ∀ g, v.ownBlock = some g → u.ownBlock ≠ some g)
    (hx : a.eval x = .slice (some ⟨w0.heap.size, 0, none⟩) 1 1) (hlen : ll.length + 1 ≤ 5864062014634) (hB : B ≤ w0.heap.size)
    (h : ∀ v' w', NewUU B w' v' (ll ++ [l]) → NewU B w' u l → Below B w0 w' → w0.grownBy w' v.ownBlock → wpList Tryd.prog ops Q rest (a.put o.dst v') w') : wpList Tryd.prog ops Q (o :: rest) a (w0.alloc (.cells #[u] 22)) := by
  obtain ⟨i0, hi1, hz0, hz1, hz2⟩ := info_parts Tryd.infoUU
  obtain ⟨h1, us, h2, h3, h4⟩ := hown
  have hlt := h3.lt
  have h1c : u.oneCell' = true := by
    obtain ⟨_, _, ho⟩ := hu
    rcases ho.2 with ⟨rfl, _⟩ | ⟨g, cap, cur, rfl, _⟩ <;> rfl
  refine wpList_append_own_at _ hgd s x _ ho B 22 i0 (.slice none 0 0) 1 24 Tryd.underlying36 hi1 hz0 hz1 hz2 rfl (by decide) v ll.length us hs (h3.alloc _) ⟨w0.heap.size, 0, none⟩ 1 1 [u] hx (by simp) ?_ (by simpa using h1c) (by unfold maxLen; omega) (by omega) (by simp; omega) ?_
  · intro j y hj
    have hj0 : j = 0 := by
      rcases Nat.eq_zero_or_pos j with h | h
      · exact h
      · rw [List.getElem?_eq_none (by simp; omega)] at hj; cases hj
    subst hj0
    have e1 : ((⟨w0.heap.size, 0, none⟩ : Addr).add 0) = ⟨w0.heap.size, 0, none⟩ := by rw [Addr.add_lit]
    rw [e1, World.cell?_alloc_at _ _ _ _ rfl]
    simpa using hj
  · intro v' w' h5 h6 _ h8
    have hal : Below w0.heap.size w0 (w0.alloc (.cells #[u] 22)) := (Below.refl _ _).alloc (Nat.le_refl _) _
    have hbl : Below B w0 w' := ((Below.refl B w0).alloc hB _).grown h6 (by simp; omega) fun k hk => (hlt k hk).1
    have hu' : NewU B w' u l := (hu.below hal (Nat.le_refl _)).grownOther h6 (fun g hg hr => hne g hr hg)
    refine h v' w' ⟨by simp; omega, us ++ [u], by simp [h2], by simpa using h5, fun j hj => ?_⟩ hu' hbl (grownBy_trans (World.grownBy_alloc _ _ _) h6)
    have hsz : (w0.alloc (.cells #[u] 22)).heap.size = w0.heap.size + 1 := by simp
    have apart : ∀ y : Value, (∀ g, v.ownBlock = some g → y.ownBlock ≠ some g) → (∀ g, y.ownBlock = some g → g < w0.heap.size) → ∀ g, v'.ownBlock = some g → y.ownBlock ≠ some g := by
      intro y hy1 hy2 g hg hyg
      rcases h8 with h8 | h8
      · rw [h8] at hg; exact hy1 g hg hyg
      · rw [h8, hsz] at hg
        have := hy2 g hyg
        cases hg; omega
    by_cases hj2 : j < ll.length
    · obtain ⟨y, e, hy, hyn⟩ := h4 j hj2
      refine ⟨y, by rw [List.getElem?_append_left (by omega)]; exact e, ?_, apart y hyn (fun g hg => (hy.lt hg).2)⟩
      rw [atl_append_left _ _ _ hj2]
      exact (hy.below hal (Nat.le_refl _)).grownOther h6 (fun g hg hr => hyn g hr hg)
    · obtain rfl : j = ll.length := by simp at hj; omega
      refine ⟨u, by rw [← h2]; simp, ?_, apart u hne (fun g hg => (hu.lt hg).2)⟩
      rw [atl_append_last]; exact hu'
/-- all tables with the first variables at some numbers -/
def fixesAll (ll : List (List Int)) (ds : List Int) : List (List Int) := ds.foldl (fun l x => fixAll l (phi x)) ll
theorem fixesAll_snoc (ll : List (List Int)) (ds : List Int) (k : Nat) (h : k < ds.length) : fixesAll ll (ds.take (k + 1)) = fixAll (fixesAll ll (ds.take k)) (phi (at0 ds k)) := by
  unfold fixesAll; rw [take_snoc' ds k h, List.foldl_append]; rfl
theorem fixesAll_length (ll : List (List Int)) (ds : List Int) : (fixesAll ll ds).length = ll.length := by
  unfold fixesAll
  induction ds generalizing ll with
  | nil => rfl
  | cons x ds ih => rw [List.foldl_cons, ih, fixAll_length]
theorem fixesAll_facts {ll : List (List Int)} {n : Nat} (ds : List Int) (h : Facts ll n) (hd : ds.length = n) (k : Nat) (hk : k ≤ n) : Facts (fixesAll ll (ds.take k)) (n - k) := by
  induction k with
  | zero => simpa [fixesAll] using h
  | succ k ih =>
    rw [fixesAll_snoc ll ds k (by omega)]
    exact fixAll_facts _ (by have := ih (by omega); rwa [show n - k = n - (k + 1) + 1 by omega] at this)
theorem tabs_fixAll (ll : List (List Int)) (x : F) : tabs (fixAll ll x) = (tabs ll).map (fixF · x) := by
  unfold tabs fixAll
  rw [List.map_map, List.map_map]
  exact List.map_congr_left fun t _ => mapphi_psi _
theorem tabs_fixesAll (ll : List (List Int)) (ds : List Int) : tabs (fixesAll ll ds) = fixed ll ds := by
  unfold fixed
  induction ds generalizing ll with
  | nil => rfl
  | cons x ds ih =>
    show tabs (fixesAll (fixAll ll (phi x)) ds) = _
    rw [ih]
    unfold fixAll
    rw [List.map_map]
    refine List.map_congr_left fun t _ => ?_
    simp only [Function.comp, mapphi_psi]; rfl
/-- all rounds -/
def provesI (ll : List (List Int)) (ds : List Int) (n : Nat) : List (List Int) := (List.range n).map fun k => roundI (fixesAll ll (ds.take k)) (n - k - 1)
theorem provesI_length (ll : List (List Int)) (ds : List Int) (n : Nat) : (provesI ll ds n).length = n := by simp [provesI]
theorem provesI_take (ll : List (List Int)) (ds : List Int) (n k : Nat) (h : k < n) : (provesI ll ds n).take (k + 1) = (provesI ll ds n).take k ++ [roundI (fixesAll ll (ds.take k)) (n - k - 1)] := by
  rw [take_snoc _ k [] (by rw [provesI_length]; exact h)]
  congr 2
  simp [provesI, h]
/-- what is left -/
def leftI (ll : List (List Int)) : List Int := ll.map fun t => psi (phi (at0 t 0))
theorem leftI_take (ll : List (List Int)) (j : Nat) (h : j < ll.length) : (leftI ll).take (j + 1) = (leftI ll).take j ++ [psi (phi (at0 (atl ll j) 0))] := by
  rw [take_snoc _ j 0 (by simpa [leftI] using h)]
  congr 2
  simp [leftI, atl, h]
theorem RowUU.apart {w wr : World} {v : Value} {ll : List (List Int)} (h : RowUU w v ll) (hb : Below w.heap.size w wr) {r : Option Nat} (hr : ∀ g, r = some g → w.heap.size ≤ g) : ∀ w', wr.grownBy w' r → RowUU w' v ll :=
  fun w' hg => h.below (hb.grown hg hb.size hr) (Nat.le_refl _)
theorem NewUU.grownOther {B : Nat} {w w' : World} {v : Value} {ll : List (List Int)} {r : Option Nat} (h : NewUU B w v ll) (hg : w.grownBy w' r) (hr : ∀ g, r = some g → g < B) : NewUU B w' v ll := by
  obtain ⟨h1, us, h2, h3, h4⟩ := h
  refine ⟨h1, us, h2, ownsRow_grown h3 hg (fun g hv e => by have := hr g e; have := (h3.lt g hv).1; omega), fun j hj => ?_⟩
  obtain ⟨u, e, hu, hn⟩ := h4 j hj
  exact ⟨u, e, hu.grownOther hg (fun g hv e => by have := hr g e; have := (hu.lt hv).1; omega), hn⟩
set_option maxHeartbeats 2000000 in
theorem sum_Prove (ll : List (List Int)) (ds : List Int) (n : Nat) (v v2 : Value) (w : World) (hT : Tab w) (hp : RowUU w v ll) (hp2 : RowU w v2 ds) (hf : Facts ll n) (hd : ds.length = n) :
    Calls Tryd.prog 15 #[v, v2] w fun e w' => ∃ v' u', e = .returned (.tuple #[v', u', .int .i64 0]) ∧ NewUU w.heap.size w' v' (provesI ll ds n) ∧ NewU w.heap.size w' u' (leftI (fixesAll ll ds)) ∧ Below w.heap.size w w' := by
  have HT := Lib.hid hT
  have Hp := Lib.hid hp
  have Hf := Lib.hid hf
  have Hd := Lib.hid hd
  have hn8 := hf.1
  have hat := Lib.hid (fun j => @RowU.at _ _ _ hp2 j)
  obtain ⟨_, h22, ad2, cap2, rfl, hr2⟩ := hp2
  have Hr2 := Lib.hid hr2
  have hq : ((ds.length : Int) != (n : Int)) = false := by rw [hd]; simp
  clear hT hp hf hd hr2
  go_enter Tryd.func15, Tryd.ntmps15
  go_wp2_with (fail)
  refine (sum_Check ll n _ _ HT.out Hp.out Hf.out).mono ?_
  rintro e w' ⟨rfl, rfl⟩
  go_wp2
  go_loopw [0, 9, 31] (fun lv o i wr => ∃ (k : Nat), k ≤ ds.length ∧ i = .int .i64 (k : Int) ∧ Hid (∀ w', wr.grownBy w' o.ownBlock → RowUU w' lv (fixesAll ll (ds.take k))) ∧ Hid (NewUU w.heap.size wr o ((provesI ll ds n).take k)) ∧ Hid (Below w.heap.size w wr)) (fun _ _ i _ => ds.length - (intOf i).toNat)
  case atStart => exact ⟨0, by omega, rfl, Hp.out.apart (Below.refl _ _) (fun g e => by cases e), NewUU.nil _ _, Below.refl _ _⟩
  case round =>
    obtain ⟨k, hk, rfl, HL, HO, HB⟩ := hrel
    have Hrow := Lib.hid (HL.out _ (World.grownBy.refl _ _))
    by_cases hz : k < ds.length
    · obtain ⟨b, off, rfl, hblt, hcell⟩ := Hr2.out (by omega)
      have hc := (HB.out.cell (p := ⟨b, off + k, none⟩) hblt).trans (hcell k hz)
      have hu := hat.out k hz
      have hkn : k < n := by have := Hd.out; omega
      have HF := Lib.hid (show Facts (fixesAll ll (ds.take k)) (n - k - 1 + 1) by have := fixesAll_facts ds Hf.out Hd.out k (by omega); rwa [show n - k - 1 + 1 = n - k by omega])
      have Hs := Lib.hid (provesI_take ll ds n k hkn)
      have Hfs := Lib.hid (fixesAll_snoc ll ds k hz)
      clear hcell hkn
      go_wp2_with (fail)
      refine (sum_round (fixesAll ll (ds.take k)) (n - k - 1) _ _ (HT.out.below HB.out) Hrow.out HF.out).mono ?_
      rintro e w1 ⟨v1, rfl, hn1, hb1⟩
      obtain ⟨a1, c1, e1⟩ := hn1.isSlice
      subst e1
      obtain ⟨ao, co, eo⟩ := HO.out.isSlice
      subst eo
      have HL1 := Lib.hid (show ∀ w', w1.grownBy w' (Value.slice ao ((provesI ll ds n).take k).length co).ownBlock → RowUU w' _ (fixesAll ll (ds.take k)) from fun w' hg => HL.out w' (grownBy_trans (grownBy_of_below hb1) hg))
      have Hn1 := Lib.hid (hn1.mono HB.out.size)
      have hlo := Lib.hid (show ∀ g, (Value.slice ao ((provesI ll ds n).take k).length co).ownBlock = some g → (Value.slice a1 (roundI (fixesAll ll (ds.take k)) (n - k - 1)).length c1).ownBlock ≠ some g from fun g h1 h2 => by
        have a2 := (HO.out.lt h1).2
        have a3 := (hn1.lt h2).1
        omega)
      have HO1 := Lib.hid (HO.out.below hb1 (Nat.le_refl _))
      have HB1 := Lib.hid (HB.out.trans (hb1.mono HB.out.size))
      have hsz := HB1.out.size
      have hcap : ((provesI ll ds n).take k).length + 1 ≤ 5864062014634 := by simp [provesI_length]; omega
      clear hn1 hb1
      generalize roundI (fixesAll ll (ds.take k)) (n - k - 1) = A at *
      generalize (provesI ll ds n).take k = TK at *
      go_wp2_with (at_builtin; refine wpList_appUUk rfl _ _ rfl w.heap.size (.slice ao TK.length co) _ rfl HO1.out _ _ Hn1.out hlo.out rfl hcap hsz ?_; intro v5 w5 hn5 hu5 hb5 hg5; have Hn5 := Lib.hid hn5; have Hg5 := Lib.hid hg5; clear hn5 hu5 hg5)
      have Hrow5 := Lib.hid (HL1.out _ Hg5.out)
      have HB5 := Lib.hid (HB1.out.trans hb5)
      clear hb5
      go_wp2_with (fail)
      refine (sum_fix (fixesAll ll (ds.take k)) (n - k - 1) _ (at0 ds k) _ (HT.out.below HB5.out) Hrow5.out hu HF.out).mono ?_
      rintro e w6 ⟨v6, rfl, hn6, hb6⟩
      have HO6 := Lib.hid (Hn5.out.below hb6 (Nat.le_refl _))
      have HB6 := Lib.hid (HB5.out.trans (hb6.mono HB5.out.size))
      have HL6 := Lib.hid (show ∀ w', w6.grownBy w' v5.ownBlock → RowUU w' v6 (fixesAll ll (ds.take (k + 1))) from fun w' hg => by
        rw [Hfs.out]
        exact (hn6.grownOther hg (fun g e => (Hn5.out.lt e).2)).rows)
      clear hn6 hb6
      go_wp2
      go_roundw
      case rel => exact ⟨k + 1, by omega, by go_num, HL6.out, by rw [Hs.out]; exact HO6.out, HB6.out⟩
      case measure => simp [intOf]; omega
    · obtain rfl : k = ds.length := by omega
      have HFn := Lib.hid (fixesAll_facts ds Hf.out Hd.out ds.length (by have := Hd.out; omega))
      rw [List.take_of_length_le (by rw [provesI_length]; exact Nat.le_of_eq Hd.out.symm)] at HO
      rw [List.take_of_length_le (Nat.le_refl _)] at Hrow HFn
      rw [Hd.out, Nat.sub_self] at HFn
      obtain ⟨hl2, al, cl, el, hrl⟩ := Hrow.out
      subst el
      have Hrl := Lib.hid hrl
      clear hrl
      generalize hFA : fixesAll ll ds = FA at *
      have HFA := Lib.hid hFA
      clear hFA
      obtain ⟨w1, rfl⟩ : ∃ x : World, x = wr := ⟨_, rfl⟩
      go_wp2
      go_loopw [12, 46] (fun o i wr => ∃ (j : Nat), j ≤ FA.length ∧ i = .int .i64 (j : Int) ∧ Hid (NewU w1.heap.size wr o ((leftI FA).take j)) ∧ Hid (Below w1.heap.size w1 wr)) (fun _ i _ => FA.length - (intOf i).toNat)
      case atStart => exact ⟨0, by omega, rfl, NewU.nil _ _, Below.refl _ _⟩
      case round =>
        obtain ⟨j, hj, rfl, HO2, HB2⟩ := hrel
        by_cases hzj : j < FA.length
        · obtain ⟨bl, off, rfl, hblt, hcell⟩ := Hrl.out (by omega)
          obtain ⟨u, hu, hru⟩ := hcell j hzj
          have hcw := (HB2.out.cell (p := ⟨bl, off + j, none⟩) hblt).trans hu
          have hlen := HFn.out.2.2.2 j hzj
          rw [Nat.pow_zero] at hlen
          have hu0 : U64 (at0 (atl FA j) 0) := hru.1 _ (at0_mem (by omega))
          obtain ⟨_, _, aj, cj, rfl, hrj⟩ := hru
          rw [hlen] at hcw hrj
          obtain ⟨b2, off2, rfl, hblt2, hc2⟩ := hrj (by decide)
          have hc0 := (HB2.out.cell (p := ⟨b2, off2, none⟩) hblt2).trans (by simpa using hc2 0 (by decide))
          have Hs := Lib.hid (leftI_take FA j hzj)
          have hcap : ((leftI FA).take j).length + 1 ≤ 17592186043904 := by have := HFn.out.2.2.1; simp; omega
          have hsz := HB2.out.size
          clear hcell hu hlen hc2 hrj
          go_wp2_with (first
            | (go_at_call 42; (with_reducible refine (field_Norm _ _ (by first | assumption | exact U64.psi _ | exact U64.zero | exact U64.one | exact U64.mk (by decide) (by decide))).mono ?_); rintro e w' ⟨rfl, rfl⟩)
            | (at_builtin; refine wpList_appU rfl _ _ rfl w1.heap.size _ _ rfl HO2.out _ rfl (U64.psi _) hcap hsz ?_; intro v4 w4 hn4 hb4; have Hn4 := Lib.hid hn4; clear hn4))
          go_roundw
          case rel => exact ⟨j + 1, by omega, by go_num, by rw [Hs.out]; exact Hn4.out, HB2.out.trans hb4⟩
          case measure => simp [intOf]; omega
        · obtain rfl : j = FA.length := by omega
          rw [List.take_of_length_le (by simp [leftI])] at HO2
          have HO3 := Lib.hid (HO.out.below HB2.out (Nat.le_refl _))
          have HO4 := Lib.hid (HO2.out.mono HB.out.size)
          have HB4 := Lib.hid (HB.out.trans (HB2.out.mono HB.out.size))
          go_wp2
          go_ret3
          exact ⟨_, _, rfl, HO3.out, by rw [HFA.out]; exact HO4.out, HB4.out⟩
end Go.Proofs.YtcihkechphldcaaDoor
