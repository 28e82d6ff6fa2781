/- The walk of the law TreeBinds: it returns true, whatever is handed in. The table of bits lies as its initialiser lays it. -/
import Derived.Test.YtaaaoljllpbplaaDoorBindM
import Derived.Test.YtaaaoljllpbplaaDoorTreeK
import Derived.Test.YtaaaoljllpbplaaDoorRTree
import Derived.Test.YtaaaoljllpbplaaDoorCap
import Derived.Deep.DeepCutAuto
import Derived.Test.YtaaaoljllpbplaaDoorGrown
import Derived.StillTailTactics
import Derived.Laws.StructEq
import Derived.Laws.Cover2
import Derived.Laws.Tables
namespace Go.Proofs.YtaaaoljllpbplaaDoor
set_option maxRecDepth 100000
set_option linter.unusedVariables false
open Go.RowKit Tally
open Go.Sort (grow)
theorem RowU.cut {w : World} {a : Option Addr} {n c : Nat} {l : List Int} (h : RowU w (.slice a n c) l) (m : Nat) (hm : m ≤ l.length) : RowU w (.slice a m c) (l.take m) := by
  obtain ⟨h1, h2, ad, cap, e, h3⟩ := h
  cases e
  have hl : (l.take m).length = m := by simp; omega
  refine ⟨fun x hx => h1 x (List.mem_of_mem_take hx), by rw [hl]; omega, a, c, by rw [hl], fun h0 => ?_⟩
  rw [hl] at h0
  obtain ⟨b, off, rfl, hlt, hc⟩ := h3 (by omega)
  refine ⟨b, off, rfl, hlt, fun j hj => ?_⟩
  rw [hl] at hj
  have := hc j (by omega)
  rw [this]
  simp [at0, hj]
theorem min2_run (a b : Int) (w : World) : Sem.run Tryd.prog (Builtin.min2 (.int .i64 a) (.int .i64 b)) w = .ok (.int .i64 (if b < a then b else a)) w := by
  by_cases h : b < a <;> simp [Builtin.min2, go_sem, h]
theorem min3_run (a b c m : Int) (t : TypeId) (ts : Array TypeId) (w : World) (h : m = min (min a b) c) : Sem.run Tryd.prog (Builtin.min_ ts t #[.int .i64 a, .int .i64 b, .int .i64 c]) w = .ok (.int .i64 m) w := by
  subst h
  by_cases h1 : b < a <;> by_cases h2 : c < a <;> by_cases h3 : c < b <;> simp [Builtin.min_, Builtin.min2, go_sem, h1, h2, h3] <;> omega
theorem psi_ne' {a b : F} (h : ¬ a = b) : (psi a != psi b) = true := by rw [bne_iff_ne]; exact fun e => h (psi_inj e)
/-- a pair of numbers in a block of its own -/
def PairAt (w : World) (g : Nat) (P : F × F) : Prop := w.heap[g]? = some (.cells #[.int .u64 (psi P.1), .int .u64 (psi P.2)] 49 (0, 0))
theorem PairAt.c0 {w : World} {g : Nat} {P : F × F} (h : PairAt w g P) : w.cell? ⟨g, 0, none⟩ = some (.int .u64 (psi P.1)) := cell_blk h 0
theorem PairAt.c1 {w : World} {g : Nat} {P : F × F} (h : PairAt w g P) : w.cell? ⟨g, 1, none⟩ = some (.int .u64 (psi P.2)) := cell_blk h 1
theorem PairAt.free {w : World} {g : Nat} {P : F × F} (h : PairAt w g P) (j : Nat) : w.frozen? ⟨g, j, none⟩ = false := free_blk h j
theorem PairAt.lt {w : World} {g : Nat} {P : F × F} (h : PairAt w g P) : g < w.heap.size := blk_lt h
theorem PairAt.go {w w' : World} {g : Nat} {P : F × F} (h : PairAt w g P) (hb : Below w.heap.size w w') : PairAt w' g P := by
  unfold PairAt; rw [hb.block g h.lt]; exact h
theorem PairAt.drewN {w : World} {g : Nat} {P : F × F} (h : PairAt w g P) (n : Nat) : PairAt (w.drewN n) g P := h
theorem PairAt.set {w : World} {g : Nat} {P : F × F} (h : PairAt w g P) (a b : F) : PairAt ((w.setCell ⟨g, 0, none⟩ (.int .u64 (psi a))).setCell ⟨g, 1, none⟩ (.int .u64 (psi b))) g (a, b) :=
  blk_setCell (blk_setCell h 0 (.int .u64 (psi a))) 1 (.int .u64 (psi b))
theorem PairAt.set' {w : World} {g : Nat} {P : F × F} (h : PairAt w g P) (a b : F) {x y : Int} (hx : psi a = x) (hy : psi b = y) : PairAt ((w.setCell ⟨g, 0, none⟩ (.int .u64 x)).setCell ⟨g, 1, none⟩ (.int .u64 y)) g (a, b) := by
  subst hx hy; exact h.set a b
theorem PairAt.other {w : World} {g g' : Nat} {P : F × F} (h : PairAt w g P) (hne : g ≠ g') (j : Nat) (u : Value) : PairAt (w.setCell ⟨g', j, none⟩ u) g P := by
  unfold PairAt; rw [Below.heap_setCell _ _ _ _ (fun e => hne (by rw [e]))]; exact h
theorem PairAt.new (w : World) (a b : F) (n : Nat) (hn : w.heap.size = n) : PairAt (w.alloc (.cells #[.int .u64 (psi a), .int .u64 (psi b)] 49)) n (a, b) := by subst hn; exact alloc_blk w _
theorem eqArr (a b c d : Int) (w : World) : (Op.equalIn 10000 49 (.agg #[.int .u64 a, .int .u64 b]) (.agg #[.int .u64 c, .int .u64 d])).run Tryd.prog w = .ok (a == c && b == d) w := by
  have u3 := Tryd.underlying23
  have a3 := Tryd.isAgg23
  have z3 := Tryd.sizeOf23
  rw [show (10000 : Nat) = 9999 + 1 from rfl, Op.equalIn]
  simp only [Sem.run_bind, run_underlying Tryd.underlying49, Result.andThen_ok]
  simp only [Std.Legacy.Range.forIn_eq_forIn_range', Std.Legacy.Range.size, Nat.sub_zero, Nat.add_sub_cancel, Nat.div_one, List.range'_succ, List.range'_zero, List.forIn_cons, List.forIn_nil]
  go_simp
  by_cases h1 : a = c <;> by_cases h2 : b = d <;> simp [h1, h2, go_sem]
theorem keep_set2 {w : World} {g b o : Nat} (u v : Value) {x : Option Value} (hb : b < g) (h : w.cell? ⟨b, o, none⟩ = x) : ((w.setCell ⟨g, 0, none⟩ u).setCell ⟨g, 1, none⟩ v).cell? ⟨b, o, none⟩ = x := by
  rw [(((Below.refl (b + 1) w).setCell (p := ⟨g, 0, none⟩) hb u).setCell (p := ⟨g, 1, none⟩) hb v).cell (p := ⟨b, o, none⟩) (Nat.lt_succ_self b)]; exact h
theorem keep_set2d {w : World} {g b o : Nat} (u v : Value) {x : Option Value} (hb : b < g) (h : w.cell? ⟨b, o, none⟩ = x) : ((w.setCell ⟨g, 0, none⟩ u).setCell ⟨g, 1, none⟩ v).drew.cell? ⟨b, o, none⟩ = x := keep_set2 u v hb h
theorem keep_drew {w : World} {a : Addr} {x : Option Value} (h : w.cell? a = x) : w.drew.cell? a = x := h
theorem natmin (a b : Nat) : ((min a b : Nat) : Int) = min (a : Int) (b : Int) := by
  rcases Nat.le_total a b with h | h
  · rw [Nat.min_eq_left h, Int.min_eq_left (by omega)]
  · rw [Nat.min_eq_right h, Int.min_eq_right (by omega)]
theorem min_cast (a b : Nat) : ((min (min a b) 8 : Nat) : Int) = min (min (a : Int) (b : Int)) 8 := by rw [natmin, natmin]; rfl
theorem pair_ne {a b c d : F} (h : (a, b) ≠ (c, d)) : ((psi a != psi c) || (psi b != psi d)) = true := by
  by_cases h1 : a = c
  · have h2 : b ≠ d := fun e => h (by rw [h1, e])
    rw [psi_ne' h2, Bool.or_true]
  · rw [psi_ne' h1]; rfl
set_option maxRecDepth 100000 in
set_option maxHeartbeats 4000000 in
theorem treeBinds_walk (w : World) (hT : Tab w) (i : Int) (hi : I64 i) (x : Int) (hx : U64 x) (y : Int) (hy : U64 y) (v : Value) (p : List Int) (hp : RowU w v p) (hcap : CapOk v) (v2 : Value) (q : List Int) (hp2 : RowU w v2 q) (hcap2 : CapOk v2) :
    Calls Tryd.prog 6 #[.int .i64 i, .int .u64 x, .int .u64 y, v, v2] w fun e w' => e = .returned (.bool true) ∧ Below w.heap.size w w' := by
  have HT := Lib.hid hT
  have Hi := Lib.hid hi
  have Hp := Lib.hid hp
  have Hp2 := Lib.hid hp2
  obtain ⟨_, hpl, a1, c1, rfl, _⟩ := hp
  obtain ⟨_, hql, a2, c2, rfl, _⟩ := hp2
  have Hc1 := Lib.hid (hcap _ _ _ rfl)
  have Hc2 := Lib.hid (hcap2 _ _ _ rfl)
  clear hT hi hcap hcap2
  go_enter Tryd.func6, Tryd.ntmps6
  go_wp2_with (fail)
  refine (keep_grown _ HT.out).mono ?_
  rintro e w1 ⟨rfl, hb1⟩
  have B1 := Lib.hid hb1
  clear hb1
  obtain ⟨m, hm⟩ : ∃ m, m = min (min p.length q.length) 8 := ⟨_, rfl⟩
  have Hm3 := Lib.hid (show (m : Int) = min (min (p.length : Int) (q.length : Int)) 8 by rw [hm, min_cast])
  have hm8 : m ≤ 8 := by omega
  have hmp : m ≤ p.length := by omega
  have hmq : m ≤ q.length := by omega
  have hmin : (if (8 : Int) < (if (q.length : Int) < (p.length : Int) then (q.length : Int) else (p.length : Int)) then (8 : Int) else (if (q.length : Int) < (p.length : Int) then (q.length : Int) else (p.length : Int))) = (m : Int) := by
    split <;> split <;> omega
  clear hm
  have Hmin := Lib.hid hmin
  clear hmin
  go_upto_region 3 with fail
  go_cut [11] (fun o wr => o = .int .i64 (m : Int) ∧ w1 = wr)
  case first =>
    by_cases h1 : (q.length : Int) < (p.length : Int)
    · by_cases h2 : (8 : Int) < (q.length : Int)
      all_goals
        go_wp2
        first | rw [Hmin.out] | rw [min3_run _ _ _ (m : Int) _ _ _ Hm3.out]
        go_wp2
        go_meet
        case rel => exact ⟨rfl, rfl⟩
    · by_cases h2 : (8 : Int) < (p.length : Int)
      all_goals
        go_wp2
        first | rw [Hmin.out] | rw [min3_run _ _ _ (m : Int) _ _ _ Hm3.out]
        go_wp2
        go_meet
        case rel => exact ⟨rfl, rfl⟩
  case rest =>
    obtain ⟨rfl, rfl⟩ := hcut
    have hmc1 : (m : Int) ≤ (c1 : Int) := by have := Hc1.out; omega
    have hmc2 : (m : Int) ≤ (c2 : Int) := by have := Hc2.out; omega
    have hm0 : (0 : Int) ≤ (m : Int) := by omega
    have HP := Lib.hid ((Hp.out.go B1.out).cut m hmp)
    have HQ := Lib.hid ((Hp2.out.go B1.out).cut m hmq)
    have HPl := Lib.hid (show (p.take m).length = m by simp; omega)
    have HQl := Lib.hid (show (q.take m).length = m by simp; omega)
    generalize p.take m = P at *
    generalize q.take m = Q at *
    obtain ⟨M, hM⟩ : ∃ M : Nat, M = 2 ^ m := ⟨_, rfl⟩
    have hM1 : 1 ≤ M ∧ M ≤ 256 := by rw [hM]; exact pow_le8 hm8
    have hw : wrap64 (2 ^ m) = (M : Int) := by rw [hM]; exact pow_wrap8 hm8
    have HM := Lib.hid hM
    clear hM
    go_wp2_with (fail)
    go_quiet (fail)
    have hbq : Below w1.heap.size w1 (w1.drewN nq) := below_drewN (Below.refl _ _) nq
    generalize w1.drewN nq = w2 at *
    have H2 := Lib.hid (below_two B1.out hbq)
    have HP2 := Lib.hid (HP.out.go hbq)
    have HQ2 := Lib.hid (HQ.out.go hbq)
    clear hbq hmc1 hmc2
    go_wp2_with (fail)
    have hr0 : 0 ≤ i % (M : Int) := Int.emod_nonneg _ (by omega)
    have hr1 : i % (M : Int) < (M : Int) := Int.emod_lt_of_pos _ (by omega)
    refine (ref_Rest i (M : Int) _ Hi.out (by omega) (by omega)).mono ?_
    rintro e w' ⟨rfl, rfl⟩
    obtain ⟨at', hat⟩ : ∃ q : Nat, i % (M : Int) = (q : Int) := ⟨(i % (M : Int)).toNat, by omega⟩
    rw [hat] at hr1 hr0 ⊢
    have haM : at' < M := by omega
    clear hat hr0 hr1 hw
    go_wp2_with (fail)
    refine (tree_Climb at' x P _ _ hx HP2.out (by rw [HPl.out]; exact hm8) (by rw [HPl.out, ← HM.out]; exact haM)).mono ?_
    rintro e w3 ⟨rfl, hb3⟩
    have H3 := Lib.hid (below_two H2.out hb3)
    have HP3 := Lib.hid (HP2.out.go hb3)
    have HQ3 := Lib.hid (HQ2.out.go hb3)
    clear hb3
    go_wp2_with (fail)
    refine (tree_Climb at' y Q _ _ hy HQ3.out (by rw [HQl.out]; exact hm8) (by rw [HQl.out, ← HM.out]; exact haM)).mono ?_
    rintro e w4 ⟨rfl, hb4⟩
    have H4 := Lib.hid (below_two H3.out hb4)
    have HP4 := Lib.hid (HP3.out.go hb4)
    have HQ4 := Lib.hid (HQ3.out.go hb4)
    clear hb4
    by_cases hne : climbF x P at' = climbF y Q at'
    · have Hne := Lib.hid hne
      have heb : (psi (climbF x P at') != psi (climbF y Q at')) = false := by rw [hne]; simp
      clear hne
      by_cases hab : phi x = phi y
      · have hab2 : (psi (phi x) == psi (phi y)) = true := by rw [hab]; simp
        clear hab
        go_wp2_with (first | (go_at_call 23; (with_reducible refine (field_Norm _ _ (by first | assumption | exact U64.psi _ | exact U64.zero | exact U64.one | exact U64.mk (by decide) (by decide))).mono ?_); rintro e w' ⟨rfl, rfl⟩))
        go_ret
        exact ⟨rfl, H4.out⟩
      · have hab2 : (psi (phi x) == psi (phi y)) = false := by rw [beq_eq_false_iff_ne]; exact fun e => hab (psi_inj e)
        have Hab := Lib.hid hab
        clear hab
        go_wp2_with (first | (go_at_call 23; (with_reducible refine (field_Norm _ _ (by first | assumption | exact U64.psi _ | exact U64.zero | exact U64.one | exact U64.mk (by decide) (by decide))).mono ?_); rintro e w' ⟨rfl, rfl⟩))
        obtain ⟨X, hX⟩ : ∃ X, X = (w4.alloc (.cells #[.int .u64 (psi (phi x)), .int .u64 0] 49)).alloc (.cells #[.int .u64 (psi (phi y)), .int .u64 0] 49) := ⟨_, rfl⟩
        have hbX : Below w4.heap.size w4 X := by rw [hX]; exact ((Below.refl _ _).alloc (Nat.le_refl _) _).alloc (by simp) _
        have hpa : PairAt X w4.heap.size (phi x, 0) := by
          rw [hX]; have h1 := PairAt.new w4 (phi x) 0 w4.heap.size rfl
          rw [psi_zero] at h1
          exact h1.go ((Below.refl _ _).alloc (Nat.le_refl _) _)
        have hpb : PairAt X (w4.heap.size + 1) (phi y, 0) := by
          rw [hX]; have h1 := PairAt.new (w4.alloc (.cells #[.int .u64 (psi (phi x)), .int .u64 0] 49)) (phi y) 0 (w4.heap.size + 1) (by simp)
          rw [psi_zero] at h1
          exact h1
        rw [← hX]
        have HpA := Lib.hid hpa
        have HpB := Lib.hid hpb
        have H5 := Lib.hid (below_two H4.out hbX)
        have HP5 := Lib.hid (HP4.out.go hbX)
        have HQ5 := Lib.hid (HQ4.out.go hbX)
        have hg12 : w4.heap.size ≠ w4.heap.size + 1 := by omega
        have hg12' : w4.heap.size < w4.heap.size + 1 := by omega
        have hgX : w.heap.size ≤ w4.heap.size := H4.out.size
        generalize w4.heap.size + 1 = g2 at *
        have HB4 := Lib.hid hbX
        obtain ⟨g1, hg1⟩ : ∃ g, g = w4.heap.size := ⟨_, rfl⟩
        rw [← hg1] at HpA HB4 hg12 hg12' hgX ⊢
        have Hg1 := Lib.hid hg1
        clear hX hpa hpb hbX hg1
        have Hbs := Lib.hid (binds_some pairF (phi x) (phi y) (P.map phi) (Q.map phi) at' m Hab.out (by
          have e1 := made_climb pairF (phi x) (P.map phi) at' m (by rw [List.length_map, HPl.out]; exact Nat.le_refl _)
          have e2 := made_climb pairF (phi y) (Q.map phi) at' m (by rw [List.length_map, HQl.out]; exact Nat.le_refl _)
          rw [e1, e2, List.take_of_length_le (by rw [List.length_map, HPl.out]; exact Nat.le_refl _), List.take_of_length_le (by rw [List.length_map, HQl.out]; exact Nat.le_refl _)]
          exact Hne.out))
        clear heb hab2
        go_loopw [77] (fun i wr => ∃ j s : Nat, s ≤ m ∧ (j = s ∨ (j = m + 1 ∧ s = m)) ∧ i = .int .i64 (j : Int) ∧ Hid (PairAt wr g1 (pairAt pairF (phi x) (P.map phi) at' s)) ∧ Hid (PairAt wr g2 (pairAt pairF (phi y) (Q.map phi) at' s)) ∧ Hid (Below g1 w4 wr) ∧ Hid (∀ q, q < j → ¬ (pairAt pairF (phi x) (P.map phi) at' q ≠ pairAt pairF (phi y) (Q.map phi) at' q ∧ madeAt pairF (phi x) (P.map phi) at' q = madeAt pairF (phi y) (Q.map phi) at' q))) (fun i _ => m + 1 - (intOf i).toNat)
        case atStart => exact ⟨0, 0, by omega, .inl rfl, rfl, HpA.out, HpB.out, HB4.out, fun q hq => absurd hq (by omega)⟩
        case round =>
          obtain ⟨j, s, hs, hjs, rfl, HA, HB, HBg, HN⟩ := hrel
          have HBe := Lib.hid (H4.out.trans (HBg.out.mono hgX))
          by_cases hz : j < m + 1
          · obtain rfl : j = s := by omega
            have hjm : (j : Int) < (m : Int) + 1 := by omega
            have HU := Lib.hid (show madeAt pairF (phi x) (P.map phi) at' j = pairF (pairAt pairF (phi x) (P.map phi) at' j).1 (pairAt pairF (phi x) (P.map phi) at' j).2 from rfl)
            have HV := Lib.hid (show madeAt pairF (phi y) (Q.map phi) at' j = pairF (pairAt pairF (phi y) (Q.map phi) at' j).1 (pairAt pairF (phi y) (Q.map phi) at' j).2 from rfl)
            have HUs := Lib.hid (show pairAt pairF (phi x) (P.map phi) at' (j + 1) = if at' / 2 ^ j % 2 = 0 then (madeAt pairF (phi x) (P.map phi) at' j, atF (P.map phi) j) else (atF (P.map phi) j, madeAt pairF (phi x) (P.map phi) at' j) from rfl)
            have HVs := Lib.hid (show pairAt pairF (phi y) (Q.map phi) at' (j + 1) = if at' / 2 ^ j % 2 = 0 then (madeAt pairF (phi y) (Q.map phi) at' j, atF (Q.map phi) j) else (atF (Q.map phi) j, madeAt pairF (phi y) (Q.map phi) at' j) from rfl)
            have HNs := Lib.hid (show ¬ (pairAt pairF (phi x) (P.map phi) at' j ≠ pairAt pairF (phi y) (Q.map phi) at' j ∧ madeAt pairF (phi x) (P.map phi) at' j = madeAt pairF (phi y) (Q.map phi) at' j) → ∀ q, q < j + 1 → ¬ (pairAt pairF (phi x) (P.map phi) at' q ≠ pairAt pairF (phi y) (Q.map phi) at' q ∧ madeAt pairF (phi x) (P.map phi) at' q = madeAt pairF (phi y) (Q.map phi) at' q) from fun hh q hq => by
              rcases Nat.lt_or_ge q j with h | h
              · exact HN.out q h
              · obtain rfl : q = j := by omega
                exact hh)
            generalize hUe : pairAt pairF (phi x) (P.map phi) at' j = U at *
            generalize hVe : pairAt pairF (phi y) (Q.map phi) at' j = V at *
            have HUe := Lib.hid hUe; have HVe := Lib.hid hVe
            clear hUe hVe
            generalize madeAt pairF (phi x) (P.map phi) at' j = MU at *
            generalize madeAt pairF (phi y) (Q.map phi) at' j = MV at *
            have k0 := cell_regrown HA.out.c0
            have k1 := cell_regrown HA.out.c1
            have k2 := cell_regrown HB.out.c0
            have k3 := cell_regrown HB.out.c1
            have HcU := Lib.hid (fun d os => show Calls Tryd.prog 40 #[.int .u64 (psi U.1), .int .u64 (psi U.2)] (grow (redrawn wr d) os) fun e w'' => e = .returned (.int .u64 (psi MU)) ∧ ∃ p : Regrown, w'' = grow (redrawn wr p.d) p.os from by
              have h := Calls.regrown_of (w := wr) (sponge_Pair (psi U.1) (psi U.2) (grow (redrawn wr d) os) (U64.psi _) (U64.psi _))
              rw [phi_psi, phi_psi, ← HU.out] at h; exact h)
            have HcV := Lib.hid (fun d os => show Calls Tryd.prog 40 #[.int .u64 (psi V.1), .int .u64 (psi V.2)] (grow (redrawn wr d) os) fun e w'' => e = .returned (.int .u64 (psi MV)) ∧ ∃ p : Regrown, w'' = grow (redrawn wr p.d) p.os from by
              have h := Calls.regrown_of (w := wr) (sponge_Pair (psi V.1) (psi V.2) (grow (redrawn wr d) os) (U64.psi _) (U64.psi _))
              rw [phi_psi, phi_psi, ← HV.out] at h; exact h)
            go_wp2_with (fail)
            refine wp_region_quiet_below (by kernel_rfl) (by kernel_rfl) ?_
            repeat (any_goals (first | go_big_quiet_step (first | (go_at_call 40; with_reducible exact HcU.out _ _) | (go_at_call 40; with_reducible exact HcV.out _ _)) | quiet_step (first | (go_at_call 40; with_reducible exact HcU.out _ _) | (go_at_call 40; with_reducible exact HcV.out _ _))))
            refine wpQuiet_nil ?_; intro _ hw'; obtain ⟨⟨dq, osq⟩, hw''⟩ := hw'; subst hw''
            have hbq := below_regrown wr dq osq
            generalize grow (redrawn wr dq) osq = w5 at *
            clear k0 k1 k2 k3
            have HA5 := Lib.hid (HA.out.go hbq)
            have HB5 := Lib.hid (HB.out.go hbq)
            have HBe5 := Lib.hid (below_two HBe.out hbq)
            have HBg5 := Lib.hid (show Below g1 w4 w5 from HBg.out.trans (hbq.mono (by have := HBg.out.size; have := Hg1.out; omega)))
            clear hbq
            have k0 := HA5.out.c0; have k1 := HA5.out.c1; have k2 := HB5.out.c0; have k3 := HB5.out.c1
            by_cases hboth : U ≠ V ∧ MU = MV
            · obtain ⟨hUV, hM⟩ := hboth
              have hq : (Op.equalIn 10000 49 (.agg #[.int .u64 (psi U.1), .int .u64 (psi U.2)]) (.agg #[.int .u64 (psi V.1), .int .u64 (psi V.2)])).run Tryd.prog w5 = .ok false w5 := by
                rw [eqArr]; congr 1
                by_cases h1 : U.1 = V.1
                · have h2 : ¬ U.2 = V.2 := fun e => hUV (Prod.ext h1 e)
                  rw [Bool.and_eq_false_iff]; exact .inr (beq_eq_false_iff_ne.mpr fun e => h2 (psi_inj e))
                · rw [Bool.and_eq_false_iff]; exact .inl (beq_eq_false_iff_ne.mpr fun e => h1 (psi_inj e))
              have hme : (psi MU == psi MV) = true := by rw [hM]; simp
              clear hUV hM
              go_wp2
              go_ret
              exact ⟨rfl, HBe5.out⟩
            · have Hn1 := Lib.hid (HNs.out hboth)
              have hq : ((Op.equalIn 10000 49 (.agg #[.int .u64 (psi U.1), .int .u64 (psi U.2)]) (.agg #[.int .u64 (psi V.1), .int .u64 (psi V.2)])).run Tryd.prog w5 = .ok true w5) ∨ ((Op.equalIn 10000 49 (.agg #[.int .u64 (psi U.1), .int .u64 (psi U.2)]) (.agg #[.int .u64 (psi V.1), .int .u64 (psi V.2)])).run Tryd.prog w5 = .ok false w5 ∧ (psi MU == psi MV) = false) := by
                by_cases hUV : U = V
                · left; rw [eqArr, hUV]; simp
                · right
                  refine ⟨?_, beq_eq_false_iff_ne.mpr fun e => hboth ⟨hUV, psi_inj e⟩⟩
                  rw [eqArr]; congr 1
                  by_cases h1 : U.1 = V.1
                  · have h2 : ¬ U.2 = V.2 := fun e => hUV (Prod.ext h1 e)
                    rw [Bool.and_eq_false_iff]; exact .inr (beq_eq_false_iff_ne.mpr fun e => h2 (psi_inj e))
                  · rw [Bool.and_eq_false_iff]; exact .inl (beq_eq_false_iff_ne.mpr fun e => h1 (psi_inj e))
              clear hboth
              by_cases hjm2 : j < m
              · have hjm3 : (j : Int) < (m : Int) := by omega
                have hg14 : g1 ≤ w4.heap.size := by rw [Hg1.out]; exact Nat.le_refl _
                obtain ⟨b1, o1, rfl, hlt1, hcp⟩ : ∃ b1 o1, a1 = some ⟨b1, o1, none⟩ ∧ b1 < g1 ∧ w5.cell? ⟨b1, o1 + j, none⟩ = some (.int .u64 (at0 P j)) := by
                  obtain ⟨_, _, ad, cp, e, hh⟩ := HP4.out
                  simp only [Value.slice.injEq] at e
                  obtain ⟨rfl, _, _⟩ := e
                  obtain ⟨b, o, rfl, h1, h2⟩ := hh (by rw [HPl.out]; omega)
                  rw [← Hg1.out] at h1
                  exact ⟨b, o, rfl, h1, (HBg5.out.cell (p := ⟨b, o + j, none⟩) h1).trans (h2 j (by rw [HPl.out]; exact hjm2))⟩
                obtain ⟨b2, o2, rfl, hlt2, hcq⟩ : ∃ b2 o2, a2 = some ⟨b2, o2, none⟩ ∧ b2 < g1 ∧ w5.cell? ⟨b2, o2 + j, none⟩ = some (.int .u64 (at0 Q j)) := by
                  obtain ⟨_, _, ad, cp, e, hh⟩ := HQ4.out
                  simp only [Value.slice.injEq] at e
                  obtain ⟨rfl, _, _⟩ := e
                  obtain ⟨b, o, rfl, h1, h2⟩ := hh (by rw [HQl.out]; omega)
                  rw [← Hg1.out] at h1
                  exact ⟨b, o, rfl, h1, (HBg5.out.cell (p := ⟨b, o + j, none⟩) h1).trans (h2 j (by rw [HQl.out]; exact hjm2))⟩
                have hup : U64 (at0 P j) := HP4.out.1 _ (at0_mem (by rw [HPl.out]; exact hjm2))
                have huq : U64 (at0 Q j) := HQ4.out.1 _ (at0_mem (by rw [HQl.out]; exact hjm2))
                have Hpe := Lib.hid (atF_map P j (by rw [HPl.out]; exact hjm2))
                have Hqe := Lib.hid (atF_map Q j (by rw [HQl.out]; exact hjm2))
                generalize at0 P j = pj at *
                generalize at0 Q j = qj at *
                obtain ⟨PJ, hPJ⟩ : ∃ z, z = psi (phi pj) := ⟨_, rfl⟩
                obtain ⟨QJ, hQJ⟩ : ∃ z, z = psi (phi qj) := ⟨_, rfl⟩
                have HPJ := Lib.hid hPJ; have HQJ := Lib.hid hQJ
                have Cp := Lib.hid (fun (w : World) => show Calls Tryd.prog 23 #[.int .u64 pj] w fun e w' => e = .returned (.int .u64 PJ) ∧ w = w' by rw [hPJ]; exact field_Norm pj w hup)
                have Cq := Lib.hid (fun (w : World) => show Calls Tryd.prog 23 #[.int .u64 qj] w fun e w' => e = .returned (.int .u64 QJ) ∧ w = w' by rw [hQJ]; exact field_Norm qj w huq)
                clear hPJ hQJ hup huq
                generalize hmu : psi MU = mu at *
                generalize hmv : psi MV = mv at *
                have Hmu := Lib.hid hmu; have Hmv := Lib.hid hmv
                clear hmu hmv
                have f0 := HA5.out.free 0; have f1 := HA5.out.free 1; have f2 := HB5.out.free 0; have f3 := HB5.out.free 1
                have n1 : b1 ≠ g1 := by omega
                have n2 : b2 ≠ g1 := by omega
                have n3 : b1 ≠ g2 := by omega
                have n4 : b2 ≠ g2 := by omega
                have n5 : b1 < g2 := by omega
                have n6 : b2 < g2 := by omega
                have hj0 : (0 : Int) ≤ (j : Int) := by omega
                rcases hq with hq | ⟨hq, hme⟩
                all_goals
                  go_wp2
                  clear hq
                  go_region_held3 (fun w' => w'.cell? ⟨b1, o1 + j, none⟩ = some (.int .u64 pj) ∧ w'.cell? ⟨b2, o2 + j, none⟩ = some (.int .u64 qj))
                    (first | with_reducible exact ⟨keep_drew hcp, keep_drew hcq⟩ | with_reducible exact ⟨hcp, hcq⟩ | with_reducible exact ⟨keep_set2d _ _ hlt1 hcp, keep_set2d _ _ hlt2 hcq⟩ | with_reducible exact ⟨keep_set2d _ _ n5 (keep_set2 _ _ hlt1 hcp), keep_set2d _ _ n6 (keep_set2 _ _ hlt2 hcq)⟩)
                    (first
                      | (go_at_call 23; (with_reducible refine (Cp.out _).mono ?_); rintro e w' ⟨rfl, rfl⟩)
                      | (go_at_call 23; (with_reducible refine (Cq.out _).mono ?_); rintro e w' ⟨rfl, rfl⟩))
                  have hA6 := ((HA5.out.set' MU (phi pj) Hmu.out HPJ.out.symm).other hg12 0 (.int .u64 mv)).other hg12 1 (.int .u64 QJ)
                  have hB6 := ((HB5.out.other (Ne.symm hg12) 0 (.int .u64 mu)).other (Ne.symm hg12) 1 (.int .u64 PJ)).set' MV (phi qj) Hmv.out HQJ.out.symm
                  have hb6 : Below g1 w4 ((((w5.setCell ⟨g1, 0, none⟩ (.int .u64 mu)).setCell ⟨g1, 1, none⟩ (.int .u64 PJ)).setCell ⟨g2, 0, none⟩ (.int .u64 mv)).setCell ⟨g2, 1, none⟩ (.int .u64 QJ)).drew :=
                    below_drewN ((((HBg5.out.setCell (p := ⟨g1, 0, none⟩) (Nat.le_refl _) _).setCell (p := ⟨g1, 1, none⟩) (Nat.le_refl _) _).setCell (p := ⟨g2, 0, none⟩) (by exact Nat.le_of_lt hg12') _).setCell (p := ⟨g2, 1, none⟩) (by exact Nat.le_of_lt hg12') _) 1
                  have hA7 := hA6.drewN 1
                  have hB7 := hB6.drewN 1
                  have HA7 := Lib.hid hA7; have HB7 := Lib.hid hB7; have HBg7 := Lib.hid hb6
                  clear hA6 hB6 hb6 hA7 hB7 k0 k1 k2 k3 f0 f1 f2 f3
                  obtain ⟨w6, hw6⟩ : ∃ x, x = ((((w5.setCell ⟨g1, 0, none⟩ (.int .u64 mu)).setCell ⟨g1, 1, none⟩ (.int .u64 PJ)).setCell ⟨g2, 0, none⟩ (.int .u64 mv)).setCell ⟨g2, 1, none⟩ (.int .u64 QJ)).drew := ⟨_, rfl⟩
                  rw [← hw6]
                  rw [← hw6] at HBg7
                  have HA8 := Lib.hid (show PairAt w6 g1 (MU, phi pj) by rw [hw6]; exact HA7.out)
                  have HB8 := Lib.hid (show PairAt w6 g2 (MV, phi qj) by rw [hw6]; exact HB7.out)
                  clear hw6 HA7 HB7
                  have haM2 : at' < 256 := by omega
                  have hd : (at' : Int) / 2 ^ j = ((at' / 2 ^ j : Nat) : Int) := by simp
                  have hdl : at' / 2 ^ j < 256 := Nat.lt_of_le_of_lt (Nat.div_le_self _ _) haM2
                  have hax := and1 _ hdl
                  have Hd := Lib.hid hd
                  obtain ⟨B, hB⟩ : ∃ B, B = at' / 2 ^ j := ⟨_, rfl⟩
                  rw [← hB] at hd hax HUs HVs
                  clear hB hdl
                  by_cases hbit : B % 2 = 0
                  · have hb0 : (((B % 2 : Nat) : Int) == 1) = false := by rw [hbit]; rfl
                    have HU9 := Lib.hid (show pairAt pairF (phi x) (P.map phi) at' (j + 1) = (MU, phi pj) by rw [HUs.out, if_pos hbit, Hpe.out])
                    have HV9 := Lib.hid (show pairAt pairF (phi y) (Q.map phi) at' (j + 1) = (MV, phi qj) by rw [HVs.out, if_pos hbit, Hqe.out])
                    clear hbit
                    go_wp2
                    go_roundw
                    case rel => exact ⟨j + 1, j + 1, by omega, .inl rfl, by go_num, by rw [HU9.out]; exact HA8.out, by rw [HV9.out]; exact HB8.out, HBg7.out, Hn1.out⟩
                    case measure => simp [intOf]; omega
                  · have hb1 : (((B % 2 : Nat) : Int) == 1) = true := by rw [show B % 2 = 1 by omega]; rfl
                    have HU9 := Lib.hid (show pairAt pairF (phi x) (P.map phi) at' (j + 1) = (phi pj, MU) by rw [HUs.out, if_neg hbit, Hpe.out])
                    have HV9 := Lib.hid (show pairAt pairF (phi y) (Q.map phi) at' (j + 1) = (phi qj, MV) by rw [HVs.out, if_neg hbit, Hqe.out])
                    clear hbit
                    have k0 := HA8.out.c0; have k1 := HA8.out.c1; have k2 := HB8.out.c0; have k3 := HB8.out.c1
                    simp only [Hmu.out, Hmv.out, ← HPJ.out, ← HQJ.out] at k0 k1 k2 k3
                    have f0 := HA8.out.free 0; have f1 := HA8.out.free 1; have f2 := HB8.out.free 0; have f3 := HB8.out.free 1
                    have hA9 := (((HA8.out.set' (phi pj) MU HPJ.out.symm Hmu.out).other hg12 0 (.int .u64 QJ)).other hg12 1 (.int .u64 mv)).drewN 1
                    have hB9 := (((HB8.out.other (Ne.symm hg12) 0 (.int .u64 PJ)).other (Ne.symm hg12) 1 (.int .u64 mu)).set' (phi qj) MV HQJ.out.symm Hmv.out).drewN 1
                    have hb9 : Below g1 w4 ((((w6.setCell ⟨g1, 0, none⟩ (.int .u64 PJ)).setCell ⟨g1, 1, none⟩ (.int .u64 mu)).setCell ⟨g2, 0, none⟩ (.int .u64 QJ)).setCell ⟨g2, 1, none⟩ (.int .u64 mv)).drew :=
                      below_drewN ((((HBg7.out.setCell (p := ⟨g1, 0, none⟩) (Nat.le_refl _) _).setCell (p := ⟨g1, 1, none⟩) (Nat.le_refl _) _).setCell (p := ⟨g2, 0, none⟩) (by exact Nat.le_of_lt hg12') _).setCell (p := ⟨g2, 1, none⟩) (by exact Nat.le_of_lt hg12') _) 1
                    have HA9 := Lib.hid hA9; have HB9 := Lib.hid hB9; have HBg9 := Lib.hid hb9
                    clear hA9 hB9 hb9
                    go_wp2
                    clear HA HB HA5 HB5 HBg5 HBe5 HBe HBg HU HV HUs HVs HNs HN
                    go_region
                    go_wp2
                    go_roundw
                    case rel => exact ⟨j + 1, j + 1, by omega, .inl rfl, by go_num, by rw [HU9.out]; exact HA9.out, by rw [HV9.out]; exact HB9.out, HBg9.out, Hn1.out⟩
                    case measure => simp [intOf]; omega
              · have hjm4 : ¬ (j : Int) < (m : Int) := by omega
                obtain rfl : j = m := by omega
                rcases hq with hq | ⟨hq, hme⟩
                all_goals
                  go_wp2
                  go_roundw
                  case rel => exact ⟨j + 1, j, by omega, .inr ⟨rfl, rfl⟩, by go_num, by rw [HUe.out]; exact HA5.out, by rw [HVe.out]; exact HB5.out, HBg5.out, Hn1.out⟩
                  case measure => simp [intOf]
          · obtain ⟨q, hq, h1, h2⟩ := Hbs.out
            exact (HN.out q (by omega) ⟨h1, h2⟩).elim
    · have heb : (psi (climbF x P at') != psi (climbF y Q at')) = true := by rw [bne_iff_ne]; exact fun e => hne (psi_inj e)
      clear hne
      go_wp2_with (first | (go_at_call 23; (with_reducible refine (field_Norm _ _ (by first | assumption | exact U64.psi _ | exact U64.zero | exact U64.one | exact U64.mk (by decide) (by decide))).mono ?_); rintro e w' ⟨rfl, rfl⟩))
      go_ret
      exact ⟨rfl, H4.out⟩
end Go.Proofs.YtaaaoljllpbplaaDoor
