/- The walk of open's look. There are 1 to 8 tables, each half as long as the one ahead. The table of bits lies as its initialiser lays it. -/
import Derived.Test.YtcihkechphldcaaDoorLooks
import Derived.Test.YtcihkechphldcaaDoorOpenHolds
import Derived.Deep.DeepCutAuto
namespace Go.Proofs.YtcihkechphldcaaDoor
set_option maxRecDepth 100000
set_option linter.unusedVariables false
open Go.RowKit Tally
/-- a look into tables, at a place -/
def lookT (ll : List (List Int)) (n p : Nat) : Lk :=
  ⟨(List.range n).map fun k => (psi (phi (at0 (atl ll k) (p % 2 ^ (n - k - 1)))), psi (phi (at0 (atl ll k) (p % 2 ^ (n - k - 1) + 2 ^ (n - k - 1))))),
   (List.range n).map fun k => ((pathF (atl ll k) (n - k) (p % 2 ^ (n - k - 1))).map psi, (pathF (atl ll k) (n - k) (p % 2 ^ (n - k - 1) + 2 ^ (n - k - 1))).map psi)⟩
theorem range_take_snoc {α : Type} (f : Nat → α) (n k : Nat) (h : k < n) : ((List.range n).map f).take (k + 1) = ((List.range n).map f).take k ++ [f k] := by
  rw [List.take_add_one, List.getElem?_map, List.getElem?_range h]; rfl
theorem lookT_pairs {ll : List (List Int)} {n p k a q h : Nat} (ha : n = k + a + 1) (hh : h = 2 ^ a) (hq : q = p % 2 ^ a) :
    (lookT ll n p).pairs.take (k + 1) = (lookT ll n p).pairs.take k ++ [(psi (phi (at0 (atl ll k) q)), psi (phi (at0 (atl ll k) (q + h))))] := by
  unfold lookT
  rw [range_take_snoc _ n k (by omega), show n - k - 1 = a by omega, hq, hh]
theorem lookT_paths {ll : List (List Int)} {n p k a q h N1 : Nat} (ha : n = k + a + 1) (hh : h = 2 ^ a) (hq : q = p % 2 ^ a) (hN : N1 = a + 1) :
    (lookT ll n p).paths.take (k + 1) = (lookT ll n p).paths.take k ++ [((pathF (atl ll k) N1 q).map psi, (pathF (atl ll k) N1 (q + h)).map psi)] := by
  unfold lookT
  rw [range_take_snoc _ n k (by omega), show n - k - 1 = a by omega, show n - k = N1 by omega, hq, hh]
theorem NewA.farRow {B : Nat} {w : World} {v : Value} {l : List (Int × Int)} (h : NewA B w v l) : Far (fun b => b < B) (fun W => RowA W v l) w :=
  fun w' _ hk => NewA.row (B := B) ⟨h.1, h.2.1, ownsRow_same h.2.2 fun g hg => hk g (h.lt hg).2 (by have := (h.lt hg).1; show ¬ g < B; omega)⟩
theorem NewB.farRow {X : Option Nat} {B : Nat} {w : World} {v : Value} {l : List (List Int × List Int)} (h : NewB X B w v l) : Far (fun b => b < B) (fun W => RowB W v l) w := by
  have hlt := fun b (e : v.ownBlock = some b) => h.lt e
  obtain ⟨h1, us, h2, h3, h4⟩ := h
  intro w' hs hk
  refine NewB.row (X := X) (B := B) ⟨h1, us, h2, ownsRow_same h3 fun g hg => hk g (hlt g hg).2 (by have := (hlt g hg).1; show ¬ g < B; omega), fun j hj => ?_⟩
  obtain ⟨u, u2, e, e2, hF⟩ := h4 j hj
  exact ⟨u, u2, e, e2, hF.step hs fun b hlt hn => hk b hlt fun e => hn (.inl e)⟩
theorem NewA.far0 {B : Nat} {w : World} {v : Value} {l : List (Int × Int)} (h : NewA B w v l) : Far (fun b => b < B) (fun W => NewA 0 W v l) w :=
  fun w' _ hk => ⟨h.1, h.2.1, ownsRow_mono (ownsRow_same h.2.2 fun g hg => hk g (h.lt hg).2 (by have := (h.lt hg).1; show ¬ g < B; omega)) (Nat.zero_le _)⟩
theorem NewB.far0 {X : Option Nat} {B : Nat} {w : World} {v : Value} {l : List (List Int × List Int)} (h : NewB X B w v l) : Far (fun b => b < B) (fun W => NewB none 0 W v l) w := by
  have hlt := fun b (e : v.ownBlock = some b) => h.lt e
  obtain ⟨h1, us, h2, h3, h4⟩ := h
  intro w' hs hk
  refine ⟨h1, us, h2, ownsRow_mono (ownsRow_same h3 fun g hg => hk g (hlt g hg).2 (by have := (hlt g hg).1; show ¬ g < B; omega)) (Nat.zero_le _), fun j hj => ?_⟩
  obtain ⟨u, u2, e, e2, hF⟩ := h4 j hj
  exact ⟨u, u2, e, e2, (hF.step hs fun b hlt hn => hk b hlt fun e => hn (.inl e)).less fun b _ e => by
    rcases e with e | e | e
    · exact absurd e (Nat.not_lt_zero _)
    · exact .inr (.inl e)
    · cases e⟩
/-- the operation that comes up is a call -/
theorem step_isCall {ops : Array Oper} {o : Oper} {a : Act} {w : World} {K : Act → World → Prop} {Q : Exit → Act → World → Prop} {E : Prop} {c : _} (_ : o.op = .call c)
    (h : if Region.wanted o (yielded ops a.tmps) = true then Oper.wp Tryd.prog o a w K Q else E) : if Region.wanted o (yielded ops a.tmps) = true then Oper.wp Tryd.prog o a w K Q else E := h
set_option maxRecDepth 100000 in
set_option maxHeartbeats 8000000 in
theorem open_look (ll : List (List Int)) (n p : Nat) (h1 : 1 ≤ n) (h8 : n ≤ 8) (hp : p < 256) (hl : ll.length = n) (hk : ∀ k, k < n → (atl ll k).length = 2 ^ (n - k)) (v : Value) (w : World) (hT : Tab w) (h : RowUU w v ll) :
    Calls Tryd.prog 45 #[v, .int .i64 (p : Int)] w fun e w' => ∃ va vb, e = .returned (.agg #[va, vb]) ∧ Far (fun b => b < w.heap.size) (fun W => NewA 0 W va (lookT ll n p).pairs ∧ NewB none 0 W vb (lookT ll n p).paths) w' ∧ Below w.heap.size w w' := by
  have HT := Lib.hid hT; have HK := Lib.hid hk
  obtain ⟨-, av, cv, rfl, hr⟩ := h
  obtain ⟨bv, ov, har, hbv, hc⟩ := hr (by omega)
  subst har
  have HC := Lib.hid (show ∀ k, k < n → ∃ u, w.cell? ⟨bv, ov + k, none⟩ = some u ∧ RowU w u (atl ll k) from fun k hk => hc k (by omega))
  rw [hl]
  obtain ⟨PA, hPA⟩ : ∃ PA, PA = (lookT ll n p).pairs := ⟨_, rfl⟩
  obtain ⟨PB, hPB⟩ : ∃ PB, PB = (lookT ll n p).paths := ⟨_, rfl⟩
  rw [← hPA, ← hPB]
  have HPA := Lib.hid hPA; have HPB := Lib.hid hPB
  have HlA := Lib.hid (show PA.length = n by rw [hPA]; simp [lookT])
  have HlB := Lib.hid (show PB.length = n by rw [hPB]; simp [lookT])
  clear hT hk hc hr hl hPA hPB
  obtain ⟨W, hW, b1, b2, s1, B1⟩ := two_blocksO w #[.slice none 0 0, .slice none 0 0] #[.slice none 0 0, .slice none 0 0] 50 50
  have HB1 := Lib.hid B1; have Hb1 := Lib.hid b1; have Hb2 := Lib.hid b2
  clear b1 b2 B1
  go_enter Tryd.func45, Tryd.ntmps45
  go_wp2_with (fail)
  obtain ⟨ob, hob⟩ : ∃ ob, ob = w.heap.size + 1 := ⟨_, rfl⟩
  rw [← hob] at Hb2 ⊢
  have Hob := Lib.hid hob
  have hWob : W.heap.size = ob + 1 := by omega
  have hwob : w.heap.size < ob := by omega
  clear hob s1 hW
  go_loopw [1, 15] (fun pv iv wr => ∃ (k q : Nat) (vx vy : Value), k ≤ n ∧ q < 256 ∧ iv = .int .i64 (k : Int) ∧ pv = .int .i64 (q : Int) ∧ Hid (∀ j, j + k + 1 ≤ n → q % 2 ^ j = p % 2 ^ j) ∧ Hid (wr.heap[ob]? = some (.cells #[vx, vy] 50 (0, 0))) ∧ Hid (NewA (ob + 1) wr vx (PA.take k)) ∧ Hid (NewB vx.ownBlock (ob + 1) wr vy (PB.take k)) ∧ Hid (∀ g, vx.ownBlock = some g → vy.ownBlock ≠ some g) ∧ Hid (Below ob W wr)) (fun _ iv _ => n - (intOf iv).toNat)
  case atStart => exact ⟨0, p, _, _, by omega, hp, rfl, rfl, fun j _ => rfl, Hb2.out, NewA.nil _ _, NewB.nil _ _ _, (fun g h => by cases h), Below.refl _ _⟩
  case round =>
    obtain ⟨k, q, vx, vy, hk, hq, rfl, rfl, HQ, HO, HA, HB, HAp, HBo⟩ := hrel
    have HBw := Lib.hid (show Below w.heap.size w wr from HB1.out.trans (HBo.out.mono (by omega)))
    by_cases hz : k < n
    · obtain ⟨a, ha⟩ : ∃ a, n = k + a + 1 := ⟨n - k - 1, by omega⟩
      have Ha := Lib.hid ha
      obtain ⟨N1, hN⟩ : ∃ N1, N1 = a + 1 := ⟨_, rfl⟩
      have HN := Lib.hid hN
      obtain ⟨h, hh⟩ : ∃ h, h = 2 ^ a := ⟨_, rfl⟩
      have Hh := Lib.hid hh
      have hh1 : 1 ≤ h := by rw [hh]; exact (pow_le8 (n := a) (by omega)).1
      have hh128 : h ≤ 128 := by
        have := (pow_le8 (n := a + 1) (by omega)).2
        rw [Nat.pow_succ, ← hh] at this; omega
      obtain ⟨q2, hq2⟩ : ∃ q2, q2 = p % h := ⟨_, rfl⟩
      have hqh : q % h = q2 := by rw [hq2, hh]; exact HQ.out a (by omega)
      have hq2h : q2 < h := by rw [hq2]; exact Nat.mod_lt _ hh1
      have Hq2 := Lib.hid (show q2 = p % 2 ^ a by rw [hq2, hh])
      have HQ2 := Lib.hid (show ∀ j, j + (k + 1) + 1 ≤ n → q2 % 2 ^ j = p % 2 ^ j from fun j hj => by
        rw [hq2, hh]; exact Nat.mod_mod_of_dvd _ (Nat.pow_dvd_pow 2 (by omega)))
      have hrem : Int.tmod (q : Int) (h : Int) = (q2 : Int) := by rw [← hqh]; exact (Int.ofNat_tmod q h).symm
      have hh0 : ((h : Int) == 0) = false := by rw [beq_eq_false_iff_ne]; omega
      have hh0' : (h : Int) ≠ 0 := by omega
      obtain ⟨qh, hqh2⟩ : ∃ qh, qh = q2 + h := ⟨_, rfl⟩
      have hsum : IntKind.i64.wrap ((q2 : Int) + (h : Int)) = (qh : Int) := by rw [IntWalk.i64_in _ (by omega)]; omega
      obtain ⟨t, ht⟩ : ∃ t, t = atl ll k := ⟨_, rfl⟩
      obtain ⟨u, hu, hru⟩ := HC.out k hz
      have hlen := HK.out k hz
      rw [← ht] at hru hlen
      have htl : t.length = 2 * h := by rw [hlen, show n - k = a + 1 by omega, Nat.pow_succ, ← hh]; omega
      have hl2 : t.length = 2 ^ N1 := by rw [hlen, hN, show n - k = a + 1 by omega]
      have Hru := Lib.hid hru
      obtain ⟨hut, -, at', ct, rfl, htr⟩ := hru
      obtain ⟨bt, ot, har, hbt, htc⟩ := htr (by omega)
      subst har
      have u1 := hut _ (at0_mem (show q2 < t.length by omega))
      have u2' := hut _ (at0_mem (show qh < t.length by omega))
      have d1 := htc q2 (by omega)
      have d2 := htc qh (by omega)
      obtain ⟨Ln, hLn⟩ : ∃ Ln, Ln = t.length := ⟨_, rfl⟩
      have hqn1 : q2 < 2 ^ N1 := by rw [← hl2]; omega
      have hqn2 : qh < 2 ^ N1 := by rw [← hl2]; omega
      have CP1 := Lib.hid (fun Z (hZ : Below w.heap.size w Z) => tree_Path t N1 q2 _ Z (HT.out.below hZ) (Hru.out.go hZ) hl2 (by omega) hqn1)
      have CP2 := Lib.hid (fun Z (hZ : Below w.heap.size w Z) => tree_Path t N1 qh _ Z (HT.out.below hZ) (Hru.out.go hZ) hl2 (by omega) hqn2)
      rw [← hLn] at CP1 CP2 hu htl
      have cv1 := (HBw.out.cell (p := ⟨bv, ov + k, none⟩) hbv).trans hu
      have hquo : Int.tdiv (Ln : Int) 2 = (h : Int) := by rw [htl]; show Int.tdiv ((2 * h : Nat) : Int) ((2 : Nat) : Int) = _; rw [← Int.ofNat_tdiv]; congr 1; omega
      have HWh := Lib.hid (show wrap64 (h : Int) = (h : Int) by unfold wrap64; omega)
      have hk1 : (k : Int) < (n : Int) := by omega
      have hq2L : (q2 : Int) < (Ln : Int) := by omega
      have hqhL : (qh : Int) < (Ln : Int) := by omega
      obtain ⟨x1, hx1⟩ : ∃ x1, x1 = at0 t q2 := ⟨_, rfl⟩
      obtain ⟨x2, hx2⟩ : ∃ x2, x2 = at0 t qh := ⟨_, rfl⟩
      obtain ⟨l1, hl1⟩ : ∃ l1, l1 = (pathF t N1 q2).map psi := ⟨_, rfl⟩
      obtain ⟨l2, hl2'⟩ : ∃ l2, l2 = (pathF t N1 qh).map psi := ⟨_, rfl⟩
      have HsA := Lib.hid (show PA.take (k + 1) = PA.take k ++ [(psi (phi x1), psi (phi x2))] by rw [HPA.out, lookT_pairs ha hh Hq2.out, ← ht, hx1, hx2, hqh2])
      have HsB := Lib.hid (show PB.take (k + 1) = PB.take k ++ [(l1, l2)] by rw [HPB.out, lookT_paths ha hh Hq2.out hN, ← ht, hl1, hl2', hqh2])
      rw [← hx1] at u1 d1; rw [← hx2] at u2' d2; rw [← hl1] at CP1; rw [← hl2'] at CP2
      have hcA : (PA.take k).length + 1 ≤ 1000 := by rw [List.length_take, HlA.out]; omega
      have hcB : (PB.take k).length + 1 ≤ 1000 := by rw [List.length_take, HlB.out]; omega
      clear ha hN hh hq2 hqh hqh2 ht hlen htl hl2 hut htr htc hLn hqn1 hqn2 hx1 hx2 hl1 hl2' hu Hru
      go_upto_region 6 with fail
      try rw [HWh.out]
      clear hquo HWh cv1
      go_wp2_with (fail)
      with_reducible refine (CP1.out wr HBw.out).mono ?_
      rintro e w4 ⟨vp1, rfl, hn1, hb4⟩
      have HBw4 := Lib.hid (below_two HBw.out hb4)
      have HBo4 := Lib.hid (HBo.out.trans (hb4.mono (show ob ≤ wr.heap.size from Nat.le_of_lt (blk_lt HO.out))))
      have HO4 := Lib.hid ((hb4.block ob (blk_lt HO.out)).trans HO.out)
      have HA4 := Lib.hid (HA.out.go hb4)
      have HB4 := Lib.hid (HB.out.go hb4)
      have Hn1 := Lib.hid hn1
      have hwr := blk_lt HO.out
      have hs4 := hb4.size
      clear hb4 hn1 hrem hh0 hh0'
      go_wp2_with (fail)
      with_reducible refine (CP2.out w4 HBw4.out).mono ?_
      rintro e w5 ⟨vp2, rfl, hn2, hb5⟩
      have HBw5 := Lib.hid (below_two HBw4.out hb5)
      have HBo5 := Lib.hid (HBo4.out.trans (hb5.mono (show ob ≤ w4.heap.size by omega)))
      have HO5 := Lib.hid ((hb5.block ob (by omega)).trans HO4.out)
      have HA5 := Lib.hid (HA4.out.go hb5)
      have HB5 := Lib.hid (HB4.out.go hb5)
      have Hn1' := Lib.hid (Hn1.out.below hb5 (Nat.le_refl _))
      have Hn2 := Lib.hid hn2
      have hs5 := hb5.size
      clear hb5 hn2
      have hbto : bt < ob := by omega
      have K9 := Lib.hid (show ∀ Z, Below ob W Z → Below ob W Z ∧ Z.cell? ⟨bt, ot + q2, none⟩ = some (.int .u64 x1) ∧ Z.cell? ⟨bt, ot + qh, none⟩ = some (.int .u64 x2) from fun Z hZ =>
        have hw := HB1.out.trans (hZ.mono (by omega))
        ⟨hZ, (hw.cell (p := ⟨bt, ot + q2, none⟩) hbt).trans d1, (hw.cell (p := ⟨bt, ot + qh, none⟩) hbt).trans d2⟩)
      have hdw := Lib.hid (below_dwO w5)
      have HO6 := Lib.hid ((hdw.out.block ob (by omega)).trans HO5.out)
      have HA6 := Lib.hid (HA5.out.go hdw.out)
      have HB6 := Lib.hid (HB5.out.go hdw.out)
      have Hn1d := Lib.hid (Hn1'.out.below hdw.out (Nat.le_refl _))
      have Hn2d := Lib.hid (Hn2.out.below hdw.out (Nat.le_refl _))
      have hS6 : Below ob W w5.drew := HBo5.out.trans (hdw.out.mono (show ob ≤ w5.heap.size by omega))
      have hob6 : ob + 1 ≤ w5.drew.heap.size := by have := blk_lt HO6.out; omega
      have hS6a : ∀ o, Below ob W (w5.drew.alloc o) := fun o => hS6.alloc (by omega) o
      have k0 : w5.drew.cell? ⟨ob, 0, none⟩ = some vx := cell_blk HO6.out 0
      have hne0 : w5.drew.heap.size ≠ ob := World.new_ne w5.drew ⟨ob, 0, none⟩ k0
      have hne1 : w5.heap.size ≠ ob := hne0
      have k0c : ∀ o, (w5.alloc o).drew.cell? ⟨ob, 0, none⟩ = some vx := fun o => (World.cell?_alloc_some w5 ⟨ob, 0, none⟩ o (by show (w5.drew.cell? _).isSome = true; rw [k0]; rfl)).trans k0
      have hl0 : ob < w5.drew.heap.size := by omega
      have hl1 : ob < w5.heap.size := hl0
      have hne2 : ob ≠ w5.heap.size := fun e => hne0 e.symm
      go_wp2
      go_cut [39] (fun x wx => ∃ v8 w7, wx = w7.setCell ⟨ob, 0, none⟩ v8 ∧ Hid (NewA (ob + 1) w7 v8 (PA.take k ++ [(psi (phi x1), psi (phi x2))])) ∧ Hid (w5.drew.grownBy w7 vx.ownBlock) ∧ Hid (v8.ownBlock = vx.ownBlock ∨ ∃ b, v8.ownBlock = some b ∧ w5.drew.heap.size ≤ b))
      case first =>
        rename_i JJ KK hJJ hJK
        have hnv : some ob ≠ vx.ownBlock := fun e => by have := (HA6.out.lt e.symm).1; omega
        have hge := fun g (e : vx.ownBlock = some g) => (HA6.out.lt e).1
        have el : (PA.take k ++ [(psi (phi x1), psi (phi x2))]).length = min k PA.length + 1 := by simp
        have Hel := Lib.hid el
        clear el HAp Hn1d Hn2d HB6 HA HT HK HC HPA HPB HlA HlB Hb1 Hb2 Hob HQ HQ2 Ha HN Hh Hq2 CP1 CP2 HsA HsB hcB Hn1 Hn1' Hn2 d1 d2 HBw HBw4 HBw5 HBo HBo4 HBo5 HO HO4 HO5 HA4 HA5 HB HB4 HB5 hdw
        rw [show ({ dst := some 40, op := Op.load 47 (Operand.tmp 39), type := 47, pos := "open.go:28", after := #[{ on := 0, ground := Ground.data }], guard := none } : Oper) = id { dst := some 40, op := Op.load 47 (Operand.tmp 39), type := 47, pos := "open.go:28", after := #[{ on := 0, ground := Ground.data }], guard := none } from rfl]
        go_region_held3 (fun w' => Below ob W w' ∧ w'.cell? ⟨bt, ot + q2, none⟩ = some (.int .u64 x1) ∧ w'.cell? ⟨bt, ot + qh, none⟩ = some (.int .u64 x2))
          (first
            | exact K9.out _ hS6
            | exact K9.out _ hB7
            | exact K9.out _ (hS8 _)
            | exact K9.out _ (hS6a _))
          (first
            | (go_at_call 42; (with_reducible refine (field_Norm _ _ u1).mono ?_); rintro e wn ⟨rfl, rfl⟩)
            | (go_at_call 42; (with_reducible refine (field_Norm _ _ u2').mono ?_); rintro e wn ⟨rfl, rfl⟩)
            | (refine step_appA rfl _ _ (by rfl) (ob + 1) _ _ (by rfl) HA6.out _ _ (by rfl) (U64.psi _) (U64.psi _) hcA hob6 ?_; intro v7 w7 hn7 hg7 hx7; obtain ⟨a7, c7, rfl⟩ := hn7.isSlice; have HN7 := Lib.hid hn7; have Hg7 := Lib.hid hg7; have Hx7 := Lib.hid hx7; have hO7 := (hg7.block ob hl0 hnv).trans HO6.out; have k7 : w7.cell? ⟨ob, 0, none⟩ = some vx := cell_blk hO7 0; have f7 := free_blk hO7; have hB7 : Below ob W w7 := hS6.grown hg7 (Nat.le_of_lt hl0) (fun g e => Nat.le_of_succ_le (hge g e)); have hS8 := fun x => hB7.setCell (p := ⟨ob, 0, none⟩) (Nat.le_refl ob) x; clear hn7 hg7 hx7 hO7))
        all_goals
          first | refine hJK _ _ (Met.intro (hJJ _ _ ?_)) | refine Met.intro (hJJ _ _ ?_) | refine hJJ _ _ ?_
          repeat apply Exists.intro
          refine ⟨?rel, rfl⟩
          case rel => exact ⟨.slice a7 (PA.take k ++ [(psi (phi x1), psi (phi x2))]).length c7, w7, by rw [Hel.out], HN7, Hg7, Hx7⟩
      case rest =>
        obtain ⟨v8, w7, hw8, HA7, Hg7, Hx7⟩ := hcut
        have hx7 := Hx7.out
        have hg7 := Hg7.out
        have hB7x := Lib.hid (HB6.out.grownX hg7 (fun g hv e => HAp.out g e hv) hx7)
        have HR1 := Lib.hid (Hn1d.out.grownOther hg7 (fun g hv e => by have h1 := (Hn1d.out.lt hv).1; have h2 := (HA.out.lt e).2; omega))
        have HR2 := Lib.hid (Hn2d.out.grownOther hg7 (fun g hv e => by have h1 := (Hn2d.out.lt hv).1; have h2 := (HA.out.lt e).2; omega))
        have hO7 := (hg7.block ob (by omega) (fun e => by have := (HA6.out.lt e.symm).1; omega)).trans HO6.out
        have hB7 : Below ob W w7 := hS6.grown hg7 (by omega) (fun g e => by have := (HA6.out.lt e).1; omega)
        have hAp8 : Hid (∀ g, v8.ownBlock = some g → vy.ownBlock ≠ some g) := fun g e hv => by
          rcases hx7 with h | ⟨b, h, hb⟩
          · exact HAp.out g (h.symm.trans e) hv
          · rw [e] at h; cases h
            have := (HB6.out.lt hv).2; omega
        have hO8 : Hid ((w7.setCell ⟨ob, 0, none⟩ v8).heap[ob]? = some (.cells #[v8, vy] 50 (0, 0))) := blk_setCell hO7 0 v8
        have hA8 := Lib.hid (HA7.out.grownOther (grownBy_setCell w7 ob 0 v8) (fun g e h => by cases h; have := (HA7.out.lt e).1; omega))
        have hB8 := Lib.hid (hB7x.out.low (Nat.lt_succ_self ob) 0 v8)
        have hR1 := Lib.hid (HR1.out.grownOther (grownBy_setCell w7 ob 0 v8) (fun g e h => by cases h; have := (HR1.out.lt e).1; omega))
        have hR2 := Lib.hid (HR2.out.grownOther (grownBy_setCell w7 ob 0 v8) (fun g e h => by cases h; have := (HR2.out.lt e).1; omega))
        have hS9 := Lib.hid (hB7.setCell (p := ⟨ob, 0, none⟩) (Nat.le_refl ob) v8)
        rw [← hw8] at hO8 hA8 hB8 hR1 hR2 hS9
        clear hw8 hx7 hg7 hO7 hB7
        have hfar1 := Lib.hid (show ∀ g, vp1.ownBlock = some g → ¬ (g < ob + 1 ∨ vy.ownBlock = some g ∨ v8.ownBlock = some g) from fun g e h => by
          have g1 := (Hn1d.out.lt e).1; have g2 := (Hn1d.out.lt e).2
          rcases h with h | h | h
          · omega
          · have := (HB.out.lt h).2; omega
          · rcases Hx7.out with h' | ⟨b, h', hb⟩
            · have := (HA.out.lt (h'.symm.trans h)).2; omega
            · rw [h] at h'; cases h'; omega)
        have hfar2 := Lib.hid (show ∀ g, vp2.ownBlock = some g → ¬ (g < ob + 1 ∨ vy.ownBlock = some g ∨ v8.ownBlock = some g) from fun g e h => by
          have g1 := (Hn2d.out.lt e).1; have g2 := (Hn2d.out.lt e).2
          rcases h with h | h | h
          · omega
          · have := (HB.out.lt h).2; omega
          · rcases Hx7.out with h' | ⟨b, h', hb⟩
            · have := (HA.out.lt (h'.symm.trans h)).2; omega
            · rw [h] at h'; cases h'; omega)
        clear k0 k0c hne0 hne1 hne2 hl0 hl1 hS6a HA7 Hg7 hB7x HR1 HR2
        obtain ⟨w8, hw8⟩ : ∃ x : World, x = wc := ⟨_, rfl⟩
        subst hw8
        have hu := Lib.hid (((hR1.out.far (S := fun b => b < ob + 1 ∨ vy.ownBlock = some b ∨ v8.ownBlock = some b) hfar1.out).imp (Q' := fun W => NewU 0 W vp1 l1) (fun W h => h.mono (Nat.zero_le _))).and ((hR2.out.far (S := fun b => b < ob + 1 ∨ vy.ownBlock = some b ∨ v8.ownBlock = some b) hfar2.out).imp (Q' := fun W => NewU 0 W vp2 l2) (fun W h => h.mono (Nat.zero_le _))))
        have k1 : w8.cell? ⟨ob, 1, none⟩ = some vy := cell_blk hO8.out 1
        have hob8 : ob + 1 ≤ w8.heap.size := blk_lt hO8.out
        clear HT HK HC HPA HPB Hb1 HB1 CP1 CP2 Hn1 Hn1' Hn2 Hn1d Hn2d u1 u2' d1 d2 K9 HBw HBw4 HBw5 HBo HBo4 HBo5 HO HO4 HO5 HO6 HA HA4 HA5 HA6 HB HB4 HB5 HB6 Hx7 hfar1 hfar2 hdw hS6
        obtain ⟨p1, g1, rfl⟩ := hR1.out.isSlice
        obtain ⟨p2, g2, rfl⟩ := hR2.out.isSlice
        go_wp2_with (at_builtin; refine wpList_appB rfl _ _ rfl v8.ownBlock (ob + 1) vy _ rfl hB8.out _ _ (l1, l2) hu.out rfl hcB hob8 ?_; intro v9 w9 hn9 hb9 hg9 hx9; obtain ⟨a9, c9, rfl⟩ := hn9.isSlice; have HB9 := Lib.hid hn9; have Hg9 := Lib.hid hg9; have Hx9 := Lib.hid hx9; have hO9 := (hb9.block ob (Nat.lt_succ_self ob)).trans hO8.out; have k9 : w9.cell? ⟨ob, 1, none⟩ = some vy := cell_blk hO9 1; have f9 := free_blk hO9; have hS10 := Lib.hid (hS9.out.trans (hb9.mono (Nat.le_succ ob))); clear hn9 hb9 hg9 hx9)
        have hx10 : Hid ((PB.take k ++ [(l1, l2)]).length = min k PB.length + 1) := Lib.hid (by simp)
        rw [hx10.out] at HB9 Hx9
        obtain ⟨v10, hv10⟩ : ∃ v10, v10 = Value.slice a9 (min k PB.length + 1) c9 := ⟨_, rfl⟩
        rw [← hv10] at HB9 Hx9 ⊢
        have hA9 : Hid (NewA (ob + 1) w9 v8 (PA.take k ++ [(psi (phi x1), psi (phi x2))])) := hA8.out.grownOther Hg9.out (fun g e h => hAp8.out g e h)
        have hO10 : Hid ((w9.setCell ⟨ob, 1, none⟩ v10).heap[ob]? = some (.cells #[v8, v10] 50 (0, 0))) := blk_setCell hO9 1 v10
        have hA10 := Lib.hid (hA9.out.grownOther (grownBy_setCell w9 ob 1 v10) (fun g e h => by cases h; have := (hA9.out.lt e).1; omega))
        have hB10 := Lib.hid (HB9.out.low (Nat.lt_succ_self ob) 1 v10)
        have hAp10 : Hid (∀ g, v8.ownBlock = some g → v10.ownBlock ≠ some g) := fun g e hv => by
          rcases Hx9.out with h | ⟨b, h, hb⟩
          · exact hAp8.out g e (h.symm.trans hv)
          · rw [hv] at h; cases h
            have := (hA8.out.lt e).2; omega
        rw [← HsA.out] at hA10
        rw [← HsB.out] at hB10
        go_roundw
        case rel => exact ⟨k + 1, q2, v8, v10, by omega, by omega, by go_num, rfl, HQ2.out, hO10.out, hA10.out, hB10.out, hAp10.out, hS10.out.setCell (p := ⟨ob, 1, none⟩) (Nat.le_refl ob) v10⟩
        case measure => simp [intOf]; omega
    · obtain rfl : k = n := by omega
      rw [List.take_of_length_le (by rw [HlA.out]; exact Nat.le_refl _)] at HA
      rw [List.take_of_length_le (by rw [HlB.out]; exact Nat.le_refl _)] at HB
      have k0 : wr.cell? ⟨ob, 0, none⟩ = some vx := cell_blk HO.out 0
      have k1 : wr.cell? ⟨ob, 1, none⟩ = some vy := cell_blk HO.out 1
      have hrs := (HBo.out.block w.heap.size hwob).trans Hb1.out
      have z0 : wr.cell? ⟨w.heap.size, 0, none⟩ = some _ := cell_blk hrs 0
      have z1 : wr.cell? ⟨w.heap.size, 1, none⟩ = some _ := cell_blk hrs 1
      have ff := free_blk hrs
      obtain ⟨a8, c8, rfl⟩ := HA.out.isSlice
      obtain ⟨a9, c9, rfl⟩ := HB.out.isSlice
      clear HT HK HC HPA HPB HQ HAp
      go_wp2_with (fail)
      have hbk := blk_setCell (blk_setCell hrs 0 (.slice a8 PA.length c8)) 1 (.slice a9 PB.length c9)
      have hbz := ((HB1.out.trans (HBo.out.mono (by omega))).setCell (p := ⟨w.heap.size, 0, none⟩) (Nat.le_refl _) (.slice a8 PA.length c8)).setCell (p := ⟨w.heap.size, 1, none⟩) (Nat.le_refl _) (.slice a9 PB.length c9)
      have hfar := ((((HA.out.far0.and HB.out.far0).set (b := w.heap.size) (show w.heap.size < ob + 1 by omega) 0 (.slice a8 PA.length c8)).set (b := w.heap.size) (show w.heap.size < ob + 1 by omega) 1 (.slice a9 PB.length c9))).less (S' := fun b => b < w.heap.size) (fun b _ e => show b < ob + 1 from by have e' : b < w.heap.size := e; omega)
      generalize (wr.setCell ⟨w.heap.size, 0, none⟩ (.slice a8 PA.length c8)).setCell ⟨w.heap.size, 1, none⟩ (.slice a9 PB.length c9) = wz at *
      have d0 : wz.cell? ⟨w.heap.size, 0, none⟩ = some (.slice a8 PA.length c8) := cell_blk hbk 0
      have d1 : wz.cell? ⟨w.heap.size, 1, none⟩ = some (.slice a9 PB.length c9) := cell_blk hbk 1
      exact bodyPost_ret (v := .agg #[.slice a8 PA.length c8, .slice a9 PB.length c9]) (by simp [results, Tryd.results45, go_sem, d0, d1]) rfl ⟨_, _, rfl, hfar, hbz⟩
end Go.Proofs.YtcihkechphldcaaDoor
