/- The walk of the law MleCorners: it returns true, whatever is handed in. The table of bits lies as its initialiser lays it. -/
import Derived.Test.YtokggifjcbkmnaaDoorCornW
import Derived.Test.YtokggifjcbkmnaaDoorRTree
import Derived.Deep.DeepCutAuto
namespace Go.Proofs.YtokggifjcbkmnaaDoor
set_option maxRecDepth 100000
set_option linter.unusedVariables false
open Go.RowKit Tally
theorem below_dwK {a b : World} (h : Below a.heap.size a b) : Below a.heap.size a b.drew := h.trans ((below_drew' b).mono h.size)
theorem and1' : ∀ i : Nat, i < 256 → bits .and .i64 (i : Int) 1 = ((i % 2 : Nat) : Int) := by decide +kernel
/-- where the bits stand -/
def BAt (q n k : Nat) (L : List Int) : Prop := ∀ j, j < k → at0 L j = ((q / 2 ^ (n - 1 - j) % 2 : Nat) : Int)
theorem bAt_step {q n k : Nat} {L : List Int} {v : Int} (hk : k < L.length) (h : BAt q n k L) (hv : v = ((q / 2 ^ (n - 1 - k) % 2 : Nat) : Int)) : BAt q n (k + 1) (L.set k v) := by
  intro j hj
  by_cases e : j = k
  · subst e; rw [at0_set_self _ _ _ hk]; exact hv
  · rw [at0_set_ne _ _ _ _ (by omega)]; exact h j (by omega)
theorem bAt_end {q n : Nat} {L : List Int} (hl : L.length = n) (h : BAt q n n L) : L.map phi = bitsF q n := by
  refine atF_ext _ _ (by rw [List.length_map, bitsF_length]; exact hl) fun k hk => ?_
  rw [List.length_map] at hk
  rw [atF_map L k hk, h k (by omega), bitsF_at q n k (by omega)]
  have : q / 2 ^ (n - 1 - k) % 2 = 0 ∨ q / 2 ^ (n - 1 - k) % 2 = 1 := by omega
  rcases this with e | e <;> rw [e]
  · rw [if_neg (by decide)]; exact phi_zero
  · rw [if_pos rfl]; exact phi_one
set_option maxHeartbeats 4000000 in
theorem mleCorners_walk (w : World) (hT : Tab w) (v : Value) (a : List Int) (hp : RowU w v a) (v2 : Value) (p : List Int) (hp2 : RowU w v2 p) (k : Int) (hk : I64 k) (b : Int) (hb : I64 b) (x : Int) (hx : U64 x) :
    Calls Tryd.prog 3 #[v, v2, .int .i64 k, .int .i64 b, .int .u64 x] w fun e w' => e = .returned (.bool true) ∧ Below w.heap.size w w' := by
  have HT := Lib.hid hT
  have Hp := Lib.hid hp
  have Hp2 := Lib.hid hp2
  have Hk := Lib.hid hk
  have Hb := Lib.hid hb
  clear hT hp hp2 hk hb
  go_enter Tryd.func3, Tryd.ntmps3
  go_wp2_with (fail)
  refine (keep_between _ HT.out).mono ?_
  rintro e w1 ⟨rfl, hb1⟩
  have H1 := Lib.hid hb1
  clear hb1
  go_wp2_with (fail)
  refine (keep_table _ _ _ _ (Hp.out.step H1.out) Hk.out).mono ?_
  rintro e w3 ⟨rfl, hn3, hb3⟩
  obtain ⟨n, hn⟩ : ∃ n, n = (k % 5).toNat := ⟨_, rfl⟩
  rw [← hn] at hn3 ⊢
  have hn8 : n ≤ 4 := by omega
  clear hn
  obtain ⟨t, ht⟩ : ∃ t, t = padTo (2 ^ n) a := ⟨_, rfl⟩
  rw [← ht] at hn3
  have Ht := Lib.hid (show t.length = 2 ^ n by rw [ht, padTo_length])
  clear ht
  have Hn3 := Lib.hid hn3.row
  have H3 := Lib.hid (below_chain H1.out hb3)
  have hg3 := hb3.size
  clear hn3 hb3
  obtain ⟨g1, g2⟩ := pow_le8 (n := n) (by omega)
  generalize hN : 2 ^ n = N at *
  have HN := Lib.hid hN
  clear hN
  have hm0 : 0 ≤ b % (N : Int) := Int.emod_nonneg _ (by omega)
  have hm1 : b % (N : Int) < (N : Int) := Int.emod_lt_of_pos _ (by omega)
  go_wp2_with (fail)
  have cT : (w3.alloc (.cells #[.slice (some ⟨w1.heap.size, 0, none⟩) N N] 22)).cell? ⟨w3.heap.size, 0, none⟩ = some (.slice (some ⟨w1.heap.size, 0, none⟩) N N) := by
    rw [World.cell?_alloc_at _ _ _ _ rfl]; rfl
  have lT : w3.heap.size < (w3.alloc (.cells #[.slice (some ⟨w1.heap.size, 0, none⟩) N N] 22)).heap.size := by simp
  have H4 := Lib.hid (below_chain H3.out (below_alloc w3 (.cells #[.slice (some ⟨w1.heap.size, 0, none⟩) N N] 22)))
  have Hn4 := Lib.hid (Hn3.out.more (.cells #[.slice (some ⟨w1.heap.size, 0, none⟩) N N] 22))
  have gT : w.heap.size ≤ w3.heap.size := H3.out.size
  generalize w3.alloc (.cells #[.slice (some ⟨w1.heap.size, 0, none⟩) N N] 22) = w4 at *
  generalize w3.heap.size = ct at *
  generalize w1.heap.size = gt at *
  refine (ref_Vars t n _ _ Hn4.out (by rw [Ht.out, HN.out]) (by omega)).mono ?_
  rintro e w' ⟨rfl, rfl⟩
  go_wp2_with (fail)
  refine (ref_Rest b (N : Int) _ Hb.out (by omega) (by omega)).mono ?_
  rintro e w' ⟨rfl, rfl⟩
  obtain ⟨q, hq⟩ : ∃ q : Nat, b % (N : Int) = (q : Int) := ⟨(b % (N : Int)).toNat, by omega⟩
  rw [hq] at hm1 hm0 ⊢
  have hqN : q < N := by omega
  have hq256 : q < 256 := by omega
  clear hq hm0 hm1
  have HqN := Lib.hid hqN
  go_wp2_with (at_make; refine wpList_makeU _ rfl _ _ rfl _ _ n rfl rfl rfl rfl (by omega) ?_; intro w5 hn5 hb5)
  have H5 := Lib.hid (below_chain H4.out hb5)
  have H45 := Lib.hid hb5
  have Hlt4 := Lib.hid lT
  have g5 : w4.heap.size < w5.heap.size ∨ n = 0 := by
    by_cases h0 : n = 0
    · exact .inr h0
    · exact .inl hn5.blk.2
  have Hn5 := Lib.hid hn5
  clear hb5 hn5
  go_loopw [42] (fun i wr => ∃ (j : Nat) (L : List Int), j ≤ n ∧ i = .int .i64 (j : Int) ∧ Hid (NewU w4.heap.size wr (.slice (some ⟨w4.heap.size, 0, none⟩) n n) L) ∧ Hid (BAt q n j L) ∧ Hid (Below w4.heap.size w4 wr)) (fun i _ => n - (intOf i).toNat)
  case atStart => exact ⟨0, _, by omega, rfl, Hn5.out, fun j hj => absurd hj (by omega), H45.out⟩
  case round =>
    obtain ⟨j, L, hj, rfl, HL, HBA, HBr⟩ := hrel
    have HLl := Lib.hid HL.out.lenEq.symm
    by_cases hz : j < n
    · have hjL : j < L.length := by have := HLl.out; omega
      have hf := HL.out.freeAt j
      have hcj := HL.out.cellAt j hjL
      have hj1 : (j : Int) < (n : Int) := by omega
      have hs : (n : Int) - 1 - (j : Int) = ((n - 1 - j : Nat) : Int) := by omega
      have hd : (q : Int) / 2 ^ (n - 1 - j) = ((q / 2 ^ (n - 1 - j) : Nat) : Int) := by simp
      have hdl : q / 2 ^ (n - 1 - j) < 256 := Nat.lt_of_le_of_lt (Nat.div_le_self _ _) hq256
      have ha := and1' _ hdl
      have hst := Lib.hid (fun v => @bAt_step q n j L v hjL HBA.out)
      have hs0 : n - 1 - j ≤ 8 := by omega
      generalize n - 1 - j = s at *
      generalize q / 2 ^ s = m at *
      have hm2 : m % 2 < 2 := Nat.mod_lt _ (by decide)
      generalize m % 2 = z at *
      have uz : U64 (z : Int) := ⟨by omega, by omega⟩
      have hwz : IntKind.u64.wrap (z : Int) = (z : Int) := by rw [IntKind.wrap_u64]; omega
      clear hm2
      go_wp2
      go_roundw
      case rel => exact ⟨j + 1, _, by omega, by go_num, HL.out.set j _ uz, hst.out _ rfl, HBr.out.setCell (by exact Nat.le_refl _) _⟩
      case measure => simp [intOf]; omega
    · obtain rfl : j = n := by omega
      have Hbits := Lib.hid (bAt_end HLl.out HBA.out)
      have cTr := (HBr.out.cell (p := ⟨ct, 0, none⟩) Hlt4.out).trans cT
      have H6 := Lib.hid (H4.out.trans (HBr.out.mono H4.out.size))
      have Ht6 := Lib.hid (Hn4.out.below HBr.out (Nat.le_refl _))
      have HLr := Lib.hid HL.out.row
      have ltr : ct < wr.heap.size := by have := HBr.out.size; have := Hlt4.out; omega
      have He := Lib.hid (show psi (evalF (t.map phi) (L.map phi)) = psi (phi (at0 t q)) by
        rw [Hbits.out, eval_bits (t.map phi) q j (by rw [List.length_map, Ht.out, HN.out]) (by rw [HN.out]; exact hqN), atF_map t q (by rw [Ht.out]; exact hqN)])
      clear cT
      go_wp2_with (fail)
      refine (mle_Eval t L _ _ _ (HT.out.below H6.out) Ht6.out HLr.out (by rw [HLl.out, HN.out, Ht.out]) (by rw [HLl.out]; omega)).mono ?_
      rintro e w7 ⟨rfl, hb7⟩
      rw [He.out]
      have H7 := Lib.hid (below_chain H6.out hb7)
      have Ht7 := Lib.hid (Ht6.out.step hb7)
      have cT7 := (hb7.cell (p := ⟨ct, 0, none⟩) ltr).trans cTr
      have lt7 : ct < w7.heap.size := by have := hb7.size; omega
      obtain ⟨tk1, tk2, tk3⟩ := Ht7.out.known
      have hcq := tk3 q (by omega)
      have uq : U64 (at0 t q) := Ht7.out.1 _ (at0_mem (by omega))
      have hqi : (q : Int) < (N : Int) := by omega
      clear cTr hb7 tk1 tk2 tk3 ltr
      go_wp2_with (fail)
      refine (field_Norm _ _ uq).mono ?_
      rintro e w' ⟨rfl, rfl⟩
      clear hcq
      go_wp2_with (fail)
      refine (keep_point _ _ j _ (Hp2.out.step H7.out) (by omega)).mono ?_
      rintro e w8 ⟨rfl, hn8p, hb8⟩
      obtain ⟨qs, hqs⟩ : ∃ q, q = padTo j p := ⟨_, rfl⟩
      rw [← hqs] at hn8p
      have Hqs := Lib.hid (show qs.length = j by rw [hqs, padTo_length])
      clear hqs
      have Hq8 := Lib.hid hn8p.row
      have H8 := Lib.hid (below_chain H7.out hb8)
      have Ht8 := Lib.hid (Ht7.out.step hb8)
      have cT8 := (hb8.cell (p := ⟨ct, 0, none⟩) lt7).trans cT7
      have lt8 : ct < w8.heap.size := by have := hb8.size; omega
      have gq8 : j = 0 ∨ w7.heap.size < w8.heap.size := by
        by_cases h0 : j = 0
        · exact .inl h0
        · exact .inr hn8p.blk.2
      have g78 : w7.heap.size ≤ w8.heap.size := hb8.size
      clear hn8p hb8 cT7
      generalize w7.heap.size = gq at *
      go_wp2_with (fail)
      have cQ : (w8.alloc (.cells #[.slice (some ⟨gq, 0, none⟩) j j] 22)).cell? ⟨w8.heap.size, 0, none⟩ = some (.slice (some ⟨gq, 0, none⟩) j j) := by
        rw [World.cell?_alloc_at _ _ _ _ rfl]; rfl
      have lQ : w8.heap.size < (w8.alloc (.cells #[.slice (some ⟨gq, 0, none⟩) j j] 22)).heap.size := by simp
      have H9 := Lib.hid (below_chain H8.out (below_alloc w8 (.cells #[.slice (some ⟨gq, 0, none⟩) j j] 22)))
      have Ht9 := Lib.hid (Ht8.out.more (.cells #[.slice (some ⟨gq, 0, none⟩) j j] 22))
      have Hq9 := Lib.hid (Hq8.out.more (.cells #[.slice (some ⟨gq, 0, none⟩) j j] 22))
      have cT9 := ((below_alloc w8 (.cells #[.slice (some ⟨gq, 0, none⟩) j j] 22)).cell (p := ⟨ct, 0, none⟩) lt8).trans cT8
      have lt9 : ct < (w8.alloc (.cells #[.slice (some ⟨gq, 0, none⟩) j j] 22)).heap.size := by simp; omega
      clear cT8
      generalize w8.alloc (.cells #[.slice (some ⟨gq, 0, none⟩) j j] 22) = w9 at *
      generalize w8.heap.size = cq at *
      refine (mle_Eval t qs _ _ _ (HT.out.below H9.out) Ht9.out Hq9.out (by rw [Hqs.out, HN.out, Ht.out]) (by rw [Hqs.out]; omega)).mono ?_
      rintro e wa ⟨rfl, hba⟩
      have Ha := Lib.hid (below_chain H9.out hba)
      have Hta := Lib.hid (Ht9.out.step hba)
      have Hqa := Lib.hid (Hq9.out.step hba)
      have cTa := (hba.cell (p := ⟨ct, 0, none⟩) lt9).trans cT9
      have cQa := (hba.cell (p := ⟨cq, 0, none⟩) lQ).trans cQ
      have lta : ct < wa.heap.size := by have := hba.size; omega
      have lqa : cq < wa.heap.size := by have := hba.size; omega
      clear cT9 cQ hba lt9 lQ
      by_cases hj0 : j = 0
      · subst hj0
        obtain ⟨tk1, tk2, tk3⟩ := Hta.out.known
        have hN1 : N = 1 := by have := HN.out; simpa using this.symm
        have hc0 := tk3 0 (by omega)
        have u0 : U64 (at0 t 0) := Hta.out.1 _ (at0_mem (by omega))
        have Hev := Lib.hid (show psi (evalF (t.map phi) (qs.map phi)) = psi (phi (at0 t 0)) by
          have hq0 : qs = [] := List.eq_nil_of_length_eq_zero Hqs.out
          rw [hq0]; show psi (atF (t.map phi) 0) = _; rw [atF_map t 0 (by omega)])
        have h0N : (0 : Int) < (N : Int) := by omega
        rw [Hev.out]
        clear hN1 tk1 tk2 tk3
        go_wp2_with (first | (go_at_call 13; (with_reducible refine (field_Norm _ _ (by first | assumption | exact U64.psi _ | exact U64.zero | exact U64.one | exact U64.mk (by decide) (by decide))).mono ?_); rintro e w' ⟨rfl, rfl⟩))
        go_ret
        exact ⟨rfl, Ha.out⟩
      · have hz : ((j : Int) == 0) = false := beq_false_of_ne (by omega)
        obtain ⟨m, hm⟩ : ∃ m, j = m + 1 := ⟨j - 1, by omega⟩
        have hm3 : m ≤ 3 := by omega
        have hN8 : N ≤ 256 := g2
        have HT2 := Lib.hid (show t.length = 2 ^ (m + 1) by rw [Ht.out, ← HN.out, hm])
        obtain ⟨V, hV⟩ : ∃ V, V = psi (evalF (t.map phi) (qs.map phi)) := ⟨_, rfl⟩
        rw [← hV]
        obtain ⟨x0, hx0⟩ : ∃ x0, x0 = at0 qs 0 := ⟨_, rfl⟩
        obtain ⟨fl, hfl⟩ : ∃ fl, fl = (fixF (t.map phi) (phi x0)).map psi := ⟨_, rfl⟩
        obtain ⟨-, qk2, qk3⟩ := Hqa.out.known
        have hcq0 : wa.cell? ⟨gq, 0, none⟩ = some (.int .u64 x0) := by rw [hx0]; exact qk3 0 (by rw [Hqs.out]; omega)
        have ux0 : U64 x0 := by rw [hx0]; exact Hqa.out.1 _ (at0_mem (by rw [Hqs.out]; omega))
        have hqlt : gq < wa.heap.size := qk2 (by omega)
        have Hfll := Lib.hid (show fl.length = 2 ^ m by rw [hfl, List.length_map, fixF_length, List.length_map, HT2.out, Nat.pow_succ]; omega)
        have Htl := Lib.hid (show qs.tail.length = m by rw [List.length_tail, Hqs.out, hm]; omega)
        have HV := Lib.hid (show psi (evalF (fl.map phi) (qs.tail.map phi)) = V by
          rw [hV, hfl, mapphi_psi, hx0]
          cases hqc : qs with
          | nil => have := Hqs.out; rw [hqc] at this; simp at this; omega
          | cons y r => rfl)
        have h0j : (0 : Int) < (j : Int) := by omega
        have h1j : (1 : Int) ≤ (j : Int) := by omega
        have h0jn : 0 < j := by omega
        have CF := Lib.hid (fun X (hX : Below wa.heap.size wa X) => mle_Fix t m (.slice (some ⟨gt, 0, none⟩) N N) x0 X (HT.out.below (below_chain Ha.out hX)) (Hta.out.step hX) ux0 HT2.out (by omega))
        rw [← hfl] at CF
        have K9 := Lib.hid (show ∀ X, Below wa.heap.size wa X → Below wa.heap.size wa X ∧ X.cell? ⟨ct, 0, none⟩ = some (.slice (some ⟨gt, 0, none⟩) N N) ∧ X.cell? ⟨cq, 0, none⟩ = some (.slice (some ⟨gq, 0, none⟩) j j) ∧ X.cell? ⟨gq, 0, none⟩ = some (.int .u64 x0) from fun X hX =>
          ⟨hX, (hX.cell (p := ⟨ct, 0, none⟩) lta).trans cTa, (hX.cell (p := ⟨cq, 0, none⟩) lqa).trans cQa, (hX.cell (p := ⟨gq, 0, none⟩) hqlt).trans hcq0⟩)
        have Hm := Lib.hid hm
        clear hm hV hx0 hfl qk2 qk3 hcq0 cTa cQa ux0
        go_upto_region 19 with (fail)
        go_cut [21, 22] (fun y z wx => ∃ vf, y = vf ∧ z = .int .i64 0 ∧ Hid (RowU wx vf fl) ∧ Hid (Below wa.heap.size wa wx))
        case first =>
          have hd0 : Below wa.heap.size wa wa.drew := below_dwK (Below.refl _ _)
          go_region_held3 (fun w' => Below wa.heap.size wa w' ∧ w'.cell? ⟨ct, 0, none⟩ = some (.slice (some ⟨gt, 0, none⟩) N N) ∧ w'.cell? ⟨cq, 0, none⟩ = some (.slice (some ⟨gq, 0, none⟩) j j) ∧ w'.cell? ⟨gq, 0, none⟩ = some (.int .u64 x0))
            (first | exact K9.out _ hd0 | exact K9.out _ hdF)
            (first
              | (go_at_call 15; (with_reducible refine (CF.out wa.drew hd0).mono ?_); rintro e wf ⟨vf, rfl, hnf, hbF⟩; have Hnf := Lib.hid hnf.row; have hdF : Below wa.heap.size wa wf := below_chain hd0 hbF; clear hnf hbF))
          all_goals
            go_wp2_with (fail)
            go_meet
            case rel => exact ⟨vf, rfl, rfl, Hnf, Lib.hid hdF⟩
        case rest =>
          obtain ⟨vf, rfl, rfl, Hnf, HBf⟩ := hcut
          obtain ⟨wf, hwf⟩ : ∃ x : World, x = wc := ⟨_, rfl⟩
          subst hwf
          obtain ⟨-, cTf, cQf, -⟩ := K9.out wf HBf.out
          have Hqf := Lib.hid (Hqa.out.step HBf.out)
          have HTf := Lib.hid (HT.out.below (below_chain Ha.out HBf.out))
          have Hsub := Lib.hid (show Sub wf gq 0 qs from ⟨Hqf.out.1, Nat.lt_of_lt_of_le hqlt HBf.out.size, fun i hi => by rw [Nat.zero_add]; exact Hqf.out.known.2.2 i hi⟩)
          have CE := Lib.hid (show ∀ v2, RowU wf v2 qs.tail → Calls Tryd.prog 12 #[_, v2] wf fun e w' => e = .returned (.tuple #[.int .u64 V, .int .i64 0]) ∧ Below wf.heap.size wf w' from fun v2 h2 => by
            have := mle_Eval fl qs.tail _ v2 wf HTf.out Hnf.out h2 (by rw [Hfll.out, Htl.out]) (by rw [Htl.out]; omega)
            rwa [HV.out] at this)
          go_upto_region 20 with (fail)
          go_cut [23, 24] (fun y z wx => y = .int .u64 V ∧ z = .int .i64 0 ∧ Hid (Below wa.heap.size wa wx))
          case first =>
            by_cases h1 : j = 1
            · have Htn := Lib.hid (show ∀ o, RowU wf (.slice (some ⟨gq, o, none⟩) 0 0) qs.tail from fun o => by
                have e : qs.tail = [] := List.eq_nil_of_length_eq_zero (by rw [List.length_tail, Hqs.out, h1])
                rw [e]; exact ⟨by simp, by simp, _, 0, rfl, fun h => absurd h (by simp)⟩)
              subst h1
              go_wp2_with (fail)
              refine (CE.out _ (Htn.out _)).mono ?_
              rintro e wg ⟨rfl, hbg⟩
              go_wp2_with (fail)
              go_meet
              case rel => exact ⟨rfl, rfl, Lib.hid (below_chain HBf.out hbg)⟩
            · have Htr := Lib.hid ((Hsub.out.drop 1).row (j - 1) (j - 1) (by rw [List.length_drop, Hqs.out]) (by omega))
              rw [show 0 + 1 = 1 from rfl, List.drop_one] at Htr
              go_wp2_with (fail)
              refine (CE.out _ Htr.out).mono ?_
              rintro e wg ⟨rfl, hbg⟩
              go_wp2_with (fail)
              go_meet
              case rel => exact ⟨rfl, rfl, Lib.hid (below_chain HBf.out hbg)⟩
          case rest =>
            obtain ⟨rfl, rfl, HBg⟩ := hcut
            obtain ⟨wg, hwg⟩ : ∃ x : World, x = wc := ⟨_, rfl⟩
            subst hwg
            have Hg := Lib.hid (below_chain Ha.out HBg.out)
            have Htg := Lib.hid (Hta.out.step HBg.out); have Hqg := Lib.hid (Hqa.out.step HBg.out)
            obtain ⟨-, cTg, cQg, -⟩ := K9.out wg HBg.out
            have ltg : ct < wg.heap.size := Nat.lt_of_lt_of_le lta HBg.out.size
            have lqg : cq < wg.heap.size := Nat.lt_of_lt_of_le lqa HBg.out.size
            obtain ⟨i, hi⟩ : ∃ i : Nat, b % (j : Int) = (i : Int) := ⟨(b % (j : Int)).toNat, by have := Int.emod_nonneg b (show (j : Int) ≠ 0 by omega); omega⟩
            have hij : i < j := by have := Int.emod_lt_of_pos b h0j; omega
            have CRs := Lib.hid (ref_Rest b (j : Int) wg Hb.out (by omega) (by omega))
            rw [hi] at CRs
            clear hi K9 CE CF cTf cQf Hsub Hqf HTf HV Hnf HBf
            go_wp2_with (go_at_call 11; refine CRs.out.mono ?_; rintro e w' ⟨rfl, rfl⟩)
            obtain ⟨wh, hwh⟩ : ∃ wh, wh = wg.alloc (.cells #[.int .i64 (i : Int)] 3) := ⟨_, rfl⟩
            have cI : wh.cell? ⟨wg.heap.size, 0, none⟩ = some (.int .i64 i) := by rw [hwh, World.cell?_alloc_at _ _ _ _ rfl]; rfl
            have lI : wg.heap.size < wh.heap.size := by rw [hwh]; simp
            have bgh : Below wg.heap.size wg wh := by rw [hwh]; exact below_alloc _ _
            rw [← hwh]
            have Hh := Lib.hid (below_chain Hg.out bgh)
            have Hth := Lib.hid (Htg.out.step bgh); have Hqh := Lib.hid (Hqg.out.step bgh)
            have cTh := (bgh.cell (p := ⟨ct, 0, none⟩) ltg).trans cTg
            have cQh := (bgh.cell (p := ⟨cq, 0, none⟩) lqg).trans cQg
            have lth : ct < wh.heap.size := Nat.lt_of_lt_of_le ltg bgh.size
            have lqh : cq < wh.heap.size := Nat.lt_of_lt_of_le lqg bgh.size
            obtain ⟨ci, hci⟩ : ∃ ci, ci = wg.heap.size := ⟨_, rfl⟩
            rw [← hci] at cI lI ⊢
            have hlen : t.length = 2 ^ qs.length := by rw [Hqs.out, HN.out, Ht.out]
            have CV := Lib.hid (fun (z : Int) (hz : U64 z) X (hX : Below wh.heap.size wh X) => corn_value z hz t qs (.slice (some ⟨gt, 0, none⟩) N N) (.slice (some ⟨gq, 0, none⟩) j j) i cq ci ct X (HT.out.below (below_chain Hh.out hX)) (Hth.out.step hX) (Hqh.out.step hX) hlen (by rw [Hqs.out]; omega) (by rw [Hqs.out]; exact hij)
              ((hX.cell (p := ⟨cq, 0, none⟩) lqh).trans cQh) ((hX.cell (p := ⟨ci, 0, none⟩) lI).trans cI) ((hX.cell (p := ⟨ct, 0, none⟩) lth).trans cTh) (Nat.lt_of_lt_of_le lqh hX.size) (Nat.lt_of_lt_of_le lI hX.size) (Nat.lt_of_lt_of_le lth hX.size))
            obtain ⟨F0, hF0⟩ : ∃ F0, F0 = evalF (t.map phi) ((qs.map phi).set i 0) := ⟨_, rfl⟩
            obtain ⟨F1, hF1⟩ : ∃ F1, F1 = evalF (t.map phi) ((qs.map phi).set i 1) := ⟨_, rfl⟩
            obtain ⟨VX, hVX⟩ : ∃ VX, VX = psi (evalF (t.map phi) ((qs.map phi).set i (phi x))) := ⟨_, rfl⟩
            obtain ⟨V0, hV0⟩ : ∃ V0, V0 = psi F0 := ⟨_, rfl⟩
            obtain ⟨V1, hV1⟩ : ∃ V1, V1 = psi F1 := ⟨_, rfl⟩
            have CX := Lib.hid (fun X (hX : Below wh.heap.size wh X) => CV.out x hx X hX)
            have C0 := Lib.hid (fun X (hX : Below wh.heap.size wh X) => CV.out 0 U64.zero X hX)
            have C1 := Lib.hid (fun X (hX : Below wh.heap.size wh X) => CV.out 1 U64.one X hX)
            rw [← hVX] at CX
            rw [phi_zero, ← hF0, ← hV0] at C0
            rw [phi_one, ← hF1, ← hV1] at C1
            have u0 : U64 V0 := by rw [hV0]; exact U64.psi _
            have u1 : U64 V1 := by rw [hV1]; exact U64.psi _
            have Hfin := Lib.hid (show psi (phi V0 + phi (psi (phi x * phi (psi (phi V1 - phi V0))))) = VX by
              rw [hVX, hV0, hV1]
              simp only [phi_psi]
              rw [hF0, hF1]
              exact congrArg psi (straight (t.map phi) (qs.map phi) i (phi x) (by rw [List.length_map, Hqs.out]; exact hij) (by rw [List.length_map, List.length_map]; exact hlen)).symm)
            have CS := Lib.hid (fun X => field_Sub V1 V0 X u1 u0)
            have CM := Lib.hid (fun X => field_Mul x (psi (phi V1 - phi V0)) X hx (U64.psi _))
            have CA := Lib.hid (fun X => field_Add V0 (psi (phi x * phi (psi (phi V1 - phi V0)))) X u0 (U64.psi _))
            rw [Hfin.out] at CA
            obtain ⟨D1, hD1⟩ : ∃ D1, D1 = psi (phi V1 - phi V0) := ⟨_, rfl⟩
            rw [← hD1] at CS CM CA
            obtain ⟨D2, hD2⟩ : ∃ D2, D2 = psi (phi x * phi D1) := ⟨_, rfl⟩
            rw [← hD2] at CM CA
            clear hwh hci hF0 hF1 hVX hV0 hV1 hD1 hD2 CV hlen cI cTh cQh cTg cQg bgh Hfin u0 u1 Hm hz g1 g2 CRs
            refine (CX.out wh (Below.refl _ _)).mono ?_
            rintro e wi ⟨rfl, hbi⟩
            have Bi := Lib.hid hbi
            clear hbi
            go_wp2_with (fail)
            refine (C0.out wi Bi.out).mono ?_
            rintro e wj ⟨rfl, hbj⟩
            have Bj := Lib.hid (below_chain Bi.out hbj)
            clear hbj
            go_wp2_with (fail)
            refine (C1.out wj Bj.out).mono ?_
            rintro e wk ⟨rfl, hbk⟩
            have Bk := Lib.hid (below_chain Bj.out hbk)
            clear hbk
            go_wp2_with (fail)
            refine (C0.out wk Bk.out).mono ?_
            rintro e wl ⟨rfl, hbl⟩
            have Bl := Lib.hid (below_chain Bk.out hbl)
            clear hbl
            go_wp2_with (first
              | (go_at_call 20; refine (CS.out _).mono ?_; rintro e wz ⟨rfl, rfl⟩)
              | (go_at_call 19; refine (CM.out _).mono ?_; rintro e wz ⟨rfl, rfl⟩)
              | (go_at_call 18; refine (CA.out _).mono ?_; rintro e wz ⟨rfl, rfl⟩))
            go_ret
            exact ⟨by simp, below_chain Hh.out Bl.out⟩
end Go.Proofs.YtokggifjcbkmnaaDoor
