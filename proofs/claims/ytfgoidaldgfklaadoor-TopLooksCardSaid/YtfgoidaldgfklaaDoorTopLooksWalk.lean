/- The walk of the law TopLooks: it returns true, whatever is handed in. The table of bits lies as its initialiser lays it. -/
import Derived.Test.YtfgoidaldgfklaaDoorCloneT
import Derived.Test.YtfgoidaldgfklaaDoorTopS
import Derived.Deep.DeepCutAuto
namespace Go.Proofs.YtfgoidaldgfklaaDoor
set_option maxRecDepth 100000
set_option linter.unusedVariables false
open Go.RowKit Tally
theorem openI_reverse (t pt places : List Int) : openI t pt places.reverse = { openI t pt places with looks := (openI t pt places).looks.reverse } := by
  simp [openI, List.map_reverse]
theorem CloneK.isSlice {B : Nat} {w : World} {v : Value} {l : List Lk} (h : CloneK B w v l) : ∃ a c, v = .slice a l.length c := by
  obtain ⟨_, _, _, h3, _⟩ := h
  rcases h3.2 with ⟨rfl, h0⟩ | ⟨g, cap, cur, rfl, _⟩
  · exact ⟨none, 0, by rw [h0]⟩
  · exact ⟨_, cap, rfl⟩
theorem CloneK.keep {B : Nat} {w w' : World} {v : Value} {l : List Lk} (h : CloneK B w v l) (hb : Below B w w') (hk : ∀ g, v.ownBlock = some g → w'.heap[g]? = w.heap[g]?) : CloneK B w' v l := by
  obtain ⟨ds, h1, h2, h3, h4⟩ := h
  refine ⟨ds, h1, h2, ⟨h3.1, ?_⟩, fun W hW => h4 W (hb.trans hW)⟩
  rcases h3.2 with hn | ⟨g, cap, cur, rfl, hB, hg, rest⟩
  · exact Or.inl hn
  · exact Or.inr ⟨g, cap, cur, rfl, hB, (hk g rfl).trans hg, rest⟩
theorem CloneK.blk {B : Nat} {w : World} {v : Value} {l : List Lk} (h : CloneK B w v l) {g : Nat} (hg : v.ownBlock = some g) : g < w.heap.size ∧ ∃ cs, w.heap[g]? = some (.cells cs 43 (0, 0)) := by
  obtain ⟨ds, h1, h2, h3, h4⟩ := h
  rcases h3.2 with ⟨rfl, _⟩ | ⟨g', cap, cur, rfl, hB, hg', rest⟩
  · simp [Value.ownBlock] at hg
  · obtain rfl : g' = g := by simpa [Value.ownBlock] using hg
    exact ⟨(Array.getElem?_eq_some_iff.1 hg').1, cur, hg'⟩
theorem set3_blk {x : World} {tb : Nat} {cs : Array Value} {t : TypeId} (h : x.heap[tb]? = some (.cells cs t (0, 0))) (hs : cs.size = 3) (a b c : Value) :
    (((x.setCell ⟨tb, 0, none⟩ a).setCell ⟨tb, 1, none⟩ b).setCell ⟨tb, 2, none⟩ c).heap[tb]? = some (.cells #[a, b, c] t (0, 0)) := by
  rw [blk_setCell (blk_setCell (blk_setCell h 0 a) 1 b) 2 c]
  obtain ⟨l⟩ := cs
  match l, hs with
  | [_, _, _], _ => rfl
theorem set3_other {x : World} {tb k : Nat} (hk : k ≠ tb) (a b c : Value) : (((x.setCell ⟨tb, 0, none⟩ a).setCell ⟨tb, 1, none⟩ b).setCell ⟨tb, 2, none⟩ c).heap[k]? = x.heap[k]? := by
  rw [Below.heap_setCell _ _ _ _ hk, Below.heap_setCell _ _ _ _ hk, Below.heap_setCell _ _ _ _ hk]
theorem below_set3 {w x : World} (h : Below w.heap.size w x) (a b c : Value) : Below w.heap.size w (((x.setCell ⟨w.heap.size, 0, none⟩ a).setCell ⟨w.heap.size, 1, none⟩ b).setCell ⟨w.heap.size, 2, none⟩ c) :=
  ((h.setCell (p := ⟨w.heap.size, 0, none⟩) (Nat.le_refl _) a).setCell (p := ⟨w.heap.size, 1, none⟩) (Nat.le_refl _) b).setCell (p := ⟨w.heap.size, 2, none⟩) (Nat.le_refl _) c
theorem wrongB_reverse {places : List Int} {h : Int} (hw : wrongB places h = false) : wrongB places.reverse h = false := by
  obtain ⟨h1, h2⟩ := not_wrongB hw
  refine wrongB_of (by rw [List.length_reverse]; exact h1) fun i hi => ?_
  rw [List.length_reverse] at hi
  have := placesB_at h2 (show places.length - 1 - i < places.length by omega)
  rw [show at0 places.reverse i = at0 places (places.length - 1 - i) by simp [at0, List.getElem?_reverse hi]]
  exact this
set_option maxRecDepth 100000 in
set_option maxHeartbeats 8000000 in
theorem topLooks_walk (w : World) (hT : Tab w) (v : Value) (a : List Int) (ha : RowU w v a) (vp : Value) (p : List Int) (hp : RowU w vp p) (k : Int) (hk : I64 k) (vl : Value) (places : List Int) (hl : RowI w vl places) (hc : CapOk vl) :
    Calls Tryd.prog 4 #[v, vp, .int .i64 k, vl] w fun e w' => e = .returned (.bool true) ∧ Below w.heap.size w w' := by
  have HT := Lib.hid hT; have Ha := Lib.hid ha; have Hp := Lib.hid hp; have Hl := Lib.hid hl; have Hk := Lib.hid hk
  obtain ⟨-, hll, al, cl, rfl, hlc⟩ := hl
  obtain ⟨hcap, hcap2⟩ := hc _ _ _ rfl
  have Hlc := Lib.hid hlc
  obtain ⟨m, hm⟩ : ∃ m : Nat, k % 3 = (m : Int) := ⟨(k % 3).toNat, by omega⟩
  have hm2 : m ≤ 2 := by omega
  have hu3 : U64 3 := U64.mk (by decide) (by decide)
  clear hT ha hp hk hc hlc
  go_enter Tryd.func4, Tryd.ntmps4
  go_wp2_with (fail)
  refine (top_said _ HT.out).mono ?_
  rintro e w1 ⟨rfl, hb⟩
  have H1 := Lib.hid hb
  clear hb
  go_wp2_with (fail)
  refine (sponge_New 3 _ hu3).mono ?_
  rintro e w2 ⟨sb, rfl, -, -, hb2⟩
  have H2 := Lib.hid (below_chain H1.out hb2)
  clear hb2
  go_wp2_with (fail)
  refine (ref_Rest k 3 _ Hk.out (by omega) (by omega)).mono ?_
  rintro e w' ⟨rfl, rfl⟩
  rw [hm]
  clear hm
  go_wp2_with (fail)
  obtain ⟨N, hN⟩ : ∃ N, N = 2 ^ (m + 1) := ⟨_, rfl⟩
  obtain ⟨h, hh⟩ : ∃ h, h = 2 ^ m := ⟨_, rfl⟩
  have hNh : N = 2 * h := by rw [hN, hh, Nat.pow_succ]; omega
  obtain ⟨hh1, hh4⟩ : 1 ≤ h ∧ h ≤ 4 := by
    rw [hh]
    have h3 := Nat.pow_le_pow_right (show 1 ≤ 2 by decide) hm2
    exact ⟨Nat.pow_pos (by decide), h3⟩
  have hwN : wrap64 (2 * 2 ^ m) = (N : Int) := by
    have e : (2 : Int) ^ m = ((2 ^ m : Nat) : Int) := by simp
    rw [e, ← hh, hNh]
    unfold wrap64; omega
  rw [hwN]
  obtain ⟨t, ht⟩ : ∃ t, t = padTo N a := ⟨_, rfl⟩
  obtain ⟨q, hq⟩ : ∃ q, q = padTo (m + 1) p := ⟨_, rfl⟩
  have Htl := Lib.hid (show t.length = 2 ^ (m + 1) by rw [ht, padTo_length, hN])
  have Hql := Lib.hid (show q.length = m + 1 by rw [hq, padTo_length])
  have CT := Lib.hid (top_sized a v N w2 (Ha.out.step H2.out) (by omega))
  rw [← ht] at CT
  have Hh := Lib.hid hh
  have HNh := Lib.hid hNh
  clear hN hh hNh hwN ht
  refine CT.out.mono ?_
  rintro e w3 ⟨rfl, hn3, hb3⟩
  have H3 := Lib.hid (below_chain H2.out hb3)
  have Ht3 := Lib.hid hn3.row
  obtain ⟨vt, hvt⟩ : ∃ vt, vt = w2.heap.size := ⟨_, rfl⟩
  rw [← hvt] at Ht3 ⊢
  clear hn3 hb3 CT hvt
  go_wp2_with (fail)
  refine (ref_Vars t (m + 1) _ w3 Ht3.out Htl.out (by omega)).mono ?_
  rintro e w' ⟨rfl, rfl⟩
  have CP := Lib.hid (top_sized p vp (m + 1) w3 (Hp.out.step H3.out) (by omega))
  rw [← hq] at CP
  clear hq
  obtain ⟨M, hM⟩ : ∃ M : Nat, M = m + 1 := ⟨_, rfl⟩
  have HM := Lib.hid hM
  rw [← hM] at CP ⊢
  clear hM
  go_wp2_with (fail)
  refine CP.out.mono ?_
  rintro e w4 ⟨rfl, hn4, hb4⟩
  have H4 := Lib.hid (below_chain H3.out hb4)
  have Ht4 := Lib.hid (Ht3.out.step hb4)
  have Hq4 := Lib.hid hn4.row
  obtain ⟨vq, hvq⟩ : ∃ vq, vq = w3.heap.size := ⟨_, rfl⟩
  rw [← hvq] at Hq4 ⊢
  clear hn4 hb4 CP hvq
  obtain ⟨c6, hc6⟩ : ∃ c6, c6 = min 6 places.length := ⟨_, rfl⟩
  have hc6l : c6 ≤ 6 := by omega
  have hc6p : c6 ≤ places.length := by omega
  have hc6c : c6 ≤ cl := by omega
  have Hc6 := Lib.hid hc6
  clear hc6
  go_upto_region 6 with (fail)
  go_cut [43, 44, 45] (fun x y z wx => x = .slice al c6 cl ∧ y = .int .i64 (c6 : Int) ∧ z = .int .i64 0 ∧ w4 = wx)
  case first =>
    go_wp2_with (fail)
    go_meet
    case rel => exact ⟨by rw [show (min 6 (places.length : Int)).toNat = c6 by have := Hc6.out; omega], by rw [show max (min 6 (places.length : Int)) 0 = (c6 : Int) by have := Hc6.out; omega], rfl, rfl⟩
  case rest =>
    obtain ⟨rfl, rfl, rfl, rfl⟩ := hcut
    obtain ⟨LP, hLP⟩ : ∃ LP, LP = (List.range c6).map fun i => at0 places i % (h : Int) := ⟨_, rfl⟩
    have HLl := Lib.hid (show LP.length = c6 by rw [hLP]; simp)
    have HLa := Lib.hid (show ∀ i, i < c6 → at0 LP i = at0 places i % (h : Int) from fun i hi => by rw [hLP]; simp [at0, hi])
    clear hLP
    have hquo := Lib.hid (show wrap64 ((N : Int) / 2) = (h : Int) by have := HNh.out; rw [show (N : Int) / 2 = (h : Int) by omega]; unfold wrap64; omega)
    go_wp2_with (fail)
    go_loopw [11, 45] (fun lw iv wr => ∃ (j : Nat) (lv : Value), j ≤ c6 ∧ lv = lw ∧ iv = .int .i64 (j : Int) ∧ Hid (NewI w4.heap.size wr lv (LP.take j)) ∧ Hid (Below w4.heap.size w4 wr)) (fun _ iv _ => c6 - (intOf iv).toNat)
    case atStart => exact ⟨0, _, Nat.zero_le _, rfl, rfl, NewI.nil _ _, Below.refl _ _⟩
    case round =>
      obtain ⟨j, lv, hj, rfl, rfl, HI, HB⟩ := hrel
      have HBw := Lib.hid (show Below w.heap.size w wr from below_chain H4.out HB.out)
      by_cases hz : j < c6
      · have hj1 : (j : Int) < (c6 : Int) := by omega
        obtain ⟨bl, ol, har, hbl, hcl⟩ := Hlc.out (by omega)
        subst har
        obtain ⟨x, hx⟩ : ∃ x, x = at0 places j := ⟨_, rfl⟩
        have cx := (HBw.out.cell (p := ⟨bl, ol + j, none⟩) hbl).trans (hcl j (by omega))
        have ix : I64 x := by rw [hx]; exact Hl.out.1 _ (at0_mem (by omega))
        rw [← hx] at cx
        obtain ⟨y, hy⟩ : ∃ y, y = x % (h : Int) := ⟨_, rfl⟩
        have hy1 : 0 ≤ y ∧ y < (h : Int) := by rw [hy]; exact ⟨Int.emod_nonneg _ (by omega), Int.emod_lt_of_pos _ (by omega)⟩
        have HLs := Lib.hid (show LP.take (j + 1) = LP.take j ++ [y] by rw [take_snoc' _ _ (by rw [HLl.out]; exact hz), HLa.out j hz, hy, hx])
        have CR := Lib.hid (ref_Rest x (h : Int) wr ix (by omega) (by omega))
        rw [← hy] at CR
        have iy : I64 y := by unfold I64; omega
        have hcI : (LP.take j).length + 1 ≤ 1000000 := by rw [List.length_take]; omega
        have hsz := HB.out.size
        clear hx hy hcl
        go_wp2_with (first
          | (go_at_call 7; rw [hquo.out]; refine CR.out.mono ?_; rintro e wz ⟨rfl, rfl⟩)
          | (at_builtin; refine wpList_appI rfl _ _ rfl w4.heap.size lv _ rfl HI.out y rfl iy hcI hsz ?_; intro v5 w5 hn5 hb5; have HI5 := Lib.hid hn5; have HB5 := Lib.hid (HB.out.trans hb5); clear hn5 hb5))
        rw [← HLs.out] at HI5
        go_roundw
        case rel => exact ⟨j + 1, v5, by omega, rfl, by go_num, HI5.out, HB5.out⟩
        case measure => simp [intOf]; omega
      · obtain rfl : j = c6 := by omega
        rw [List.take_of_length_le (by rw [HLl.out]; exact Nat.le_refl _)] at HI
        obtain ⟨wv, hwv⟩ : ∃ x : World, x = wr := ⟨_, rfl⟩
        subst hwv
        have HL0 := Lib.hid HI.out.row
        have Ht5 := Lib.hid (Ht4.out.step HB.out)
        have Hq5 := Lib.hid (Hq4.out.step HB.out)
        have HwB : wrongB LP ((2 ^ m : Nat) : Int) = false := by
          refine wrongB_of (by rw [HLl.out]; omega) fun i hi => ?_
          rw [HLl.out] at hi
          rw [HLa.out i hi, ← Hh.out]
          exact ⟨Int.emod_nonneg _ (by omega), Int.emod_lt_of_pos _ (by omega)⟩
        obtain ⟨rt, hrt⟩ : ∃ rt, rt = psi (rootF t (m + 1)) := ⟨_, rfl⟩
        obtain ⟨O, hO⟩ : ∃ O, O = openI t q LP := ⟨_, rfl⟩
        have HOl := Lib.hid (show O.looks.length = j by rw [hO]; simp [openI, HLl.out])
        have CR := Lib.hid (fun v X (hX : Below w.heap.size w X) (hr : RowU X v t) => tree_Root t (m + 1) v X (HT.out.below hX) hr Htl.out (by omega))
        have CO := Lib.hid (fun v v2 v3 X (hX : Below w.heap.size w X) (hr : RowU X v t) (h2 : RowU X v2 q) (h3 : RowI X v3 LP) => open_OpenS t q LP m (by omega) Hql.out Htl.out HwB v v2 v3 X (HT.out.below hX) hr h2 h3)
        have CL := Lib.hid (fun v2 v3 v4 X (hX : Below w.heap.size w X) (h2 : RowU X v2 q) (h3 : RowI X v3 LP) (h4 : IsO X v4 (openI t q LP)) => look_right t q LP m (by omega) Hql.out Htl.out HwB v2 v3 v4 X (HT.out.below hX) h2 h3 h4)
        have CL2 := Lib.hid (fun v2 v3 v4 X (hX : Below w.heap.size w X) (h2 : RowU X v2 q) (h3 : RowI X v3 LP.reverse) (h4 : IsO X v4 { openI t q LP with looks := (openI t q LP).looks.reverse }) => look_right t q LP.reverse m (by omega) Hql.out Htl.out (wrongB_reverse HwB) v2 v3 v4 X (HT.out.below hX) h2 h3 (by rw [openI_reverse]; exact h4))
        rw [← hrt] at CR CL CL2; rw [← hO] at CO CL CL2
        obtain ⟨ail, cil, rfl⟩ := HI.out.isSlice
        rw [HLl.out] at HL0 HI ⊢
        clear hrt hO HwB
        go_wp2_with (fail)
        refine (CR.out _ wv HBw.out Ht5.out).mono ?_
        rintro e w6 ⟨rfl, hb6⟩
        have H6 := Lib.hid (below_chain HBw.out hb6); have Ht6 := Lib.hid (Ht5.out.step hb6); have Hq6 := Lib.hid (Hq5.out.step hb6); have HL6 := Lib.hid (HL0.out.go hb6); have HI6 := Lib.hid (HI.out.below hb6 (Nat.le_refl _))
        clear hb6 CR
        go_wp2_with (fail)
        refine (CO.out _ _ _ w6 H6.out Ht6.out Hq6.out HL6.out).mono ?_
        rintro e w7 ⟨vo, rfl, hF, hb7, hsp⟩
        have H7 := Lib.hid (below_chain H6.out hb7); have Hq7 := Lib.hid (Hq6.out.step hb7); have HL7 := Lib.hid (HL6.out.go hb7); have HI7 := Lib.hid (HI6.out.below hb7 (Nat.le_refl _))
        have HO7 := Lib.hid hF.now
        obtain ⟨ur, uk, rfl, uv, hr, hkk⟩ := hF.now
        have Hkk := Lib.hid hkk; have Hrr := Lib.hid hr
        obtain ⟨-, -, a1, c1, rfl, -⟩ := hr
        obtain ⟨-, a2, c2, rfl, -⟩ := hkk
        obtain ⟨_, _, a2', n2', c2', esp, hsp⟩ := hsp
        injection esp with esp
        have Hsp : Hid (a2 = none ∨ ∃ g, a2 = some ⟨g, 0, none⟩) := by
          have e3 : (Value.slice a2 O.looks.length c2) = .slice a2' n2' c2' := by
            have := congrArg (fun x : Array Value => x[2]?) esp
            simpa using this
          injection e3 with e3 _ _
          subst e3
          exact hsp
        clear hF hb7 CO hsp esp
        rw [HOl.out] at HO7 Hkk ⊢
        obtain ⟨V, hV⟩ : ∃ V, V = O.value := ⟨_, rfl⟩
        have HVe := Lib.hid hV
        rw [← hV] at HO7 uv ⊢
        clear hV
        go_wp2_with (fail)
        obtain ⟨W8, hW8, k0, k1, k2, B8, s8⟩ := copied3' w7 (.slice a1 O.roots.length c1) (.int .u64 V) (.slice a2 j c2) 26
        rw [hW8]
        have l8 : w7.heap.size < W8.heap.size := by omega
        have H8 := Lib.hid (below_chain H7.out B8); have Hq8 := Lib.hid (Hq7.out.step B8); have HL8 := Lib.hid (HL7.out.go B8); have HI8 := Lib.hid (HI7.out.below B8 (Nat.le_refl _)); have HO8 := Lib.hid (HO7.out.go B8); have Hk8 := Lib.hid (Hkk.out.go B8); have Hr8 := Lib.hid (Hrr.out.step B8)
        obtain ⟨nb, hnb⟩ : ∃ nb, nb = w7.heap.size := ⟨_, rfl⟩
        rw [← hnb] at k0 k1 k2 l8 ⊢
        have K8 := Lib.hid (show ∀ X, Below W8.heap.size W8 X → X.cell? ⟨nb, 0, none⟩ = some (.slice a1 O.roots.length c1) ∧ X.cell? ⟨nb, 1, none⟩ = some (.int .u64 V) ∧ X.cell? ⟨nb, 2, none⟩ = some (.slice a2 j c2) from fun X hX => ⟨(hX.cell (p := ⟨nb, 0, none⟩) l8).trans k0, (hX.cell (p := ⟨nb, 1, none⟩) l8).trans k1, (hX.cell (p := ⟨nb, 2, none⟩) l8).trans k2⟩)
        clear hW8 B8 s8 hnb k0 k1 k2
        refine (clone_I w4.heap.size _ LP W8 HI8.out).mono ?_
        rintro e w9 ⟨vb, rfl, hn9, hb9⟩
        have H9 := Lib.hid hb9
        have HN9 := Lib.hid hn9
        clear hn9 hb9
        go_wp2_with (fail)
        refine (reverse_I W8.heap.size vb LP w9 HN9.out).mono ?_
        rintro e w10 ⟨rfl, hr10, hb10⟩
        have H10 := Lib.hid (show Below W8.heap.size W8 w10 from H9.out.trans hb10)
        have HR10 := Lib.hid hr10
        clear hr10 hb10
        obtain ⟨x0, x1, x2⟩ := K8.out w10 H10.out
        obtain ⟨-, -, ab, cb, eb, -⟩ := HR10.out
        subst eb
        rw [List.length_reverse] at HR10 ⊢
        go_wp2_with (fail)
        have CK := Lib.hid (show ∀ X, Below w10.heap.size w10 X → Calls Tryd.prog 17 #[.slice a2 j c2] X fun e w' => ∃ v', e = .returned v' ∧ CloneK w10.heap.size w' v' O.looks ∧ Below X.heap.size X w' from fun X hX => by
          have := clone_K a2 c2 O.looks w10 X hX (by rw [HOl.out]; exact Hk8.out.go H10.out) Hsp.out (by rw [HOl.out]; omega)
          rwa [HOl.out] at this)
        have K10 := Lib.hid (show ∀ X, Below w10.heap.size w10 X → Below w10.heap.size w10 X ∧ X.cell? ⟨nb, 0, none⟩ = some (.slice a1 O.roots.length c1) ∧ X.cell? ⟨nb, 1, none⟩ = some (.int .u64 V) ∧ X.cell? ⟨nb, 2, none⟩ = some (.slice a2 j c2) from fun X hX => ⟨hX, K8.out X (H10.out.trans (hX.mono H10.out.size))⟩)
        go_cut [19] (fun x wx => ∃ (tb : Nat) (vk : Value), x = .pointer (some ⟨tb, 0, none⟩) ∧ Hid (Below w10.heap.size w10 wx ∧ w10.heap.size ≤ tb ∧ wx.heap[tb]? = some (.cells #[.slice a1 O.roots.length c1, .int .u64 V, vk] 26 (0, 0)) ∧ CloneK w10.heap.size wx vk O.looks))
        case first =>
          go_region_held3 (fun w' => Below w10.heap.size w10 w' ∧ w'.cell? ⟨nb, 0, none⟩ = some (.slice a1 O.roots.length c1) ∧ w'.cell? ⟨nb, 1, none⟩ = some (.int .u64 V) ∧ w'.cell? ⟨nb, 2, none⟩ = some (.slice a2 j c2))
            (first
              | (refine K10.out _ ?_; (with_reducible refine below_set3 ?_ _ _ _); (repeat (first | assumption | (with_reducible exact Below.refl _ _) | (with_reducible refine below_dw ?_) | (with_reducible refine below_al' ?_) | (with_reducible refine below_two ?_ (by assumption)))))
              | (refine K10.out _ ?_; (repeat (first | assumption | (with_reducible exact Below.refl _ _) | (with_reducible refine below_dw ?_) | (with_reducible refine below_al' ?_) | (with_reducible refine below_two ?_ (by assumption))))))
            (first
              | (go_at_call 17; (with_reducible refine (CK.out (w10.alloc (.cells #[.slice none 0 0, .int .u64 0, .slice none 0 0] 26)).drew ?_).mono ?_); ((repeat (first | assumption | (with_reducible exact Below.refl _ _) | (with_reducible refine below_dw ?_) | (with_reducible refine below_al' ?_) | (with_reducible refine below_two ?_ (by assumption))))); rintro e wv ⟨vk, rfl, hkv, hbv⟩; obtain ⟨ak, ck, rfl⟩ := hkv.isSlice; have Hblk := Lib.hid ((hbv.block w10.heap.size (by simp)).trans (alloc_blk w10 _)); have z0 := cell_blk Hblk.out 0; have z1 := cell_blk Hblk.out 1; have z2 := cell_blk Hblk.out 2; have f0 := free_blk Hblk.out 0; have f1 := free_blk Hblk.out 1; have f2 := free_blk Hblk.out 2)
              | (go_at_call 17; (refine (CK.out _ ?_).mono ?_); ((repeat (first | assumption | (with_reducible exact Below.refl _ _) | (with_reducible refine below_dw ?_) | (with_reducible refine below_al' ?_) | (with_reducible refine below_two ?_ (by assumption))))); rintro e wv ⟨vk, rfl, hkv, hbv⟩; obtain ⟨ak, ck, rfl⟩ := hkv.isSlice))
          · have hbw : Below w10.heap.size w10 wv := by (repeat (first | assumption | (with_reducible exact Below.refl _ _) | (with_reducible refine below_dw ?_) | (with_reducible refine below_al' ?_) | (with_reducible refine below_two ?_ (by assumption))))
            have hB := hkv.keep (w' := wv.alloc (.cells #[.slice a1 O.roots.length c1, .int .u64 V, .slice ak O.looks.length ck] 26)) ((Below.refl _ _).alloc hbw.size _) (fun g hg => Lib.alloc_old _ _ _ (hkv.blk hg).1)
            have HBB := Lib.hid hB
            have Hbw := Lib.hid hbw
            clear hB hbw
            go_wp2_with (fail)
            go_meet
            case rel => exact ⟨_, _, rfl, Hbw.out.alloc Hbw.out.size _, Hbw.out.size, alloc_blk _ _, HBB.out⟩
          · have hbw : Below w10.heap.size w10 wv := by (repeat (first | assumption | (with_reducible exact Below.refl _ _) | (with_reducible refine below_dw ?_) | (with_reducible refine below_al' ?_) | (with_reducible refine below_two ?_ (by assumption))))
            have hB := hkv.keep (w' := ((wv.setCell ⟨w10.heap.size, 0, none⟩ (.slice a1 O.roots.length c1)).setCell ⟨w10.heap.size, 1, none⟩ (.int .u64 V)).setCell ⟨w10.heap.size, 2, none⟩ (.slice ak O.looks.length ck)) ((((Below.refl _ wv).setCell (p := ⟨w10.heap.size, 0, none⟩) (Nat.le_refl _) _).setCell (p := ⟨w10.heap.size, 1, none⟩) (Nat.le_refl _) _).setCell (p := ⟨w10.heap.size, 2, none⟩) (Nat.le_refl _) _) (fun g hg => set3_other (fun e => by
              obtain ⟨_, cs, hcs⟩ := hkv.blk hg
              rw [e, Hblk.out] at hcs
              exact absurd hcs (by simp)) _ _ _)
            have HBB := Lib.hid hB
            have Hbw := Lib.hid hbw
            clear hB hbw
            go_wp2_with (fail)
            go_meet
            case rel => exact ⟨_, _, rfl, below_set3 Hbw.out _ _ _, Nat.le_refl _, set3_blk Hblk.out rfl _ _ _, HBB.out⟩
        case rest =>
          obtain ⟨tb, vk, rfl, HC⟩ := hcut
          obtain ⟨hbc, htb, hblk, hck⟩ := HC.out
          obtain ⟨ak, ck, rfl⟩ := hck.isSlice
          have HCK := Lib.hid hck
          have Hblk := Lib.hid hblk
          have Hbc := Lib.hid hbc
          have Htb := Lib.hid htb
          have y2 : wc.cell? ⟨tb, 2, none⟩ = some (.slice ak O.looks.length ck) := cell_blk hblk 2
          clear hbc htb hblk hck HC x0 x1 x2 K10 CK
          go_wp2_with (fail)
          refine (reverse_K w10.heap.size _ O.looks wc HCK.out).mono ?_
          rintro e w11 ⟨rfl, hrk, hb11, hoth⟩
          have HRK := Lib.hid hrk
          have H11 := Lib.hid (Hbc.out.trans hb11)
          have Hblk11 := Lib.hid ((hoth tb (fun e => by
            obtain ⟨_, cs, hcs⟩ := HCK.out.blk e
            rw [Hblk.out] at hcs
            exact absurd hcs (by simp))).trans Hblk.out)
          have hlt := (Array.getElem?_eq_some_iff.1 Hblk11.out).1
          have H811 := Lib.hid (show Below W8.heap.size W8 w11 from H10.out.trans (H11.out.mono H10.out.size))
          obtain ⟨x0, x1, x2⟩ := K8.out w11 H811.out
          clear hrk hb11 hoth y2
          go_wp2_with (fail)
          refine (CL.out _ _ _ w11 (below_chain H8.out H811.out) (Hq8.out.step H811.out) (HL8.out.go H811.out) (HO8.out.go H811.out)).mono ?_
          rintro e w12 ⟨rfl, hb12⟩
          have H12 := Lib.hid hb12
          have Hblk12 := Lib.hid ((hb12.block tb hlt).trans Hblk11.out)
          have y0 : w12.cell? ⟨tb, 0, none⟩ = some (.slice a1 O.roots.length c1) := cell_blk Hblk12.out 0
          have y1 : w12.cell? ⟨tb, 1, none⟩ = some (.int .u64 V) := cell_blk Hblk12.out 1
          have y2 : w12.cell? ⟨tb, 2, none⟩ = some (.slice ak O.looks.length ck) := cell_blk Hblk12.out 2
          have H1012 := Lib.hid (below_chain H11.out hb12)
          have H812 := Lib.hid (below_chain H811.out hb12)
          have HIO := Lib.hid (show IsO w12 (.agg #[.slice a1 O.roots.length c1, .int .u64 V, .slice ak O.looks.length ck]) { O with looks := O.looks.reverse } from ⟨_, _, by rw [HVe.out], by rw [← HVe.out]; exact uv, Hr8.out.step H812.out, HRK.out.go H12.out⟩)
          clear x0 x1 x2 hb12 CL hlt
          go_wp2_with (fail)
          refine (CL2.out _ _ _ w12 (below_chain H8.out H812.out) (Hq8.out.step H812.out) (HR10.out.go H1012.out) HIO.out).mono ?_
          rintro e w13 ⟨rfl, hb13⟩
          have H13 := Lib.hid (below_chain (below_chain H8.out H812.out) hb13)
          clear hb13 CL2 y0 y1 y2
          go_wp2_with (fail)
          go_ret
          exact ⟨rfl, H13.out⟩
end Go.Proofs.YtfgoidaldgfklaaDoor
