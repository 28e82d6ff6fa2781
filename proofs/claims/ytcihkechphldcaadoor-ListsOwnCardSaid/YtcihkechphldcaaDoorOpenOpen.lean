/- The walk of open.Open, where its words are right. There are 1 to 8 variables. The table of bits lies as its initialiser lays it. -/
import Derived.Test.YtcihkechphldcaaDoorOpenLookL
import Derived.Test.YtcihkechphldcaaDoorTabL
import Derived.Deep.DeepCutAuto
namespace Go.Proofs.YtcihkechphldcaaDoor
set_option maxRecDepth 100000
set_option linter.unusedVariables false
open Go.RowKit Tally
theorem one_blockO (w : World) (cs : Array Value) (t : Nat) : ∃ W, w.alloc (.cells cs t) = W ∧ W.heap[w.heap.size]? = some (.cells cs t (0, 0)) ∧ W.heap.size = w.heap.size + 1 ∧ Below w.heap.size w W :=
  ⟨_, rfl, alloc_blk w _, by simp, (Below.refl _ _).alloc (Nat.le_refl _) _⟩
/-- the tables of an opening -/
def tabsOf (t pt : List Int) : List (List Int) := (List.range pt.length).map (tabI t pt)
theorem lookT_tabs (t pt : List Int) (p : Nat) : lookT (tabsOf t pt) pt.length p = lookOf t pt p := by
  have e : ∀ k ∈ List.range pt.length, atl (tabsOf t pt) k = tabI t pt k := fun k hk => by
    have hk := List.mem_range.1 hk
    simp [atl, tabsOf, hk]
  unfold lookT lookOf
  congr 1
  · exact List.map_congr_left fun k hk => by rw [e k hk]; rfl
  · exact List.map_congr_left fun k hk => by rw [e k hk]; rfl
theorem tabI_succ (t pt : List Int) (k : Nat) (hk : k < pt.length) : (fixF ((tabI t pt k).map phi) (phi (at0 pt k))).map psi = tabI t pt (k + 1) := by
  rw [tabI_phi, ← tabF_succ t pt k hk]
  unfold tabI
  rw [if_neg (by omega)]
theorem take_snocG {α : Type} (l : List α) (k : Nat) (h : k < l.length) : l.take (k + 1) = l.take k ++ [l[k]] := by
  rw [List.take_add_one, List.getElem?_eq_getElem h]; rfl
theorem RowU.farOld {w W : World} {v : Value} {l : List Int} (h : RowU w v l) (hb : Below w.heap.size w W) {S : Nat → Prop} (hS : ∀ b, b < W.heap.size → S b → w.heap.size ≤ b) : Far S (fun W => RowU W v l) W := by
  obtain ⟨h1, h2, a, cap, rfl, h3⟩ := h
  intro w' hs hk
  refine ⟨h1, h2, a, cap, rfl, fun hl => ?_⟩
  obtain ⟨b, off, rfl, hlt, hc⟩ := h3 hl
  have hsz := hb.size
  have e : w'.heap[b]? = w.heap[b]? := (hk b (by omega) (fun e => by have := hS b (by omega) e; omega)).trans (hb.block b hlt)
  refine ⟨b, off, rfl, by omega, fun j hj => ?_⟩
  rw [← hc j hj]
  unfold World.cell?
  rw [e]
theorem not_wrongB {places : List Int} {half : Int} (h : wrongB places half = false) : places.length ≤ 32 ∧ placesB places half places.length = true := by
  unfold wrongB at h
  rw [Bool.or_eq_false_iff] at h
  exact ⟨by have := of_decide_eq_false h.1; omega, by simpa using h.2⟩
/-- v is an opening that reads as o; all its rows are its own -/
def OwnO (w : World) (v : Value) (o : Oi) : Prop := ∃ u u2, v = .agg #[u, .int .u64 o.value, u2] ∧ U64 o.value ∧ NewU 0 w u o.roots ∧ NewK 0 w u2 o.looks
theorem OwnO.is {w : World} {v : Value} {o : Oi} (h : OwnO w v o) : IsO w v o := by
  obtain ⟨u, u2, e, hv, h1, h2⟩ := h
  exact ⟨u, u2, e, hv, h1.row, h2.row⟩
/-- the looks' address has no spot -/
def Spotless (v : Value) : Prop := ∃ u x a n c, v = .agg #[u, x, .slice a n c] ∧ (a = none ∨ ∃ g, a = some ⟨g, 0, none⟩)
theorem NewK.isSlice2 {B : Nat} {w : World} {v : Value} {l : List Lk} (h : NewK B w v l) : ∃ a c, v = .slice a l.length c ∧ Hid (a = none ∨ ∃ g, a = some ⟨g, 0, none⟩) := by
  obtain ⟨_, us, _, h3, _⟩ := h
  rcases h3.2 with ⟨rfl, h0⟩ | ⟨g, cap, cur, rfl, _⟩
  · exact ⟨none, 0, by rw [h0], Or.inl rfl⟩
  · exact ⟨_, cap, rfl, Or.inr ⟨g, rfl⟩⟩
set_option maxRecDepth 100000 in
set_option maxHeartbeats 8000000 in
theorem open_OpenO (t pt places : List Int) (m : Nat) (h7 : m ≤ 7) (hpl : pt.length = m + 1) (htl : t.length = 2 ^ (m + 1)) (hwr : wrongB places ((2 ^ m : Nat) : Int) = false) (vt vp vl : Value) (w : World) (hT : Tab w) (ht : RowU w vt t) (hp : RowU w vp pt) (hl : RowI w vl places) :
    Calls Tryd.prog 17 #[vt, vp, vl] w fun e w' => ∃ v, e = .returned (.tuple #[v, .int .i64 0]) ∧ Far (fun b => b < w.heap.size) (fun W => OwnO W v (openI t pt places)) w' ∧ Below w.heap.size w w' ∧ Spotless v := by
  have HT := Lib.hid hT; have Ht := Lib.hid ht; have Hp := Lib.hid hp; have Hl := Lib.hid hl; have Hpl := Lib.hid hpl; have Htl := Lib.hid htl
  have hP := (not_wrongB hwr).2
  have h32 := (not_wrongB hwr).1
  have q2 := (pow_le8 (n := m) (by omega)).2
  have HP := Lib.hid (show ∀ i, i < places.length → ∃ p : Nat, at0 places i = (p : Int) ∧ p < 256 ∧ (at0 places i).toNat = p from fun i hi => by
    obtain ⟨h1, h2⟩ := placesB_at hP hi
    exact ⟨(at0 places i).toNat, by omega, by omega, rfl⟩)
  obtain ⟨RS, hRS⟩ : ∃ RS, RS = (openI t pt places).roots := ⟨_, rfl⟩
  obtain ⟨TL, hTL⟩ : ∃ TL, TL = tabsOf t pt := ⟨_, rfl⟩
  obtain ⟨LK, hLK⟩ : ∃ LK, LK = (openI t pt places).looks := ⟨_, rfl⟩
  obtain ⟨V, hV⟩ : ∃ V, V = (openI t pt places).value := ⟨_, rfl⟩
  have HO0 := Lib.hid (show openI t pt places = ⟨RS, V, LK⟩ by rw [hRS, hLK, hV])
  have HRl := Lib.hid (show RS.length = m + 1 by rw [hRS]; simp [openI, hpl])
  have HTLl := Lib.hid (show TL.length = m + 1 by rw [hTL]; simp [tabsOf, hpl])
  have HLKl := Lib.hid (show LK.length = places.length by rw [hLK]; simp [openI])
  have HRs := Lib.hid (show ∀ k, k < m + 1 → RS.take (k + 1) = RS.take k ++ [psi (rootF (tabI t pt (k + 1)) (m - k))] from fun k hk => by
    rw [take_snocG _ _ (by rw [HRl.out]; exact hk)]
    congr 2
    simp [hRS, openI, rootOf, hpl, show m + 1 - (k + 1) = m - k by omega])
  have HTs := Lib.hid (show ∀ k, k < m + 1 → TL.take (k + 1) = TL.take k ++ [tabI t pt k] from fun k hk => by
    rw [take_snocG _ _ (by rw [HTLl.out]; exact hk)]
    congr 2
    simp [hTL, tabsOf])
  have HLs := Lib.hid (show ∀ j p, j < places.length → (at0 places j).toNat = p → LK.take (j + 1) = LK.take j ++ [lookT TL (m + 1) p] from fun j p hj hp => by
    rw [take_snocG _ _ (by rw [HLKl.out]; exact hj)]
    congr 2
    rw [hTL, ← hpl, lookT_tabs, ← hp]
    simp [hLK, openI, at0, hj])
  have HTk := Lib.hid (show ∀ k, k < m + 1 → (fixF ((tabI t pt k).map phi) (phi (at0 pt k))).map psi = tabI t pt (k + 1) from fun k hk => tabI_succ t pt k (by omega))
  have HTn := Lib.hid (show ∀ k, k ≤ m + 1 → (tabI t pt k).length = 2 ^ (m + 1 - k) from fun k hk => by
    have := tabI_length t pt (by rw [hpl]; exact htl) k (by omega)
    rwa [hpl] at this)
  have HTa := Lib.hid (show ∀ k, k < m + 1 → atl TL k = tabI t pt k from fun k hk => by simp [hTL, atl, tabsOf, hpl, hk])
  have HV := Lib.hid (show V = at0 (tabI t pt (m + 1)) 0 by rw [hV, ← hpl]; rfl)
  have HV1 := Lib.hid (fun X (hX : Below w.heap.size w X) => mle_Vars t (m + 1) vt X (HT.out.below hX) (Ht.out.go hX) htl (by omega))
  have CW := Lib.hid (fun X (hX : Below w.heap.size w X) => show Calls Tryd.prog 44 #[vl, .int .i64 ((2 ^ m : Nat) : Int)] X fun e w' => e = .returned (.bool false) ∧ Below X.heap.size X w' from by
    have := open_wrong places ((2 ^ m : Nat) : Int) vl X (Hl.out.go hX)
    rwa [hwr] at this)
  obtain ⟨half, hh⟩ : ∃ half, half = 2 ^ m := ⟨_, rfl⟩
  obtain ⟨Ln, hLn⟩ : ∃ Ln, Ln = t.length := ⟨_, rfl⟩
  have hLh : Ln = 2 * half := by rw [hLn, htl, hh, Nat.pow_succ]; omega
  have HQ := Lib.hid (show wrap64 ((Ln : Int) / 2) = (half : Int) by
    rw [show (Ln : Int) / 2 = (half : Int) by omega]; unfold wrap64; rw [hh]; have := q2; omega)
  have hhalf : half ≤ 256 := by rw [hh]; exact q2
  rw [← hh] at CW
  clear hT htl hwr hP q2 hRS hTL hLK hV hh
  obtain ⟨M, hM⟩ : ∃ M : Nat, M = m + 1 := ⟨_, rfl⟩
  have hM1 : 1 ≤ M := by omega
  have hM8 : M ≤ 8 := by omega
  have hz0 : ((M : Int) == 0) = false := by rw [beq_eq_false_iff_ne]; omega
  have hz1 : ((M : Int) != (M : Int)) = false := by simp
  obtain ⟨-, -, at', ct, rfl, -⟩ := ht
  obtain ⟨hup, -, ap, cp, rfl, hrp⟩ := hp
  obtain ⟨bp, op', har, hbp, hcp⟩ := hrp (by omega)
  subst har
  obtain ⟨-, -, al, cl, rfl, -⟩ := hl
  have HM := Lib.hid hM
  rw [← hLn] at HV1 Ht ⊢
  have HUp := Lib.hid (show ∀ k, k < m + 1 → U64 (at0 pt k) from fun k hk => hup _ (at0_mem (by omega)))
  have HCp := Lib.hid (show ∀ k, k < m + 1 → w.cell? ⟨bp, op' + k, none⟩ = some (.int .u64 (at0 pt k)) from fun k hk => hcp k (by omega))
  clear hup hcp hrp
  rw [hpl]
  rw [← hM] at HUp HCp HV1 HRl HTLl HRs HTs HLs HTk HTn HTa HV Hpl Htl hpl ⊢
  clear hM hLn hLh
  obtain ⟨W1, hW1, b1, s1, B1⟩ := one_blockO w #[.slice none 0 0, .int .u64 0, .slice none 0 0] 42
  have HB1 := Lib.hid B1; have Hb1 := Lib.hid b1
  clear b1 B1
  go_enter Tryd.func17, Tryd.ntmps17
  go_wp2_with (fail)
  with_reducible refine (HV1.out W1 HB1.out).mono ?_
  rintro e w2 ⟨rfl, rfl⟩
  clear hW1
  go_wp2_with (fail)
  rw [HQ.out]
  with_reducible refine (CW.out W1 HB1.out).mono ?_
  rintro e w2 ⟨rfl, hb2⟩
  have HB2 := Lib.hid (HB1.out.trans (hb2.mono (show w.heap.size ≤ W1.heap.size by omega)))
  have Hb1' := Lib.hid ((hb2.block w.heap.size (by omega)).trans Hb1.out)
  obtain ⟨ob, hob⟩ : ∃ ob, ob = w2.heap.size := ⟨_, rfl⟩
  have hwob : w.heap.size < ob := by have := hb2.size; omega
  obtain ⟨W, hW, b2, s2, B2⟩ := one_blockO w2 #[.slice none 0 0, .int .u64 0, .slice none 0 0] 42
  rw [← hob] at b2 s2 B2
  have Hb2 := Lib.hid b2
  have HBW := Lib.hid (HB2.out.trans (B2.mono (Nat.le_of_lt hwob)))
  have Hrs := Lib.hid ((B2.block w.heap.size hwob).trans Hb1'.out)
  clear hb2 b2 B2 HQ HV1 CW hz0 hz1 s1 HB1 Hb1 HB2 Hb1'
  go_wp2_with (fail)
  rw [← hob]
  clear hob hW
  go_loopw [0, 11, 47] (fun xw lw iv wr => ∃ (k : Nat) (vr xv lv : Value), k ≤ M ∧ xv = xw ∧ lv = lw ∧ iv = .int .i64 (k : Int) ∧ Hid (wr.heap[ob]? = some (.cells #[vr, .int .u64 0, .slice none 0 0] 42 (0, 0))) ∧ Hid (NewU (ob + 1) wr vr (RS.take k)) ∧ Hid (NewTb w.heap.size vr.ownBlock (ob + 1) wr lv (TL.take k)) ∧ Hid (∀ g, vr.ownBlock = some g → lv.ownBlock ≠ some g) ∧ Hid (Far (fun b => (w.heap.size ≤ b ∧ b < ob + 1) ∨ lv.ownBlock = some b ∨ vr.ownBlock = some b) (fun W => RowU W xv (tabI t pt k)) wr) ∧ Hid (Below ob W wr)) (fun _ _ iv _ => M - (intOf iv).toNat)
  case atStart => exact ⟨0, _, _, _, by omega, rfl, rfl, rfl, Hb2.out, NewU.nil _ _, NewTb.nil _ _ _ _, (fun g h => by cases h), RowU.farOld Ht.out HBW.out (fun b _ e => by rcases e with e | e | e; exact e.1; cases e; cases e), Below.refl _ _⟩
  case round =>
    obtain ⟨k, vr, xv, lv, hk, rfl, rfl, rfl, HO, HR, HL, HA, HX, HB⟩ := hrel
    have HBw := Lib.hid (show Below w.heap.size w wr from HBW.out.trans (HB.out.mono (Nat.le_of_lt hwob)))
    by_cases hz : k < M
    · have hk1 : (k : Int) < (M : Int) := by omega
      obtain ⟨a, ha⟩ : ∃ a, M = k + a + 1 := ⟨M - k - 1, by omega⟩
      obtain ⟨x, hx⟩ : ∃ x, x = at0 pt k := ⟨_, rfl⟩
      obtain ⟨tk, htk⟩ : ∃ tk, tk = tabI t pt k := ⟨_, rfl⟩
      obtain ⟨tn, htn⟩ : ∃ tn, tn = tabI t pt (k + 1) := ⟨_, rfl⟩
      have hfx : (fixF (tk.map phi) (phi x)).map psi = tn := by rw [htk, hx, htn]; exact HTk.out k hz
      have hlk : tk.length = 2 ^ (a + 1) := by rw [htk, HTn.out k hk, show M - k = a + 1 by omega]
      have hln : tn.length = 2 ^ a := by rw [htn, HTn.out (k + 1) (by omega), show M - (k + 1) = a by omega]
      have ux : U64 x := by rw [hx]; exact HUp.out k hz
      obtain ⟨rt, hrt⟩ : ∃ rt, rt = psi (rootF tn a) := ⟨_, rfl⟩
      have urt : U64 rt := by rw [hrt]; exact U64.psi _
      have Hrs1 := Lib.hid (show RS.take (k + 1) = RS.take k ++ [rt] by rw [HRs.out k (by omega), hrt, htn]; rw [show m - k = a by have := HM.out; omega])
      have Hts1 := Lib.hid (show TL.take (k + 1) = TL.take k ++ [tk] by rw [HTs.out k (by omega), htk])
      have cvp := (HBw.out.cell (p := ⟨bp, op' + k, none⟩) hbp).trans (HCp.out k hz)
      rw [← hx] at cvp
      rw [← htk] at HX
      have Htn1 := Lib.hid htn
      obtain ⟨-, -, ax, cx, rfl, -⟩ := HX.out.now
      have CF := Lib.hid (fun Z (hZ : Below w.heap.size w Z) (hr : RowU Z (.slice ax tk.length cx) tk) => mle_Fix tk a _ x Z (HT.out.below hZ) hr ux hlk (by omega))
      rw [hfx] at CF
      have CR := Lib.hid (fun Z v5 (hZ : Below w.heap.size w Z) (hr : RowU Z v5 tn) => tree_Root tn a v5 Z (HT.out.below hZ) hr hln (by omega))
      rw [← hrt] at CR
      have hcT : (TL.take k).length + 1 ≤ 1000 := by rw [List.length_take]; omega
      have hcR : (RS.take k).length + 1 ≤ 17592186043904 := by rw [List.length_take]; omega
      have hob1 : ob + 1 ≤ wr.heap.size := blk_lt HO.out
      have hrlt := Lib.hid (fun g (hv : vr.ownBlock = some g) => HR.out.lt hv)
      have hllt := Lib.hid (fun g (hv : lv.ownBlock = some g) => HL.out.lt hv)
      obtain ⟨N1, hN1⟩ : ∃ N1, N1 = tk.length := ⟨_, rfl⟩
      rw [← hN1] at HX CF ⊢
      have hN := Lib.hid hN1
      clear hx htk htn hfx hlk hln hrt hN1 ha
      go_wp2_with (at_builtin; refine wpList_appTb rfl _ _ rfl w.heap.size vr.ownBlock (ob + 1) lv _ rfl HL.out (.slice ax N1 cx) tk HX.out rfl hcT hob1 ?_; intro v4 w4 hn4 hf4 hb4 hg4 hx4; have HL4 := Lib.hid hn4; have HX4 := Lib.hid hf4; have HO4 := Lib.hid ((hb4.block ob (Nat.lt_succ_self ob)).trans HO.out); have HR4 := Lib.hid (HR.out.grownOther hg4 (fun g hv e => HA.out g hv e)); have Hx4 := Lib.hid hx4; have HB4 := Lib.hid (HB.out.trans (hb4.mono (Nat.le_succ ob))); have hs4 := hg4.size; clear hn4 hf4 hb4 hg4 hx4)
      have HBw4 := Lib.hid (show Below w.heap.size w w4 from HBW.out.trans (HB4.out.mono (Nat.le_of_lt hwob)))
      have HA4 := Lib.hid (show ∀ g, vr.ownBlock = some g → v4.ownBlock ≠ some g from fun g hv e => by
        rcases Hx4.out with h | ⟨b, h, hb⟩
        · exact HA.out g hv (h.symm.trans e)
        · rw [e] at h; cases h; have := (hrlt.out g hv).2; omega)
      with_reducible refine (CF.out w4 HBw4.out HX4.out.now).mono ?_
      rintro e w5 ⟨v5, rfl, hn5, hb5⟩
      have HL5 := Lib.hid (HL4.out.go hb5); have HR5 := Lib.hid (HR4.out.below hb5 (Nat.le_refl _)); have HO5 := Lib.hid ((hb5.block ob (blk_lt HO4.out)).trans HO4.out)
      have HB5 := Lib.hid (HB4.out.trans (hb5.mono (Nat.le_of_lt (blk_lt HO4.out)))); have HBw5 := Lib.hid (below_two HBw4.out hb5); have Hn5 := Lib.hid hn5
      have hs5 := hb5.size
      clear hn5 hb5 CF
      go_wp2_with (fail)
      with_reducible refine (CR.out w5 v5 HBw5.out Hn5.out.row).mono ?_
      rintro e w6 ⟨rfl, hb6⟩
      have HL6 := Lib.hid (HL5.out.go hb6); have HR6 := Lib.hid (HR5.out.below hb6 (Nat.le_refl _)); have HO6 := Lib.hid ((hb6.block ob (blk_lt HO5.out)).trans HO5.out)
      have HB6 := Lib.hid (HB5.out.trans (hb6.mono (Nat.le_of_lt (blk_lt HO5.out)))); have HBw6 := Lib.hid (below_two HBw5.out hb6); have Hn6 := Lib.hid (Hn5.out.below hb6 (Nat.le_refl _))
      have hs6 := hb6.size
      have k6 : w6.cell? ⟨ob, 0, none⟩ = some vr := cell_blk HO6.out 0
      have hob6 : ob + 1 ≤ w6.heap.size := blk_lt HO6.out
      clear hb6 CR
      go_wp2_with (at_builtin; refine wpList_appUx rfl _ _ rfl (ob + 1) vr _ rfl HR6.out rt rfl urt hcR hob6 ?_; intro v7 w7 hn7 hb7 hg7 hx7; obtain ⟨a7, c7, rfl⟩ := hn7.isSlice; have HR7 := Lib.hid hn7; have Hx7 := Lib.hid hx7; have HL7 := Lib.hid (HL6.out.grownX hg7 (fun g hv e => HA4.out g e hv) hx7); have Hn7 := Lib.hid (Hn6.out.grownOther hg7 (fun g hv e => by have h1 := (Hn6.out.lt hv).1; have h2 := (hrlt.out g e).2; omega)); have hO7 := (hb7.block ob (Nat.lt_succ_self ob)).trans HO6.out; have k7 : w7.cell? ⟨ob, 0, none⟩ = some vr := cell_blk hO7 0; have f7 := free_blk hO7; have HB7 := Lib.hid (HB6.out.trans (hb7.mono (Nat.le_succ ob))); clear hn7 hb7 hg7 hx7)
      have hlr : Hid ((RS.take k ++ [rt]).length = min k RS.length + 1) := Lib.hid (by simp)
      rw [hlr.out] at HR7 Hx7 HL7
      obtain ⟨v8, hv8⟩ : ∃ v8, v8 = Value.slice a7 (min k RS.length + 1) c7 := ⟨_, rfl⟩
      rw [← hv8] at HR7 Hx7 HL7 ⊢
      have HO8 := Lib.hid (blk_setCell hO7 0 v8)
      have HR8 := Lib.hid (HR7.out.grownOther (grownBy_setCell w7 ob 0 v8) (fun g e h => by cases h; have := (HR7.out.lt e).1; omega))
      have HL8 := Lib.hid (HL7.out.low (Nat.le_of_lt hwob) (Nat.lt_succ_self ob) 0 v8)
      have hv4 := fun g (e : v4.ownBlock = some g) => HL4.out.lt e
      have HA8 := Lib.hid (show ∀ g, v8.ownBlock = some g → v4.ownBlock ≠ some g from fun g hv e => by
        rcases Hx7.out with h | ⟨b, h, hb⟩
        · exact HA4.out g (h.symm.trans hv) e
        · rw [hv] at h; cases h; have := (hv4 g e).2; omega)
      have Hn8 := Lib.hid (Hn7.out.grownOther (grownBy_setCell w7 ob 0 v8) (fun g e h => by cases h; have := (Hn7.out.lt e).1; omega))
      have HX8 := Lib.hid (Hn8.out.farRow (S := fun b => (w.heap.size ≤ b ∧ b < ob + 1) ∨ v4.ownBlock = some b ∨ v8.ownBlock = some b) (fun g e h => by
        have h1 := (Hn6.out.lt e).1
        have h2 := (Hn6.out.lt e).2
        rcases h with h | h | h
        · omega
        · have := (hv4 g h).2; omega
        · rcases Hx7.out with h' | ⟨b, h', hb⟩
          · have := (hrlt.out g (h'.symm.trans h)).2; omega
          · rw [h] at h'; cases h'; omega))
      rw [← Hrs1.out] at HR8; rw [← Hts1.out] at HL8; rw [Htn1.out] at HX8
      go_roundw
      case rel => exact ⟨k + 1, v8, v5, v4, by omega, rfl, rfl, by go_num, HO8.out, HR8.out, HL8.out, HA8.out, HX8.out, HB7.out.setCell (p := ⟨ob, 0, none⟩) (Nat.le_refl ob) v8⟩
      case measure => simp [intOf]; omega
    · obtain rfl : k = M := by omega
      have HX1 := HX.out.now
      have hl1 : (tabI t pt k).length = 1 := by rw [HTn.out k (Nat.le_refl _), Nat.sub_self]
      obtain ⟨tk, htk⟩ : ∃ tk, tk = tabI t pt k := ⟨_, rfl⟩
      rw [← htk] at HX1 hl1 HV
      obtain ⟨hut, -, ax, cx, rfl, hcx⟩ := HX1
      obtain ⟨bx, ox, har, hbx, hc0⟩ := hcx (by omega)
      subst har
      have uV : U64 V := by rw [HV.out]; exact hut _ (at0_mem (by omega))
      have cV := hc0 0 (by omega)
      rw [← HV.out] at cV
      have cV' : wr.cell? ⟨bx, ox, none⟩ = some (.int .u64 V) := cV
      rw [hl1]
      rw [List.take_of_length_le (by rw [HRl.out]; exact Nat.le_refl _)] at HR
      rw [List.take_of_length_le (by rw [HTLl.out]; exact Nat.le_refl _)] at HL
      have k1 : wr.cell? ⟨ob, 1, none⟩ = some _ := cell_blk HO.out 1
      have f1 := free_blk HO.out
      clear hut hcx hc0 htk hl1
      go_wp2_with (fail)
      have hOz := blk_setCell HO.out 1 (.int .u64 V)
      have HRz := Lib.hid (((HR.out.far (S := fun b => b < ob + 1) (fun g e h => by have := (HR.out.lt e).1; omega)).imp (Q' := fun W => NewU 0 W vr RS) (fun W h => h.mono (Nat.zero_le _))).set (b := ob) (Nat.lt_succ_self ob) 1 (.int .u64 V))
      have HLz := Lib.hid (HL.out.far.set (b := ob) ⟨Nat.le_of_lt hwob, Nat.lt_succ_self ob⟩ 1 (.int .u64 V))
      have HBz := Lib.hid (HB.out.setCell (p := ⟨ob, 1, none⟩) (Nat.le_refl ob) (.int .u64 V))
      obtain ⟨Z, hZ⟩ : ∃ Z, Z = wr.setCell ⟨ob, 1, none⟩ (.int .u64 V) := ⟨_, rfl⟩
      rw [← hZ] at hOz HRz HLz HBz ⊢
      have HOz := Lib.hid hOz
      have hzsz : ob + 1 ≤ Z.heap.size := blk_lt hOz
      have Hrz := Lib.hid ((HBz.out.block w.heap.size hwob).trans Hrs.out)
      have HBX := Lib.hid (show ∀ X, Z.grownBy X (some ob) → Below w.heap.size w X from fun X h => (HBW.out.trans (HBz.out.mono (Nat.le_of_lt hwob))).grown h (by omega) (fun g e => by cases e; omega))
      have HLX := Lib.hid (show ∀ X, Z.grownBy X (some ob) → RowUU X lv TL from fun X h => (HLz.out.grown h (fun g e _ => by cases e; exact ⟨Nat.le_of_lt hwob, Nat.lt_succ_self ob⟩)).now)
      have HTq := Lib.hid (show ∀ i, i < k → (atl TL i).length = 2 ^ (k - i) from fun i hi => by rw [HTa.out i hi]; exact HTn.out i (Nat.le_of_lt hi))
      obtain ⟨B1, hB1⟩ : ∃ B1, B1 = Z.heap.size := ⟨_, rfl⟩
      have HB1 := Lib.hid hB1
      have hobB : ob < B1 := by omega
      clear hZ HO HR HL HA HX HB HBw hOz k1 f1 cV cV' hB1 hbx
      clear wr
      go_loopw [79] (fun iv wr => ∃ (j : Nat) (vk : Value), j ≤ places.length ∧ iv = .int .i64 (j : Int) ∧ Hid (wr.heap[ob]? = some (.cells #[vr, .int .u64 V, vk] 42 (0, 0))) ∧ Hid (NewK B1 wr vk (LK.take j)) ∧ Hid (Z.grownBy wr (some ob))) (fun iv _ => places.length - (intOf iv).toNat)
      case atStart => exact ⟨0, _, Nat.zero_le _, rfl, HOz.out, NewK.nil _ _, gB_refl _ _⟩
      case round =>
        obtain ⟨j, vk, hj, rfl, HO, HK, HG⟩ := hrel
        by_cases hz : j < places.length
        · have hk1 : (j : Int) < (places.length : Int) := by omega
          obtain ⟨p, hp0, hp, hp1⟩ := HP.out j hz
          obtain ⟨-, -, a0, cap0, he0, hr0⟩ := Hl.out
          cases he0
          obtain ⟨bl, ol, har, hbl, hcl⟩ := hr0 (by omega)
          subst har
          have cl1 := ((HBX.out wr HG.out).cell (p := ⟨bl, ol + j, none⟩) hbl).trans (hcl j hz)
          rw [hp0] at cl1
          have Hls1 := Lib.hid (HLs.out j p hz hp1)
          have CL := Lib.hid (fun X (hX : Z.grownBy X (some ob)) => open_look TL k p hM1 hM8 hp HTLl.out HTq.out lv X (HT.out.below (HBX.out X hX)) (HLX.out X hX))
          obtain ⟨lk, hlk⟩ : ∃ lk, lk = lookT TL k p := ⟨_, rfl⟩
          rw [← hlk] at Hls1 CL
          have hcK : (LK.take j).length + 1 ≤ 1000 := by rw [List.length_take]; omega
          clear hlk hcl hr0 hp0 hp1
          have hob1 : ob + 1 ≤ wr.heap.size := blk_lt HO.out
          have hBz1 : B1 ≤ wr.heap.size := by rw [HB1.out]; exact HG.out.size
          have hvk := Lib.hid (fun g (e : vk.ownBlock = some g) => HK.out.lt e)
          have hdw := below_dwO wr
          have hS1 : Z.grownBy wr.drew (some ob) := grownBy_chainL HG.out (below_toGrownL hdw _)
          have HO1 := Lib.hid ((hdw.block ob (blk_lt HO.out)).trans HO.out)
          have HK1 := Lib.hid (HK.out.go hdw)
          have k1 : wr.drew.cell? ⟨ob, 2, none⟩ = some vk := cell_blk HO1.out 2
          clear hdw
          go_wp2
          go_region_law (first
              | (refine step_appK rfl _ _ (by rfl) B1 vk _ (by rfl) HK5.out _ _ lk Hf5.out (by rfl) hcK hB5 ?_; intro v7 w7 hn7 hg7; obtain ⟨a7, c7, rfl⟩ := hn7.isSlice; have HK7 := Lib.hid hn7; have hO7 := (hg7.block ob (Nat.lt_of_lt_of_le hob1 hsz5) (fun e => by have := (hvk.out ob e.symm).1; omega)).trans HO5.out; have HO7 := Lib.hid hO7; have hS7 : Z.grownBy w7 (some ob) := ⟨hg7.os.trans hS5.os, hg7.tape.trans hS5.tape, hg7.output.trans hS5.output, Nat.le_trans hS5.size hg7.size, fun i hi hr => (hg7.block i (Nat.lt_of_lt_of_le hi hS5.size) (fun e => by have := (hvk.out i e.symm).1; rw [HB1.out] at this; omega)).trans (hS5.block i hi hr)⟩; have k7 : w7.cell? ⟨ob, 2, none⟩ = some vk := cell_blk hO7 2; have f7 := free_blk hO7; have hS8 : ∀ x, Z.grownBy (w7.setCell ⟨ob, 2, none⟩ x) (some ob) := fun x => grownBy_chainL hS7 (grownBy_setCell w7 ob 2 x); clear hn7 hg7 hO7)
              | (go_simp; go_at_call 45; (with_reducible refine (CL.out _ hS1).mono ?_); rintro e w5 ⟨va, vb, rfl, hf5, hb5⟩; obtain ⟨a5, c5, rfl⟩ := hf5.now.1.isSlice; obtain ⟨a6, c6, rfl⟩ := hf5.now.2.isSlice; have hS5 : Z.grownBy w5 (some ob) := grownBy_chainL hS1 (below_toGrownL hb5 _); have hO5 := (hb5.block ob hob1).trans HO1.out; have HO5 := Lib.hid hO5; have HK5 := Lib.hid (HK1.out.go hb5); have hsz5 := hb5.size; have Hf5 := Lib.hid (hf5.less (S' := fun b => b < B1 ∨ vk.ownBlock = some b) (fun b _ e => by have hw : wr.drew.heap.size = wr.heap.size := rfl; show b < wr.drew.heap.size; rcases e with e | e; omega; have := (hvk.out b e).2; omega)); have hB5 : B1 ≤ w5.heap.size := Nat.le_trans hBz1 hsz5; have k5 : w5.cell? ⟨ob, 2, none⟩ = some vk := cell_blk hO5 2; have k5c : ∀ o, (w5.alloc o).cell? ⟨ob, 2, none⟩ = some vk := fun o => (World.cell?_alloc_some w5 ⟨ob, 2, none⟩ o (by rw [k5]; rfl)).trans k5; have hS5a : ∀ o, Z.grownBy (w5.alloc o) (some ob) := fun o => grownBy_chainL hS5 (World.grownBy_alloc _ _ _); clear hf5 hb5 hO5))
          all_goals
            have el : (LK.take j ++ [lk]).length = min j LK.length + 1 := by simp
            rw [el] at HK7
            obtain ⟨v8, hv8⟩ : ∃ v8, v8 = Value.slice a7 (min j LK.length + 1) c7 := ⟨_, rfl⟩
            rw [← hv8] at HK7 ⊢
            have HO8 := Lib.hid (blk_setCell HO7.out 2 v8)
            have HK8 := Lib.hid (HK7.out.grownOther (grownBy_setCell w7 ob 2 v8) (fun g e => by cases e; exact hobB))
            have HG8 := Lib.hid (hS8 v8)
            rw [← Hls1.out] at HK8
            clear hS1 hS5 hS5a hS7 hS8 k5 k5c k7 f7 k1 HK7 HO7 HK5 HO5 HK1 HO1 Hf5 el hv8
            go_wp2_with (fail)
            go_roundw
            case rel => exact ⟨j + 1, v8, by omega, by go_num, HO8.out, HK8.out, HG8.out⟩
            case measure => simp [intOf]; omega
        · obtain rfl : j = places.length := by omega
          rw [List.take_of_length_le (by rw [HLKl.out]; exact Nat.le_refl _)] at HK
          have c0 : wr.cell? ⟨ob, 0, none⟩ = some vr := cell_blk HO.out 0
          have c1 : wr.cell? ⟨ob, 1, none⟩ = some (.int .u64 V) := cell_blk HO.out 1
          have c2 : wr.cell? ⟨ob, 2, none⟩ = some vk := cell_blk HO.out 2
          have hrs := (HG.out.block w.heap.size (by omega) (fun e => by cases e; omega)).trans Hrz.out
          have z0 : wr.cell? ⟨w.heap.size, 0, none⟩ = some _ := cell_blk hrs 0
          have z1 : wr.cell? ⟨w.heap.size, 1, none⟩ = some _ := cell_blk hrs 1
          have z2 : wr.cell? ⟨w.heap.size, 2, none⟩ = some _ := cell_blk hrs 2
          have ff := free_blk hrs
          obtain ⟨a8, c8, rfl⟩ := HRz.out.now.isSlice
          obtain ⟨a9, c9, rfl, Ha9⟩ := HK.out.isSlice2
          go_wp2_with (fail)
          have hbk := blk_setCell (blk_setCell (blk_setCell hrs 0 (.slice a8 RS.length c8)) 1 (.int .u64 V)) 2 (.slice a9 LK.length c9)
          have hbz := (((HBX.out wr HG.out).setCell (p := ⟨w.heap.size, 0, none⟩) (Nat.le_refl _) (.slice a8 RS.length c8)).setCell (p := ⟨w.heap.size, 1, none⟩) (Nat.le_refl _) (.int .u64 V)).setCell (p := ⟨w.heap.size, 2, none⟩) (Nat.le_refl _) (.slice a9 LK.length c9)
          have hwB : w.heap.size < B1 := by omega
          have hfar := ((((((HRz.out.grown HG.out (fun g e _ => by cases e; exact Nat.lt_succ_self ob)).less (S' := fun b => b < w.heap.size + 1) (fun b _ e => by have e' : b < w.heap.size + 1 := e; show b < ob + 1; omega)).and (HK.out.far0.less (S' := fun b => b < w.heap.size + 1) (fun b _ e => by have e' : b < w.heap.size + 1 := e; show b < B1; omega))).set (b := w.heap.size) (Nat.lt_succ_self _) 0 (.slice a8 RS.length c8)).set (b := w.heap.size) (Nat.lt_succ_self _) 1 (.int .u64 V)).set (b := w.heap.size) (Nat.lt_succ_self _) 2 (.slice a9 LK.length c9)).less (S' := fun b => b < w.heap.size) (fun b _ e => Nat.lt_succ_of_lt e)
          generalize (((wr.setCell ⟨w.heap.size, 0, none⟩ (.slice a8 RS.length c8)).setCell ⟨w.heap.size, 1, none⟩ (.int .u64 V)).setCell ⟨w.heap.size, 2, none⟩ (.slice a9 LK.length c9)) = wz at *
          have d0 : wz.cell? ⟨w.heap.size, 0, none⟩ = some (.slice a8 RS.length c8) := cell_blk hbk 0
          have d1 : wz.cell? ⟨w.heap.size, 1, none⟩ = some (.int .u64 V) := cell_blk hbk 1
          have d2 : wz.cell? ⟨w.heap.size, 2, none⟩ = some (.slice a9 LK.length c9) := cell_blk hbk 2
          exact bodyPost_ret (v := .tuple #[.agg #[.slice a8 RS.length c8, .int .u64 V, .slice a9 LK.length c9], .int .i64 0]) (by simp [results, Tryd.results17, go_sem, d0, d1, d2]) rfl ⟨_, rfl, by rw [HO0.out]; exact hfar.imp fun W h => ⟨_, _, rfl, uV, h.1, h.2⟩, hbz, ⟨_, _, _, _, _, rfl, Ha9.out⟩⟩
theorem open_OpenS (t pt places : List Int) (m : Nat) (h7 : m ≤ 7) (hpl : pt.length = m + 1) (htl : t.length = 2 ^ (m + 1)) (hwr : wrongB places ((2 ^ m : Nat) : Int) = false) (vt vp vl : Value) (w : World) (hT : Tab w) (ht : RowU w vt t) (hp : RowU w vp pt) (hl : RowI w vl places) :
    Calls Tryd.prog 17 #[vt, vp, vl] w fun e w' => ∃ v, e = .returned (.tuple #[v, .int .i64 0]) ∧ Far (fun b => b < w.heap.size) (fun W => IsO W v (openI t pt places)) w' ∧ Below w.heap.size w w' ∧ Spotless v :=
  (open_OpenO t pt places m h7 hpl htl hwr vt vp vl w hT ht hp hl).mono fun _ _ ⟨v, he, hf, hb⟩ => ⟨v, he, hf.imp fun _ h => h.is, hb⟩
theorem open_Open (t pt places : List Int) (m : Nat) (h7 : m ≤ 7) (hpl : pt.length = m + 1) (htl : t.length = 2 ^ (m + 1)) (hwr : wrongB places ((2 ^ m : Nat) : Int) = false) (vt vp vl : Value) (w : World) (hT : Tab w) (ht : RowU w vt t) (hp : RowU w vp pt) (hl : RowI w vl places) :
    Calls Tryd.prog 17 #[vt, vp, vl] w fun e w' => ∃ v, e = .returned (.tuple #[v, .int .i64 0]) ∧ Far (fun b => b < w.heap.size) (fun W => IsO W v (openI t pt places)) w' ∧ Below w.heap.size w w' :=
  (open_OpenS t pt places m h7 hpl htl hwr vt vp vl w hT ht hp hl).mono fun _ _ ⟨v, he, hf, hb, _⟩ => ⟨v, he, hf, hb⟩
end Go.Proofs.YtcihkechphldcaaDoor
