/- The walk of the reference's Opened. There are 1 to 8 variables, the form is right. -/
import Derived.Test.YtokggifjcbkmnaaDoorOpenOpen
import Derived.Test.YtokggifjcbkmnaaDoorTabC
import Derived.Test.YtokggifjcbkmnaaDoorRTree
import Derived.Test.YtokggifjcbkmnaaDoorRMle
import Derived.Deep.RegionHeld3
import Derived.Deep.DeepCutAuto
import Derived.Deep.CutBlock
namespace Go.Proofs.YtokggifjcbkmnaaDoor
set_option maxRecDepth 100000
set_option linter.unusedVariables false
open Go.RowKit Tally
theorem rootR_F (t : List Int) (n : Nat) (h : t.length = 2 ^ n) : rootR pairF n (t.map phi) = rootF t n := (root_eq pairF n _ (by rw [List.length_map]; exact h)).symm
theorem pathR_F (t : List Int) (n i : Nat) (h : t.length = 2 ^ n) (hi : i < 2 ^ n) : pathR pairF n (t.map phi) i = pathF t n i := (path_eq pairF n _ i (by rw [List.length_map]; exact h) hi).symm
theorem below_dwR {a b : World} (h : Below a.heap.size a b) : Below a.heap.size a b.drew := h.trans ((below_dwO b).mono h.size)
theorem below_alR {a b : World} (h : Below a.heap.size a b) (o : Obj) : Below a.heap.size a (b.alloc o) := h.trans ((below_alloc b o).mono h.size)
theorem RowU.farOldC {w W : World} {v : Value} {l : List Int} (h : RowU w v l) (hc : CapOk v) (hb : Below w.heap.size w W) {S : Nat → Prop} (hS : ∀ b, b < W.heap.size → S b → w.heap.size ≤ b) : Far S (fun W => RowU W v l ∧ CapOk v) W :=
  (RowU.farOld h hb hS).imp fun _ h => ⟨h, hc⟩
theorem far_paths {S : Nat → Prop} {B : Nat} {X : World} {va vb : Value} {l1 l2 : List Int} (h1 : NewU B X va l1) (h2 : NewU B X vb l2) (hS : ∀ g, S g → g < B) : Far S (fun w => (RowU w va l1 ∧ CapOk va) ∧ RowU w vb l2 ∧ CapOk vb) X :=
  ((h1.farRow fun g e h => by have := (h1.lt e).1; have := hS g h; omega).imp fun _ h => ⟨h, h1.cap⟩).and ((h2.farRow fun g e h => by have := (h2.lt e).1; have := hS g h; omega).imp fun _ h => ⟨h, h2.cap⟩)
set_option maxRecDepth 100000 in
set_option maxHeartbeats 8000000 in
theorem ref_Opened (t pt places : List Int) (m : Nat) (h7 : m ≤ 7) (hpl : pt.length = m + 1) (htl : t.length = 2 ^ (m + 1)) (hwr : wrongB places ((2 ^ m : Nat) : Int) = false) (vt vp vl : Value) (w : World) (ht : RowU w vt t) (htc : CapOk vt) (hp : RowU w vp pt) (hl : RowI w vl places) :
    Calls Tryd.prog 24 #[vt, vp, vl] w fun e w' => ∃ v, e = .returned v ∧ Far (fun b => b < w.heap.size) (fun W => IsO W v (openI t pt places)) w' ∧ Below w.heap.size w w' := by
  have Ht := Lib.hid ht; have Hp := Lib.hid hp; have Hl := Lib.hid hl; have Hpl := Lib.hid hpl; have Htl := Lib.hid htl; have Htc := Lib.hid htc
  have hP := (not_wrongB hwr).2
  have h32 := (not_wrongB hwr).1
  have q2 := (pow_le8 (n := m) (by omega)).2
  have HP := Lib.hid (show ∀ i, i < places.length → ∃ p : Nat, at0 places i = (p : Int) ∧ p < 256 ∧ (at0 places i).toNat = p from fun i hi => by
    obtain ⟨h1, h2⟩ := placesB_at hP hi
    exact ⟨(at0 places i).toNat, by omega, by omega, rfl⟩)
  obtain ⟨RS, hRS⟩ : ∃ RS, RS = (openI t pt places).roots := ⟨_, rfl⟩
  obtain ⟨TL, hTL⟩ : ∃ TL, TL = tabsOf t pt := ⟨_, rfl⟩
  obtain ⟨LK, hLK⟩ : ∃ LK, LK = (openI t pt places).looks := ⟨_, rfl⟩
  obtain ⟨V, hV⟩ : ∃ V, V = (openI t pt places).value := ⟨_, rfl⟩
  have HO0 := Lib.hid (show openI t pt places = ⟨RS, V, LK⟩ by rw [hRS, hLK, hV])
  have HRl := Lib.hid (show RS.length = m + 1 by rw [hRS]; simp [openI, hpl])
  have HTLl := Lib.hid (show TL.length = m + 1 by rw [hTL]; simp [tabsOf, hpl])
  have HLKl := Lib.hid (show LK.length = places.length by rw [hLK]; simp [openI])
  have HRs := Lib.hid (show ∀ k, k < m + 1 → RS.take (k + 1) = RS.take k ++ [psi (rootF (tabI t pt (k + 1)) (m - k))] from fun k hk => by
    rw [take_snocG _ _ (by rw [HRl.out]; exact hk)]
    congr 2
    simp [hRS, openI, rootOf, hpl, show m + 1 - (k + 1) = m - k by omega])
  have HTs := Lib.hid (show ∀ k, k < m + 1 → TL.take (k + 1) = TL.take k ++ [tabI t pt k] from fun k hk => by
    rw [take_snocG _ _ (by rw [HTLl.out]; exact hk)]
    congr 2
    simp [hTL, tabsOf])
  have HLs := Lib.hid (show ∀ j p, j < places.length → (at0 places j).toNat = p → LK.take (j + 1) = LK.take j ++ [lookT TL (m + 1) p] from fun j p hj hp => by
    rw [take_snocG _ _ (by rw [HLKl.out]; exact hj)]
    congr 2
    rw [hTL, ← hpl, lookT_tabs, ← hp]
    simp [hLK, openI, at0, hj])
  have HTk := Lib.hid (show ∀ k, k < m + 1 → (fixF ((tabI t pt k).map phi) (phi (at0 pt k))).map psi = tabI t pt (k + 1) from fun k hk => tabI_succ t pt k (by omega))
  have HTn := Lib.hid (show ∀ k, k ≤ m + 1 → (tabI t pt k).length = 2 ^ (m + 1 - k) from fun k hk => by
    have := tabI_length t pt (by rw [hpl]; exact htl) k (by omega)
    rwa [hpl] at this)
  have HTa := Lib.hid (show ∀ k, k < m + 1 → atl TL k = tabI t pt k from fun k hk => by simp [hTL, atl, tabsOf, hpl, hk])
  have HV := Lib.hid (show V = at0 (tabI t pt (m + 1)) 0 by rw [hV, ← hpl]; rfl)
  clear htl hwr hP q2 hRS hTL hLK hV htc
  obtain ⟨M, hM⟩ : ∃ M : Nat, M = m + 1 := ⟨_, rfl⟩
  have hM1 : 1 ≤ M := by omega
  have hM8 : M ≤ 8 := by omega
  obtain ⟨-, -, at', ct, rfl, -⟩ := ht
  obtain ⟨hup, -, ap, cp, rfl, hrp⟩ := hp
  obtain ⟨bp, op', har, hbp, hcp⟩ := hrp (by omega)
  subst har
  obtain ⟨-, -, al, cl, rfl, -⟩ := hl
  have HM := Lib.hid hM
  obtain ⟨Ln, hLn⟩ : ∃ Ln, Ln = t.length := ⟨_, rfl⟩
  rw [← hLn] at Ht Htc ⊢
  have HUp := Lib.hid (show ∀ k, k < m + 1 → U64 (at0 pt k) from fun k hk => hup _ (at0_mem (by omega)))
  have HCp := Lib.hid (show ∀ k, k < m + 1 → w.cell? ⟨bp, op' + k, none⟩ = some (.int .u64 (at0 pt k)) from fun k hk => hcp k (by omega))
  clear hup hcp hrp
  rw [hpl]
  rw [← hM] at HUp HCp HRl HTLl HRs HTs HLs HTk HTn HTa HV Hpl Htl hpl ⊢
  clear hM hLn hpl
  obtain ⟨W, hW, b1, b2, s1, B1⟩ := two_blocksO w #[.slice none 0 0, .int .u64 0, .slice none 0 0] #[.slice none 0 0, .int .u64 0, .slice none 0 0] 40 40
  have HBW := Lib.hid B1; have Hrs := Lib.hid b1; have Hb2 := Lib.hid b2
  clear b1 b2 B1
  go_enter Tryd.func24, Tryd.ntmps24
  go_wp2_with (fail)
  obtain ⟨ob, hob⟩ : ∃ ob, ob = w.heap.size + 1 := ⟨_, rfl⟩
  rw [← hob] at Hb2 ⊢
  have hWob : W.heap.size = ob + 1 := by omega
  have hwob : w.heap.size < ob := by omega
  clear hob s1 hW
  go_loopw [0, 8, 9] (fun xw lw iv wr => ∃ (k : Nat) (vr xv lv : Value), k ≤ M ∧ xv = xw ∧ lv = lw ∧ iv = .int .i64 (k : Int) ∧ Hid (wr.heap[ob]? = some (.cells #[vr, .int .u64 0, .slice none 0 0] 40 (0, 0))) ∧ Hid (NewU (ob + 1) wr vr (RS.take k)) ∧ Hid (NewTc w.heap.size vr.ownBlock (ob + 1) wr lv (TL.take k)) ∧ Hid (∀ g, vr.ownBlock = some g → lv.ownBlock ≠ some g) ∧ Hid (Far (fun b => (w.heap.size ≤ b ∧ b < ob + 1) ∨ lv.ownBlock = some b ∨ vr.ownBlock = some b) (fun W => RowU W xv (tabI t pt k) ∧ CapOk xv) wr) ∧ Hid (Below ob W wr)) (fun _ _ iv _ => M - (intOf iv).toNat)
  case atStart => exact ⟨0, _, _, _, by omega, rfl, rfl, rfl, Hb2.out, NewU.nil _ _, NewTc.nil _ _ _ _, (fun g h => by cases h), RowU.farOldC Ht.out Htc.out HBW.out (fun b _ e => by rcases e with e | e | e; exact e.1; cases e; cases e), Below.refl _ _⟩
  case round =>
    obtain ⟨k, vr, xv, lv, hk, rfl, rfl, rfl, HO, HR, HL, HA, HX, HB⟩ := hrel
    have HBw := Lib.hid (show Below w.heap.size w wr from HBW.out.trans (HB.out.mono (Nat.le_of_lt hwob)))
    by_cases hz : k < M
    · have hk1 : (k : Int) < (M : Int) := by omega
      obtain ⟨a, ha⟩ : ∃ a, M = k + a + 1 := ⟨M - k - 1, by omega⟩
      obtain ⟨x, hx⟩ : ∃ x, x = at0 pt k := ⟨_, rfl⟩
      obtain ⟨tk, htk⟩ : ∃ tk, tk = tabI t pt k := ⟨_, rfl⟩
      obtain ⟨tn, htn⟩ : ∃ tn, tn = tabI t pt (k + 1) := ⟨_, rfl⟩
      have hfx : (fixF (tk.map phi) (phi x)).map psi = tn := by rw [htk, hx, htn]; exact HTk.out k hz
      have hlk : tk.length = 2 ^ (a + 1) := by rw [htk, HTn.out k hk, show M - k = a + 1 by omega]
      have hln : tn.length = 2 ^ a := by rw [htn, HTn.out (k + 1) (by omega), show M - (k + 1) = a by omega]
      have ux : U64 x := by rw [hx]; exact HUp.out k hz
      obtain ⟨rt, hrt⟩ : ∃ rt, rt = psi (rootF tn a) := ⟨_, rfl⟩
      have urt : U64 rt := by rw [hrt]; exact U64.psi _
      have Hrs1 := Lib.hid (show RS.take (k + 1) = RS.take k ++ [rt] by rw [HRs.out k (by omega), hrt, htn]; rw [show m - k = a by have := HM.out; omega])
      have Hts1 := Lib.hid (show TL.take (k + 1) = TL.take k ++ [tk] by rw [HTs.out k (by omega), htk])
      have cvp := (HBw.out.cell (p := ⟨bp, op' + k, none⟩) hbp).trans (HCp.out k hz)
      rw [← hx] at cvp
      rw [← htk] at HX
      have Htn1 := Lib.hid htn
      obtain ⟨⟨-, -, ax, cx, rfl, -⟩, hcx⟩ := HX.out.now
      have CF := Lib.hid (fun Z (hr : RowU Z (.slice ax tk.length cx) tk) => ref_Fix tk a _ x Z hr ux hlk (by omega))
      rw [hfx] at CF
      have CR := Lib.hid (show ∀ Z v5, RowU Z v5 tn → CapOk v5 → Calls Tryd.prog 43 #[v5] Z fun e w' => e = .returned (.int .u64 rt) ∧ Below Z.heap.size Z w' from fun Z v5 hr hc => by
        have h0 := (pow_le8 (n := a) (by omega)).1
        obtain ⟨b5, o5, c5, rfl, hsub⟩ := hr.sub (by rw [hln]; exact h0)
        obtain ⟨q5, q6⟩ := hc _ _ _ rfl
        have := ref_Root a tn b5 o5 tn.length c5 Z hsub rfl hln (by omega) q5 q6
        rwa [rootR_F tn a hln, ← hrt] at this)
      have hcT : (TL.take k).length + 1 ≤ 1000 := by rw [List.length_take]; omega
      have hcR : (RS.take k).length + 1 ≤ 17592186043904 := by rw [List.length_take]; omega
      have hob1 : ob + 1 ≤ wr.heap.size := blk_lt HO.out
      have hrlt := Lib.hid (fun g (hv : vr.ownBlock = some g) => HR.out.lt hv)
      have hllt := Lib.hid (fun g (hv : lv.ownBlock = some g) => HL.out.lt hv)
      obtain ⟨N1, hN1⟩ : ∃ N1, N1 = tk.length := ⟨_, rfl⟩
      rw [← hN1] at HX CF ⊢
      have hN := Lib.hid hN1
      have Hcx := Lib.hid hcx
      clear hx htk htn hfx hlk hln hrt hN1 ha hcx
      go_wp2_with (at_builtin; refine wpList_appTc rfl _ _ rfl w.heap.size vr.ownBlock (ob + 1) lv _ rfl HL.out (.slice ax N1 cx) tk HX.out rfl hcT hob1 ?_; intro v4 w4 hn4 hf4 hb4 hg4 hx4; have cvp4 := (hb4.cell (p := ⟨bp, op' + k, none⟩) (show bp < ob + 1 by omega)).trans cvp; have HL4 := Lib.hid hn4; have HX4 := Lib.hid hf4; have HO4 := Lib.hid ((hb4.block ob (Nat.lt_succ_self ob)).trans HO.out); have HR4 := Lib.hid (HR.out.grownOther hg4 (fun g hv e => HA.out g hv e)); have Hx4 := Lib.hid hx4; have HB4 := Lib.hid (HB.out.trans (hb4.mono (Nat.le_succ ob))); have hs4 := hg4.size; clear hn4 hf4 hb4 hg4 hx4)
      have HBw4 := Lib.hid (show Below w.heap.size w w4 from HBW.out.trans (HB4.out.mono (Nat.le_of_lt hwob)))
      have HA4 := Lib.hid (show ∀ g, vr.ownBlock = some g → v4.ownBlock ≠ some g from fun g hv e => by
        rcases Hx4.out with h | ⟨b, h, hb⟩
        · exact HA.out g hv (h.symm.trans e)
        · rw [e] at h; cases h; have := (hrlt.out g hv).2; omega)
      refine (CF.out w4 HX4.out.now.1).mono ?_
      rintro e w5 ⟨v5, rfl, hn5, hb5⟩
      have HL5 := Lib.hid (HL4.out.go hb5); have HR5 := Lib.hid (HR4.out.below hb5 (Nat.le_refl _)); have HO5 := Lib.hid ((hb5.block ob (blk_lt HO4.out)).trans HO4.out)
      have HB5 := Lib.hid (HB4.out.trans (hb5.mono (Nat.le_of_lt (blk_lt HO4.out)))); have HBw5 := Lib.hid (below_two HBw4.out hb5); have Hn5 := Lib.hid hn5
      have hs5 := hb5.size
      have hob5 : ob + 1 ≤ w5.heap.size := blk_lt HO5.out
      clear hn5 hb5 CF cvp4 cvp
      have hdw := below_dwO w5
      have HL5d := Lib.hid (HL5.out.go hdw); have HR5d := Lib.hid (HR5.out.below hdw (Nat.le_refl _)); have HO5d := Lib.hid ((hdw.block ob (blk_lt HO5.out)).trans HO5.out)
      have Hn5d := Lib.hid (Hn5.out.below hdw (Nat.le_refl _)); have HB5d := Lib.hid (HB5.out.trans (hdw.mono (Nat.le_of_lt (blk_lt HO5.out))))
      have k5d : w5.drew.cell? ⟨ob, 0, none⟩ = some vr := cell_blk HO5d.out 0
      clear hdw
      go_wp2_with (fail)
      go_region_law (first
        | (refine step_appUx rfl _ _ (by rfl) (ob + 1) vr _ (by rfl) HR6.out rt (by rfl) urt hcR hob6 ?_; intro v7 w7 hn7 hg7 hx7; obtain ⟨a7, c7, rfl⟩ := hn7.isSlice; have HR7 := Lib.hid hn7; have Hx7 := Lib.hid hx7; have HL7 := Lib.hid (HL6.out.grownX hg7 (fun g hv e => HA4.out g e hv) hx7); have Hn7 := Lib.hid (Hn6.out.grownOther hg7 (fun g hv e => by have h1 := (Hn6.out.lt hv).1; have h2 := (hrlt.out g e).2; omega)); have hO7 := (hg7.block ob hob6 (fun e => by have := (hrlt.out ob e.symm).1; omega)).trans HO6.out; have k7 : w7.cell? ⟨ob, 0, none⟩ = some vr := cell_blk hO7 0; have f7 := free_blk hO7; have HB7 := Lib.hid (HB6.out.grown hg7 (Nat.le_of_lt hob6) (fun g e => Nat.le_of_succ_le (hrlt.out g e).1)); clear hn7 hg7 hx7)
        | (refine step_isCall (by rfl) ?_; go_simp; go_at_call 43; (refine (CR.out _ v5 Hn5d.out.row Hn5d.out.cap).mono ?_); rintro e w6 ⟨rfl, hb6⟩; have HL6 := Lib.hid (HL5d.out.go hb6); have HR6 := Lib.hid (HR5d.out.below hb6 (Nat.le_refl _)); have HO6 := Lib.hid ((hb6.block ob (blk_lt HO5d.out)).trans HO5d.out); have HB6 := Lib.hid (HB5d.out.trans (hb6.mono (Nat.le_of_lt (blk_lt HO5d.out)))); have Hn6 := Lib.hid (Hn5d.out.below hb6 (Nat.le_refl _)); have k6 : w6.cell? ⟨ob, 0, none⟩ = some vr := cell_blk HO6.out 0; have k6c : ∀ o, (w6.alloc o).cell? ⟨ob, 0, none⟩ = some vr := fun o => (World.cell?_alloc_some w6 ⟨ob, 0, none⟩ o (by rw [k6]; rfl)).trans k6; have hob6 : ob + 1 ≤ w6.heap.size := blk_lt HO6.out; have hs6 : w5.heap.size ≤ w6.heap.size := hb6.size; clear hb6))
      all_goals
        have hlr : Hid ((RS.take k ++ [rt]).length = min k RS.length + 1) := Lib.hid (by simp)
        rw [hlr.out] at HR7 Hx7 HL7
        obtain ⟨v8, hv8⟩ : ∃ v8, v8 = Value.slice a7 (min k RS.length + 1) c7 := ⟨_, rfl⟩
        rw [← hv8] at HR7 Hx7 HL7 ⊢
        have HO8 := Lib.hid (blk_setCell hO7 0 v8)
        have HR8 := Lib.hid (HR7.out.grownOther (grownBy_setCell w7 ob 0 v8) (fun g e h => by cases h; have := (HR7.out.lt e).1; omega))
        have HL8 := Lib.hid (HL7.out.low (Nat.le_of_lt hwob) (Nat.lt_succ_self ob) 0 v8)
        have hv4 := fun g (e : v4.ownBlock = some g) => HL4.out.lt e
        have HA8 := Lib.hid (show ∀ g, v8.ownBlock = some g → v4.ownBlock ≠ some g from fun g hv e => by
          rcases Hx7.out with h | ⟨b, h, hb⟩
          · exact HA4.out g (h.symm.trans hv) e
          · rw [hv] at h; cases h; have := (hv4 g e).2; omega)
        have Hn8 := Lib.hid (Hn7.out.grownOther (grownBy_setCell w7 ob 0 v8) (fun g e h => by cases h; have := (Hn7.out.lt e).1; omega))
        have HX8 := Lib.hid (Hn8.out.farRow (S := fun b => (w.heap.size ≤ b ∧ b < ob + 1) ∨ v4.ownBlock = some b ∨ v8.ownBlock = some b) (fun g e h => by
          have h1 := (Hn6.out.lt e).1
          have h2 := (Hn6.out.lt e).2
          rcases h with h | h | h
          · omega
          · have := (hv4 g h).2; omega
          · rcases Hx7.out with h' | ⟨b, h', hb⟩
            · have := (hrlt.out g (h'.symm.trans h)).2; omega
            · rw [h] at h'; cases h'; omega))
        rw [← Hrs1.out] at HR8; rw [← Hts1.out] at HL8; rw [Htn1.out] at HX8
        clear k5d k6 k6c k7 f7 hv8
        go_wp2_with (fail)
        go_roundw
        case rel => exact ⟨k + 1, v8, v5, v4, by omega, rfl, rfl, by go_num, HO8.out, HR8.out, HL8.out, HA8.out, HX8.out.imp (fun W h => ⟨h, Hn8.out.cap⟩), HB7.out.setCell (p := ⟨ob, 0, none⟩) (Nat.le_refl ob) v8⟩
        case measure => simp [intOf]; omega
    · obtain rfl : k = M := by omega
      have HX1 := HX.out.now.1
      have hl1 : (tabI t pt k).length = 1 := by rw [HTn.out k (Nat.le_refl _), Nat.sub_self]
      obtain ⟨tk, htk⟩ : ∃ tk, tk = tabI t pt k := ⟨_, rfl⟩
      rw [← htk] at HX1 hl1 HV
      obtain ⟨hut, -, ax, cx, rfl, hcx⟩ := HX1
      obtain ⟨bx, ox, har, hbx, hc0⟩ := hcx (by omega)
      subst har
      have uV : U64 V := by rw [HV.out]; exact hut _ (at0_mem (by omega))
      have cV := hc0 0 (by omega)
      rw [← HV.out] at cV
      have cV' : wr.cell? ⟨bx, ox, none⟩ = some (.int .u64 V) := cV
      rw [hl1]
      rw [List.take_of_length_le (by rw [HRl.out]; exact Nat.le_refl _)] at HR
      rw [List.take_of_length_le (by rw [HTLl.out]; exact Nat.le_refl _)] at HL
      have k1 : wr.cell? ⟨ob, 1, none⟩ = some _ := cell_blk HO.out 1
      have f1 := free_blk HO.out
      clear hut hcx hc0 htk hl1
      go_wp2_with (fail)
      have hOz := blk_setCell HO.out 1 (.int .u64 V)
      have HRz := Lib.hid ((HR.out.farRow (S := fun b => b < ob + 1) (fun g e h => by have := (HR.out.lt e).1; omega)).set (b := ob) (Nat.lt_succ_self ob) 1 (.int .u64 V))
      have HLz := Lib.hid (HL.out.far.set (b := ob) ⟨Nat.le_of_lt hwob, Nat.lt_succ_self ob⟩ 1 (.int .u64 V))
      have HBz := Lib.hid (HB.out.setCell (p := ⟨ob, 1, none⟩) (Nat.le_refl ob) (.int .u64 V))
      obtain ⟨Z, hZ⟩ : ∃ Z, Z = wr.setCell ⟨ob, 1, none⟩ (.int .u64 V) := ⟨_, rfl⟩
      rw [← hZ] at hOz HRz HLz HBz ⊢
      have HOz := Lib.hid hOz
      have hzsz : ob + 1 ≤ Z.heap.size := blk_lt hOz
      have Hrz := Lib.hid ((HBz.out.block w.heap.size hwob).trans Hrs.out)
      have HBX := Lib.hid (show ∀ X, Z.grownBy X (some ob) → Below w.heap.size w X from fun X h => (HBW.out.trans (HBz.out.mono (Nat.le_of_lt hwob))).grown h (by omega) (fun g e => by cases e; omega))
      have HLX := Lib.hid (show ∀ X, Z.grownBy X (some ob) → RowUC X lv TL from fun X h => (HLz.out.grown h (fun g e _ => by cases e; exact ⟨Nat.le_of_lt hwob, Nat.lt_succ_self ob⟩)).now)
      have HTq := Lib.hid (show ∀ i, i < k → (atl TL i).length = 2 ^ (k - i) from fun i hi => by rw [HTa.out i hi]; exact HTn.out i (Nat.le_of_lt hi))
      obtain ⟨B1, hB1⟩ : ∃ B1, B1 = Z.heap.size := ⟨_, rfl⟩
      have HB1 := Lib.hid hB1
      have hobB : ob < B1 := by omega
      obtain ⟨aT, cT, rfl, hT0⟩ := HLX.out Z (gB_refl _ _)
      obtain ⟨bT, oT, harT, hbT, -⟩ := hT0 (by rw [HTLl.out]; omega)
      subst harT
      clear hT0
      rw [HTLl.out] at HLX HLz ⊢
      clear hZ HO HR HL HA HX HB HBw hOz k1 f1 cV cV' hB1 hbx
      clear wr
      go_wp2_with (fail)
      go_loopw [10] (fun iv wr => ∃ (j : Nat) (vk : Value), j ≤ places.length ∧ iv = .int .i64 (j : Int) ∧ Hid (wr.heap[ob]? = some (.cells #[vr, .int .u64 V, vk] 40 (0, 0))) ∧ Hid (NewK B1 wr vk (LK.take j)) ∧ Hid (Z.grownBy wr (some ob))) (fun iv _ => places.length - (intOf iv).toNat)
      case atStart => exact ⟨0, _, Nat.zero_le _, rfl, HOz.out, NewK.nil _ _, gB_refl _ _⟩
      case round =>
        obtain ⟨j, vk, hj, rfl, HO, HK, HG⟩ := hrel
        by_cases hz : j < places.length
        · have hk1 : (j : Int) < (places.length : Int) := by omega
          obtain ⟨p, hp0, hp, hp1⟩ := HP.out j hz
          obtain ⟨-, -, a0, cap0, he0, hr0⟩ := Hl.out
          cases he0
          obtain ⟨bl, ol, har, hbl, hcl⟩ := hr0 (by omega)
          subst har
          have cl1 := ((HBX.out wr HG.out).cell (p := ⟨bl, ol + j, none⟩) hbl).trans (hcl j hz)
          rw [hp0] at cl1
          have Hls1 := Lib.hid (HLs.out j p hz hp1)
          have hcK : (LK.take j).length + 1 ≤ 1000 := by rw [List.length_take]; omega
          clear hcl hr0 hp0 hp1
          obtain ⟨wv, hwv⟩ : ∃ x : World, x = wr := ⟨_, rfl⟩
          subst hwv
          obtain ⟨Y, hY, bY, sY, BY⟩ := one_blockO wv #[.slice none 0 0, .slice none 0 0] 64
          obtain ⟨lb, hlb⟩ : ∃ lb, lb = wv.heap.size := ⟨_, rfl⟩
          have hlbB : B1 ≤ lb := by rw [HB1.out, hlb]; exact HG.out.size
          have hYs : Y.heap.size = lb + 1 := by omega
          have hbTl : bT < lb := by have := HG.out.size; omega
          have HOv := Lib.hid HO.out
          rw [← hlb] at bY BY
          have HbY := Lib.hid bY
          have HVX := Lib.hid (show ∀ X, Below lb Y X → Below lb wv X from fun X hX => BY.trans hX)
          have hbll : bl < lb := by have := HG.out.size; omega
          obtain ⟨lk, hlk⟩ : ∃ lk, lk = lookT TL k p := ⟨_, rfl⟩
          obtain ⟨PA, hPA⟩ : ∃ PA, PA = (lookT TL k p).pairs := ⟨_, rfl⟩
          obtain ⟨PB, hPB⟩ : ∃ PB, PB = (lookT TL k p).paths := ⟨_, rfl⟩
          have Hlk := Lib.hid (show lk.pairs = PA ∧ lk.paths = PB from ⟨by rw [hlk, hPA], by rw [hlk, hPB]⟩)
          have HPA := Lib.hid hPA; have HPB := Lib.hid hPB
          have HlA := Lib.hid (show PA.length = k by rw [hPA]; simp [lookT])
          have HlB := Lib.hid (show PB.length = k by rw [hPB]; simp [lookT])
          rw [← hlk] at Hls1
          have Hlb := Lib.hid hlb
          have hlY : lb + 1 ≤ Y.heap.size := by omega
          clear hPA hPB bY BY sY hlk hYs
          go_upto_block 4 with (fail)
          rw [← hlb]
          clear hlb hY
          go_cut [12] (fun x wx => ∃ vx vy, Hid (wx.heap[lb]? = some (.cells #[vx, vy] 64 (0, 0))) ∧ Hid (NewA (lb + 1) wx vx PA) ∧ Hid (NewB vx.ownBlock (lb + 1) wx vy PB) ∧ Hid (Below lb Y wx))
          case first =>
            rename_i JJ0 KK0 hJJ0 hJK0
            repeat clear ‹∀ (a : Act) (w : World), Code.wp Tryd.prog _ _ a w → _›
            go_wp2_with (fail)
            go_loopw [12] (fun iv wr => ∃ (i : Nat) (vx vy : Value), i ≤ k ∧ iv = .int .i64 (i : Int) ∧ Hid (wr.heap[lb]? = some (.cells #[vx, vy] 64 (0, 0))) ∧ Hid (NewA (lb + 1) wr vx (PA.take i)) ∧ Hid (NewB vx.ownBlock (lb + 1) wr vy (PB.take i)) ∧ Hid (∀ g, vx.ownBlock = some g → vy.ownBlock ≠ some g) ∧ Hid (Below lb Y wr)) (fun iv _ => k - (intOf iv).toNat)
            case atStart => exact ⟨0, _, _, Nat.zero_le _, rfl, HbY.out, NewA.nil _ _, NewB.nil _ _ _, (fun g h => by cases h), Below.refl _ _⟩
            case round =>
              obtain ⟨i, vx, vy, hi, rfl, HO, HA, HB, HAp, HBo⟩ := hrel
              by_cases hzi : i < k
              · obtain ⟨a, ha⟩ : ∃ a, k = i + a + 1 := ⟨k - i - 1, by omega⟩
                have Ha := Lib.hid ha
                obtain ⟨N1, hN⟩ : ∃ N1, N1 = a + 1 := ⟨_, rfl⟩
                have HN := Lib.hid hN
                obtain ⟨h, hh⟩ : ∃ h, h = 2 ^ a := ⟨_, rfl⟩
                have Hh := Lib.hid hh
                have hh1 : 1 ≤ h := by rw [hh]; exact (pow_le8 (n := a) (by omega)).1
                have hh128 : h ≤ 128 := by
                  have := (pow_le8 (n := a + 1) (by omega)).2
                  rw [Nat.pow_succ, ← hh] at this; omega
                obtain ⟨q2, hq2⟩ : ∃ q2, q2 = p % h := ⟨_, rfl⟩
                have hq2h : q2 < h := by rw [hq2]; exact Nat.mod_lt _ hh1
                have Hq2 := Lib.hid (show q2 = p % 2 ^ a by rw [hq2, hh])
                have hrem : Int.tmod (p : Int) (h : Int) = (q2 : Int) := by rw [hq2]; exact (Int.ofNat_tmod p h).symm
                have hh0 : ((h : Int) == 0) = false := by rw [beq_eq_false_iff_ne]; omega
                have hh0' : (h : Int) ≠ 0 := by omega
                obtain ⟨qh, hqh2⟩ : ∃ qh, qh = q2 + h := ⟨_, rfl⟩
                have hsum : IntKind.i64.wrap ((q2 : Int) + (h : Int)) = (qh : Int) := by rw [IntWalk.i64_in _ (by omega)]; omega
                obtain ⟨t', ht'⟩ : ∃ t', t' = atl TL i := ⟨_, rfl⟩
                obtain ⟨a9, cap9, e9, hr9⟩ := HLX.out wv HG.out
                rw [HTLl.out] at e9
                cases e9
                obtain ⟨_, _, e9, -, hc9⟩ := hr9 (by rw [HTLl.out]; omega)
                cases e9
                obtain ⟨ui, hui, hru, hcu⟩ := hc9 i (by rw [HTLl.out]; exact hzi)
                have hlen := HTq.out i hzi
                rw [← ht'] at hru hlen
                have htl2 : t'.length = 2 * h := by rw [hlen, show k - i = a + 1 by omega, Nat.pow_succ, ← hh]; omega
                have hl2 : t'.length = 2 ^ N1 := by rw [hlen, hN, show k - i = a + 1 by omega]
                have h0 : 0 < t'.length := by omega
                obtain ⟨bt, ot, ct', hv', hsub⟩ := hru.sub h0
                subst hv'
                obtain ⟨hcu1, hcu2⟩ := hcu _ _ _ rfl
                have hbt : bt < lb := by rw [Hlb.out]; exact hsub.2.1
                have u1 := hsub.1 _ (at0_mem (show q2 < t'.length by omega))
                have u2' := hsub.1 _ (at0_mem (show qh < t'.length by omega))
                have d1 := hsub.2.2 q2 (by omega)
                have d2 := hsub.2.2 qh (by omega)
                obtain ⟨Ln2, hLn2⟩ : ∃ Ln, Ln = t'.length := ⟨_, rfl⟩
                have hqn1 : q2 < 2 ^ N1 := by rw [← hl2]; omega
                have hqn2 : qh < 2 ^ N1 := by rw [← hl2]; omega
                have CP := Lib.hid (show ∀ q : Nat, q < 2 ^ N1 → ∀ Z, Below lb Y Z → Calls Tryd.prog 44 #[.slice (some ⟨bt, ot, none⟩) t'.length ct', .int .i64 (q : Int)] Z fun e w' => ∃ v', e = .returned v' ∧ NewU Z.heap.size w' v' ((pathF t' N1 q).map psi) ∧ Below Z.heap.size Z w' from fun q hq Z hZ => by
                  have := ref_Path N1 t' q bt ot t'.length ct' Z ((show Sub wv bt ot t' from hsub).below (HVX.out Z hZ) (by rw [Hlb.out]; exact Nat.le_refl _)) rfl hl2 (by omega) hcu1 hcu2 (by rw [hl2]; exact hq)
                  rwa [pathR_F t' N1 q hl2 hq] at this)
                have CP1 := Lib.hid (CP.out q2 hqn1)
                have CP2 := Lib.hid (CP.out qh hqn2)
                rw [← hLn2] at CP1 CP2 hui htl2
                have hquo : Int.tdiv (Ln2 : Int) 2 = (h : Int) := by rw [htl2]; show Int.tdiv ((2 * h : Nat) : Int) ((2 : Nat) : Int) = _; rw [← Int.ofNat_tdiv]; congr 1; omega
                have HWh := Lib.hid (show wrap64 (h : Int) = (h : Int) by unfold wrap64; omega)
                have hi1 : (i : Int) < (k : Int) := by omega
                have hq2L : (q2 : Int) < (Ln2 : Int) := by omega
                have hqhL : (qh : Int) < (Ln2 : Int) := by omega
                obtain ⟨x1, hx1⟩ : ∃ x1, x1 = at0 t' q2 := ⟨_, rfl⟩
                obtain ⟨x2, hx2⟩ : ∃ x2, x2 = at0 t' qh := ⟨_, rfl⟩
                obtain ⟨l1, hl1⟩ : ∃ l1, l1 = (pathF t' N1 q2).map psi := ⟨_, rfl⟩
                obtain ⟨l2, hl2'⟩ : ∃ l2, l2 = (pathF t' N1 qh).map psi := ⟨_, rfl⟩
                have HsA := Lib.hid (show PA.take (i + 1) = PA.take i ++ [(psi (phi x1), psi (phi x2))] by rw [HPA.out, lookT_pairs ha hh Hq2.out, ← ht', hx1, hx2, hqh2])
                have HsB := Lib.hid (show PB.take (i + 1) = PB.take i ++ [(l1, l2)] by rw [HPB.out, lookT_paths ha hh Hq2.out hN, ← ht', hl1, hl2', hqh2])
                rw [← hx1] at u1 d1; rw [← hx2] at u2' d2; rw [← hl1] at CP1; rw [← hl2'] at CP2
                have hcA : (PA.take i).length + 1 ≤ 1000 := by rw [List.length_take, HlA.out]; omega
                have hcB : (PB.take i).length + 1 ≤ 1000 := by rw [List.length_take, HlB.out]; omega
                have K9 := Lib.hid (show ∀ X, Below lb Y X → Below lb Y X ∧ X.cell? ⟨bT, oT + i, none⟩ = some (.slice (some ⟨bt, ot, none⟩) Ln2 ct') ∧ X.cell? ⟨bt, ot + q2, none⟩ = some (.int .u64 x1) ∧ X.cell? ⟨bt, ot + qh, none⟩ = some (.int .u64 x2) from fun X hX =>
                  ⟨hX, ((HVX.out X hX).cell (p := ⟨bT, oT + i, none⟩) hbTl).trans hui, ((HVX.out X hX).cell (p := ⟨bt, ot + q2, none⟩) hbt).trans d1, ((HVX.out X hX).cell (p := ⟨bt, ot + qh, none⟩) hbt).trans d2⟩)
                obtain ⟨-, m0, m1, m2⟩ := K9.out wr HBo.out
                have cl2 := ((HVX.out wr HBo.out).cell (p := ⟨bl, ol + j, none⟩) hbll).trans cl1
                clear CP ha hN hh hq2 hqh2 ht' hlen htl2 hl2 hLn2 hqn1 hqn2 hx1 hx2 hl1 hl2' hui hsub hcu hr9 hc9 d1 d2 h0 hru hcu1 hcu2 HLX HTq HTa HTn
                go_upto_region 18 with fail
                try rw [HWh.out]
                clear hquo HWh
                go_upto_region 19 with fail
                have hlbr : lb + 1 ≤ wr.heap.size := blk_lt HO.out
                have hdw := below_dwO wr
                have HOd := Lib.hid ((hdw.block lb hlbr).trans HO.out)
                have HAd := Lib.hid (HA.out.go hdw)
                have HBd := Lib.hid (HB.out.go hdw)
                have hSd : Below lb Y wr.drew := HBo.out.trans (hdw.mono (Nat.le_of_lt hlbr))
                have hlbd : lb + 1 ≤ wr.drew.heap.size := hlbr
                have k0 : wr.drew.cell? ⟨lb, 0, none⟩ = some vx := cell_blk HOd.out 0
                have k0c : ∀ o, (wr.alloc o).drew.cell? ⟨lb, 0, none⟩ = some vx := fun o => (World.cell?_alloc_some wr ⟨lb, 0, none⟩ o (by show (wr.drew.cell? _).isSome = true; rw [k0]; rfl)).trans k0
                have hSda : ∀ o, Below lb Y (wr.drew.alloc o) := fun o => hSd.alloc (Nat.le_of_lt hlbd) o
                have hne0 : wr.drew.heap.size ≠ lb := World.new_ne wr.drew ⟨lb, 0, none⟩ k0
                have hne1 : wr.heap.size ≠ lb := hne0
                have hl0 : lb < wr.drew.heap.size := hlbd
                have hl1 : lb < wr.heap.size := hlbd
                have hne2 : lb ≠ wr.heap.size := fun e => hne0 e.symm
                clear hdw m0 m1 m2 cl2
                go_cut [66] (fun x wx => ∃ v8 w7, wx = w7.setCell ⟨lb, 0, none⟩ v8 ∧ Hid (NewA (lb + 1) w7 v8 (PA.take i ++ [(psi (phi x1), psi (phi x2))])) ∧ Hid (wr.drew.grownBy w7 vx.ownBlock) ∧ Hid (v8.ownBlock = vx.ownBlock ∨ ∃ b, v8.ownBlock = some b ∧ wr.drew.heap.size ≤ b))
                case first =>
                  rename_i JJ KK hJJ hJK
                  have hnv : some lb ≠ vx.ownBlock := fun e => by have := (HAd.out.lt e.symm).1; omega
                  have hge := fun g (e : vx.ownBlock = some g) => (HAd.out.lt e).1
                  have Hel := Lib.hid (show (PA.take i ++ [(psi (phi x1), psi (phi x2))]).length = min i PA.length + 1 by simp)
                  clear CP1 CP2 HsA HsB hcB HAp HB HBd HA HBo HO Hq2 Hh HN Ha HlA HlB HPA HPB Hls1 Hlk HOv HVX HG HK
                  rw [show ({ dst := some 67, op := Op.load 61 (Operand.tmp 66), type := 61, pos := "ref.go:629", after := #[{ on := 0, ground := Ground.data }], guard := none } : Oper) = id { dst := some 67, op := Op.load 61 (Operand.tmp 66), type := 61, pos := "ref.go:629", after := #[{ on := 0, ground := Ground.data }], guard := none } from rfl]
                  go_region_held3 (fun w' => Below lb Y w' ∧ w'.cell? ⟨bT, oT + i, none⟩ = some (.slice (some ⟨bt, ot, none⟩) Ln2 ct') ∧ w'.cell? ⟨bt, ot + q2, none⟩ = some (.int .u64 x1) ∧ w'.cell? ⟨bt, ot + qh, none⟩ = some (.int .u64 x2))
                    (first
                      | exact K9.out _ hSd
                      | exact K9.out _ hB7
                      | exact K9.out _ (hS8 _)
                      | exact K9.out _ (hSda _))
                    (first
                      | (go_at_call 36; (with_reducible refine (ref_Norm _ _ u1).mono ?_); rintro e wn ⟨rfl, rfl⟩)
                      | (go_at_call 36; (with_reducible refine (ref_Norm _ _ u2').mono ?_); rintro e wn ⟨rfl, rfl⟩)
                      | (refine step_appA rfl _ _ (by rfl) (lb + 1) _ _ (by rfl) HAd.out _ _ (by rfl) (U64.psi _) (U64.psi _) hcA hlbd ?_; intro v7 w7 hn7 hg7 hx7; obtain ⟨a7, c7, rfl⟩ := hn7.isSlice; have HN7 := Lib.hid hn7; have Hg7 := Lib.hid hg7; have Hx7 := Lib.hid hx7; have hO7 := (hg7.block lb hl0 hnv).trans HOd.out; have k7 : w7.cell? ⟨lb, 0, none⟩ = some vx := cell_blk hO7 0; have f7 := free_blk hO7; have hB7 : Below lb Y w7 := hSd.grown hg7 (Nat.le_of_lt hl0) (fun g e => Nat.le_of_succ_le (hge g e)); have hS8 := fun x => hB7.setCell (p := ⟨lb, 0, none⟩) (Nat.le_refl lb) x; clear hn7 hg7 hx7 hO7))
                  all_goals
                    first | refine hJK _ _ (Met.intro (hJJ _ _ ?_)) | refine Met.intro (hJJ _ _ ?_) | refine hJJ _ _ ?_
                    repeat apply Exists.intro
                    refine ⟨?rel, rfl⟩
                    case rel => exact ⟨.slice a7 (PA.take i ++ [(psi (phi x1), psi (phi x2))]).length c7, w7, by rw [Hel.out], HN7, Hg7, Hx7⟩
                case rest =>
                  obtain ⟨v8, w7, hw8, HA7, Hg7, Hx7⟩ := hcut
                  have hx7 := Hx7.out
                  have hg7 := Hg7.out
                  have hB7x := Lib.hid (HBd.out.grownX hg7 (fun g hv e => HAp.out g e hv) hx7)
                  have hO7 := (hg7.block lb hl0 (fun e => by have := (HAd.out.lt e.symm).1; omega)).trans HOd.out
                  have hB7 : Below lb Y w7 := hSd.grown hg7 (Nat.le_of_lt hl0) (fun g e => Nat.le_of_succ_le (HAd.out.lt e).1)
                  have HAp8 : Hid (∀ g, v8.ownBlock = some g → vy.ownBlock ≠ some g) := fun g e hv => by
                    rcases hx7 with h | ⟨b, h, hb⟩
                    · exact HAp.out g (h.symm.trans e) hv
                    · rw [e] at h; cases h
                      have := (HBd.out.lt hv).2; omega
                  have HO8 : Hid ((w7.setCell ⟨lb, 0, none⟩ v8).heap[lb]? = some (.cells #[v8, vy] 64 (0, 0))) := blk_setCell hO7 0 v8
                  have HA8 := Lib.hid (HA7.out.grownOther (grownBy_setCell w7 lb 0 v8) (fun g e h => by cases h; have := (HA7.out.lt e).1; omega))
                  have HB8 := Lib.hid (hB7x.out.low (Nat.lt_succ_self lb) 0 v8)
                  have HS8 := Lib.hid (hB7.setCell (p := ⟨lb, 0, none⟩) (Nat.le_refl lb) v8)
                  rw [← hw8] at HO8 HA8 HB8 HS8
                  clear hw8 hx7 hg7 hO7 hB7 HA7 Hg7 hB7x Hx7 k0 k0c hne0 hne1 hne2 hl0 hl1 hSda hSd HOd HAd HBd HA HB HO HAp HBo hlbr hlbd
                  obtain ⟨w8, hw8⟩ : ∃ x : World, x = wc := ⟨_, rfl⟩
                  subst hw8
                  go_upto_region 20 with fail
                  have l8 : lb < w8.heap.size := blk_lt HO8.out
                  have hSlt := Lib.hid (show ∀ g, (g < lb + 1 ∨ vy.ownBlock = some g ∨ v8.ownBlock = some g) → g < w8.heap.size from fun g h => by
                    rcases h with h | h | h
                    · omega
                    · exact (HB8.out.lt h).2
                    · exact (HA8.out.lt h).2)
                  have HSX := Lib.hid (show ∀ X, Below w8.heap.size w8 X → Below lb Y X from fun X hX => HS8.out.trans (hX.mono (Nat.le_of_lt l8)))
                  have HOX := Lib.hid (show ∀ X, Below w8.heap.size w8 X → X.heap[lb]? = some (.cells #[v8, vy] 64 (0, 0)) from fun X hX => (hX.block lb l8).trans HO8.out)
                  have KX := Lib.hid (show ∀ X, Below w8.heap.size w8 X → X.cell? ⟨lb, 1, none⟩ = some vy from fun X hX => cell_blk (HOX.out X hX) 1)
                  have K20 := Lib.hid (show ∀ X, Below lb Y X → Below lb Y X ∧ X.cell? ⟨bT, oT + i, none⟩ = some (.slice (some ⟨bt, ot, none⟩) Ln2 ct') from fun X hX => ⟨hX, (K9.out X hX).2.1⟩)
                  have k1 : w8.drew.cell? ⟨lb, 1, none⟩ = some vy := KX.out _ (below_dwR (Below.refl _ _))
                  have hBl := Lib.hid (fun g (e : vy.ownBlock = some g) => (HB8.out.lt e).1)
                  have Hel := Lib.hid (show (PB.take i ++ [(l1, l2)]).length = min i PB.length + 1 by simp)
                  have hs8 : w8.heap.size ≤ w8.drew.heap.size := Nat.le_refl _
                  clear K9 u1 u2' hcA Hq2 Hh HN Ha HlA HlB HPA HPB Hlk HVX
                  rw [show ({ dst := some 91, op := Op.load 62 (Operand.tmp 90), type := 62, pos := "ref.go:630", after := #[{ on := 0, ground := Ground.data }], guard := none } : Oper) = id { dst := some 91, op := Op.load 62 (Operand.tmp 90), type := 62, pos := "ref.go:630", after := #[{ on := 0, ground := Ground.data }], guard := none } from rfl]
                  have hw8d : Below w8.heap.size w8 w8.drew := below_dwO w8
                  have hd1 : Below lb Y w8.drew := HSX.out _ hw8d
                  clear hs8
                  go_region_held3 (fun w' => Below lb Y w' ∧ w'.cell? ⟨bT, oT + i, none⟩ = some (.slice (some ⟨bt, ot, none⟩) Ln2 ct'))
                    (first | exact K20.out _ hd1 | exact K20.out _ hS51 | exact K20.out _ hS52 | exact K20.out _ (hS52a _) | exact K20.out _ hS9 | exact K20.out _ (hS10 _))
                    (first
                      | (go_at_call 44; (with_reducible refine (CP1.out w8.drew hd1).mono ?_); rintro e w51 ⟨vp1, rfl, hn1, hb1⟩; obtain ⟨a51, c51, rfl⟩ := hn1.isSlice; have h8a : Below w8.heap.size w8 w51 := below_two hw8d hb1; have Hn1 := Lib.hid hn1; have hS51 : Below lb Y w51 := HSX.out w51 h8a; have k51 := KX.out w51 h8a; clear hn1 hb1)
                      | (go_at_call 44; (with_reducible refine (CP2.out w51 hS51).mono ?_); rintro e w52 ⟨vp2, rfl, hn2, hb2⟩; obtain ⟨a52, c52, rfl⟩ := hn2.isSlice; have h8b : Below w8.heap.size w8 w52 := below_two h8a hb2; have hu52 := Lib.hid (far_paths (B := w8.heap.size) (Hn1.out.below hb2 (Nat.le_refl _)) (hn2.mono h8a.size) hSlt.out); have hS52 : Below lb Y w52 := HSX.out w52 h8b; have hS52a : ∀ o, Below lb Y (w52.alloc o) := fun o => HSX.out _ (below_alR h8b o); have k52 := KX.out w52 h8b; have k52c : ∀ o, (w52.alloc o).cell? ⟨lb, 1, none⟩ = some vy := fun o => KX.out _ (below_alR h8b o); have HB52 := Lib.hid (HB8.out.go h8b); have hO52 := Lib.hid (HOX.out w52 h8b); have lb52 : lb + 1 ≤ w52.heap.size := blk_lt hO52.out; clear hn2 hb2)
                      | (refine step_appB rfl _ _ (by rfl) v8.ownBlock (lb + 1) vy _ (by rfl) HB52.out _ _ (l1, l2) hu52.out (by rfl) hcB lb52 ?_; intro v9 w9 hn9 hg9 hx9; obtain ⟨a9, c9, rfl⟩ := hn9.isSlice; have HB9 := Lib.hid hn9; have Hg9 := Lib.hid hg9; have Hx9 := Lib.hid hx9; have hO9 := (hg9.block lb lb52 (fun e => by have := hBl.out lb e.symm; omega)).trans hO52.out; have HO9 := Lib.hid hO9; have k9 : w9.cell? ⟨lb, 1, none⟩ = some vy := cell_blk hO9 1; have f9 := free_blk hO9; have hS9 : Below lb Y w9 := hS52.grown hg9 (Nat.le_of_lt lb52) (fun g e => Nat.le_of_succ_le (hBl.out g e)); have hS10 := fun x => hS9.setCell (p := ⟨lb, 1, none⟩) (Nat.le_refl lb) x; have HA9 := Lib.hid ((HA8.out.go h8b).grownOther hg9 (fun g e h => HAp8.out g e h)); clear hn9 hg9 hx9 hO9))
                  all_goals
                    rw [Hel.out] at HB9 Hx9
                    obtain ⟨v10, hv10⟩ : ∃ v10, v10 = Value.slice a9 (min i PB.length + 1) c9 := ⟨_, rfl⟩
                    rw [← hv10] at HB9 Hx9 ⊢
                    have HO10 := Lib.hid (blk_setCell HO9.out 1 v10)
                    have HA10 := Lib.hid (HA9.out.grownOther (grownBy_setCell w9 lb 1 v10) (fun g e h => by cases h; have := (HA8.out.lt e).1; omega))
                    have HB10 := Lib.hid (HB9.out.low (Nat.lt_succ_self lb) 1 v10)
                    have HAp10 := Lib.hid (show ∀ g, v8.ownBlock = some g → v10.ownBlock ≠ some g from fun g e hv => by
                      have g1 := h8a.size; have g2 := h8b.size
                      rcases Hx9.out with h | ⟨b, h, hb⟩
                      · exact HAp8.out g e (h.symm.trans hv)
                      · rw [hv] at h; cases h; have := (HA8.out.lt e).2; omega)
                    have HS10 := Lib.hid (hS10 v10)
                    rw [← HsA.out] at HA10
                    rw [← HsB.out] at HB10
                    clear hS10 hS9 k9 f9 hv10 k51 k52 k52c k1 hS51 hS52 hS52a hd1 hw8d
                    go_wp2_with (fail)
                    go_roundw
                    case rel => exact ⟨i + 1, v8, v10, by omega, by go_num, HO10.out, HA10.out, HB10.out, HAp10.out, HS10.out⟩
                    case measure => simp [intOf]; omega
              · obtain rfl : i = k := by omega
                rw [List.take_of_length_le (by rw [HlA.out]; exact Nat.le_refl _)] at HA
                rw [List.take_of_length_le (by rw [HlB.out]; exact Nat.le_refl _)] at HB
                clear HPA HPB HlA HlB HAp HLX HTq HTa HTn
                go_wp2_with (fail)
                go_meet
                case rel => exact ⟨vx, vy, HO, HA, HB, HBo⟩
          case rest =>
            obtain ⟨vx, vy, HO, HA, HB, HBo⟩ := hcut
            obtain ⟨wr, hwr'⟩ : ∃ x : World, x = wc := ⟨_, rfl⟩
            subst hwr'
            rw [← Hlk.out.1] at HA
            rw [← Hlk.out.2] at HB
            have HVw := Lib.hid (show Below wv.heap.size wv wr from by have := HVX.out wr HBo.out; rwa [Hlb.out] at this)
            have HOb := Lib.hid ((HVw.out.block ob (by have := Hlb.out; omega)).trans HOv.out)
            have HKr := Lib.hid (HK.out.go HVw.out)
            have hvk := Lib.hid (fun g (e : vk.ownBlock = some g) => HK.out.lt e)
            have c2 : wr.cell? ⟨ob, 2, none⟩ = some vk := cell_blk HOb.out 2
            have q0 : wr.cell? ⟨lb, 0, none⟩ = some vx := cell_blk HO.out 0
            have q1 : wr.cell? ⟨lb, 1, none⟩ = some vy := cell_blk HO.out 1
            have hu := Lib.hid ((HA.out.farRow.and HB.out.farRow).less (S' := fun b => b < B1 ∨ vk.ownBlock = some b) (fun b _ e => by
              show b < lb + 1
              rcases e with e | e
              · omega
              · have := (hvk.out b e).2; have := Hlb.out; omega))
            have hBr : B1 ≤ wr.heap.size := by have := blk_lt HO.out; omega
            have HGr := Lib.hid (show Z.grownBy wr (some ob) from grownBy_chain HG.out (below_toGrown HVw.out _))
            obtain ⟨ax', cx', rfl⟩ := HA.out.isSlice
            obtain ⟨ay', cy', rfl⟩ := HB.out.isSlice
            clear HPA HPB HlA HlB HA HB HLX HTq HTa HTn
            go_wp2_with (at_builtin; refine wpList_appK rfl _ _ rfl B1 vk _ rfl HKr.out _ _ lk hu.out rfl hcK hBr ?_; intro v4 w4 hn4 hb4 hg4; obtain ⟨a4, c4, rfl⟩ := hn4.isSlice; have HK4 := Lib.hid hn4; have Hg4 := Lib.hid hg4; have hO4 := (hg4.block ob (by omega) (fun e => by have := (hvk.out ob e.symm).1; omega)).trans HOb.out; have HO4 := Lib.hid hO4; have k4 : w4.cell? ⟨ob, 2, none⟩ = some vk := cell_blk hO4 2; have f4 := free_blk hO4; clear hn4 hb4 hg4 hO4)
            have Hel := Lib.hid (show (LK.take j ++ [lk]).length = min j LK.length + 1 by simp)
            rw [Hel.out] at HK4
            obtain ⟨v5, hv5⟩ : ∃ v5, v5 = Value.slice a4 (min j LK.length + 1) c4 := ⟨_, rfl⟩
            rw [← hv5] at HK4 ⊢
            have HO5 := Lib.hid (blk_setCell HO4.out 2 v5)
            have HK5 := Lib.hid (HK4.out.grownOther (grownBy_setCell w4 ob 2 v5) (fun g e => by cases e; exact hobB))
            have HG4 : Z.grownBy w4 (some ob) := ⟨Hg4.out.os.trans HGr.out.os, Hg4.out.tape.trans HGr.out.tape, Hg4.out.output.trans HGr.out.output, Nat.le_trans HGr.out.size Hg4.out.size, fun i hi hr => (Hg4.out.block i (Nat.lt_of_lt_of_le hi HGr.out.size) (fun e => by have := (hvk.out i e.symm).1; rw [HB1.out] at this; omega)).trans (HGr.out.block i hi hr)⟩
            have HG5 := Lib.hid (grownBy_chain HG4 (grownBy_setCell w4 ob 2 v5))
            rw [← Hls1.out] at HK5
            clear hv5 HG4 k4 f4 c2 q0 q1
            go_roundw
            case rel => exact ⟨j + 1, v5, by omega, by go_num, HO5.out, HK5.out, HG5.out⟩
            case measure => simp [intOf]; omega
        · obtain rfl : j = places.length := by omega
          rw [List.take_of_length_le (by rw [HLKl.out]; exact Nat.le_refl _)] at HK
          have c0 : wr.cell? ⟨ob, 0, none⟩ = some vr := cell_blk HO.out 0
          have c1 : wr.cell? ⟨ob, 1, none⟩ = some (.int .u64 V) := cell_blk HO.out 1
          have c2 : wr.cell? ⟨ob, 2, none⟩ = some vk := cell_blk HO.out 2
          have hrs := (HG.out.block w.heap.size (by omega) (fun e => by cases e; omega)).trans Hrz.out
          have z0 : wr.cell? ⟨w.heap.size, 0, none⟩ = some _ := cell_blk hrs 0
          have z1 : wr.cell? ⟨w.heap.size, 1, none⟩ = some _ := cell_blk hrs 1
          have z2 : wr.cell? ⟨w.heap.size, 2, none⟩ = some _ := cell_blk hrs 2
          have ff := free_blk hrs
          obtain ⟨-, -, a8, c8, rfl, -⟩ := HRz.out.now
          obtain ⟨a9, c9, rfl⟩ := HK.out.isSlice
          go_wp2_with (fail)
          have hbk := blk_setCell (blk_setCell (blk_setCell hrs 0 (.slice a8 RS.length c8)) 1 (.int .u64 V)) 2 (.slice a9 LK.length c9)
          have hbz := (((HBX.out wr HG.out).setCell (p := ⟨w.heap.size, 0, none⟩) (Nat.le_refl _) (.slice a8 RS.length c8)).setCell (p := ⟨w.heap.size, 1, none⟩) (Nat.le_refl _) (.int .u64 V)).setCell (p := ⟨w.heap.size, 2, none⟩) (Nat.le_refl _) (.slice a9 LK.length c9)
          have hwB : w.heap.size < B1 := by omega
          have hfar := ((((((HRz.out.grown HG.out (fun g e _ => by cases e; exact Nat.lt_succ_self ob)).less (S' := fun b => b < w.heap.size + 1) (fun b _ e => by have e' : b < w.heap.size + 1 := e; show b < ob + 1; omega)).and (HK.out.farRow.less (S' := fun b => b < w.heap.size + 1) (fun b _ e => by have e' : b < w.heap.size + 1 := e; show b < B1; omega))).set (b := w.heap.size) (Nat.lt_succ_self _) 0 (.slice a8 RS.length c8)).set (b := w.heap.size) (Nat.lt_succ_self _) 1 (.int .u64 V)).set (b := w.heap.size) (Nat.lt_succ_self _) 2 (.slice a9 LK.length c9)).less (S' := fun b => b < w.heap.size) (fun b _ e => Nat.lt_succ_of_lt e)
          generalize (((wr.setCell ⟨w.heap.size, 0, none⟩ (.slice a8 RS.length c8)).setCell ⟨w.heap.size, 1, none⟩ (.int .u64 V)).setCell ⟨w.heap.size, 2, none⟩ (.slice a9 LK.length c9)) = wz at *
          have d0 : wz.cell? ⟨w.heap.size, 0, none⟩ = some (.slice a8 RS.length c8) := cell_blk hbk 0
          have d1 : wz.cell? ⟨w.heap.size, 1, none⟩ = some (.int .u64 V) := cell_blk hbk 1
          have d2 : wz.cell? ⟨w.heap.size, 2, none⟩ = some (.slice a9 LK.length c9) := cell_blk hbk 2
          exact bodyPost_ret (v := .agg #[.slice a8 RS.length c8, .int .u64 V, .slice a9 LK.length c9]) (by simp [results, Tryd.results24, go_sem, d0, d1, d2]) rfl ⟨_, rfl, by rw [HO0.out]; exact hfar.imp fun W h => ⟨_, _, rfl, uV, h.1, h.2⟩, hbz⟩
end Go.Proofs.YtokggifjcbkmnaaDoor
