/- The walk of tallykeep.opened. The table of bits lies as its initialiser lays it. -/
import Derived.Test.YtokggifjcbkmnaaDoorOpenOpen
import Derived.Test.YtokggifjcbkmnaaDoorOpenLookW
import Derived.Test.YtokggifjcbkmnaaDoorKeepM
namespace Go.Proofs.YtokggifjcbkmnaaDoor
set_option maxRecDepth 100000
set_option linter.unusedVariables false
open Go.RowKit Tally
theorem rowI1 (w : World) (n : Nat) (x : Int) (hx : I64 x) (hn : w.heap.size = n) : RowI (w.alloc (.cells #[.int .i64 x] 3)) (.slice (some ⟨n, 0, none⟩) 1 1) [x] := by
  subst hn
  refine ⟨by simpa using hx, by simp, _, _, rfl, fun _ => ⟨w.heap.size, 0, rfl, by simp, fun j hj => ?_⟩⟩
  obtain rfl : j = 0 := by simp at hj; omega
  rw [World.cell?_alloc_at _ _ _ _ rfl]; rfl
theorem RowI.more {w : World} {v : Value} {l : List Int} (h : RowI w v l) (o : Obj) : RowI (w.alloc o) v l := h.go (below_alloc w o)
/-- what Look answers of what Open opened, whatever value is told -/
theorem look_opened (t pt places : List Int) (val : Int) (m : Nat) (h7 : m ≤ 7) (hpl : pt.length = m + 1) (hwr : wrongB places ((2 ^ m : Nat) : Int) = false) (vt vp vo : Value) (w : World) (hT : Tab w) (ht : RowU w vt pt) (hp : RowI w vp places) (ho : IsO w vo { openI t pt places with value := val }) :
    Calls Tryd.prog 21 #[.int .u64 (psi (rootF t (m + 1))), vt, vp, vo] w fun e w' => e = .returned (.tuple #[.bool (lookB (psi (rootF t (m + 1))) pt places { openI t pt places with value := val }), .int .i64 0]) ∧ Below w.heap.size w w' :=
  open_Look_ok _ (U64.psi _) pt places _ vt vp vo w hT ht hp ho m h7 hpl (openE_ok h7 hwr (by rw [← hpl]; exact openI_form t pt places val))
theorem look_right (t pt places : List Int) (m : Nat) (h7 : m ≤ 7) (hpl : pt.length = m + 1) (htl : t.length = 2 ^ (m + 1)) (hwr : wrongB places ((2 ^ m : Nat) : Int) = false) (vt vp vo : Value) (w : World) (hT : Tab w) (ht : RowU w vt pt) (hp : RowI w vp places) (ho : IsO w vo (openI t pt places)) :
    Calls Tryd.prog 21 #[.int .u64 (psi (rootF t (m + 1))), vt, vp, vo] w fun e w' => e = .returned (.tuple #[.bool true, .int .i64 0]) ∧ Below w.heap.size w w' := by
  have := look_opened t pt places (openI t pt places).value m h7 hpl hwr vt vp vo w hT ht hp ho
  have e := open_holds t pt places (by rw [hpl]; exact htl) (by omega)
  rw [hpl] at e
  rwa [show lookB (psi (rootF t (m + 1))) pt places { openI t pt places with value := (openI t pt places).value } = true from e] at this
theorem opened7 : (openI [3, 5] [2] [0]).value = 7 := by rw [open_value [3, 5] [2] [0] (by simp) (by simp)]; exact bet2
set_option maxRecDepth 100000 in
set_option maxHeartbeats 2000000 in
theorem keep_opened (w : World) (hT : Tab w) :
    Calls Tryd.prog 27 #[] w fun e w' => e = .returned (.bool true) ∧ Below w.heap.size w w' := by
  have HT := Lib.hid hT
  clear hT
  have u2 : U64 2 := u64n 2 (by decide)
  have u3 : U64 3 := u64n 3 (by decide)
  have u5 : U64 5 := u64n 5 (by decide)
  have i0 : I64 0 := by unfold I64; omega
  obtain ⟨o7, ho7⟩ : ∃ o7, o7 = openI [3, 5] [2] [0] := ⟨_, rfl⟩
  obtain ⟨rt, hrt⟩ : ∃ rt, rt = psi (rootF [3, 5] (0 + 1)) := ⟨_, rfl⟩
  have h7 := Lib.hid (show o7.value = 7 by rw [ho7]; exact opened7)
  have CR := Lib.hid (fun v X (hX : Below w.heap.size w X) (h : RowU X v [3, 5]) => tree_Root [3, 5] 1 v X (HT.out.below hX) h (by simp) (by decide))
  have CO := Lib.hid (fun v v2 v3 X (hX : Below w.heap.size w X) (h : RowU X v [3, 5]) (h2 : RowU X v2 [2]) (h3 : RowI X v3 [0]) => open_Open [3, 5] [2] [0] 0 (by decide) rfl (by simp) (by decide) v v2 v3 X (HT.out.below hX) h h2 h3)
  have CL := Lib.hid (fun v2 v3 v4 X (hX : Below w.heap.size w X) (h2 : RowU X v2 [2]) (h3 : RowI X v3 [0]) (h4 : IsO X v4 (openI [3, 5] [2] [0])) => look_right [3, 5] [2] [0] 0 (by decide) rfl (by simp) (by decide) v2 v3 v4 X (HT.out.below hX) h2 h3 h4)
  rw [← hrt, ← ho7] at CL; rw [← ho7] at CO
  rw [show psi (rootF [3, 5] 1) = rt from hrt.symm] at CR
  clear ho7 hrt
  go_enter Tryd.func27, Tryd.ntmps27
  go_wp2_with (fail)
  have hr1 := row2 w w.heap.size 3 5 u3 u5 rfl
  obtain ⟨W1, hW1⟩ : ∃ W1, W1 = w.alloc (.cells #[.int .u64 3, .int .u64 5] 23) := ⟨_, rfl⟩
  have B1 : Below w.heap.size w W1 := by rw [hW1]; exact below_alloc _ _
  rw [← hW1] at hr1 ⊢
  have Hr1 := Lib.hid hr1; have HB1 := Lib.hid B1
  with_reducible refine (CR.out _ W1 HB1.out Hr1.out).mono ?_
  rintro e w2 ⟨rfl, hb2⟩
  have HB2 := Lib.hid (below_chain HB1.out hb2); have Hr2 := Lib.hid (Hr1.out.step hb2)
  clear hr1 B1 hb2 CR hW1
  go_wp2_with (fail)
  refine (CO.out _ _ _ _ (below_chain HB2.out (below_chain (below_alloc w2 _) (below_alloc _ _))) ((Hr2.out.more _).more _) ((row1 w2 w2.heap.size 2 u2 rfl).more _) (rowI1 _ (w2.heap.size + 1) 0 i0 (by simp))).mono ?_
  rintro e w3 ⟨vo, rfl, hF, hb3⟩
  have HB3 := Lib.hid (below_chain HB2.out (below_chain (below_chain (below_alloc w2 _) (below_alloc _ _)) hb3))
  have HO := Lib.hid hF.now
  obtain ⟨ur, uk, rfl, uv, hr, hk⟩ := hF.now
  obtain ⟨-, -, a1, c1, rfl, -⟩ := hr
  obtain ⟨-, a2, c2, rfl, -⟩ := hk
  clear hF hb3 CO
  go_wp2_with (fail)
  obtain ⟨W4, hW4, k0, k1, k2, B4, s4⟩ := copied3' w3 (.slice a1 o7.roots.length c1) (.int .u64 o7.value) (.slice a2 o7.looks.length c2) 40
  rw [hW4]
  have HB4 := Lib.hid (below_chain HB3.out B4)
  have HO4 := Lib.hid (HO.out.go B4)
  clear hW4 k0 k2
  rw [show w3.heap.size + 1 = W4.heap.size from s4.symm]
  refine (CL.out _ _ _ _ (below_chain HB4.out (below_chain (below_alloc W4 _) (below_alloc _ _))) ((row1 W4 W4.heap.size 2 u2 rfl).more _) (rowI1 _ (W4.heap.size + 1) 0 i0 (by simp)) ((HO4.out.go (below_alloc W4 _)).go (below_alloc _ _))).mono ?_
  rintro e w5 ⟨rfl, hb5⟩
  have hb5' := below_chain (below_chain (below_alloc W4 _) (below_alloc _ _)) hb5
  have HB5 := Lib.hid (below_chain HB4.out hb5')
  have k5 := (hb5'.cell (p := ⟨w3.heap.size, 1, none⟩) (by show w3.heap.size < W4.heap.size; omega)).trans k1
  rw [h7.out] at k5 ⊢
  clear hb5 hb5' CL k1 B4
  go_wp2_with (fail)
  go_ret

  exact ⟨rfl, HB5.out⟩
end Go.Proofs.YtokggifjcbkmnaaDoor
