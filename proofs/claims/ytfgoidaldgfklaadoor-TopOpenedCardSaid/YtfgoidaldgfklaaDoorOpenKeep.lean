/- The walk of tallykeep.opened. The table of bits lies as its initialiser lays it. -/
import Derived.Test.YtfgoidaldgfklaaDoorOpenOpen
import Derived.Test.YtfgoidaldgfklaaDoorOpenLookW
import Derived.Test.YtfgoidaldgfklaaDoorKeepM
namespace Go.Proofs.YtfgoidaldgfklaaDoor
set_option maxRecDepth 100000
set_option linter.unusedVariables false
open Go.RowKit Tally
theorem rowI1 (w : World) (n : Nat) (x : Int) (hx : I64 x) (hn : w.heap.size = n) : RowI (w.alloc (.cells #[.int .i64 x] 3)) (.slice (some ⟨n, 0, none⟩) 1 1) [x] := by
  subst hn
  refine ⟨by simpa using hx, by simp, _, _, rfl, fun _ => ⟨w.heap.size, 0, rfl, by simp, fun j hj => ?_⟩⟩
  obtain rfl : j = 0 := by simp at hj; omega
  rw [World.cell?_alloc_at _ _ _ _ rfl]; rfl
theorem RowI.more {w : World} {v : Value} {l : List Int} (h : RowI w v l) (o : Obj) : RowI (w.alloc o) v l := h.go (below_alloc w o)
/-- what Look answers of what Open opened, whatever value is told -/
theorem look_opened (t pt places : List Int) (val : Int) (m : Nat) (h7 : m ≤ 7) (hpl : pt.length = m + 1) (hwr : wrongB places ((2 ^ m : Nat) : Int) = false) (vt vp vo : Value) (w : World) (hT : Tab w) (ht : RowU w vt pt) (hp : RowI w vp places) (ho : IsO w vo { openI t pt places with value := val }) :
    Calls Tryd.prog 11 #[.int .u64 (psi (rootF t (m + 1))), vt, vp, vo] w fun e w' => e = .returned (.tuple #[.bool (lookB (psi (rootF t (m + 1))) pt places { openI t pt places with value := val }), .int .i64 0]) ∧ Below w.heap.size w w' :=
  open_Look_ok _ (U64.psi _) pt places _ vt vp vo w hT ht hp ho m h7 hpl (openE_ok h7 hwr (by rw [← hpl]; exact openI_form t pt places val))
theorem look_right (t pt places : List Int) (m : Nat) (h7 : m ≤ 7) (hpl : pt.length = m + 1) (htl : t.length = 2 ^ (m + 1)) (hwr : wrongB places ((2 ^ m : Nat) : Int) = false) (vt vp vo : Value) (w : World) (hT : Tab w) (ht : RowU w vt pt) (hp : RowI w vp places) (ho : IsO w vo (openI t pt places)) :
    Calls Tryd.prog 11 #[.int .u64 (psi (rootF t (m + 1))), vt, vp, vo] w fun e w' => e = .returned (.tuple #[.bool true, .int .i64 0]) ∧ Below w.heap.size w w' := by
  have := look_opened t pt places (openI t pt places).value m h7 hpl hwr vt vp vo w hT ht hp ho
  have e := open_holds t pt places (by rw [hpl]; exact htl) (by omega)
  rw [hpl] at e
  rwa [show lookB (psi (rootF t (m + 1))) pt places { openI t pt places with value := (openI t pt places).value } = true from e] at this
theorem opened7 : (openI [3, 5] [2] [0]).value = 7 := by rw [open_value [3, 5] [2] [0] (by simp) (by simp)]; exact bet2
end Go.Proofs.YtfgoidaldgfklaaDoor
