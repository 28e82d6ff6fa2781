/- The walk of slices.Clone at lists of 64-bit numbers: a copy in new memory; the list isn't empty. -/
import Derived.Test.YtcihkechphldcaaDoorMem
import Derived.Lib.SliceRun
namespace Go.Proofs.YtcihkechphldcaaDoor
set_option maxRecDepth 100000
set_option linter.unusedVariables false
open Go.RowKit Tally
set_option maxRecDepth 100000 in
set_option maxHeartbeats 1000000 in
theorem clone_U (l : List Int) (v : Value) (w : World) (hp : RowU w v l) (h0 : 0 < l.length) (hbig : l.length ≤ 1000000) :
    Calls Tryd.prog 11 #[v] w fun e w' => ∃ v', e = .returned v' ∧ NewU w.heap.size w' v' l ∧ Below w.heap.size w w' := by
  obtain ⟨hu, _, ad, cap, rfl, hr⟩ := hp
  obtain ⟨b, off, rfl, hblt, hcell⟩ := hr h0
  have HU := Lib.hid hu
  have Hc := Lib.hid hcell
  clear hr hu hcell
  obtain ⟨i0, hi, hz0, hz1, hz2⟩ := info_parts Tryd.infoU
  have q22 : ∀ (w : World) (a : Option Addr) (n c n' c' : Nat), (binOp .eql 22 (.slice a n c) (.slice none n' c')).run Tryd.prog w = .ok (.bool a.isNone) w := fun w a n c n' c' => Lib.run_eql_slice_nil w _ _ a n c n' c' Tryd.underlying22
  go_enter Tryd.func11, Tryd.ntmps11
  go_wp2_with (at_builtin; refine wpList_append_own _ rfl _ _ 22 rfl w.heap.size 31 i0 (.int .u64 0) 1 8 Tryd.underlying22 hi hz0 hz1 hz2 rfl (by decide) _ _ _ rfl (World.ownsRow_made w #[] 0 (Nat.le_refl _) (Nat.zero_le _) rfl) ⟨b, off, none⟩ l.length cap (l.map (Value.int .u64)) rfl ?qc1 ?qc2 ?qc3 ?qc4 ?qc5 ?qc6 ?_)
  case qc1 => simp
  case qc2 =>
    intro j u hj
    have hjn : j < l.length := by
      have := (List.getElem?_eq_some_iff.1 hj).1
      simpa using this
    rw [Addr.add_lit]
    refine Lib.cell?_alloc_some _ ?_
    rw [Hc.out j hjn]
    have e : (l.map (Value.int .u64))[j]? = some (Value.int .u64 (at0 l j)) := by simp [at0, hjn]
    rw [e] at hj
    exact hj
  case qc3 => intro u hu; obtain ⟨x, _, rfl⟩ := List.mem_map.1 hu; rfl
  case qc4 => unfold maxLen; omega
  case qc5 => omega
  case qc6 => simp
  intro v' w1 hown hgrow hnil
  go_wp2
  go_ret
  refine ⟨v', rfl, ⟨HU.out, by omega, by simpa using hown⟩, ?_⟩
  exact ((Below.refl _ w).alloc (Nat.le_refl _) _).grown hgrow (by simp) (by intro k hk; simp [Value.ownBlock] at hk; omega)
end Go.Proofs.YtcihkechphldcaaDoor
