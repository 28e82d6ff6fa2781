/- The walk of the law OpenLooks: it returns true, whatever is handed in. The table of bits lies as its initialiser lays it. -/
import Derived.Test.YtokggifjcbkmnaaDoorRLooked
namespace Go.Proofs.YtokggifjcbkmnaaDoor
set_option maxRecDepth 100000
set_option linter.unusedVariables false
open Go.RowKit Tally
set_option maxRecDepth 100000 in
set_option maxHeartbeats 4000000 in
theorem openLooks_walk (w : World) (hT : Tab w) (root : Int) (hr : U64 root) (vt : Value) (pt : List Int) (ht : RowU w vt pt) (vp : Value) (places : List Int) (hp : RowI w vp places) (vo : Value) (o : Oi) (ho : IsO w vo o) :
    Calls Tryd.prog 4 #[.int .u64 root, vt, vp, vo] w fun e w' => e = .returned (.bool true) ∧ Below w.heap.size w w' := by
  obtain ⟨ur, uk, hvo, h1, h2, h3⟩ := ho
  have ho : IsO w vo o := ⟨ur, uk, hvo, h1, h2, h3⟩
  have key : ∃ (b : Bool) (E : Int), (∀ X, Below w.heap.size w X → Calls Tryd.prog 21 #[.int .u64 root, vt, vp, vo] X fun e w' => e = .returned (.tuple #[.bool b, .int .i64 E]) ∧ Below X.heap.size X w') ∧
      (∀ X, Below w.heap.size w X → Calls Tryd.prog 22 #[.int .u64 root, vt, vp, vo] X fun e w' => e = .returned (.tuple #[.bool b, .int .i64 E]) ∧ Below X.heap.size X w') := by
    by_cases hn : pt.length < 1 ∨ 8 < pt.length
    · exact ⟨false, 1, fun X hX => open_Look_n root pt places o vt vp vo X (ht.go hX) (hp.go hX) (ho.go hX) hn, fun X hX => ref_Looked_n root pt places o vt vp vo X (ht.go hX) (hp.go hX) (ho.go hX) hn⟩
    · obtain ⟨m, hm⟩ : ∃ m, pt.length = m + 1 := ⟨pt.length - 1, by omega⟩
      have h7 : m ≤ 7 := by omega
      by_cases hE : openE (m + 1) places o = 0
      · refine ⟨lookB root pt places o, 0, fun X hX => open_Look_ok root hr pt places o vt vp vo X (hT.below hX) (ht.go hX) (hp.go hX) (ho.go hX) m h7 hm hE, fun X hX => ?_⟩
        have := ref_Looked_m root hr pt places o vt vp vo X (ht.go hX) (hp.go hX) (ho.go hX) m h7 hm 0 hE.symm (lookB root pt places o) (lookB root pt places o) rfl (by simp)
        exact this
      · refine ⟨false, openE (m + 1) places o, fun X hX => open_Look_bad root pt places o vt vp vo X (ht.go hX) (hp.go hX) (ho.go hX) m h7 hm (by rw [bne_iff_ne]; exact hE), fun X hX => ?_⟩
        exact ref_Looked_m root hr pt places o vt vp vo X (ht.go hX) (hp.go hX) (ho.go hX) m h7 hm _ rfl (lookB root pt places o) false rfl (by simp [hE])
  obtain ⟨b, E, k1, k2⟩ := key
  have K1 := Lib.hid k1; have K2 := Lib.hid k2
  clear k1 k2 ho hT
  obtain ⟨-, -, at', ct, rfl, -⟩ := ht
  obtain ⟨-, -, ap, cp, rfl, -⟩ := hp
  subst hvo
  obtain ⟨W1, hW, q0, q1, q2, B1, s1⟩ := copied3' w ur (.int .u64 o.value) uk 40
  have HX1 := Lib.hid (show Boxed3 w.heap.size ur (.int .u64 o.value) uk W1 from ⟨q0, q1, q2, by omega⟩)
  have H1 := Lib.hid B1
  clear B1 s1 h1 h2 h3
  go_enter Tryd.func4, Tryd.ntmps4
  go_wp2_with (fail)
  with_reducible refine (K1.out W1 H1.out).mono ?_
  rintro e w2 ⟨rfl, hb2⟩
  have H2 := Lib.hid (below_two H1.out hb2)
  have HX2 := Lib.hid (HX1.out.go hb2)
  clear hW q0 q1 q2 hb2
  have q0 := HX2.out.c0; have q1 := HX2.out.c1; have q2 := HX2.out.c2
  go_wp2_with (fail)
  with_reducible refine (K2.out w2 H2.out).mono ?_
  rintro e w3 ⟨rfl, hb3⟩
  have H3 := Lib.hid (below_two H2.out hb3)
  clear q0 q1 q2 hb3
  go_wp2
  go_ret
  exact ⟨by simp, H3.out⟩
end Go.Proofs.YtokggifjcbkmnaaDoor
