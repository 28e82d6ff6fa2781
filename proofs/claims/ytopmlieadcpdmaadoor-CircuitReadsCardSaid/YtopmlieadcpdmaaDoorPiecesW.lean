/- The walk of the reference's Pieces: a text of at most 100000 bytes, cut at all bytes of one sort. -/
import Derived.Test.YtopmlieadcpdmaaDoorRowsT
import Derived.StillTailTactics
namespace Go.Proofs.YtopmlieadcpdmaaDoor
set_option maxRecDepth 100000
set_option linter.unusedVariables false
open Go.RowKit Tally
theorem extract_one (s : ByteArray) (k : Nat) (hk : k < s.size) : s.extract k (k + 1) = mkB [s[k]] := by
  apply ByteArray.ext
  obtain ⟨⟨l⟩⟩ := s
  have hk' : k < l.length := hk
  simp only [ByteArray.data_extract]
  show (List.toArray l).extract k (k + 1) = #[l[k]]
  apply Array.ext
  · simp; omega
  · intro i h1 h2
    simp at h2
    subst h2
    simp
theorem take_bytes (s : ByteArray) (k : Nat) (hk : k < s.size) : s.data.toList.take (k + 1) = s.data.toList.take k ++ [s[k]] := by
  have hk' : k < s.data.toList.length := by simpa using hk
  rw [List.take_succ_eq_append_getElem hk']
  rfl
set_option maxRecDepth 100000 in
set_option maxHeartbeats 8000000 in
theorem ref_Pieces (s : ByteArray) (c : UInt8) (w : World) (hs : s.size ≤ 100000) :
    Calls Tryd.prog 35 #[.string s, .int .u8 (c.toNat : Int)] w fun e w' => ∃ v, e = .returned v ∧ NewS w.heap.size w' v (pcs c s.data.toList) ∧ Below w.heap.size w w' := by
  have mixed : Tryd.prog.follows .mixedOrders = true := by kernel_rfl
  go_enter Tryd.func35, Tryd.ntmps35
  go_wp2_with (fail)
  have H0 := Lib.hid (NewS.lit1 w [])
  obtain ⟨W1, hW1⟩ : ∃ W1, W1 = w.alloc (.cells #[.string (mkB [])] 9) := ⟨_, rfl⟩
  have B1 := Lib.hid (show Below w.heap.size w W1 by rw [hW1]; exact (Below.refl _ _).alloc (Nat.le_refl _) _)
  rw [← hW1] at H0
  rw [show (w.alloc (.cells #[.string { data := #[] }] 9)) = W1 from hW1.symm]
  clear hW1
  go_loopw [5, 6] (fun o i wr => ∃ (k : Nat), k ≤ s.size ∧ i = .int .i64 (k : Int) ∧ Hid (NewS w.heap.size wr o (pcs c (s.data.toList.take k))) ∧ Hid (Below w.heap.size w wr)) (fun _ i _ => s.size - (intOf i).toNat)
  case atStart => exact ⟨0, by omega, rfl, H0.out, B1.out⟩
  case round =>
    obtain ⟨k, hk, rfl, HO, HB⟩ := hrel
    by_cases hz : k < s.size
    · have hz1 : (k : Int) < (s.size : Int) := by omega
      obtain ⟨b, hb⟩ : ∃ b, b = s[k] := ⟨_, rfl⟩
      have HT := Lib.hid (take_bytes s k hz)
      rw [← hb] at HT
      have e0 := hb.symm
      have hlen := pcs_length c (s.data.toList.take k)
      have hcl := List.count_le_length (a := c) (l := s.data.toList.take k)
      have htl : (s.data.toList.take k).length ≤ 100000 := by rw [List.length_take]; omega
      by_cases hbc : b = c
      · have hcap : (pcs c (s.data.toList.take k)).length + 1 ≤ 1000000 := by omega
        have hsz := HB.out.size
        have hcmp : ((b.toNat : Int) == (c.toNat : Int)) = true := by rw [hbc]; simp
        have HP := Lib.hid (show pcs c (s.data.toList.take (k + 1)) = pcs c (s.data.toList.take k) ++ [[]] by rw [HT.out, hbc, pcs_snoc_eq])
        clear hlen hcl htl hb
        go_wp2_with (at_builtin; refine wpList_appS rfl _ _ rfl w.heap.size _ _ rfl HO.out [] rfl hcap hsz ?_; intro v2 w2 hn2 hb2; have Hn2 := Lib.hid hn2; have Hb2 := Lib.hid (HB.out.trans hb2); clear hn2 hb2)
        go_roundw
        case rel => exact ⟨k + 1, by omega, by go_num, by rw [HP.out]; exact Hn2.out, Hb2.out⟩
        case measure => simp [intOf]; omega
      · have hcmp : ((b.toNat : Int) == (c.toNat : Int)) = false := by
          refine beq_false_of_ne fun e => hbc ?_
          exact UInt8.toNat_inj.mp (Int.ofNat_inj.mp e)
        obtain ⟨q, x, hq1, hq2⟩ := pcs_snoc_ne c b hbc (s.data.toList.take k)
        have hP1 := Lib.hid hq1
        have HP := Lib.hid (show pcs c (s.data.toList.take (k + 1)) = q ++ [x ++ [b]] by rw [HT.out, hq2])
        obtain ⟨M, hM⟩ : ∃ M, M = q.length := ⟨_, rfl⟩
        have hPl : (pcs c (s.data.toList.take k)).length = M + 1 := by rw [hq1, List.length_append, hM]; rfl
        obtain ⟨g, cc, rfl, hBg, hgl⟩ := HO.out.at_head (pcs_ne _ _)
        have hO := HO.out
        rw [hPl] at hO ⊢
        have hcell := hO.cellAt hPl.symm M (by omega)
        rw [show ats (pcs c (s.data.toList.take k)) M = x by rw [hq1, hM]; simp [ats]] at hcell
        have hfree := hO.freeAt hPl.symm M
        have hset := Lib.hid (hO.set hPl.symm M (x ++ [b]))
        have hxl : x.length ≤ 100000 := by
          have h1 : ∀ l : List UInt8, ∀ p ∈ pcs c l, p.length ≤ l.length := by
            intro l
            induction l with
            | nil => intro p hp; simp [pcs] at hp; simp [hp]
            | cons a l ih =>
              intro p hp
              by_cases ha : a = c
              · rw [show pcs c (a :: l) = [] :: pcs c l by show (if a = c then _ else _) = _; rw [if_pos ha]] at hp
                rcases List.mem_cons.mp hp with rfl | hp
                · simp
                · have := ih p hp; simp; omega
              · obtain ⟨p1, ps, h1⟩ := pcs_head c l
                rw [pcs_cons c a l ha h1] at hp
                rw [h1] at ih
                rcases List.mem_cons.mp hp with rfl | hp
                · have := ih p1 (by simp); simp; omega
                · have := ih p (by simp [hp]); simp; omega
          have := h1 _ x (by rw [hq1]; simp)
          omega
        obtain ⟨X, hX⟩ : ∃ X, X = mkB x := ⟨_, rfl⟩
        have hXs : X.size ≤ 100000 := by rw [hX]; show x.toArray.size ≤ _; simpa using hxl
        have HE := Lib.hid (show X ++ s.extract k (k + 1) = mkB (x ++ [b]) by
          rw [extract_one s k hz, ← hb, hX]
          exact ByteArray.mk_append_mk x [b])
        have hE1 : (s.extract k (k + 1)).size = 1 := by rw [extract_one s k hz]; rfl
        have HSl := Lib.hid (show (pcs c (s.data.toList.take k)).set M (x ++ [b]) = q ++ [x ++ [b]] by rw [hq1, hM]; simp)
        rw [← hX] at hcell
        have i1 : ¬ (9223372036854775807 < X.size + 1) := by omega
        have w1 : IntKind.i64.wrap ((k : Int) + 1) = (k : Int) + 1 := IntWalk.i64_in _ (by omega)
        have w2 : IntKind.i64.wrap ((M : Int) + 1 - 1) = (M : Int) := by rw [IntWalk.i64_in _ (by omega)]; omega
        have w3 : IntKind.i64.wrap (M : Int) = (M : Int) := IntWalk.i64_in _ (by omega)
        have b1 : (k : Int) + 1 ≤ (s.size : Int) := by omega
        have b2 : (0 : Int) ≤ (k : Int) + 1 := by omega
        have b3 : (M : Int) < (M : Int) + 1 := by omega
        have b4 : (k : Int) ≤ (k : Int) + 1 := by omega
        have hbset := Lib.hid (fun v => HB.out.setCell (p := ⟨g, M, none⟩) hBg v)
        clear hlen hcl htl hb hq1 hq2 hM hPl hO hxl hX
        go_wp2_with (fail)
        refine wp_region_still_tail 12 (by kernel_rfl) (by kernel_rfl) ?_
        simp only [List.take_succ_cons, List.take_zero, List.drop_succ_cons, List.drop_zero]
        repeat (first | still_step)
        try refine wpStill_nil ?_
        change wpList _ _ _ _ _ (World.drew _)
        go_wp2
        rw [HE.out]
        go_roundw
        case rel => exact ⟨k + 1, by omega, by go_num, by rw [HP.out, ← HSl.out]; exact NewS.below hset.out (below_drewN (Below.refl _ _) 1) (Nat.le_refl _), below_drewN (hbset.out _) 1⟩
        case measure => simp [intOf]; omega
    · obtain rfl : k = s.size := by omega
      have HF := Lib.hid (show NewS w.heap.size wr u5 (pcs c s.data.toList) by
        have := HO.out; rwa [List.take_of_length_le (by show s.data.toList.length ≤ s.data.size; simp)] at this)
      go_wp2
      go_ret
      exact ⟨_, rfl, HF.out, HB.out⟩
end Go.Proofs.YtopmlieadcpdmaaDoor
