/- What a line of a circuit's text does; the walk of circuit.read. -/
import Derived.Test.YtlfneeobnihocaaGreatDoorPiecesW
import Derived.Deep.RegionHeld3
import Derived.Deep.DeepCutAuto
namespace Go.Proofs.YtlfneeobnihocaaGreatDoor
set_option maxRecDepth 100000
set_option linter.unusedVariables false
open Go.RowKit Tally
def inputsL : List UInt8 := [105, 110, 112, 117, 116, 115]
def layerL : List UInt8 := [108, 97, 121, 101, 114]
def addL : List UInt8 := [97, 100, 100]
def mulL : List UInt8 := [109, 117, 108]
def numsOk (t : List (List UInt8)) : Bool := t.all fun x => decide (0 ≤ numP x)
/-- what a line says of a circuit; none: it may not stand there -/
def stepLine (c : Ci) (first : Bool) : List (List UInt8) → Option Ci
  | [] => none
  | h :: t =>
    if numsOk t = false then none
    else if h = inputsL then (if first = true ∧ t.length = 1 then some ⟨numP (ats t 0), c.layers⟩ else none)
    else if h = layerL then (if first = false ∧ t.length = 1 then some ⟨c.log, c.layers ++ [⟨numP (ats t 0), []⟩]⟩ else none)
    else if h = addL ∨ h = mulL then
      (if first = false ∧ t.length = 2 ∧ 0 < c.layers.length then
        some ⟨c.log, c.layers.set (c.layers.length - 1) ⟨(aty c.layers (c.layers.length - 1)).log, (aty c.layers (c.layers.length - 1)).gates ++ [⟨decide (h = mulL), numP (ats t 0), numP (ats t 1)⟩]⟩⟩ else none)
    else none
def ReadPost (b B : Nat) (R : Option Ci) (w : World) (e : Ending) (w' : World) : Prop :=
  Below B w w' ∧ match R with
    | none => e = .returned (.bool false)
    | some c' => e = .returned (.bool true) ∧ Pk b B c' w'
theorem ReadPost.no {b B : Nat} {R : Option Ci} {w w' : World} (hR : R = none) (hb : Below B w w') : ReadPost b B R w (.returned (.bool false)) w' := by subst hR; exact ⟨hb, rfl⟩
theorem ReadPost.yes {b B : Nat} {R : Option Ci} {w w' : World} {c' : Ci} (hR : R = some c') (hb : Below B w w') (hp : Pk b B c' w') : ReadPost b B R w (.returned (.bool true)) w' := by subst hR; exact ⟨hb, rfl, hp⟩
theorem I64.num (l : List UInt8) : I64 (numP l) := by have := numP_range l; unfold I64; omega
theorem ats_cons (h : List UInt8) (t : List (List UInt8)) (j : Nat) : ats (h :: t) (j + 1) = ats t j := rfl
/-- three blocks stay -/
def Same3 (b1 b2 b3 : Nat) (w X : World) : Prop := X.heap[b1]? = w.heap[b1]? ∧ X.heap[b2]? = w.heap[b2]? ∧ X.heap[b3]? = w.heap[b3]?
theorem Same3.below {b1 b2 b3 : Nat} {w X Y : World} (h : Same3 b1 b2 b3 w X) (hb : Below X.heap.size X Y) (l1 : b1 < X.heap.size) (l2 : b2 < X.heap.size) (l3 : b3 < X.heap.size) : Same3 b1 b2 b3 w Y :=
  ⟨(hb.block b1 l1).trans h.1, (hb.block b2 l2).trans h.2.1, (hb.block b3 l3).trans h.2.2⟩
theorem ne_kind {w : World} {a b : Nat} {c1 c2 : Array Value} {t1 t2 : TypeId} (h1 : w.heap[a]? = some (.cells c1 t1 (0, 0))) (h2 : w.heap[b]? = some (.cells c2 t2 (0, 0))) (ht : t1 ≠ t2) : a ≠ b := fun e => by
  rw [e, h2] at h1
  injection h1 with h1
  injection h1 with _ h1 _
  exact ht h1.symm
set_option maxRecDepth 100000 in
set_option maxHeartbeats 16000000 in
theorem c_read (b B : Nat) (c : Ci) (first : Bool) (h : List UInt8) (t : List (List UInt8)) (vw : Value) (w : World) (hP : Pk b B c w) (hB : B ≤ w.heap.size) (hw : RowS w vw (h :: t)) (ht : t.length ≤ 5000) (hl : c.layers.length ≤ 5000) (hg : ∀ j, j < c.layers.length → (aty c.layers j).gates.length ≤ 5000) :
    Calls Tryz.prog 93 #[.pointer (some ⟨b, 0, none⟩), vw, .bool first] w fun e w' => ReadPost b B (stepLine c first (h :: t)) w e w' := by
  have HP := Lib.hid hP; have Hg := Lib.hid hg
  obtain ⟨-, aw, cw, rfl, hcw1, hcw2, hrow⟩ := hw
  obtain ⟨bw, ow, rfl, hbw, hbwk, hcell⟩ := hrow (by simp)
  have Hbwk := Lib.hid hbwk
  have Hcell := Lib.hid (show ∀ j, j < t.length → w.cell? ⟨bw, ow + 1 + j, none⟩ = some (.string (mkB (ats t j))) from fun j hj => by
    have := hcell (j + 1) (by simp; omega)
    rw [ats_cons] at this
    rw [show ow + 1 + j = ow + (j + 1) by omega]; exact this)
  have Hhead := Lib.hid (show w.cell? ⟨bw, ow, none⟩ = some (.string (mkB h)) from hcell 0 (by simp))
  obtain ⟨R, hR⟩ : ∃ R, R = stepLine c first (h :: t) := ⟨_, rfl⟩
  rw [← hR]
  have HR := Lib.hid hR
  obtain ⟨T, hT⟩ : ∃ T, T = t.length := ⟨_, rfl⟩
  have HT := Lib.hid hT
  rw [show (h :: t).length = T + 1 by simp [hT]] at hcw1 ⊢
  have ht5 : T ≤ 5000 := by omega
  clear hcell hrow hP hg hR hT ht hbwk
  have mixed : Tryz.prog.follows .mixedOrders = true := by kernel_rfl
  go_enter Tryz.func93, Tryz.ntmps93
  go_upto_region 2 with (fail)
  go_cut [13, 14, 15] (fun x y z wx => ∃ (ad : Option Addr) (cx : Nat), x = .slice ad T cx ∧ y = .int .i64 (T : Int) ∧ z = .int .i64 0 ∧ w = wx ∧ Hid (0 < T → ad = some ⟨bw, ow + 1, none⟩))
  case first =>
    by_cases hc1 : cw = 1
    · obtain rfl : T = 0 := by omega
      subst hc1
      go_wp2_with (fail)
      go_meet
      case rel => exact ⟨_, _, rfl, rfl, rfl, rfl, fun h => absurd h (by omega)⟩
    · have hc2 : ¬ (cw - 1 = 0) := by omega
      go_wp2_with (fail)
      go_meet
      case rel => exact ⟨_, _, rfl, rfl, rfl, rfl, fun _ => rfl⟩
  case rest =>
    obtain ⟨ad, cx, rfl, rfl, rfl, rfl, HA⟩ := hcut
    obtain ⟨NL, hNL⟩ : ∃ NL, NL = t.map numP := ⟨_, rfl⟩
    have HNl := Lib.hid (show NL.length = T by rw [hNL, List.length_map, HT.out])
    have HNa := Lib.hid (show ∀ j, j < T → at0 NL j = numP (ats t j) from fun j hj => by
      rw [HT.out] at hj
      rw [hNL]; simp [at0, ats, hj])
    have HNm := Lib.hid (show ∀ x ∈ NL, I64 x from fun x hx => by rw [hNL] at hx; obtain ⟨y, _, rfl⟩ := List.mem_map.mp hx; exact I64.num y)
    clear hNL
    go_wp2_with (fail)
    go_loopw [7, 15] (fun n i wr => ∃ (k : Nat), k ≤ T ∧ i = .int .i64 (k : Int) ∧ Hid (NewI w.heap.size wr n (NL.take k)) ∧ Hid (Below w.heap.size w wr) ∧ Hid (∀ j, j < k → 0 ≤ numP (ats t j))) (fun _ i _ => T - (intOf i).toNat)
    case atStart => exact ⟨0, by omega, rfl, NewI.nil _ _, Below.refl _ _, fun j hj => absurd hj (by omega)⟩
    case round =>
      obtain ⟨k, hk, rfl, HN, HBk, HZ⟩ := hrel
      by_cases hz : k < T
      · have hz1 : (k : Int) < (T : Int) := by omega
        have had := HA.out (by omega)
        subst had
        have cx1 := (HBk.out.cell (p := ⟨bw, ow + 1 + k, none⟩) hbw).trans (Hcell.out k (by have := HT.out; omega))
        obtain ⟨X, hX⟩ : ∃ X, X = mkB (ats t k) := ⟨_, rfl⟩
        rw [← hX] at cx1
        obtain ⟨V, hV⟩ : ∃ V, V = numP (ats t k) := ⟨_, rfl⟩
        have CN := Lib.hid (fun W => c_number X W)
        rw [show X.data.toList = ats t k by rw [hX], ← hV] at CN
        have hVr := numP_range (ats t k)
        rw [← hV] at hVr
        have HS := Lib.hid (show NL.take (k + 1) = NL.take k ++ [V] by rw [take_snoc' _ _ (by rw [HNl.out]; exact hz), HNa.out k hz, hV])
        have hcI : (NL.take k).length + 1 ≤ 1000000 := by rw [List.length_take]; omega
        have hsz := HBk.out.size
        have iV : I64 V := by unfold I64; omega
        have HV := Lib.hid hV
        clear hX hV
        by_cases hneg : V < 0
        · have HRn := Lib.hid (show R = none by
            rw [HR.out]
            show (if numsOk t = false then none else _) = none
            rw [if_pos]
            unfold numsOk
            rw [List.all_eq_false]
            refine ⟨ats t k, ?_, by rw [← HV.out]; simp; omega⟩
            have : k < t.length := by have := HT.out; omega
            simp [ats, this])
          go_wp2_with (go_at_call 132; refine (CN.out _).mono ?_; rintro e w' ⟨rfl, rfl⟩)
          go_ret
          exact ReadPost.no HRn.out (HBk.out.mono hB)
        · have hpos : 0 ≤ V := by omega
          go_wp2_with (first
            | (go_at_call 132; refine (CN.out _).mono ?_; rintro e w' ⟨rfl, rfl⟩)
            | (at_builtin; refine wpList_appI rfl _ _ rfl w.heap.size _ _ rfl HN.out V rfl iV hcI hsz ?_; intro v2 w2 hn2 hb2; have HN2 := Lib.hid hn2; have HB2 := Lib.hid (HBk.out.trans hb2); clear hn2 hb2))
          rw [← HS.out] at HN2
          go_roundw
          case rel => exact ⟨k + 1, by omega, by go_num, HN2.out, HB2.out, fun j hj => by
            rcases Nat.lt_or_ge j k with h | h
            · exact HZ.out j h
            · obtain rfl : j = k := by omega
              rw [← HV.out]; exact hpos⟩
          case measure => simp [intOf]; omega
      · obtain rfl : k = T := by omega
        rw [List.take_of_length_le (by rw [HNl.out]; exact Nat.le_refl _)] at HN
        have HNok := Lib.hid (show numsOk t = true by
          unfold numsOk
          rw [List.all_eq_true]
          intro x hx
          obtain ⟨j, hj, rfl⟩ := List.getElem_of_mem hx
          have := HZ.out j (by rw [HT.out]; exact hj)
          simpa [ats, hj] using this)
        obtain ⟨wo, rfl⟩ : ∃ x : World, x = wr := ⟨_, rfl⟩
        have HPo := Lib.hid (HP.out.go HBk.out)
        obtain ⟨hBb, hclog, vL, hbox, hNL⟩ := HPo.out
        obtain ⟨aL, cL, rfl⟩ := NewL.isSlice hNL
        have HNL := Lib.hid hNL
        have Hbox := Lib.hid hbox
        have hr := NewI.row HN.out
        obtain ⟨-, -, aN, cN, rfl, hNc⟩ := hr
        have HNc := Lib.hid hNc
        have HNk := Lib.hid (fun g hg => NewI.kind HN.out (g := g) hg)
        have x1 : wo.cell? ⟨b, 1, none⟩ = some (.slice aL c.layers.length cL) := cell_blk hbox 1
        have xh := (HBk.out.cell (p := ⟨bw, ow, none⟩) hbw).trans Hhead.out
        obtain ⟨H, hH⟩ : ∃ H, H = mkB h := ⟨_, rfl⟩
        rw [← hH] at xh
        have hHl : H.toList = h := by rw [hH, ByteArray.toList_eq]
        obtain ⟨N, hN⟩ : ∃ N, N = NL.length := ⟨_, rfl⟩
        rw [← hN] at HNc ⊢
        have HN' := Lib.hid (show N = t.length from (hN.trans HNl.out).trans HT.out)
        have HNN := Lib.hid hN
        have HBw := Lib.hid (HBk.out.mono hB)
        have lit : ∀ l l2 : List UInt8, h = l → (H.toList == l2) = decide (l = l2) := fun l l2 e => by rw [hHl, e]; exact (Bool.beq_eq_decide_eq l l2)
        have lit2 : ∀ l : List UInt8, ¬ h = l → (H.toList == l) = false := fun l e => by rw [hHl]; exact beq_false_of_ne e
        have Hlit := Lib.hid lit; have Hlit2 := Lib.hid lit2
        clear hHl lit lit2 hH hN
        by_cases eH : h = inputsL
        · have n0 : True := trivial
          have He := Lib.hid eH
          have bI : (H.toList == [105, 110, 112, 117, 116, 115]) = true := (Hlit.out inputsL [105, 110, 112, 117, 116, 115] eH).trans (by decide)
          have bL : (H.toList == [108, 97, 121, 101, 114]) = false := (Hlit.out inputsL [108, 97, 121, 101, 114] eH).trans (by decide)
          have bA : (H.toList == [97, 100, 100]) = false := (Hlit.out inputsL [97, 100, 100] eH).trans (by decide)
          have bM : (H.toList == [109, 117, 108]) = false := (Hlit.out inputsL [109, 117, 108] eH).trans (by decide)
          clear eH
          clear n0
          cases first
          case false =>
            have HRn := Lib.hid (show R = none by rw [HR.out]; show (if numsOk t = false then none else if h = inputsL then _ else _) = _; rw [if_neg (by rw [HNok.out]; decide)]; rw [if_pos He.out]; rw [if_neg (fun e => absurd e.1 (by decide))])
            go_wp2_with (fail)
            go_ret
            exact ReadPost.no HRn.out HBw.out
          case true =>
            by_cases eN : N = 1
            · have HeN := Lib.hid (eN.symm.trans HN'.out)
              subst eN
              obtain ⟨bN, oN, eaN, hbN, hcN⟩ := HNc.out (by decide)
              subst eaN
              obtain ⟨V0, hV0⟩ : ∃ V, V = numP (ats t 0) := ⟨_, rfl⟩
              have y0 : wo.cell? ⟨bN, oN, none⟩ = some (.int .i64 V0) := by rw [hV0, ← HNa.out 0 (by have := HN'.out; have := HT.out; omega)]; exact hcN 0 (by decide)
              have iV0 : I64 V0 := by rw [hV0]; exact I64.num _
              have HV0 := Lib.hid hV0
              clear hcN hV0
              have HRy := Lib.hid (show R = some ⟨V0, c.layers⟩ by rw [HR.out, HV0.out]; show (if numsOk t = false then none else if h = inputsL then _ else _) = _; rw [if_neg (by rw [HNok.out]; decide)]; rw [if_pos He.out]; rw [if_pos ⟨rfl, HeN.out.symm⟩])
              have x0 : wo.cell? ⟨b, 0, none⟩ = some (.int .i64 c.log) := cell_blk Hbox.out 0
              have f0 : wo.frozen? ⟨b, 0, none⟩ = false := free_blk Hbox.out 0
              go_wp2_with (fail)
              go_ret
              exact ReadPost.yes HRy.out (HBw.out.setCell (p := ⟨b, 0, none⟩) hBb _) (HPo.out.setLog V0 iV0)
            · have dN : ((N : Int) != 1) = true := by rw [bne_iff_ne]; exact fun e => eN (by omega)
              have HnN := Lib.hid eN
              clear eN
              have HRn := Lib.hid (show R = none by rw [HR.out]; show (if numsOk t = false then none else if h = inputsL then _ else _) = _; rw [if_neg (by rw [HNok.out]; decide)]; rw [if_pos He.out]; rw [if_neg (fun e => HnN.out (HN'.out.trans e.2))])
              go_wp2_with (fail)
              go_ret
              exact ReadPost.no HRn.out HBw.out
        have nI := eH
        clear eH
        by_cases eH : h = layerL
        · have n0 : True := trivial
          have He := Lib.hid eH
          have bI : (H.toList == [105, 110, 112, 117, 116, 115]) = false := (Hlit.out layerL [105, 110, 112, 117, 116, 115] eH).trans (by decide)
          have bL : (H.toList == [108, 97, 121, 101, 114]) = true := (Hlit.out layerL [108, 97, 121, 101, 114] eH).trans (by decide)
          have bA : (H.toList == [97, 100, 100]) = false := (Hlit.out layerL [97, 100, 100] eH).trans (by decide)
          have bM : (H.toList == [109, 117, 108]) = false := (Hlit.out layerL [109, 117, 108] eH).trans (by decide)
          clear eH
          clear n0
          cases first
          case false =>
            by_cases eN : N = 1
            · have HeN := Lib.hid (eN.symm.trans HN'.out)
              subst eN
              obtain ⟨bN, oN, eaN, hbN, hcN⟩ := HNc.out (by decide)
              subst eaN
              obtain ⟨V0, hV0⟩ : ∃ V, V = numP (ats t 0) := ⟨_, rfl⟩
              have y0 : wo.cell? ⟨bN, oN, none⟩ = some (.int .i64 V0) := by rw [hV0, ← HNa.out 0 (by have := HN'.out; have := HT.out; omega)]; exact hcN 0 (by decide)
              have iV0 : I64 V0 := by rw [hV0]; exact I64.num _
              have HV0 := Lib.hid hV0
              clear hcN hV0
              have HRy := Lib.hid (show R = some ⟨c.log, c.layers ++ [⟨V0, []⟩]⟩ by rw [HR.out, HV0.out]; show (if numsOk t = false then none else if h = inputsL then _ else _) = _; rw [if_neg (by rw [HNok.out]; decide)]; rw [if_neg (by rw [He.out]; decide), if_pos He.out]; rw [if_pos ⟨rfl, HeN.out.symm⟩])
              have hlen1 : c.layers.length + 1 ≤ 10000 := by omega
              have hBo : B ≤ wo.heap.size := by have := HBk.out.size; omega
              have HNd := Lib.hid (show NewL B wo.drew (.slice aL c.layers.length cL) c.layers from NewL.keep HNL.out (fun _ _ _ _ _ => rfl))
              have hbd : wo.drew.heap[b]? = some (.cells #[.int .i64 c.log, .slice aL c.layers.length cL] 62 (0, 0)) := Hbox.out
              have Hbd := Lib.hid hbd
              have hBd : B ≤ wo.drew.heap.size := hBo
              have xa : ∀ o, (wo.alloc o).cell? ⟨b, 1, none⟩ = some (.slice aL c.layers.length cL) := fun o => (((Below.refl _ _).alloc (Nat.le_refl _) _ : Below wo.heap.size wo _).cell (p := ⟨b, 1, none⟩) (blk_lt Hbox.out)).trans x1
              clear hbd
              go_wp2_with (fail)
              go_region_law (first
                | (refine step_appL (w0 := wo.drew) rfl _ _ (by rfl) b B c _ Hbd.out (by rfl) HNd.out hBb hclog V0 (by rfl) iV0 hlen1 hBd ?_; intro gk cap w7 hb7 hp7 hbl7 hgr7; have k7 : w7.cell? ⟨b, 1, none⟩ = some (.slice aL c.layers.length cL) := cell_blk hb7 1; have f7 : w7.frozen? ⟨b, 1, none⟩ = false := free_blk hb7 1; have HP7 := Lib.hid hp7; have HB7 := Lib.hid hbl7; clear hp7 hbl7 hgr7 hb7))
              all_goals
                go_wp2_with (fail)
                go_ret
                exact ReadPost.yes HRy.out (((below_drewN HBw.out 1).trans HB7.out).setCell (p := ⟨b, 1, none⟩) hBb _) HP7.out
            · have dN : ((N : Int) != 1) = true := by rw [bne_iff_ne]; exact fun e => eN (by omega)
              have HnN := Lib.hid eN
              clear eN
              have HRn := Lib.hid (show R = none by rw [HR.out]; show (if numsOk t = false then none else if h = inputsL then _ else _) = _; rw [if_neg (by rw [HNok.out]; decide)]; rw [if_neg (by rw [He.out]; decide), if_pos He.out]; rw [if_neg (fun e => HnN.out (HN'.out.trans e.2))])
              go_wp2_with (fail)
              go_ret
              exact ReadPost.no HRn.out HBw.out
          case true =>
            have HRn := Lib.hid (show R = none by rw [HR.out]; show (if numsOk t = false then none else if h = inputsL then _ else _) = _; rw [if_neg (by rw [HNok.out]; decide)]; rw [if_neg (by rw [He.out]; decide), if_pos He.out]; rw [if_neg (fun e => absurd e.1 (by decide))])
            go_wp2_with (fail)
            go_ret
            exact ReadPost.no HRn.out HBw.out
        have nL := eH
        clear eH
        by_cases eH : h = addL
        · have n0 : True := trivial
          have He := Lib.hid eH
          have bI : (H.toList == [105, 110, 112, 117, 116, 115]) = false := (Hlit.out addL [105, 110, 112, 117, 116, 115] eH).trans (by decide)
          have bL : (H.toList == [108, 97, 121, 101, 114]) = false := (Hlit.out addL [108, 97, 121, 101, 114] eH).trans (by decide)
          have bA : (H.toList == [97, 100, 100]) = true := (Hlit.out addL [97, 100, 100] eH).trans (by decide)
          have bM : (H.toList == [109, 117, 108]) = false := (Hlit.out addL [109, 117, 108] eH).trans (by decide)
          clear eH
          clear n0
          cases first
          case false =>
            by_cases eN : N = 2
            · have HeN := Lib.hid (eN.symm.trans HN'.out)
              subst eN
              by_cases eL : c.layers.length = 0
              · have HeL := Lib.hid eL
                have dl : decide ((c.layers.length : Int) - 1 < 0) = true := decide_eq_true (by omega)
                clear eL
                have HRn := Lib.hid (show R = none by rw [HR.out]; show (if numsOk t = false then none else if h = inputsL then _ else _) = _; rw [if_neg (by rw [HNok.out]; decide)]; rw [if_neg (by rw [He.out]; decide), if_neg (by rw [He.out]; decide), if_pos (Or.inl He.out)]; rw [if_neg (fun e => by have := e.2.2; have := HeL.out; omega)])
                go_wp2_with (fail)
                go_ret
                exact ReadPost.no HRn.out HBw.out
              · have dl : decide ((c.layers.length : Int) - 1 < 0) = false := decide_eq_false (by omega)
                obtain ⟨bN, oN, eaN, hbN, hcN⟩ := HNc.out (by decide)
                subst eaN
                obtain ⟨V0, hV0⟩ : ∃ V, V = numP (ats t 0) := ⟨_, rfl⟩
                have y0 : wo.cell? ⟨bN, oN, none⟩ = some (.int .i64 V0) := by rw [hV0, ← HNa.out 0 (by have := HN'.out; have := HT.out; omega)]; exact hcN 0 (by decide)
                have iV0 : I64 V0 := by rw [hV0]; exact I64.num _
                have HV0 := Lib.hid hV0
                obtain ⟨V1, hV1⟩ : ∃ V, V = numP (ats t 1) := ⟨_, rfl⟩
                have y1 : wo.cell? ⟨bN, oN + 1, none⟩ = some (.int .i64 V1) := by rw [hV1, ← HNa.out 1 (by have := HN'.out; have := HT.out; omega)]; exact hcN 1 (by decide)
                have iV1 : I64 V1 := by rw [hV1]; exact I64.num _
                have HV1 := Lib.hid hV1
                clear hcN hV0 hV1
                have hmlt : c.layers.length - 1 < c.layers.length := by omega
                have HNd := Lib.hid (show NewL B wo.drew (.slice aL c.layers.length cL) c.layers from NewL.keep HNL.out (fun _ _ _ _ _ => rfl))
                obtain ⟨L, capL, uG, eaL, hBL, hLlt, ⟨csL, hcsL⟩, cG, hGn, hmore⟩ := NewL.layer HNd.out (c.layers.length - 1) hmlt
                cases eaL
                obtain ⟨aG, cGc, rfl⟩ := hGn.isSlice
                have Hmore := Lib.hid hmore; have HGn := Lib.hid hGn; have HcsL := Lib.hid hcsL
                have hgl : (aty c.layers (c.layers.length - 1)).gates.length + 1 ≤ 10000 := by have := Hg.out _ hmlt; omega
                have HRy := Lib.hid (show R = some ⟨c.log, c.layers.set (c.layers.length - 1) ⟨(aty c.layers (c.layers.length - 1)).log, (aty c.layers (c.layers.length - 1)).gates ++ [⟨false, V0, V1⟩]⟩⟩ by rw [HR.out, HV0.out, HV1.out]; show (if numsOk t = false then none else if h = inputsL then _ else _) = _; rw [if_neg (by rw [HNok.out]; decide)]; rw [if_neg (by rw [He.out]; decide), if_neg (by rw [He.out]; decide), if_pos (Or.inl He.out)]; rw [if_pos ⟨rfl, HeN.out.symm, by omega⟩, show decide (h = mulL) = false from decide_eq_false (by rw [He.out]; decide)])
                obtain ⟨m, hm⟩ : ∃ m : Nat, m = c.layers.length - 1 := ⟨_, rfl⟩
                rw [← hm] at cG HRy hgl HGn Hmore
                have Hm := Lib.hid (show c.layers.length = m + 1 by omega)
                rw [Hm.out] at Hmore
                have Hbox2 := Lib.hid (show wo.drew.heap[b]? = some (.cells #[.int .i64 c.log, .slice (some ⟨L, 0, none⟩) (m + 1) cL] 62 (0, 0)) from by have := Hbox.out; rw [Hm.out] at this; exact this)
                have x1m : wo.cell? ⟨b, 1, none⟩ = some (.slice (some ⟨L, 0, none⟩) (m + 1) cL) := by rw [← Hm.out]; exact x1
                have xam : ∀ o, (wo.alloc o).cell? ⟨b, 1, none⟩ = some (.slice (some ⟨L, 0, none⟩) (m + 1) cL) := fun o => (((Below.refl _ _).alloc (Nat.le_refl _) _ : Below wo.heap.size wo _).cell (p := ⟨b, 1, none⟩) (blk_lt Hbox.out)).trans x1m
                have gL : wo.cell? ⟨L, m * 2 + 1, none⟩ = some (.slice aG (aty c.layers m).gates.length cGc) := cG
                have gLa : ∀ o, (wo.alloc o).cell? ⟨L, m * 2 + 1, none⟩ = some (.slice aG (aty c.layers m).gates.length cGc) := fun o => (((Below.refl _ _).alloc (Nat.le_refl _) _ : Below wo.heap.size wo _).cell (p := ⟨L, m * 2 + 1, none⟩) hLlt).trans gL
                have hm5 : m ≤ 5000 := by omega
                have m0 : (0 : Int) ≤ (m : Int) := by omega
                have m1 : (m : Int) < (m : Int) + 1 := by omega
                have dl : decide ((m : Int) < 0) = false := decide_eq_false (by omega)
                have hBd : B ≤ wo.drew.heap.size := by have := HBk.out.size; show B ≤ wo.heap.size; omega
                have HGk := Lib.hid (fun k (hk : (Value.slice aG (aty c.layers m).gates.length cGc).ownBlock = some k) => HGn.out.kind hk)
                obtain ⟨GL, hGL⟩ : ∃ GL, GL = (aty c.layers m).gates := ⟨_, rfl⟩
                rw [← hGL] at HRy hgl HGn Hmore gL gLa HGk
                clear x1 cG hm hGL hmlt eL hGn hmore hcsL Hbox HNL hl
                obtain ⟨cw5, hcw5⟩ := Hbwk.out
                have Hkw := Lib.hid (((HBk.out).block bw hbw).trans hcw5)
                have Hkn := HNk.out bN rfl
                obtain ⟨cn5, hcn5⟩ := Hkn
                have Hkn := Lib.hid hcn5
                have lb := blk_lt Hbox2.out; have lN := blk_lt hcn5; have lw : bw < wo.heap.size := by have := HBk.out.size; omega
                have hSd : Same3 b bN bw wo wo.drew := ⟨rfl, rfl, rfl⟩
                have HSa := Lib.hid (fun o => (show Same3 b bN bw wo (wo.alloc o).drew from Same3.below ⟨rfl, rfl, rfl⟩ (below_drewN ((Below.refl _ _).alloc (Nat.le_refl _) _) 1) lb lN lw))
                have K := Lib.hid (show ∀ X, Same3 b bN bw wo X → Same3 b bN bw wo X ∧ X.cell? ⟨b, 1, none⟩ = some (.slice (some ⟨L, 0, none⟩) (m + 1) cL) ∧ X.cell? ⟨bN, oN, none⟩ = some (.int .i64 V0) ∧ X.cell? ⟨bN, oN + 1, none⟩ = some (.int .i64 V1) ∧ X.cell? ⟨bw, ow, none⟩ = some (.string H) from fun X hX => ⟨hX, (World.cell?_of_block (w := wo) hX.1).trans x1m, (World.cell?_of_block (w := wo) hX.2.1).trans y0, (World.cell?_of_block (w := wo) hX.2.1).trans y1, (World.cell?_of_block (w := wo) hX.2.2).trans xh⟩)
                have HM3 := Lib.hid (fun w7 (hg7 : wo.drew.grownBy w7 (Value.slice aG GL.length cGc).ownBlock) => (show Same3 b bN bw wo w7 from ⟨hg7.block b lb (fun e => by obtain ⟨_, q⟩ := HGk.out b e.symm; exact ne_kind Hbox2.out q (by decide) rfl), hg7.block bN lN (fun e => by obtain ⟨_, q⟩ := HGk.out bN e.symm; exact ne_kind (w := wo.drew) Hkn.out q (by decide) rfl), hg7.block bw lw (fun e => by obtain ⟨_, q⟩ := HGk.out bw e.symm; exact ne_kind (w := wo.drew) Hkw.out q (by decide) rfl)⟩))
                have HM4 := Lib.hid (fun w7 (h : Same3 b bN bw wo w7) v => (show Same3 b bN bw wo (w7.setCell ⟨L, m * 2 + 1, none⟩ v) from ⟨(Below.heap_setCell _ _ _ _ (ne_kind Hbox2.out HcsL.out (by decide))).trans h.1, (Below.heap_setCell _ _ _ _ (ne_kind (w := wo.drew) Hkn.out HcsL.out (by decide))).trans h.2.1, (Below.heap_setCell _ _ _ _ (ne_kind (w := wo.drew) Hkw.out HcsL.out (by decide))).trans h.2.2⟩))
                clear hcw5 hcn5 lb lN lw
                go_wp2_with (fail)
                rw [show ({ dst := some 98, op := Op.load 122 (Operand.tmp 97), type := 122, pos := "circuit.go:129", after := #[{ on := 11, ground := Ground.data }], guard := none } : Oper) = id { dst := some 98, op := Op.load 122 (Operand.tmp 97), type := 122, pos := "circuit.go:129", after := #[{ on := 11, ground := Ground.data }], guard := none } from rfl]
                go_region_held3 (fun w' => Same3 b bN bw wo w' ∧ w'.cell? ⟨b, 1, none⟩ = some (.slice (some ⟨L, 0, none⟩) (m + 1) cL) ∧ w'.cell? ⟨bN, oN, none⟩ = some (.int .i64 V0) ∧ w'.cell? ⟨bN, oN + 1, none⟩ = some (.int .i64 V1) ∧ w'.cell? ⟨bw, ow, none⟩ = some (.string H))
                  (first
                    | exact K.out _ hS7
                    | exact K.out _ (HM4.out _ hS7 _)
                    | exact K.out _ hSd
                    | exact K.out _ (HSa.out _))
                  (first
                    | (refine step_appG (w0 := wo.drew) rfl _ _ (by rfl) B _ GL (by rfl) HGn.out false V0 V1 (by rfl) ⟨iV0, iV1⟩ hgl hBd ?_; intro gk cap w7 hn7 hg7 hk7; have HM := Lib.hid (Hmore.out w7 gk cap _ hn7 hg7 hk7); have HA7 := Lib.hid (Pk.addGate hBb hclog Hbox2.out HcsL.out HGk.out hg7 HM.out.2.2); have k7 : w7.cell? ⟨L, m * 2 + 1, none⟩ = some (.slice aG GL.length cGc) := HM.out.1; have f7 : w7.frozen? ⟨L, m * 2 + 1, none⟩ = false := HM.out.2.1; have HB7 := Lib.hid (show Below B wo.drew w7 from below_of_grown hg7 hBd HGn.out); have hS7 : Same3 b bN bw wo w7 := HM3.out w7 hg7; clear hn7 hg7 hk7))
                all_goals
                  go_wp2_with (fail)
                  go_ret
                  exact ReadPost.yes HRy.out (((below_drewN HBw.out 1).trans HB7.out).setCell (p := ⟨L, m * 2 + 1, none⟩) hBL _) HA7.out.1
            · have dN : ((N : Int) != 2) = true := by rw [bne_iff_ne]; exact fun e => eN (by omega)
              have HnN := Lib.hid eN
              clear eN
              have HRn := Lib.hid (show R = none by rw [HR.out]; show (if numsOk t = false then none else if h = inputsL then _ else _) = _; rw [if_neg (by rw [HNok.out]; decide)]; rw [if_neg (by rw [He.out]; decide), if_neg (by rw [He.out]; decide), if_pos (Or.inl He.out)]; rw [if_neg (fun e => HnN.out (HN'.out.trans e.2.1))])
              go_wp2_with (fail)
              go_ret
              exact ReadPost.no HRn.out HBw.out
          case true =>
            have HRn := Lib.hid (show R = none by rw [HR.out]; show (if numsOk t = false then none else if h = inputsL then _ else _) = _; rw [if_neg (by rw [HNok.out]; decide)]; rw [if_neg (by rw [He.out]; decide), if_neg (by rw [He.out]; decide), if_pos (Or.inl He.out)]; rw [if_neg (fun e => absurd e.1 (by decide))])
            go_wp2_with (fail)
            go_ret
            exact ReadPost.no HRn.out HBw.out
        have nA := eH
        clear eH
        by_cases eH : h = mulL
        · have n0 : True := trivial
          have He := Lib.hid eH
          have bI : (H.toList == [105, 110, 112, 117, 116, 115]) = false := (Hlit.out mulL [105, 110, 112, 117, 116, 115] eH).trans (by decide)
          have bL : (H.toList == [108, 97, 121, 101, 114]) = false := (Hlit.out mulL [108, 97, 121, 101, 114] eH).trans (by decide)
          have bA : (H.toList == [97, 100, 100]) = false := (Hlit.out mulL [97, 100, 100] eH).trans (by decide)
          have bM : (H.toList == [109, 117, 108]) = true := (Hlit.out mulL [109, 117, 108] eH).trans (by decide)
          clear eH
          clear n0
          cases first
          case false =>
            by_cases eN : N = 2
            · have HeN := Lib.hid (eN.symm.trans HN'.out)
              subst eN
              by_cases eL : c.layers.length = 0
              · have HeL := Lib.hid eL
                have dl : decide ((c.layers.length : Int) - 1 < 0) = true := decide_eq_true (by omega)
                clear eL
                have HRn := Lib.hid (show R = none by rw [HR.out]; show (if numsOk t = false then none else if h = inputsL then _ else _) = _; rw [if_neg (by rw [HNok.out]; decide)]; rw [if_neg (by rw [He.out]; decide), if_neg (by rw [He.out]; decide), if_pos (Or.inr He.out)]; rw [if_neg (fun e => by have := e.2.2; have := HeL.out; omega)])
                go_wp2_with (fail)
                go_ret
                exact ReadPost.no HRn.out HBw.out
              · have dl : decide ((c.layers.length : Int) - 1 < 0) = false := decide_eq_false (by omega)
                obtain ⟨bN, oN, eaN, hbN, hcN⟩ := HNc.out (by decide)
                subst eaN
                obtain ⟨V0, hV0⟩ : ∃ V, V = numP (ats t 0) := ⟨_, rfl⟩
                have y0 : wo.cell? ⟨bN, oN, none⟩ = some (.int .i64 V0) := by rw [hV0, ← HNa.out 0 (by have := HN'.out; have := HT.out; omega)]; exact hcN 0 (by decide)
                have iV0 : I64 V0 := by rw [hV0]; exact I64.num _
                have HV0 := Lib.hid hV0
                obtain ⟨V1, hV1⟩ : ∃ V, V = numP (ats t 1) := ⟨_, rfl⟩
                have y1 : wo.cell? ⟨bN, oN + 1, none⟩ = some (.int .i64 V1) := by rw [hV1, ← HNa.out 1 (by have := HN'.out; have := HT.out; omega)]; exact hcN 1 (by decide)
                have iV1 : I64 V1 := by rw [hV1]; exact I64.num _
                have HV1 := Lib.hid hV1
                clear hcN hV0 hV1
                have hmlt : c.layers.length - 1 < c.layers.length := by omega
                have HNd := Lib.hid (show NewL B wo.drew (.slice aL c.layers.length cL) c.layers from NewL.keep HNL.out (fun _ _ _ _ _ => rfl))
                obtain ⟨L, capL, uG, eaL, hBL, hLlt, ⟨csL, hcsL⟩, cG, hGn, hmore⟩ := NewL.layer HNd.out (c.layers.length - 1) hmlt
                cases eaL
                obtain ⟨aG, cGc, rfl⟩ := hGn.isSlice
                have Hmore := Lib.hid hmore; have HGn := Lib.hid hGn; have HcsL := Lib.hid hcsL
                have hgl : (aty c.layers (c.layers.length - 1)).gates.length + 1 ≤ 10000 := by have := Hg.out _ hmlt; omega
                have HRy := Lib.hid (show R = some ⟨c.log, c.layers.set (c.layers.length - 1) ⟨(aty c.layers (c.layers.length - 1)).log, (aty c.layers (c.layers.length - 1)).gates ++ [⟨true, V0, V1⟩]⟩⟩ by rw [HR.out, HV0.out, HV1.out]; show (if numsOk t = false then none else if h = inputsL then _ else _) = _; rw [if_neg (by rw [HNok.out]; decide)]; rw [if_neg (by rw [He.out]; decide), if_neg (by rw [He.out]; decide), if_pos (Or.inr He.out)]; rw [if_pos ⟨rfl, HeN.out.symm, by omega⟩, show decide (h = mulL) = true from decide_eq_true He.out])
                obtain ⟨m, hm⟩ : ∃ m : Nat, m = c.layers.length - 1 := ⟨_, rfl⟩
                rw [← hm] at cG HRy hgl HGn Hmore
                have Hm := Lib.hid (show c.layers.length = m + 1 by omega)
                rw [Hm.out] at Hmore
                have Hbox2 := Lib.hid (show wo.drew.heap[b]? = some (.cells #[.int .i64 c.log, .slice (some ⟨L, 0, none⟩) (m + 1) cL] 62 (0, 0)) from by have := Hbox.out; rw [Hm.out] at this; exact this)
                have x1m : wo.cell? ⟨b, 1, none⟩ = some (.slice (some ⟨L, 0, none⟩) (m + 1) cL) := by rw [← Hm.out]; exact x1
                have xam : ∀ o, (wo.alloc o).cell? ⟨b, 1, none⟩ = some (.slice (some ⟨L, 0, none⟩) (m + 1) cL) := fun o => (((Below.refl _ _).alloc (Nat.le_refl _) _ : Below wo.heap.size wo _).cell (p := ⟨b, 1, none⟩) (blk_lt Hbox.out)).trans x1m
                have gL : wo.cell? ⟨L, m * 2 + 1, none⟩ = some (.slice aG (aty c.layers m).gates.length cGc) := cG
                have gLa : ∀ o, (wo.alloc o).cell? ⟨L, m * 2 + 1, none⟩ = some (.slice aG (aty c.layers m).gates.length cGc) := fun o => (((Below.refl _ _).alloc (Nat.le_refl _) _ : Below wo.heap.size wo _).cell (p := ⟨L, m * 2 + 1, none⟩) hLlt).trans gL
                have hm5 : m ≤ 5000 := by omega
                have m0 : (0 : Int) ≤ (m : Int) := by omega
                have m1 : (m : Int) < (m : Int) + 1 := by omega
                have dl : decide ((m : Int) < 0) = false := decide_eq_false (by omega)
                have hBd : B ≤ wo.drew.heap.size := by have := HBk.out.size; show B ≤ wo.heap.size; omega
                have HGk := Lib.hid (fun k (hk : (Value.slice aG (aty c.layers m).gates.length cGc).ownBlock = some k) => HGn.out.kind hk)
                obtain ⟨GL, hGL⟩ : ∃ GL, GL = (aty c.layers m).gates := ⟨_, rfl⟩
                rw [← hGL] at HRy hgl HGn Hmore gL gLa HGk
                clear x1 cG hm hGL hmlt eL hGn hmore hcsL Hbox HNL hl
                obtain ⟨cw5, hcw5⟩ := Hbwk.out
                have Hkw := Lib.hid (((HBk.out).block bw hbw).trans hcw5)
                have Hkn := HNk.out bN rfl
                obtain ⟨cn5, hcn5⟩ := Hkn
                have Hkn := Lib.hid hcn5
                have lb := blk_lt Hbox2.out; have lN := blk_lt hcn5; have lw : bw < wo.heap.size := by have := HBk.out.size; omega
                have hSd : Same3 b bN bw wo wo.drew := ⟨rfl, rfl, rfl⟩
                have HSa := Lib.hid (fun o => (show Same3 b bN bw wo (wo.alloc o).drew from Same3.below ⟨rfl, rfl, rfl⟩ (below_drewN ((Below.refl _ _).alloc (Nat.le_refl _) _) 1) lb lN lw))
                have K := Lib.hid (show ∀ X, Same3 b bN bw wo X → Same3 b bN bw wo X ∧ X.cell? ⟨b, 1, none⟩ = some (.slice (some ⟨L, 0, none⟩) (m + 1) cL) ∧ X.cell? ⟨bN, oN, none⟩ = some (.int .i64 V0) ∧ X.cell? ⟨bN, oN + 1, none⟩ = some (.int .i64 V1) ∧ X.cell? ⟨bw, ow, none⟩ = some (.string H) from fun X hX => ⟨hX, (World.cell?_of_block (w := wo) hX.1).trans x1m, (World.cell?_of_block (w := wo) hX.2.1).trans y0, (World.cell?_of_block (w := wo) hX.2.1).trans y1, (World.cell?_of_block (w := wo) hX.2.2).trans xh⟩)
                have HM3 := Lib.hid (fun w7 (hg7 : wo.drew.grownBy w7 (Value.slice aG GL.length cGc).ownBlock) => (show Same3 b bN bw wo w7 from ⟨hg7.block b lb (fun e => by obtain ⟨_, q⟩ := HGk.out b e.symm; exact ne_kind Hbox2.out q (by decide) rfl), hg7.block bN lN (fun e => by obtain ⟨_, q⟩ := HGk.out bN e.symm; exact ne_kind (w := wo.drew) Hkn.out q (by decide) rfl), hg7.block bw lw (fun e => by obtain ⟨_, q⟩ := HGk.out bw e.symm; exact ne_kind (w := wo.drew) Hkw.out q (by decide) rfl)⟩))
                have HM4 := Lib.hid (fun w7 (h : Same3 b bN bw wo w7) v => (show Same3 b bN bw wo (w7.setCell ⟨L, m * 2 + 1, none⟩ v) from ⟨(Below.heap_setCell _ _ _ _ (ne_kind Hbox2.out HcsL.out (by decide))).trans h.1, (Below.heap_setCell _ _ _ _ (ne_kind (w := wo.drew) Hkn.out HcsL.out (by decide))).trans h.2.1, (Below.heap_setCell _ _ _ _ (ne_kind (w := wo.drew) Hkw.out HcsL.out (by decide))).trans h.2.2⟩))
                clear hcw5 hcn5 lb lN lw
                go_wp2_with (fail)
                rw [show ({ dst := some 98, op := Op.load 122 (Operand.tmp 97), type := 122, pos := "circuit.go:129", after := #[{ on := 11, ground := Ground.data }], guard := none } : Oper) = id { dst := some 98, op := Op.load 122 (Operand.tmp 97), type := 122, pos := "circuit.go:129", after := #[{ on := 11, ground := Ground.data }], guard := none } from rfl]
                go_region_held3 (fun w' => Same3 b bN bw wo w' ∧ w'.cell? ⟨b, 1, none⟩ = some (.slice (some ⟨L, 0, none⟩) (m + 1) cL) ∧ w'.cell? ⟨bN, oN, none⟩ = some (.int .i64 V0) ∧ w'.cell? ⟨bN, oN + 1, none⟩ = some (.int .i64 V1) ∧ w'.cell? ⟨bw, ow, none⟩ = some (.string H))
                  (first
                    | exact K.out _ hS7
                    | exact K.out _ (HM4.out _ hS7 _)
                    | exact K.out _ hSd
                    | exact K.out _ (HSa.out _))
                  (first
                    | (refine step_appG (w0 := wo.drew) rfl _ _ (by rfl) B _ GL (by rfl) HGn.out true V0 V1 (by rfl) ⟨iV0, iV1⟩ hgl hBd ?_; intro gk cap w7 hn7 hg7 hk7; have HM := Lib.hid (Hmore.out w7 gk cap _ hn7 hg7 hk7); have HA7 := Lib.hid (Pk.addGate hBb hclog Hbox2.out HcsL.out HGk.out hg7 HM.out.2.2); have k7 : w7.cell? ⟨L, m * 2 + 1, none⟩ = some (.slice aG GL.length cGc) := HM.out.1; have f7 : w7.frozen? ⟨L, m * 2 + 1, none⟩ = false := HM.out.2.1; have HB7 := Lib.hid (show Below B wo.drew w7 from below_of_grown hg7 hBd HGn.out); have hS7 : Same3 b bN bw wo w7 := HM3.out w7 hg7; clear hn7 hg7 hk7))
                all_goals
                  go_wp2_with (fail)
                  go_ret
                  exact ReadPost.yes HRy.out (((below_drewN HBw.out 1).trans HB7.out).setCell (p := ⟨L, m * 2 + 1, none⟩) hBL _) HA7.out.1
            · have dN : ((N : Int) != 2) = true := by rw [bne_iff_ne]; exact fun e => eN (by omega)
              have HnN := Lib.hid eN
              clear eN
              have HRn := Lib.hid (show R = none by rw [HR.out]; show (if numsOk t = false then none else if h = inputsL then _ else _) = _; rw [if_neg (by rw [HNok.out]; decide)]; rw [if_neg (by rw [He.out]; decide), if_neg (by rw [He.out]; decide), if_pos (Or.inr He.out)]; rw [if_neg (fun e => HnN.out (HN'.out.trans e.2.1))])
              go_wp2_with (fail)
              go_ret
              exact ReadPost.no HRn.out HBw.out
          case true =>
            have HRn := Lib.hid (show R = none by rw [HR.out]; show (if numsOk t = false then none else if h = inputsL then _ else _) = _; rw [if_neg (by rw [HNok.out]; decide)]; rw [if_neg (by rw [He.out]; decide), if_neg (by rw [He.out]; decide), if_pos (Or.inr He.out)]; rw [if_neg (fun e => absurd e.1 (by decide))])
            go_wp2_with (fail)
            go_ret
            exact ReadPost.no HRn.out HBw.out
        have nM := eH
        clear eH
        have bI : (H.toList == [105, 110, 112, 117, 116, 115]) = false := Hlit2.out inputsL nI
        have bL : (H.toList == [108, 97, 121, 101, 114]) = false := Hlit2.out layerL nL
        have bA : (H.toList == [97, 100, 100]) = false := Hlit2.out addL nA
        have bM : (H.toList == [109, 117, 108]) = false := Hlit2.out mulL nM
        have HRn := Lib.hid (show R = none by rw [HR.out]; show (if numsOk t = false then none else if h = inputsL then _ else _) = _; rw [if_neg (by rw [HNok.out]; decide)]; rw [if_neg nI, if_neg nL, if_neg (fun e => e.elim nA nM)])
        go_wp2_with (fail)
        go_ret
        exact ReadPost.no HRn.out HBw.out
end Go.Proofs.YtlfneeobnihocaaGreatDoor
