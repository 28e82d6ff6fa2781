/- strings.Cut and strings.Split at a separator of one byte, at texts of at most 100000 bytes. From the kit's shelf. -/
import Derived.Test.YtlfneeobnihocaaGreatDoorPcs
import Derived.Test.YtlfneeobnihocaaGreatDoorRTextW
import Derived.Lib.IndexBytes
import Derived.BigRegion
namespace Go.Proofs.YtlfneeobnihocaaGreatDoor
set_option maxRecDepth 100000
set_option linter.unusedVariables false
open Go.RowKit Tally
theorem index_byte (s : List UInt8) (c : UInt8) : Lib.indexByte s c = Lib.index s [c] := (Lib.index_one s c).symm
theorem index_B (s : ByteArray) (c : UInt8) : Lib.indexB s ⟨#[c]⟩ = Lib.index s.data.toList [c] := rfl
set_option maxRecDepth 100000 in
set_option maxHeartbeats 1000000 in
theorem lite_Cut_miss (s : ByteArray) (c : UInt8) (w : World) (hi : Lib.index s.data.toList [c] = -1) :
    Calls Tryz.prog 131 #[.string s, .string ⟨#[c]⟩] w fun e w' => e = .returned (.tuple #[.string s, .string ⟨#[]⟩, .bool false]) ∧ w = w' := by
  go_enter Tryz.func131, Tryz.ntmps131
  go_wp2_with (go_at_call 54; refine (Tryz.stringslite_Index_one s c _).mono ?_; rintro e w' ⟨rfl, rfl⟩; rw [index_byte, hi])
  go_ret3
  exact ⟨rfl, rfl⟩
set_option maxRecDepth 100000 in
set_option maxHeartbeats 1000000 in
theorem lite_Cut_hit (s : ByteArray) (c : UInt8) (i : Nat) (w : World) (hi : Lib.index s.data.toList [c] = (i : Int)) (hs : i + 1 ≤ s.size) (hs2 : s.size ≤ 100000) :
    Calls Tryz.prog 131 #[.string s, .string ⟨#[c]⟩] w fun e w' => e = .returned (.tuple #[.string (s.extract 0 i), .string (s.extract (i + 1) s.size), .bool true]) ∧ w.drewN 1 = w' := by
  have c1 : (0 : Int) ≤ ↑i := by omega
  have c2 : (↑i : Int) ≤ ↑s.size := by omega
  have c3 : (0 : Int) ≤ ↑i + 1 := by omega
  have c4 : (↑i + 1 : Int) ≤ ↑s.size := by omega
  have c5 : IntKind.i64.wrap ((i : Int) + 1) = (i : Int) + 1 := IntWalk.i64_in _ (by omega)
  have mixed : Tryz.prog.follows .mixedOrders = true := by kernel_rfl
  go_enter Tryz.func131, Tryz.ntmps131
  go_wp2_with (go_at_call 54; refine (Tryz.stringslite_Index_one s c _).mono ?_; rintro e w' ⟨rfl, rfl⟩; rw [index_byte, hi])
  go_region_o
  go_wp2
  go_ret3
  exact ⟨rfl, rfl⟩
theorem st_Cut_miss (s : ByteArray) (c : UInt8) (w : World) (hi : Lib.index s.data.toList [c] = -1) :
    Calls Tryz.prog 92 #[.string s, .string ⟨#[c]⟩] w fun e w' => e = .returned (.tuple #[.string s, .string ⟨#[]⟩, .bool false]) ∧ w = w' := by
  go_enter Tryz.func92, Tryz.ntmps92
  go_wp2_with (go_at_call 131; refine (lite_Cut_miss s c _ hi).mono ?_; rintro e w' ⟨rfl, rfl⟩)
  go_ret3
  exact ⟨rfl, rfl⟩
theorem st_Cut_hit (s : ByteArray) (c : UInt8) (i : Nat) (w : World) (hi : Lib.index s.data.toList [c] = (i : Int)) (hs : i + 1 ≤ s.size) (hs2 : s.size ≤ 100000) :
    Calls Tryz.prog 92 #[.string s, .string ⟨#[c]⟩] w fun e w' => e = .returned (.tuple #[.string (s.extract 0 i), .string (s.extract (i + 1) s.size), .bool true]) ∧ w.drewN 1 = w' := by
  go_enter Tryz.func92, Tryz.ntmps92
  go_wp2_with (go_at_call 131; refine (lite_Cut_hit s c i _ hi hs hs2).mono ?_; rintro e w' ⟨rfl, rfl⟩)
  go_ret3
  exact ⟨rfl, rfl⟩
/-- the cells of a row of strings -/
def strRow (l : List (List UInt8)) : Array Value := (l.map fun x => Value.string (mkB x)).toArray
theorem st_Split (s : ByteArray) (c : UInt8) (w : World) (hs2 : s.size ≤ 100000) :
    Calls Tryz.prog 13 #[.string s, .string ⟨#[c]⟩] w fun e w' => e = .returned (.slice (some ⟨w.heap.size, 0, none⟩) (pcs c s.data.toList).length (pcs c s.data.toList).length) ∧ w.alloc (.cells (strRow (pcs c s.data.toList)) 9) = w' := by
  have hcount : Lib.countB s ⟨#[c]⟩ = s.data.toList.count c := Lib.count_one c s.data.toList
  have hle : s.data.toList.count c ≤ s.size := by
    have h := List.count_le_length (a := c) (l := s.data.toList)
    rw [Array.length_toList] at h
    exact h
  have hlen := pcs_length c s.data.toList
  have G := Any.strings_genSplit_core Tryz.lays221 (by kernel_rfl) s ⟨#[c]⟩ 0 (-1) (s.data.toList.count c + 1) w (by omega) (Nat.le_refl 1) (Nat.zero_le _)
    (fun x cs hx => (Tryz.strings_Index_one x c _).mono fun e w' ⟨h1, h2⟩ => ⟨by rw [h1, index_byte], h2⟩)
    ((Tryz.strings_Count_one s c w).mono fun e w' ⟨h1, h2⟩ => ⟨by rw [h1, hcount]; rfl, h2⟩)
    (by decide) (by decide) (by rw [if_pos (by decide), hcount]; omega)
  rw [show s.data.toList.count c + 1 - 1 = Lib.countB s ⟨#[c]⟩ by omega, splitB_pcs] at G
  have G2 : Calls Tryz.prog 25 #[.string s, .string ⟨#[c]⟩, .int .i64 0, .int .i64 (-1)] w fun e w' => e = .returned (.slice (some ⟨w.heap.size, 0, none⟩) (pcs c s.data.toList).length (pcs c s.data.toList).length) ∧ w.alloc (.cells (strRow (pcs c s.data.toList)) 9) = w' := by
    refine G.mono ?_
    rintro e w' ⟨rfl, rfl⟩
    refine ⟨by rw [List.length_map, hlen], ?_⟩
    have := Lib.cellsOf_full ((pcs c s.data.toList).map mkB)
    rw [List.length_map, hlen] at this
    rw [this, List.map_map]; rfl
  clear hlen hcount hle G
  go_enter Tryz.func13, Tryz.ntmps13
  go_wp2_with (go_at_call 25; refine G2.mono ?_; rintro e w' ⟨rfl, rfl⟩)
  go_ret
  exact ⟨rfl, rfl⟩
end Go.Proofs.YtlfneeobnihocaaGreatDoor
