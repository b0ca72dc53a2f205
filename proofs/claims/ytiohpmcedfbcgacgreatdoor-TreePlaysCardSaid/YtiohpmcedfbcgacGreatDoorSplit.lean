/- strings.Split at "/", strings.CutPrefix of "/": the kit's contracts at this translation. No condition but the text's size. -/
import Derived.Test.YtiohpmcedfbcgacGreatDoorProg
import Derived.Test.YtiohpmcedfbcgacGreatDoorPaths
import Derived.Test.YtiohpmcedfbcgacGreatDoorSplitI
import Derived.Test.YtiohpmcedfbcgacGreatDoorCutPreI
import Derived.WalkKit
import Derived.BigRegion
namespace Go.Proofs.YtiohpmcedfbcgacGreatDoor
open Go.RowKit Go.Shelf Go.Lib
set_option linter.unusedVariables false

theorem infoStr : (Tryz.prog.info? 9).map (fun i => (i.zero, i.size, i.bytes)) = some (some (.string ByteArray.empty), 1, 16) := by kernel_rfl
theorem genSplit_is (s : ByteArray) (hs : s.size < 4294967281) (w : World) :
    Calls Tryz.prog 295 #[.string s, .string slash, .int .i64 0, .int .i64 (-1)] w fun e w' => e = .returned (.slice (some ⟨w.heap.size, 0, none⟩) (piecesOf s).length (piecesOf s).length) ∧ w' = w.alloc (.cells ((piecesOf s).map Value.string).toArray 9) := by
  have hle := countB_le slash (by decide) s.size s (Nat.le_refl _)
  have hlen := pieces_length s
  have c := Any.strings_genSplit_core (P := Tryz.prog) (ρ := laysSplitI_ren) { laysSplitI with } infoStr s slash 0 (-1) (countB s slash + 1) w hs (by decide) (Nat.zero_le _)
    (fun x c hx => (Any.strings_Index_one { laysSplitI with } x 47 _).mono fun e w' h => ⟨by rw [h.1]; congr 2; exact (index_one _ _).symm, h.2⟩)
    ((Any.strings_Count_one { laysSplitI with } s 47 w).mono fun e w' h => ⟨by
      rw [h.1]
      show _ = Ending.returned (Value.int .i64 ((count s.data.toList [47] : Nat) : Int))
      rw [count_one]; rfl, h.2⟩)
    (by decide) (by decide) (by rw [if_pos (by decide)]; omega)
  rw [Nat.add_sub_cancel] at c
  refine c.mono ?_
  rintro e w' ⟨rfl, rfl⟩
  rw [← hlen]
  exact ⟨rfl, by rw [show cellsOf (splitB slash 0 (countB s slash) s) (piecesOf s).length = ((piecesOf s).map Value.string).toArray from cellsOf_full _]; rfl⟩
set_option maxRecDepth 100000 in
theorem split_is (s : ByteArray) (hs : s.size < 4294967281) (w : World) :
    Calls Tryz.prog 219 #[.string s, .string slash] w fun e w' => e = .returned (.slice (some ⟨w.heap.size, 0, none⟩) (piecesOf s).length (piecesOf s).length) ∧ w' = w.alloc (.cells ((piecesOf s).map Value.string).toArray 9) := by
  have HG := hid (genSplit_is s hs w)
  clear hs
  go_enter Tryz.func219, Tryz.ntmps219
  go_wp2_with fail
  refine HG.out.mono ?_
  rintro e w' ⟨rfl, rfl⟩
  go_wp2_with fail
  go_ret
  exact ⟨rfl, rfl⟩
theorem cutSlash_yes {s : ByteArray} (h : led s = true) (w : World) : Calls Tryz.prog 218 #[.string s, .string slash] w fun e w' => e = .returned (.tuple #[.string (s.extract 1 s.size), .bool true]) ∧ w' = w := by
  refine (Any.strings_CutPrefix laysCutPreI s slash w).mono ?_
  rintro e w' ⟨rfl, rfl⟩
  have h2 := hasPrefix_raw s slash
  have h3 : hasPrefix s.data.toList slash.data.toList = true := h
  rw [h3] at h2
  rw [Bool.and_eq_true] at h2
  rw [h3, trimPrefix_hit s slash (of_decide_eq_true h2.1) h2.2]
  exact ⟨rfl, rfl⟩
theorem cutSlash_no {s : ByteArray} (h : led s = false) (w : World) : Calls Tryz.prog 218 #[.string s, .string slash] w fun e w' => e = .returned (.tuple #[.string s, .bool false]) ∧ w' = w := by
  refine (Any.strings_CutPrefix laysCutPreI s slash w).mono ?_
  rintro e w' ⟨rfl, rfl⟩
  have h2 := hasPrefix_raw s slash
  have h3 : hasPrefix s.data.toList slash.data.toList = false := h
  rw [h3] at h2
  rw [h3, trimPrefix_miss s slash h2]
  exact ⟨rfl, rfl⟩
end Go.Proofs.YtiohpmcedfbcgacGreatDoor
