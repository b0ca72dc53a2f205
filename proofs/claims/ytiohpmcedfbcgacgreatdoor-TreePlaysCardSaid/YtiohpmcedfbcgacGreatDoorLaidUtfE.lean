/- The condition that two tables of unicode/utf8 and errors.errorType are laid, and a world that meets it. No further condition. -/
import Derived.Test.YtiohpmcedfbcgacGreatDoorLaidLaw
import Derived.MakeChecks
import Derived.Stop.LaidErr
namespace Go.Proofs.YtiohpmcedfbcgacGreatDoor
open Go.ChangeShapes Go.WideShapes Go.RowKit
set_option linter.unusedVariables false

def laidUtf : List (String × DataW Unit) := [("unicode/utf8.acceptRanges", Rows.laid_unicode_utf8_acceptRanges), ("errors.errorType", Rows.laid_errors_errorType), ("unicode/utf8.first", Rows.laid_unicode_utf8_first)]
theorem laidUtf_laid {W : World} (h : laidMetH Tryz.prog laidUtf W) : Laid W := by
  have h' : laidMet Tryz.prog [("unicode/utf8.acceptRanges", Rows.laid_unicode_utf8_acceptRanges), ("unicode/utf8.first", Rows.laid_unicode_utf8_first)] W ∧ handlesMet Tryz.prog laidOne W := h
  exact laid_of_met (show laidMetH Tryz.prog laidOne W from ⟨laidMet_nil _ _, h'.2⟩)
def flatCells (d : DataW Unit) : Array Value := match d with
  | .agg l => (l.flatMap fun x => match x with
      | .lit (.int k z) => [Value.int k z]
      | .agg m => m.map fun y => match y with
        | .lit (.int k z) => Value.int k z
        | _ => undef
      | _ => [undef]).toArray
  | _ => #[]
noncomputable def laidWorldU (os : Os) : World :=
  let w0 := World.holding Tryz.prog os ⟨#[], #[], []⟩
  { w0 with heap := ((w0.heap.modify 0 fun
      | .cells _ t frozen => .cells #[.iface 396 (.agg #[.pointer (some ⟨7, 26, none⟩)])] t frozen
      | o => o).modify 6 fun
      | .cells _ t frozen => .cells (flatCells Rows.laid_unicode_utf8_acceptRanges) t frozen
      | o => o).modify 5 fun
      | .cells _ t frozen => .cells (flatCells Rows.laid_unicode_utf8_first) t frozen
      | o => o }
theorem laidWorldU_met (os : Os) (args : Array Value) : laidMetH Tryz.prog laidUtf ((laidWorldU os).forCall (fun _ _ => 0) ⟨#[], args, []⟩).memory :=
  laidMetH_of_parts (laidMet_of_run' 600 (by kernel_rfl) (by kernel_rfl)) (by kernel_rfl)
end Go.Proofs.YtiohpmcedfbcgacGreatDoor
