/- The condition that errors.errorType and the tables of numbers are laid, as a walk wants it, and a world that meets it. No further condition. -/
import Derived.Test.YtiohpmcedfbcgacGreatDoorLaidLaw
import Derived.Test.YtiohpmcedfbcgacGreatDoorNumText
import Derived.MakeChecks
import Derived.Lib.LaidTab
import Derived.Stop.LaidErr
namespace Go.Proofs.YtiohpmcedfbcgacGreatDoor
open Go.ChangeShapes Go.WideShapes Go.RowKit Go.Lib
set_option linter.unusedVariables false

def laidNum : List (String × DataW Unit) := [("math/bits.deBruijn32tab", Rows.laid_math_bits_deBruijn32tab), ("math/bits.deBruijn64tab", Rows.laid_math_bits_deBruijn64tab), ("internal/strconv.uint64pow10", Rows.laid_internal_strconv_uint64pow10), ("errors.errorType", Rows.laid_errors_errorType)]
theorem tabType : (Tryz.prog.globals[1]?).map (·.type) = some 429 := by kernel_rfl
theorem laidNum_met {W : World} (h : laidMetH Tryz.prog laidNum W) : Laid W ∧ Tab W := by
  have h' : laidMet Tryz.prog [("math/bits.deBruijn32tab", Rows.laid_math_bits_deBruijn32tab), ("math/bits.deBruijn64tab", Rows.laid_math_bits_deBruijn64tab), ("internal/strconv.uint64pow10", Rows.laid_internal_strconv_uint64pow10)] W ∧ handlesMet Tryz.prog laidOne W := h
  refine ⟨laid_of_met (show laidMetH Tryz.prog laidOne W from ⟨laidMet_nil _ _, h'.2⟩), ?_⟩
  have h3 : laidMet Tryz.prog [("internal/strconv.uint64pow10", tabData .u64 pow10Tab)] W := h'.1.tail.tail
  exact tabIs_of_head tabNamed tabType Tryz.underlying429 Tryz.underlying387 (by kernel_rfl) (by kernel_rfl) h3
def litCells (d : DataW Unit) : Array Value := match d with
  | .agg l => (l.map fun x => match x with
      | .lit (.int k z) => Value.int k z
      | _ => undef).toArray
  | _ => #[]
noncomputable def laidWorldN (os : Os) : World :=
  let w0 := World.holding Tryz.prog os ⟨#[], #[], []⟩
  { w0 with heap := (((w0.heap.modify 0 fun
      | .cells _ t frozen => .cells #[.iface 396 (.agg #[.pointer (some ⟨7, 26, none⟩)])] t frozen
      | o => o).modify 1 fun
      | .cells _ t frozen => .cells (litCells Rows.laid_internal_strconv_uint64pow10) t frozen
      | o => o).modify 3 fun
      | .cells _ t frozen => .cells (litCells Rows.laid_math_bits_deBruijn32tab) t frozen
      | o => o).modify 4 fun
      | .cells _ t frozen => .cells (litCells Rows.laid_math_bits_deBruijn64tab) t frozen
      | o => o }
theorem laidWorldN_met (os : Os) (args : Array Value) : laidMetH Tryz.prog laidNum ((laidWorldN os).forCall (fun _ _ => 0) ⟨#[], args, []⟩).memory :=
  laidMetH_of_parts (laidMet_of_run' 80 (by kernel_rfl) (by kernel_rfl)) (by kernel_rfl)
end Go.Proofs.YtiohpmcedfbcgacGreatDoor
