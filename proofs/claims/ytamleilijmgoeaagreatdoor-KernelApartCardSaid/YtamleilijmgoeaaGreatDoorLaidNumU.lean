/- The condition that errors.errorType, the tables of numbers and two tables of unicode/utf8 are laid, as a walk wants it, and a world that meets it. No further condition. -/
import Derived.Test.YtamleilijmgoeaaGreatDoorLaw
import Derived.Test.YtamleilijmgoeaaGreatDoorNumText
import Derived.MakeChecks
import Derived.Lib.LaidTab
import Derived.Stop.LaidErr
namespace Go.Proofs.YtamleilijmgoeaaGreatDoor
set_option linter.unusedVariables false
section
open Go.ChangeShapes Go.WideShapes Go.RowKit Go.Lib
def laidNumU:List (String×DataW Unit):=[("math/bits.deBruijn32tab",Rows.laid_math_bits_deBruijn32tab),("math/bits.deBruijn64tab",Rows.laid_math_bits_deBruijn64tab),("internal/strconv.uint64pow10",Rows.laid_internal_strconv_uint64pow10),("unicode/utf8.acceptRanges",Rows.laid_unicode_utf8_acceptRanges),("errors.errorType",Rows.laid_errors_errorType),("unicode/utf8.first",Rows.laid_unicode_utf8_first)]
theorem tabType:(Tryz.prog.globals[1]?).map (·.type)=some 421:=by kernel_rfl
theorem laidNumU_met {W:World} (h:laidMetH Tryz.prog laidNumU W):Laid W∧Tab W:=by
 have h':laidMet Tryz.prog [("math/bits.deBruijn32tab",Rows.laid_math_bits_deBruijn32tab),("math/bits.deBruijn64tab",Rows.laid_math_bits_deBruijn64tab),("internal/strconv.uint64pow10",Rows.laid_internal_strconv_uint64pow10),("unicode/utf8.acceptRanges",Rows.laid_unicode_utf8_acceptRanges),("unicode/utf8.first",Rows.laid_unicode_utf8_first)] W∧handlesMet Tryz.prog laidOne W:=h
 refine ⟨laid_of_met (show laidMetH Tryz.prog laidOne W from ⟨laidMet_nil _ _,h'.2⟩),?_⟩
 have h3:laidMet Tryz.prog [("internal/strconv.uint64pow10",tabData .u64 pow10Tab),("unicode/utf8.acceptRanges",Rows.laid_unicode_utf8_acceptRanges),("unicode/utf8.first",Rows.laid_unicode_utf8_first)] W:=h'.1.tail.tail
 exact tabIs_of_head tabNamed tabType Tryz.underlying421 Tryz.underlying397 (by kernel_rfl) (by kernel_rfl) h3
def litCells (d:DataW Unit):Array Value:=match d with
 | .agg l => (l.map fun x => match x with
   | .lit (.int k z) => Value.int k z
   | _ => undef).toArray
 | _ => #[]
def flatCells (d:DataW Unit):Array Value:=match d with
 | .agg l => (l.flatMap fun x => match x with
   | .lit (.int k z) => [Value.int k z]
   | .agg m => m.map fun y => match y with
    | .lit (.int k z) => Value.int k z
    | _ => undef
   | _ => [undef]).toArray
 | _ => #[]
noncomputable def laidWorldNU (os:Os):World :=
  let w0:=World.holding Tryz.prog os ⟨#[],#[],[]⟩
  { w0 with heap:=(((((w0.heap.modify 0 fun
      | .cells _ t frozen => .cells #[.iface 337 (.agg #[.pointer (some ⟨7,27,none⟩)])] t frozen
      | o => o).modify 1 fun
      | .cells _ t frozen => .cells (litCells Rows.laid_internal_strconv_uint64pow10) t frozen
      | o => o).modify 3 fun
      | .cells _ t frozen => .cells (litCells Rows.laid_math_bits_deBruijn32tab) t frozen
      | o => o).modify 4 fun
      | .cells _ t frozen => .cells (litCells Rows.laid_math_bits_deBruijn64tab) t frozen
      | o => o).modify 6 fun
      | .cells _ t frozen => .cells (flatCells Rows.laid_unicode_utf8_acceptRanges) t frozen
      | o => o).modify 5 fun
      | .cells _ t frozen => .cells (flatCells Rows.laid_unicode_utf8_first) t frozen
      | o => o }
theorem laidWorldNU_met (os:Os) (args:Array Value):laidMetH Tryz.prog laidNumU ((laidWorldNU os).forCall (fun _ _ => 0) ⟨#[],args,[]⟩).memory :=
 laidMetH_of_parts (laidMet_of_run' 600 (by kernel_rfl) (by kernel_rfl)) (by kernel_rfl)
end
end Go.Proofs.YtamleilijmgoeaaGreatDoor
