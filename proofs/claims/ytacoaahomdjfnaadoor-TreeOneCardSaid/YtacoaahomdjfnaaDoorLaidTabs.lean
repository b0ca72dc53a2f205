/- The condition that five variables are laid (tables of numbers, tables of unicode/utf8), as a walk wants it, and a world that meets it. No further condition. -/
import Derived.Test.YtacoaahomdjfnaaDoorRows
import Derived.Test.YtacoaahomdjfnaaDoorLaw
import Derived.ChangeVars
import Derived.JoinedOf
import Derived.RowKit
import Derived.RowKitTokens
import Derived.LaidLaws
import Derived.LaidHandle
import Derived.Stop.Joined
import Derived.Test.YtacoaahomdjfnaaDoorItoaText
import Derived.MakeChecks
import Derived.Lib.LaidTab
import Derived.Stop.LaidErr
namespace Go.Proofs.YtacoaahomdjfnaaDoor
set_option linter.unusedVariables false
section
open Go.ChangeShapes Go.WideShapes Go.RowKit Go.Lib
def laidTabs:List (String×DataW Unit):=[("math/bits.deBruijn32tab",Rows.laid_math_bits_deBruijn32tab),("math/bits.deBruijn64tab",Rows.laid_math_bits_deBruijn64tab),("internal/strconv.uint64pow10",Rows.laid_internal_strconv_uint64pow10),("unicode/utf8.acceptRanges",Rows.laid_unicode_utf8_acceptRanges),("unicode/utf8.first",Rows.laid_unicode_utf8_first)]
theorem tabType:(Tryd.prog.globals[1]?).map (·.type)=some 99:=by kernel_rfl
theorem laidTabs_met {W:World} (h:laidMetH Tryd.prog laidTabs W):Tab W:=by
 have h':laidMet Tryd.prog [("math/bits.deBruijn32tab",Rows.laid_math_bits_deBruijn32tab),("math/bits.deBruijn64tab",Rows.laid_math_bits_deBruijn64tab),("internal/strconv.uint64pow10",Rows.laid_internal_strconv_uint64pow10),("unicode/utf8.acceptRanges",Rows.laid_unicode_utf8_acceptRanges),("unicode/utf8.first",Rows.laid_unicode_utf8_first)] W:=h
 have h3:laidMet Tryd.prog [("internal/strconv.uint64pow10",tabData .u64 pow10Tab),("unicode/utf8.acceptRanges",Rows.laid_unicode_utf8_acceptRanges),("unicode/utf8.first",Rows.laid_unicode_utf8_first)] W:=h'.tail.tail
 exact tabIs_of_head tabNamed tabType Tryd.underlying99 Tryd.underlying82 (by kernel_rfl) (by kernel_rfl) h3
def flatCells (d:DataW Unit):Array Value:=match d with
 | .agg l => (l.flatMap fun x => match x with
   | .lit (.int k z) => [Value.int k z]
   | .agg m => m.map fun y => match y with
    | .lit (.int k z) => Value.int k z
    | _ => undef
   | _ => [undef]).toArray
 | _ => #[]
noncomputable def laidWorldTb (os:Os):World :=
  let w0:=World.holding Tryd.prog os ⟨#[],#[],[]⟩
  { w0 with heap:=((((w0.heap.modify 1 fun
      | .cells _ t frozen => .cells (flatCells Rows.laid_internal_strconv_uint64pow10) t frozen
      | o => o).modify 2 fun
      | .cells _ t frozen => .cells (flatCells Rows.laid_math_bits_deBruijn32tab) t frozen
      | o => o).modify 3 fun
      | .cells _ t frozen => .cells (flatCells Rows.laid_math_bits_deBruijn64tab) t frozen
      | o => o).modify 5 fun
      | .cells _ t frozen => .cells (flatCells Rows.laid_unicode_utf8_acceptRanges) t frozen
      | o => o).modify 4 fun
      | .cells _ t frozen => .cells (flatCells Rows.laid_unicode_utf8_first) t frozen
      | o => o }
theorem laidWorldTb_met (os:Os) (args:Array Value):laidMetH Tryd.prog laidTabs ((laidWorldTb os).forCall (fun _ _ => 0) ⟨#[],args,[]⟩).memory :=
 laidMetH_of_parts (laidMet_of_run' 600 (by kernel_rfl) (by kernel_rfl)) (by kernel_rfl)
end
end Go.Proofs.YtacoaahomdjfnaaDoor
