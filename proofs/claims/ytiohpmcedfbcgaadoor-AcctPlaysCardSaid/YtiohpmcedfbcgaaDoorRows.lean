/-
  NARROWER THAN 'FOR EVERY INPUT', by the rows' own cells (each row's printed sentence says how): PipeOrder: laid · AcctWhole: laid · FramesPlays: laid · AcctPlays: laid · PipePlays: laid · BuddyBack: laid.
  DERIVED. THE GIVEN ROWS OF THIS SEAT. 6 by the template 'for every input the law returns true; each argument reads behind the call as it read before'; 0 by the template 'total and deterministic' (their statements: YtiohpmcedfbcgaaDoorTotals.lean).
  GIVEN WITH THE SEED: the statements are not yours to turn. If you find one false, say at which input.
  Laid BY PROGRAM, IN A SANDBOX (cutbox-rows.mjs): the forced cells as the released guide's own fill.sh prints them over the translation ce181cffe6757913… (all of the seat's roots in one cut). By AI agents, Wed Nov 11 2026. No macro, syntax, notation, axiom, sorry.
-/
import Derived.Test.YtiohpmcedfbcgaaDoorChecked
import GoSem.Claim
import GoSem.ClaimJoined
import GoSem.ClaimMapViews
import Derived.JoinedTies
import Derived.KernelRfl
namespace Go.Proofs.YtiohpmcedfbcgaaDoor
/- THE CELL 'sum', in the pinned program and in every row, IS THE sha256 OF THE DUMP (.gsa) THAT YtiohpmcedfbcgaaDoorProg.lean LOADS. Nothing in Lean hashes anything: it is a label: what it is worth is what the hold of that sum in a sandbox is worth. -/
noncomputable def Tryd.pinned : Pinned := { name := "ytiohpmcedfbcgaadoor", sum := "ce181cffe6757913e91b98db0331901c91020c6b9bfed44efc628c0c9076328a", checked := Tryd.checked }
namespace Rows
def none {H : Type} : Left H := { results := [], args := [] }

/- WHAT THE LISTED PACKAGE-LEVEL VARIABLES READ AS WHEN THE CALL BEGINS. Each datum BY PROGRAM (the guide's laid-datum.mjs) off the statement by which the dump's own 'gosem.cut.vars' lays the variable. In a bare row this is a premise. The card (YtiohpmcedfbcgaaDoorCards.lean) ties it to the program's text. -/
def laid_errors_errorType {H : Type} : DataW H := .iface "internal/reflectlite.rtype" (.agg [.ptr (.lit (.string [101, 114, 114, 111, 114]))])
def laid_almshouse_almshouseref_Fine {H : Type} : DataW H := .agg [.lit (.int .i64 0), .lit (.int .i64 (-1))]

/-- 'almshousekeep.PipeOrder': WHATEVER THE INPUT: true; the input reads as it did. -/
def pipeOrderSpec : ChangeSpec := { name := "pipeOrder", fn := fun _ => fun
  | [d] => { results := [.lit (.bool true)], args := [d] }
  | _ => none }
def pipeOrderRow : OpenClaim := { program := "ytiohpmcedfbcgaadoor", sum := "ce181cffe6757913e91b98db0331901c91020c6b9bfed44efc628c0c9076328a", func := "almshouse/almshousekeep.PipeOrder", spec := "pipeOrder", inPlace := ["internal/reflectlite.ValueOf", "(internal/reflectlite.Value).Type", "(internal/reflectlite.Value).IsNil", "internal/reflectlite.TypeOf", "(internal/reflectlite.Value).Elem", "(internal/reflectlite.Value).Set"], unfollowed := true, recurses := true, named := ["errors.errorType"], apart := false, laid := [("errors.errorType", laid_errors_errorType)] }
def PipeOrderSaid : Prop := pipeOrderRow.holds Tryd.pinned (OpenSpec.ofChange pipeOrderSpec)

/-- ITS FALSE NEIGHBOUR: 'it returns false'. Refute it at one input. -/
def pipeOrderWrong : ChangeSpec := { name := "pipeOrder", fn := fun _ => fun
  | [d] => { results := [.lit (.bool false)], args := [d] }
  | _ => none }
def PipeOrderWrongFalsely : Prop := pipeOrderRow.holds Tryd.pinned (OpenSpec.ofChange pipeOrderWrong)

/-- 'almshousekeep.AcctWhole': WHATEVER THE INPUT: true; the input reads as it did. -/
def acctWholeSpec : ChangeSpec := { name := "acctWhole", fn := fun _ => fun
  | [d1, d2] => { results := [.lit (.bool true)], args := [d1, d2] }
  | _ => none }
def acctWholeRow : OpenClaim := { program := "ytiohpmcedfbcgaadoor", sum := "ce181cffe6757913e91b98db0331901c91020c6b9bfed44efc628c0c9076328a", func := "almshouse/almshousekeep.AcctWhole", spec := "acctWhole", inPlace := ["internal/reflectlite.ValueOf", "(internal/reflectlite.Value).Type", "(internal/reflectlite.Value).IsNil", "internal/reflectlite.TypeOf", "(internal/reflectlite.Value).Elem", "(internal/reflectlite.Value).Set"], unfollowed := true, recurses := true, named := ["errors.errorType"], apart := false, laid := [("errors.errorType", laid_errors_errorType)] }
def AcctWholeSaid : Prop := acctWholeRow.holds Tryd.pinned (OpenSpec.ofChange acctWholeSpec)

/-- ITS FALSE NEIGHBOUR: 'it returns false'. Refute it at one input. -/
def acctWholeWrong : ChangeSpec := { name := "acctWhole", fn := fun _ => fun
  | [d1, d2] => { results := [.lit (.bool false)], args := [d1, d2] }
  | _ => none }
def AcctWholeWrongFalsely : Prop := acctWholeRow.holds Tryd.pinned (OpenSpec.ofChange acctWholeWrong)

/-- 'almshouselaw.FramesPlays': WHATEVER THE INPUT: true; the input reads as it did. -/
def framesPlaysSpec : ChangeSpec := { name := "framesPlays", fn := fun _ => fun
  | [d1, d2] => { results := [.lit (.bool true)], args := [d1, d2] }
  | _ => none }
def framesPlaysRow : OpenClaim := { program := "ytiohpmcedfbcgaadoor", sum := "ce181cffe6757913e91b98db0331901c91020c6b9bfed44efc628c0c9076328a", func := "almshouse/almshouselaw.FramesPlays", spec := "framesPlays", inPlace := ["internal/reflectlite.ValueOf", "(internal/reflectlite.Value).Type", "(internal/reflectlite.Value).IsNil", "internal/reflectlite.TypeOf", "(internal/reflectlite.Value).Elem", "(internal/reflectlite.Value).Set"], unfollowed := true, recurses := true, named := ["errors.errorType"], apart := false, laid := [("errors.errorType", laid_errors_errorType)] }
def FramesPlaysSaid : Prop := framesPlaysRow.holds Tryd.pinned (OpenSpec.ofChange framesPlaysSpec)

/-- ITS FALSE NEIGHBOUR: 'it returns false'. Refute it at one input. -/
def framesPlaysWrong : ChangeSpec := { name := "framesPlays", fn := fun _ => fun
  | [d1, d2] => { results := [.lit (.bool false)], args := [d1, d2] }
  | _ => none }
def FramesPlaysWrongFalsely : Prop := framesPlaysRow.holds Tryd.pinned (OpenSpec.ofChange framesPlaysWrong)

/-- 'almshouselaw.AcctPlays': WHATEVER THE INPUT: true; the input reads as it did. -/
def acctPlaysSpec : ChangeSpec := { name := "acctPlays", fn := fun _ => fun
  | [d1, d2] => { results := [.lit (.bool true)], args := [d1, d2] }
  | _ => none }
def acctPlaysRow : OpenClaim := { program := "ytiohpmcedfbcgaadoor", sum := "ce181cffe6757913e91b98db0331901c91020c6b9bfed44efc628c0c9076328a", func := "almshouse/almshouselaw.AcctPlays", spec := "acctPlays", inPlace := ["internal/reflectlite.ValueOf", "(internal/reflectlite.Value).Type", "(internal/reflectlite.Value).IsNil", "internal/reflectlite.TypeOf", "(internal/reflectlite.Value).Elem", "(internal/reflectlite.Value).Set"], unfollowed := true, recurses := true, named := ["errors.errorType", "almshouse/almshouseref.Fine"], apart := false, laid := [("errors.errorType", laid_errors_errorType), ("almshouse/almshouseref.Fine", laid_almshouse_almshouseref_Fine)] }
def AcctPlaysSaid : Prop := acctPlaysRow.holds Tryd.pinned (OpenSpec.ofChange acctPlaysSpec)

/-- ITS FALSE NEIGHBOUR: 'it returns false'. Refute it at one input. -/
def acctPlaysWrong : ChangeSpec := { name := "acctPlays", fn := fun _ => fun
  | [d1, d2] => { results := [.lit (.bool false)], args := [d1, d2] }
  | _ => none }
def AcctPlaysWrongFalsely : Prop := acctPlaysRow.holds Tryd.pinned (OpenSpec.ofChange acctPlaysWrong)

/-- 'almshouselaw.PipePlays': WHATEVER THE INPUT: true; the input reads as it did. -/
def pipePlaysSpec : ChangeSpec := { name := "pipePlays", fn := fun _ => fun
  | [d] => { results := [.lit (.bool true)], args := [d] }
  | _ => none }
def pipePlaysRow : OpenClaim := { program := "ytiohpmcedfbcgaadoor", sum := "ce181cffe6757913e91b98db0331901c91020c6b9bfed44efc628c0c9076328a", func := "almshouse/almshouselaw.PipePlays", spec := "pipePlays", inPlace := ["internal/reflectlite.ValueOf", "(internal/reflectlite.Value).Type", "(internal/reflectlite.Value).IsNil", "internal/reflectlite.TypeOf", "(internal/reflectlite.Value).Elem", "(internal/reflectlite.Value).Set"], unfollowed := true, recurses := true, named := ["errors.errorType"], apart := false, laid := [("errors.errorType", laid_errors_errorType)] }
def PipePlaysSaid : Prop := pipePlaysRow.holds Tryd.pinned (OpenSpec.ofChange pipePlaysSpec)

/-- ITS FALSE NEIGHBOUR: 'it returns false'. Refute it at one input. -/
def pipePlaysWrong : ChangeSpec := { name := "pipePlays", fn := fun _ => fun
  | [d] => { results := [.lit (.bool false)], args := [d] }
  | _ => none }
def PipePlaysWrongFalsely : Prop := pipePlaysRow.holds Tryd.pinned (OpenSpec.ofChange pipePlaysWrong)

/-- 'almshousekeep.BuddyBack': WHATEVER THE INPUT: true; the input reads as it did. -/
def buddyBackSpec : ChangeSpec := { name := "buddyBack", fn := fun _ => fun
  | [d1, d2, d3] => { results := [.lit (.bool true)], args := [d1, d2, d3] }
  | _ => none }
def buddyBackRow : OpenClaim := { program := "ytiohpmcedfbcgaadoor", sum := "ce181cffe6757913e91b98db0331901c91020c6b9bfed44efc628c0c9076328a", func := "almshouse/almshousekeep.BuddyBack", spec := "buddyBack", inPlace := ["internal/reflectlite.ValueOf", "(internal/reflectlite.Value).Type", "(internal/reflectlite.Value).IsNil", "internal/reflectlite.TypeOf", "(internal/reflectlite.Value).Elem", "(internal/reflectlite.Value).Set"], unfollowed := true, recurses := true, named := ["errors.errorType"], apart := false, laid := [("errors.errorType", laid_errors_errorType)] }
def BuddyBackSaid : Prop := buddyBackRow.holds Tryd.pinned (OpenSpec.ofChange buddyBackSpec)

/-- ITS FALSE NEIGHBOUR: 'it returns false'. Refute it at one input. -/
def buddyBackWrong : ChangeSpec := { name := "buddyBack", fn := fun _ => fun
  | [d1, d2, d3] => { results := [.lit (.bool false)], args := [d1, d2, d3] }
  | _ => none }
def BuddyBackWrongFalsely : Prop := buddyBackRow.holds Tryd.pinned (OpenSpec.ofChange buddyBackWrong)

/- THE SECOND FORM. 'bulk': how many values and letters a reading holds, each counted each time it is reached (what is shared counts as often as it is met; a slice's spare places count too). A statement '..UptoSaid' is the law's where the arguments, and the package variables that the reading takes, are together of bulk at most 1048576: NARROWER than '..Said'. Prove '..Said' where nothing that the law and all that it calls make is longer than what came in: it says more and counts as full. Else prove '..UptoSaid'. A law counts once. -/
mutual
def uptoBulk {H : Type} : DataW H → Nat
  | .lit (.string bytes) => bytes.length + 1
  | .lit _ => 1
  | .nil => 1
  | .ptr d => uptoBulk d + 1
  | .slice elems spare => uptoBulkAll elems + uptoBulkAll spare + 1
  | .agg parts => uptoBulkAll parts + 1
  | .iface _ d => uptoBulk d + 1
  | .map entries => uptoBulkEntries entries + 1
  | .held _ => 1
def uptoBulkAll {H : Type} : List (DataW H) → Nat
  | [] => 0
  | d :: r => uptoBulk d + uptoBulkAll r
def uptoBulkEntries {H : Type} : List (Lit × DataW H) → Nat
  | [] => 0
  | x :: r => uptoBulkEntry x + uptoBulkEntries r
def uptoBulkEntry {H : Type} : Lit × DataW H → Nat
  | (.string bytes, d) => bytes.length + uptoBulk d + 1
  | (_, d) => uptoBulk d + 1
 end
def uptoSmall : (H : Type) → List (DataW H) → Bool := fun _ ds => decide (uptoBulkAll ds ≤ 1048576)
def OpenSpec.upto (s : _root_.Go.ChangeSpec) : _root_.Go.OpenSpec := { _root_.Go.OpenSpec.ofChange s with cond := some uptoSmall }

/-- 'almshousekeep.PipeOrder', WHERE WHAT IT READS IS OF BULK AT MOST 1048576: true; the input reads as it did. -/
def pipeOrderUptoRow : OpenClaim := { program := "ytiohpmcedfbcgaadoor", sum := "ce181cffe6757913e91b98db0331901c91020c6b9bfed44efc628c0c9076328a", func := "almshouse/almshousekeep.PipeOrder", spec := "pipeOrder", inPlace := ["internal/reflectlite.ValueOf", "(internal/reflectlite.Value).Type", "(internal/reflectlite.Value).IsNil", "internal/reflectlite.TypeOf", "(internal/reflectlite.Value).Elem", "(internal/reflectlite.Value).Set"], unfollowed := true, recurses := true, named := ["errors.errorType"], apart := false, laid := [("errors.errorType", laid_errors_errorType)], narrowed := true }
def PipeOrderUptoSaid : Prop := pipeOrderUptoRow.holds Tryd.pinned (OpenSpec.upto pipeOrderSpec)

/-- 'almshousekeep.AcctWhole', WHERE WHAT IT READS IS OF BULK AT MOST 1048576: true; the input reads as it did. -/
def acctWholeUptoRow : OpenClaim := { program := "ytiohpmcedfbcgaadoor", sum := "ce181cffe6757913e91b98db0331901c91020c6b9bfed44efc628c0c9076328a", func := "almshouse/almshousekeep.AcctWhole", spec := "acctWhole", inPlace := ["internal/reflectlite.ValueOf", "(internal/reflectlite.Value).Type", "(internal/reflectlite.Value).IsNil", "internal/reflectlite.TypeOf", "(internal/reflectlite.Value).Elem", "(internal/reflectlite.Value).Set"], unfollowed := true, recurses := true, named := ["errors.errorType"], apart := false, laid := [("errors.errorType", laid_errors_errorType)], narrowed := true }
def AcctWholeUptoSaid : Prop := acctWholeUptoRow.holds Tryd.pinned (OpenSpec.upto acctWholeSpec)

/-- 'almshouselaw.FramesPlays', WHERE WHAT IT READS IS OF BULK AT MOST 1048576: true; the input reads as it did. -/
def framesPlaysUptoRow : OpenClaim := { program := "ytiohpmcedfbcgaadoor", sum := "ce181cffe6757913e91b98db0331901c91020c6b9bfed44efc628c0c9076328a", func := "almshouse/almshouselaw.FramesPlays", spec := "framesPlays", inPlace := ["internal/reflectlite.ValueOf", "(internal/reflectlite.Value).Type", "(internal/reflectlite.Value).IsNil", "internal/reflectlite.TypeOf", "(internal/reflectlite.Value).Elem", "(internal/reflectlite.Value).Set"], unfollowed := true, recurses := true, named := ["errors.errorType"], apart := false, laid := [("errors.errorType", laid_errors_errorType)], narrowed := true }
def FramesPlaysUptoSaid : Prop := framesPlaysUptoRow.holds Tryd.pinned (OpenSpec.upto framesPlaysSpec)

/-- 'almshouselaw.AcctPlays', WHERE WHAT IT READS IS OF BULK AT MOST 1048576: true; the input reads as it did. -/
def acctPlaysUptoRow : OpenClaim := { program := "ytiohpmcedfbcgaadoor", sum := "ce181cffe6757913e91b98db0331901c91020c6b9bfed44efc628c0c9076328a", func := "almshouse/almshouselaw.AcctPlays", spec := "acctPlays", inPlace := ["internal/reflectlite.ValueOf", "(internal/reflectlite.Value).Type", "(internal/reflectlite.Value).IsNil", "internal/reflectlite.TypeOf", "(internal/reflectlite.Value).Elem", "(internal/reflectlite.Value).Set"], unfollowed := true, recurses := true, named := ["errors.errorType", "almshouse/almshouseref.Fine"], apart := false, laid := [("errors.errorType", laid_errors_errorType), ("almshouse/almshouseref.Fine", laid_almshouse_almshouseref_Fine)], narrowed := true }
def AcctPlaysUptoSaid : Prop := acctPlaysUptoRow.holds Tryd.pinned (OpenSpec.upto acctPlaysSpec)

/-- 'almshouselaw.PipePlays', WHERE WHAT IT READS IS OF BULK AT MOST 1048576: true; the input reads as it did. -/
def pipePlaysUptoRow : OpenClaim := { program := "ytiohpmcedfbcgaadoor", sum := "ce181cffe6757913e91b98db0331901c91020c6b9bfed44efc628c0c9076328a", func := "almshouse/almshouselaw.PipePlays", spec := "pipePlays", inPlace := ["internal/reflectlite.ValueOf", "(internal/reflectlite.Value).Type", "(internal/reflectlite.Value).IsNil", "internal/reflectlite.TypeOf", "(internal/reflectlite.Value).Elem", "(internal/reflectlite.Value).Set"], unfollowed := true, recurses := true, named := ["errors.errorType"], apart := false, laid := [("errors.errorType", laid_errors_errorType)], narrowed := true }
def PipePlaysUptoSaid : Prop := pipePlaysUptoRow.holds Tryd.pinned (OpenSpec.upto pipePlaysSpec)

/-- 'almshousekeep.BuddyBack', WHERE WHAT IT READS IS OF BULK AT MOST 1048576: true; the input reads as it did. -/
def buddyBackUptoRow : OpenClaim := { program := "ytiohpmcedfbcgaadoor", sum := "ce181cffe6757913e91b98db0331901c91020c6b9bfed44efc628c0c9076328a", func := "almshouse/almshousekeep.BuddyBack", spec := "buddyBack", inPlace := ["internal/reflectlite.ValueOf", "(internal/reflectlite.Value).Type", "(internal/reflectlite.Value).IsNil", "internal/reflectlite.TypeOf", "(internal/reflectlite.Value).Elem", "(internal/reflectlite.Value).Set"], unfollowed := true, recurses := true, named := ["errors.errorType"], apart := false, laid := [("errors.errorType", laid_errors_errorType)], narrowed := true }
def BuddyBackUptoSaid : Prop := buddyBackUptoRow.holds Tryd.pinned (OpenSpec.upto buddyBackSpec)

end Rows
end Go.Proofs.YtiohpmcedfbcgaaDoor
