/-
  NARROWER THAN 'FOR EVERY INPUT', by the rows' own cells (each row's printed sentence says how): BuddyTrue: laid · BuddyPlays: laid · ProcPlays: laid · ProcParents: laid · SlabPlays: laid · SlabCounts: laid · VmFrames: laid · DescShares: laid · TreeStays: laid.
  DERIVED. THE GIVEN ROWS OF THIS SEAT. 9 by the template 'for every input the law returns true; each argument reads behind the call as it read before'; 0 by the template 'total and deterministic' (their statements: YtiohpmcedfbcgabDoorTotals.lean).
  GIVEN WITH THE SEED: the statements are not yours to turn. If you find one false, say at which input.
  Laid BY PROGRAM, IN A SANDBOX (cutbox-rows.mjs): the forced cells as the released guide's own fill.sh prints them over the translation e9eec9d5f0aa06e7… (all of the seat's roots in one cut). By AI agents, Wed Nov 11 2026. No macro, syntax, notation, axiom, sorry.
-/
import Derived.Test.YtiohpmcedfbcgabDoorChecked
import GoSem.PinnedTables
import GoSem.Claim
import GoSem.ClaimJoined
import GoSem.ClaimMapViews
import Derived.JoinedTies
import Derived.KernelRfl
namespace Go.Proofs.YtiohpmcedfbcgabDoor
/- THE CELL 'sum', in the pinned program and in every row, IS THE sha256 OF THE DUMP (.gsa) THAT YtiohpmcedfbcgabDoorProg.lean LOADS. Nothing in Lean hashes anything: it is a label: what it is worth is what the hold of that sum in a sandbox is worth. -/
noncomputable def Tryd.pinned : Pinned := { name := "ytiohpmcedfbcgabdoor", sum := "e9eec9d5f0aa06e7d93a9ba6e9ec201eaf545510e54cc05955616f9ed1bf3701", checked := Tryd.checked }
namespace Rows
def none {H : Type} : Left H := { results := [], args := [] }

/- WHAT THE LISTED PACKAGE-LEVEL VARIABLES READ AS WHEN THE CALL BEGINS. Each datum BY PROGRAM (the guide's laid-datum.mjs) off the statement by which the dump's own 'gosem.cut.vars' lays the variable. In a bare row this is a premise. The card (YtiohpmcedfbcgabDoorCards.lean) ties it to the program's text. -/
def laid_errors_errorType {H : Type} : DataW H := .iface "internal/reflectlite.rtype" (.agg [.ptr (.lit (.string [101, 114, 114, 111, 114]))])
def laid_unicode_utf8_acceptRanges {H : Type} : DataW H := .agg [.agg [.lit (.int .u8 128), .lit (.int .u8 191)], .agg [.lit (.int .u8 160), .lit (.int .u8 191)], .agg [.lit (.int .u8 128), .lit (.int .u8 159)], .agg [.lit (.int .u8 144), .lit (.int .u8 191)], .agg [.lit (.int .u8 128), .lit (.int .u8 143)], .agg [.lit (.int .u8 0), .lit (.int .u8 0)], .agg [.lit (.int .u8 0), .lit (.int .u8 0)], .agg [.lit (.int .u8 0), .lit (.int .u8 0)], .agg [.lit (.int .u8 0), .lit (.int .u8 0)], .agg [.lit (.int .u8 0), .lit (.int .u8 0)], .agg [.lit (.int .u8 0), .lit (.int .u8 0)], .agg [.lit (.int .u8 0), .lit (.int .u8 0)], .agg [.lit (.int .u8 0), .lit (.int .u8 0)], .agg [.lit (.int .u8 0), .lit (.int .u8 0)], .agg [.lit (.int .u8 0), .lit (.int .u8 0)], .agg [.lit (.int .u8 0), .lit (.int .u8 0)]]
/-- One of Go's own tables, pinned by name: the form's constant. -/
def laid_unicode_utf8_first : DataW Unit := Go.Pinned.utf8First

/-- 'almshousekeep.BuddyTrue': WHATEVER THE INPUT: true; the input reads as it did. -/
def buddyTrueSpec : ChangeSpec := { name := "buddyTrue", fn := fun _ => fun
  | [d1, d2, d3] => { results := [.lit (.bool true)], args := [d1, d2, d3] }
  | _ => none }
def buddyTrueRow : OpenClaim := { program := "ytiohpmcedfbcgabdoor", sum := "e9eec9d5f0aa06e7d93a9ba6e9ec201eaf545510e54cc05955616f9ed1bf3701", func := "almshouse/almshousekeep.BuddyTrue", spec := "buddyTrue", inPlace := ["internal/reflectlite.ValueOf", "(internal/reflectlite.Value).Type", "(internal/reflectlite.Value).IsNil", "internal/reflectlite.TypeOf", "(internal/reflectlite.Value).Elem", "(internal/reflectlite.Value).Set"], unfollowed := true, recurses := true, named := ["errors.errorType"], apart := false, laid := [("errors.errorType", laid_errors_errorType)] }
def BuddyTrueSaid : Prop := buddyTrueRow.holds Tryd.pinned (OpenSpec.ofChange buddyTrueSpec)

/-- ITS FALSE NEIGHBOUR: 'it returns false'. Refute it at one input. -/
def buddyTrueWrong : ChangeSpec := { name := "buddyTrue", fn := fun _ => fun
  | [d1, d2, d3] => { results := [.lit (.bool false)], args := [d1, d2, d3] }
  | _ => none }
def BuddyTrueWrongFalsely : Prop := buddyTrueRow.holds Tryd.pinned (OpenSpec.ofChange buddyTrueWrong)

/-- 'almshouselaw.BuddyPlays': WHATEVER THE INPUT: true; the input reads as it did. -/
def buddyPlaysSpec : ChangeSpec := { name := "buddyPlays", fn := fun _ => fun
  | [d1, d2] => { results := [.lit (.bool true)], args := [d1, d2] }
  | _ => none }
def buddyPlaysRow : OpenClaim := { program := "ytiohpmcedfbcgabdoor", sum := "e9eec9d5f0aa06e7d93a9ba6e9ec201eaf545510e54cc05955616f9ed1bf3701", func := "almshouse/almshouselaw.BuddyPlays", spec := "buddyPlays", inPlace := ["internal/reflectlite.ValueOf", "(internal/reflectlite.Value).Type", "(internal/reflectlite.Value).IsNil", "internal/reflectlite.TypeOf", "(internal/reflectlite.Value).Elem", "(internal/reflectlite.Value).Set"], unfollowed := true, recurses := true, named := ["errors.errorType"], apart := false, laid := [("errors.errorType", laid_errors_errorType)] }
def BuddyPlaysSaid : Prop := buddyPlaysRow.holds Tryd.pinned (OpenSpec.ofChange buddyPlaysSpec)

/-- ITS FALSE NEIGHBOUR: 'it returns false'. Refute it at one input. -/
def buddyPlaysWrong : ChangeSpec := { name := "buddyPlays", fn := fun _ => fun
  | [d1, d2] => { results := [.lit (.bool false)], args := [d1, d2] }
  | _ => none }
def BuddyPlaysWrongFalsely : Prop := buddyPlaysRow.holds Tryd.pinned (OpenSpec.ofChange buddyPlaysWrong)

/-- 'almshouselaw.ProcPlays': WHATEVER THE INPUT: true; the input reads as it did. -/
def procPlaysSpec : ChangeSpec := { name := "procPlays", fn := fun _ => fun
  | [d] => { results := [.lit (.bool true)], args := [d] }
  | _ => none }
def procPlaysRow : OpenClaim := { program := "ytiohpmcedfbcgabdoor", sum := "e9eec9d5f0aa06e7d93a9ba6e9ec201eaf545510e54cc05955616f9ed1bf3701", func := "almshouse/almshouselaw.ProcPlays", spec := "procPlays", inPlace := ["internal/reflectlite.ValueOf", "(internal/reflectlite.Value).Type", "(internal/reflectlite.Value).IsNil", "internal/reflectlite.TypeOf", "(internal/reflectlite.Value).Elem", "(internal/reflectlite.Value).Set"], unfollowed := true, recurses := true, named := ["errors.errorType"], apart := false, laid := [("errors.errorType", laid_errors_errorType)] }
def ProcPlaysSaid : Prop := procPlaysRow.holds Tryd.pinned (OpenSpec.ofChange procPlaysSpec)

/-- ITS FALSE NEIGHBOUR: 'it returns false'. Refute it at one input. -/
def procPlaysWrong : ChangeSpec := { name := "procPlays", fn := fun _ => fun
  | [d] => { results := [.lit (.bool false)], args := [d] }
  | _ => none }
def ProcPlaysWrongFalsely : Prop := procPlaysRow.holds Tryd.pinned (OpenSpec.ofChange procPlaysWrong)

/-- 'almshousekeep.ProcParents': WHATEVER THE INPUT: true; the input reads as it did. -/
def procParentsSpec : ChangeSpec := { name := "procParents", fn := fun _ => fun
  | [d] => { results := [.lit (.bool true)], args := [d] }
  | _ => none }
def procParentsRow : OpenClaim := { program := "ytiohpmcedfbcgabdoor", sum := "e9eec9d5f0aa06e7d93a9ba6e9ec201eaf545510e54cc05955616f9ed1bf3701", func := "almshouse/almshousekeep.ProcParents", spec := "procParents", inPlace := ["internal/reflectlite.ValueOf", "(internal/reflectlite.Value).Type", "(internal/reflectlite.Value).IsNil", "internal/reflectlite.TypeOf", "(internal/reflectlite.Value).Elem", "(internal/reflectlite.Value).Set"], unfollowed := true, recurses := true, named := ["errors.errorType"], apart := false, laid := [("errors.errorType", laid_errors_errorType)] }
def ProcParentsSaid : Prop := procParentsRow.holds Tryd.pinned (OpenSpec.ofChange procParentsSpec)

/-- ITS FALSE NEIGHBOUR: 'it returns false'. Refute it at one input. -/
def procParentsWrong : ChangeSpec := { name := "procParents", fn := fun _ => fun
  | [d] => { results := [.lit (.bool false)], args := [d] }
  | _ => none }
def ProcParentsWrongFalsely : Prop := procParentsRow.holds Tryd.pinned (OpenSpec.ofChange procParentsWrong)

/-- 'almshouselaw.SlabPlays': WHATEVER THE INPUT: true; the input reads as it did. -/
def slabPlaysSpec : ChangeSpec := { name := "slabPlays", fn := fun _ => fun
  | [d1, d2, d3] => { results := [.lit (.bool true)], args := [d1, d2, d3] }
  | _ => none }
def slabPlaysRow : OpenClaim := { program := "ytiohpmcedfbcgabdoor", sum := "e9eec9d5f0aa06e7d93a9ba6e9ec201eaf545510e54cc05955616f9ed1bf3701", func := "almshouse/almshouselaw.SlabPlays", spec := "slabPlays", inPlace := ["internal/reflectlite.ValueOf", "(internal/reflectlite.Value).Type", "(internal/reflectlite.Value).IsNil", "internal/reflectlite.TypeOf", "(internal/reflectlite.Value).Elem", "(internal/reflectlite.Value).Set"], unfollowed := true, recurses := true, named := ["errors.errorType"], apart := false, laid := [("errors.errorType", laid_errors_errorType)] }
def SlabPlaysSaid : Prop := slabPlaysRow.holds Tryd.pinned (OpenSpec.ofChange slabPlaysSpec)

/-- ITS FALSE NEIGHBOUR: 'it returns false'. Refute it at one input. -/
def slabPlaysWrong : ChangeSpec := { name := "slabPlays", fn := fun _ => fun
  | [d1, d2, d3] => { results := [.lit (.bool false)], args := [d1, d2, d3] }
  | _ => none }
def SlabPlaysWrongFalsely : Prop := slabPlaysRow.holds Tryd.pinned (OpenSpec.ofChange slabPlaysWrong)

/-- 'almshousekeep.SlabCounts': WHATEVER THE INPUT: true; the input reads as it did. -/
def slabCountsSpec : ChangeSpec := { name := "slabCounts", fn := fun _ => fun
  | [d1, d2, d3] => { results := [.lit (.bool true)], args := [d1, d2, d3] }
  | _ => none }
def slabCountsRow : OpenClaim := { program := "ytiohpmcedfbcgabdoor", sum := "e9eec9d5f0aa06e7d93a9ba6e9ec201eaf545510e54cc05955616f9ed1bf3701", func := "almshouse/almshousekeep.SlabCounts", spec := "slabCounts", inPlace := ["internal/reflectlite.ValueOf", "(internal/reflectlite.Value).Type", "(internal/reflectlite.Value).IsNil", "internal/reflectlite.TypeOf", "(internal/reflectlite.Value).Elem", "(internal/reflectlite.Value).Set"], unfollowed := true, recurses := true, named := ["errors.errorType"], apart := false, laid := [("errors.errorType", laid_errors_errorType)] }
def SlabCountsSaid : Prop := slabCountsRow.holds Tryd.pinned (OpenSpec.ofChange slabCountsSpec)

/-- ITS FALSE NEIGHBOUR: 'it returns false'. Refute it at one input. -/
def slabCountsWrong : ChangeSpec := { name := "slabCounts", fn := fun _ => fun
  | [d1, d2, d3] => { results := [.lit (.bool false)], args := [d1, d2, d3] }
  | _ => none }
def SlabCountsWrongFalsely : Prop := slabCountsRow.holds Tryd.pinned (OpenSpec.ofChange slabCountsWrong)

/-- 'almshousekeep.VmFrames': WHATEVER THE INPUT: true; the input reads as it did. -/
def vmFramesSpec : ChangeSpec := { name := "vmFrames", fn := fun _ => fun
  | [d1, d2, d3] => { results := [.lit (.bool true)], args := [d1, d2, d3] }
  | _ => none }
def vmFramesRow : OpenClaim := { program := "ytiohpmcedfbcgabdoor", sum := "e9eec9d5f0aa06e7d93a9ba6e9ec201eaf545510e54cc05955616f9ed1bf3701", func := "almshouse/almshousekeep.VmFrames", spec := "vmFrames", inPlace := ["maps.clone", "internal/reflectlite.ValueOf", "(internal/reflectlite.Value).Type", "(internal/reflectlite.Value).IsNil", "internal/reflectlite.TypeOf", "(internal/reflectlite.Value).Elem", "(internal/reflectlite.Value).Set"], unfollowed := true, recurses := true, named := ["errors.errorType"], apart := false, laid := [("errors.errorType", laid_errors_errorType)] }
def VmFramesSaid : Prop := vmFramesRow.holds Tryd.pinned (OpenSpec.ofChange vmFramesSpec)

/-- ITS FALSE NEIGHBOUR: 'it returns false'. Refute it at one input. -/
def vmFramesWrong : ChangeSpec := { name := "vmFrames", fn := fun _ => fun
  | [d1, d2, d3] => { results := [.lit (.bool false)], args := [d1, d2, d3] }
  | _ => none }
def VmFramesWrongFalsely : Prop := vmFramesRow.holds Tryd.pinned (OpenSpec.ofChange vmFramesWrong)

/-- 'almshousekeep.DescShares': WHATEVER THE INPUT: true; the input reads as it did. -/
def descSharesSpec : ChangeSpec := { name := "descShares", fn := fun _ => fun
  | [d1, d2] => { results := [.lit (.bool true)], args := [d1, d2] }
  | _ => none }
def descSharesRow : OpenClaim := { program := "ytiohpmcedfbcgabdoor", sum := "e9eec9d5f0aa06e7d93a9ba6e9ec201eaf545510e54cc05955616f9ed1bf3701", func := "almshouse/almshousekeep.DescShares", spec := "descShares", inPlace := ["internal/bytealg.CountString", "internal/bytealg.IndexByteString", "internal/bytealg.IndexString", "internal/reflectlite.ValueOf", "(internal/reflectlite.Value).Type", "(internal/reflectlite.Value).IsNil", "internal/reflectlite.TypeOf", "(internal/reflectlite.Value).Elem", "(internal/reflectlite.Value).Set", "internal/abi.NoEscape", "internal/bytealg.MakeNoZero"], unfollowed := true, recurses := true, named := ["unicode/utf8.first", "unicode/utf8.acceptRanges", "internal/bytealg.MaxLen", "errors.errorType"], apart := false, laid := [("unicode/utf8.acceptRanges", laid_unicode_utf8_acceptRanges), ("errors.errorType", laid_errors_errorType), ("unicode/utf8.first", laid_unicode_utf8_first)] }
def DescSharesSaid : Prop := descSharesRow.holds Tryd.pinned (OpenSpec.ofChange descSharesSpec)

/-- ITS FALSE NEIGHBOUR: 'it returns false'. Refute it at one input. -/
def descSharesWrong : ChangeSpec := { name := "descShares", fn := fun _ => fun
  | [d1, d2] => { results := [.lit (.bool false)], args := [d1, d2] }
  | _ => none }
def DescSharesWrongFalsely : Prop := descSharesRow.holds Tryd.pinned (OpenSpec.ofChange descSharesWrong)

/-- 'almshousekeep.TreeStays': WHATEVER THE INPUT: true; the input reads as it did. -/
def treeStaysSpec : ChangeSpec := { name := "treeStays", fn := fun _ => fun
  | [d1, d2, d3, d4] => { results := [.lit (.bool true)], args := [d1, d2, d3, d4] }
  | _ => none }
def treeStaysRow : OpenClaim := { program := "ytiohpmcedfbcgabdoor", sum := "e9eec9d5f0aa06e7d93a9ba6e9ec201eaf545510e54cc05955616f9ed1bf3701", func := "almshouse/almshousekeep.TreeStays", spec := "treeStays", inPlace := ["internal/bytealg.CountString", "internal/bytealg.IndexByteString", "internal/bytealg.IndexString", "internal/abi.NoEscape", "internal/bytealg.MakeNoZero"], unfollowed := true, recurses := true, named := ["unicode/utf8.first", "unicode/utf8.acceptRanges", "internal/bytealg.MaxLen"], apart := false, laid := [("unicode/utf8.acceptRanges", laid_unicode_utf8_acceptRanges), ("unicode/utf8.first", laid_unicode_utf8_first)] }
def TreeStaysSaid : Prop := treeStaysRow.holds Tryd.pinned (OpenSpec.ofChange treeStaysSpec)

/-- ITS FALSE NEIGHBOUR: 'it returns false'. Refute it at one input. -/
def treeStaysWrong : ChangeSpec := { name := "treeStays", fn := fun _ => fun
  | [d1, d2, d3, d4] => { results := [.lit (.bool false)], args := [d1, d2, d3, d4] }
  | _ => none }
def TreeStaysWrongFalsely : Prop := treeStaysRow.holds Tryd.pinned (OpenSpec.ofChange treeStaysWrong)

/- THE SECOND FORM. 'bulk': how many values and letters a reading holds, each counted each time it is reached (what is shared counts as often as it is met; a slice's spare places count too). A statement '..UptoSaid' is the law's where the arguments, and the package variables that the reading takes, are together of bulk at most 1048576: NARROWER than '..Said'. Prove '..Said' where nothing that the law and all that it calls make is longer than what came in: it says more and counts as full. Else prove '..UptoSaid'. A law counts once. -/
mutual
def uptoBulk {H : Type} : DataW H → Nat
  | .lit (.string bytes) => bytes.length + 1
  | .lit _ => 1
  | .nil => 1
  | .ptr d => uptoBulk d + 1
  | .slice elems spare => uptoBulkAll elems + uptoBulkAll spare + 1
  | .agg parts => uptoBulkAll parts + 1
  | .iface _ d => uptoBulk d + 1
  | .map entries => uptoBulkEntries entries + 1
  | .held _ => 1
def uptoBulkAll {H : Type} : List (DataW H) → Nat
  | [] => 0
  | d :: r => uptoBulk d + uptoBulkAll r
def uptoBulkEntries {H : Type} : List (Lit × DataW H) → Nat
  | [] => 0
  | x :: r => uptoBulkEntry x + uptoBulkEntries r
def uptoBulkEntry {H : Type} : Lit × DataW H → Nat
  | (.string bytes, d) => bytes.length + uptoBulk d + 1
  | (_, d) => uptoBulk d + 1
 end
def uptoSmall : (H : Type) → List (DataW H) → Bool := fun _ ds => decide (uptoBulkAll ds ≤ 1048576)
def OpenSpec.upto (s : _root_.Go.ChangeSpec) : _root_.Go.OpenSpec := { _root_.Go.OpenSpec.ofChange s with cond := some uptoSmall }

/-- 'almshousekeep.BuddyTrue', WHERE WHAT IT READS IS OF BULK AT MOST 1048576: true; the input reads as it did. -/
def buddyTrueUptoRow : OpenClaim := { program := "ytiohpmcedfbcgabdoor", sum := "e9eec9d5f0aa06e7d93a9ba6e9ec201eaf545510e54cc05955616f9ed1bf3701", func := "almshouse/almshousekeep.BuddyTrue", spec := "buddyTrue", inPlace := ["internal/reflectlite.ValueOf", "(internal/reflectlite.Value).Type", "(internal/reflectlite.Value).IsNil", "internal/reflectlite.TypeOf", "(internal/reflectlite.Value).Elem", "(internal/reflectlite.Value).Set"], unfollowed := true, recurses := true, named := ["errors.errorType"], apart := false, laid := [("errors.errorType", laid_errors_errorType)], narrowed := true }
def BuddyTrueUptoSaid : Prop := buddyTrueUptoRow.holds Tryd.pinned (OpenSpec.upto buddyTrueSpec)

/-- 'almshouselaw.BuddyPlays', WHERE WHAT IT READS IS OF BULK AT MOST 1048576: true; the input reads as it did. -/
def buddyPlaysUptoRow : OpenClaim := { program := "ytiohpmcedfbcgabdoor", sum := "e9eec9d5f0aa06e7d93a9ba6e9ec201eaf545510e54cc05955616f9ed1bf3701", func := "almshouse/almshouselaw.BuddyPlays", spec := "buddyPlays", inPlace := ["internal/reflectlite.ValueOf", "(internal/reflectlite.Value).Type", "(internal/reflectlite.Value).IsNil", "internal/reflectlite.TypeOf", "(internal/reflectlite.Value).Elem", "(internal/reflectlite.Value).Set"], unfollowed := true, recurses := true, named := ["errors.errorType"], apart := false, laid := [("errors.errorType", laid_errors_errorType)], narrowed := true }
def BuddyPlaysUptoSaid : Prop := buddyPlaysUptoRow.holds Tryd.pinned (OpenSpec.upto buddyPlaysSpec)

/-- 'almshouselaw.ProcPlays', WHERE WHAT IT READS IS OF BULK AT MOST 1048576: true; the input reads as it did. -/
def procPlaysUptoRow : OpenClaim := { program := "ytiohpmcedfbcgabdoor", sum := "e9eec9d5f0aa06e7d93a9ba6e9ec201eaf545510e54cc05955616f9ed1bf3701", func := "almshouse/almshouselaw.ProcPlays", spec := "procPlays", inPlace := ["internal/reflectlite.ValueOf", "(internal/reflectlite.Value).Type", "(internal/reflectlite.Value).IsNil", "internal/reflectlite.TypeOf", "(internal/reflectlite.Value).Elem", "(internal/reflectlite.Value).Set"], unfollowed := true, recurses := true, named := ["errors.errorType"], apart := false, laid := [("errors.errorType", laid_errors_errorType)], narrowed := true }
def ProcPlaysUptoSaid : Prop := procPlaysUptoRow.holds Tryd.pinned (OpenSpec.upto procPlaysSpec)

/-- 'almshousekeep.ProcParents', WHERE WHAT IT READS IS OF BULK AT MOST 1048576: true; the input reads as it did. -/
def procParentsUptoRow : OpenClaim := { program := "ytiohpmcedfbcgabdoor", sum := "e9eec9d5f0aa06e7d93a9ba6e9ec201eaf545510e54cc05955616f9ed1bf3701", func := "almshouse/almshousekeep.ProcParents", spec := "procParents", inPlace := ["internal/reflectlite.ValueOf", "(internal/reflectlite.Value).Type", "(internal/reflectlite.Value).IsNil", "internal/reflectlite.TypeOf", "(internal/reflectlite.Value).Elem", "(internal/reflectlite.Value).Set"], unfollowed := true, recurses := true, named := ["errors.errorType"], apart := false, laid := [("errors.errorType", laid_errors_errorType)], narrowed := true }
def ProcParentsUptoSaid : Prop := procParentsUptoRow.holds Tryd.pinned (OpenSpec.upto procParentsSpec)

/-- 'almshouselaw.SlabPlays', WHERE WHAT IT READS IS OF BULK AT MOST 1048576: true; the input reads as it did. -/
def slabPlaysUptoRow : OpenClaim := { program := "ytiohpmcedfbcgabdoor", sum := "e9eec9d5f0aa06e7d93a9ba6e9ec201eaf545510e54cc05955616f9ed1bf3701", func := "almshouse/almshouselaw.SlabPlays", spec := "slabPlays", inPlace := ["internal/reflectlite.ValueOf", "(internal/reflectlite.Value).Type", "(internal/reflectlite.Value).IsNil", "internal/reflectlite.TypeOf", "(internal/reflectlite.Value).Elem", "(internal/reflectlite.Value).Set"], unfollowed := true, recurses := true, named := ["errors.errorType"], apart := false, laid := [("errors.errorType", laid_errors_errorType)], narrowed := true }
def SlabPlaysUptoSaid : Prop := slabPlaysUptoRow.holds Tryd.pinned (OpenSpec.upto slabPlaysSpec)

/-- 'almshousekeep.SlabCounts', WHERE WHAT IT READS IS OF BULK AT MOST 1048576: true; the input reads as it did. -/
def slabCountsUptoRow : OpenClaim := { program := "ytiohpmcedfbcgabdoor", sum := "e9eec9d5f0aa06e7d93a9ba6e9ec201eaf545510e54cc05955616f9ed1bf3701", func := "almshouse/almshousekeep.SlabCounts", spec := "slabCounts", inPlace := ["internal/reflectlite.ValueOf", "(internal/reflectlite.Value).Type", "(internal/reflectlite.Value).IsNil", "internal/reflectlite.TypeOf", "(internal/reflectlite.Value).Elem", "(internal/reflectlite.Value).Set"], unfollowed := true, recurses := true, named := ["errors.errorType"], apart := false, laid := [("errors.errorType", laid_errors_errorType)], narrowed := true }
def SlabCountsUptoSaid : Prop := slabCountsUptoRow.holds Tryd.pinned (OpenSpec.upto slabCountsSpec)

/-- 'almshousekeep.VmFrames', WHERE WHAT IT READS IS OF BULK AT MOST 1048576: true; the input reads as it did. -/
def vmFramesUptoRow : OpenClaim := { program := "ytiohpmcedfbcgabdoor", sum := "e9eec9d5f0aa06e7d93a9ba6e9ec201eaf545510e54cc05955616f9ed1bf3701", func := "almshouse/almshousekeep.VmFrames", spec := "vmFrames", inPlace := ["maps.clone", "internal/reflectlite.ValueOf", "(internal/reflectlite.Value).Type", "(internal/reflectlite.Value).IsNil", "internal/reflectlite.TypeOf", "(internal/reflectlite.Value).Elem", "(internal/reflectlite.Value).Set"], unfollowed := true, recurses := true, named := ["errors.errorType"], apart := false, laid := [("errors.errorType", laid_errors_errorType)], narrowed := true }
def VmFramesUptoSaid : Prop := vmFramesUptoRow.holds Tryd.pinned (OpenSpec.upto vmFramesSpec)

/-- 'almshousekeep.DescShares', WHERE WHAT IT READS IS OF BULK AT MOST 1048576: true; the input reads as it did. -/
def descSharesUptoRow : OpenClaim := { program := "ytiohpmcedfbcgabdoor", sum := "e9eec9d5f0aa06e7d93a9ba6e9ec201eaf545510e54cc05955616f9ed1bf3701", func := "almshouse/almshousekeep.DescShares", spec := "descShares", inPlace := ["internal/bytealg.CountString", "internal/bytealg.IndexByteString", "internal/bytealg.IndexString", "internal/reflectlite.ValueOf", "(internal/reflectlite.Value).Type", "(internal/reflectlite.Value).IsNil", "internal/reflectlite.TypeOf", "(internal/reflectlite.Value).Elem", "(internal/reflectlite.Value).Set", "internal/abi.NoEscape", "internal/bytealg.MakeNoZero"], unfollowed := true, recurses := true, named := ["unicode/utf8.first", "unicode/utf8.acceptRanges", "internal/bytealg.MaxLen", "errors.errorType"], apart := false, laid := [("unicode/utf8.acceptRanges", laid_unicode_utf8_acceptRanges), ("errors.errorType", laid_errors_errorType), ("unicode/utf8.first", laid_unicode_utf8_first)], narrowed := true }
def DescSharesUptoSaid : Prop := descSharesUptoRow.holds Tryd.pinned (OpenSpec.upto descSharesSpec)

/-- 'almshousekeep.TreeStays', WHERE WHAT IT READS IS OF BULK AT MOST 1048576: true; the input reads as it did. -/
def treeStaysUptoRow : OpenClaim := { program := "ytiohpmcedfbcgabdoor", sum := "e9eec9d5f0aa06e7d93a9ba6e9ec201eaf545510e54cc05955616f9ed1bf3701", func := "almshouse/almshousekeep.TreeStays", spec := "treeStays", inPlace := ["internal/bytealg.CountString", "internal/bytealg.IndexByteString", "internal/bytealg.IndexString", "internal/abi.NoEscape", "internal/bytealg.MakeNoZero"], unfollowed := true, recurses := true, named := ["unicode/utf8.first", "unicode/utf8.acceptRanges", "internal/bytealg.MaxLen"], apart := false, laid := [("unicode/utf8.acceptRanges", laid_unicode_utf8_acceptRanges), ("unicode/utf8.first", laid_unicode_utf8_first)], narrowed := true }
def TreeStaysUptoSaid : Prop := treeStaysUptoRow.holds Tryd.pinned (OpenSpec.upto treeStaysSpec)

end Rows
end Go.Proofs.YtiohpmcedfbcgabDoor
