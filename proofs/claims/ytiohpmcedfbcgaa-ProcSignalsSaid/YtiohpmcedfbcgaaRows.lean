/-
  No cell of these rows narrows 'for every input' (looked for: loops, veiled, ifaces, maps, wideKeys, modest, calm, conditions, laid).
  DERIVED. THE GIVEN ROWS OF THIS SEAT. 5 by the template 'for every input the law returns true; each argument reads behind the call as it read before'; 0 by the template 'total and deterministic' (their statements: YtiohpmcedfbcgaaTotals.lean).
  GIVEN WITH THE SEED: the statements are not yours to turn. If you find one false, say at which input.
  Laid BY PROGRAM, IN A SANDBOX (cutbox-rows.mjs): the forced cells as the released guide's own fill.sh prints them over the translation 25236407f0265921… (all of the seat's roots in one cut). By AI agents, Wed Nov 11 2026. No macro, syntax, notation, axiom, sorry.
-/
import Derived.Test.YtiohpmcedfbcgaaChecked
import GoSem.Claim
import GoSem.ClaimJoined
import GoSem.ClaimMapViews
import Derived.JoinedTies
import Derived.KernelRfl
namespace Go.Proofs.Ytiohpmcedfbcgaa
/- THE CELL 'sum', in the pinned program and in every row, IS THE sha256 OF THE DUMP (.gsa) THAT YtiohpmcedfbcgaaProg.lean LOADS. Nothing in Lean hashes anything: it is a label: what it is worth is what the hold of that sum in a sandbox is worth. -/
noncomputable def Try.pinned : Pinned := { name := "ytiohpmcedfbcgaa", sum := "25236407f02659219cce28ff485956b39cf649576f49c1c4725668fea152529f", checked := Try.checked }
namespace Rows
def none {H : Type} : Left H := { results := [], args := [] }

/-- 'almshousekeep.FramesApart': WHATEVER THE INPUT: true; the input reads as it did. -/
def framesApartSpec : ChangeSpec := { name := "framesApart", fn := fun _ => fun
  | [d1, d2, d3, d4, d5, d6, d7] => { results := [.lit (.bool true)], args := [d1, d2, d3, d4, d5, d6, d7] }
  | _ => none }
def framesApartRow : OpenClaim := { program := "ytiohpmcedfbcgaa", sum := "25236407f02659219cce28ff485956b39cf649576f49c1c4725668fea152529f", func := "almshouse/almshousekeep.FramesApart", spec := "framesApart", apart := false }
def FramesApartSaid : Prop := framesApartRow.holds Try.pinned (OpenSpec.ofChange framesApartSpec)

/-- ITS FALSE NEIGHBOUR: 'it returns false'. Refute it at one input. -/
def framesApartWrong : ChangeSpec := { name := "framesApart", fn := fun _ => fun
  | [d1, d2, d3, d4, d5, d6, d7] => { results := [.lit (.bool false)], args := [d1, d2, d3, d4, d5, d6, d7] }
  | _ => none }
def FramesApartWrongFalsely : Prop := framesApartRow.holds Try.pinned (OpenSpec.ofChange framesApartWrong)

/-- 'almshouselaw.OomChooses': WHATEVER THE INPUT: true; the input reads as it did. -/
def oomChoosesSpec : ChangeSpec := { name := "oomChooses", fn := fun _ => fun
  | [d] => { results := [.lit (.bool true)], args := [d] }
  | _ => none }
def oomChoosesRow : OpenClaim := { program := "ytiohpmcedfbcgaa", sum := "25236407f02659219cce28ff485956b39cf649576f49c1c4725668fea152529f", func := "almshouse/almshouselaw.OomChooses", spec := "oomChooses", unfollowed := true, recurses := true, apart := false }
def OomChoosesSaid : Prop := oomChoosesRow.holds Try.pinned (OpenSpec.ofChange oomChoosesSpec)

/-- ITS FALSE NEIGHBOUR: 'it returns false'. Refute it at one input. -/
def oomChoosesWrong : ChangeSpec := { name := "oomChooses", fn := fun _ => fun
  | [d] => { results := [.lit (.bool false)], args := [d] }
  | _ => none }
def OomChoosesWrongFalsely : Prop := oomChoosesRow.holds Try.pinned (OpenSpec.ofChange oomChoosesWrong)

/-- 'almshousekeep.OomFair': WHATEVER THE INPUT: true; the input reads as it did. -/
def oomFairSpec : ChangeSpec := { name := "oomFair", fn := fun _ => fun
  | [d1, d2, d3] => { results := [.lit (.bool true)], args := [d1, d2, d3] }
  | _ => none }
def oomFairRow : OpenClaim := { program := "ytiohpmcedfbcgaa", sum := "25236407f02659219cce28ff485956b39cf649576f49c1c4725668fea152529f", func := "almshouse/almshousekeep.OomFair", spec := "oomFair", unfollowed := true, recurses := true, apart := false }
def OomFairSaid : Prop := oomFairRow.holds Try.pinned (OpenSpec.ofChange oomFairSpec)

/-- ITS FALSE NEIGHBOUR: 'it returns false'. Refute it at one input. -/
def oomFairWrong : ChangeSpec := { name := "oomFair", fn := fun _ => fun
  | [d1, d2, d3] => { results := [.lit (.bool false)], args := [d1, d2, d3] }
  | _ => none }
def OomFairWrongFalsely : Prop := oomFairRow.holds Try.pinned (OpenSpec.ofChange oomFairWrong)

/-- 'almshousekeep.BuddyWhole': WHATEVER THE INPUT: true; the input reads as it did. -/
def buddyWholeSpec : ChangeSpec := { name := "buddyWhole", fn := fun _ => fun
  | [d1, d2] => { results := [.lit (.bool true)], args := [d1, d2] }
  | _ => none }
def buddyWholeRow : OpenClaim := { program := "ytiohpmcedfbcgaa", sum := "25236407f02659219cce28ff485956b39cf649576f49c1c4725668fea152529f", func := "almshouse/almshousekeep.BuddyWhole", spec := "buddyWhole", unfollowed := true, recurses := true, apart := false }
def BuddyWholeSaid : Prop := buddyWholeRow.holds Try.pinned (OpenSpec.ofChange buddyWholeSpec)

/-- ITS FALSE NEIGHBOUR: 'it returns false'. Refute it at one input. -/
def buddyWholeWrong : ChangeSpec := { name := "buddyWhole", fn := fun _ => fun
  | [d1, d2] => { results := [.lit (.bool false)], args := [d1, d2] }
  | _ => none }
def BuddyWholeWrongFalsely : Prop := buddyWholeRow.holds Try.pinned (OpenSpec.ofChange buddyWholeWrong)

/-- 'almshousekeep.ProcSignals': WHATEVER THE INPUT: true; the input reads as it did. -/
def procSignalsSpec : ChangeSpec := { name := "procSignals", fn := fun _ => fun
  | [d1, d2] => { results := [.lit (.bool true)], args := [d1, d2] }
  | _ => none }
def procSignalsRow : OpenClaim := { program := "ytiohpmcedfbcgaa", sum := "25236407f02659219cce28ff485956b39cf649576f49c1c4725668fea152529f", func := "almshouse/almshousekeep.ProcSignals", spec := "procSignals", unfollowed := true, recurses := true, apart := false }
def ProcSignalsSaid : Prop := procSignalsRow.holds Try.pinned (OpenSpec.ofChange procSignalsSpec)

/-- ITS FALSE NEIGHBOUR: 'it returns false'. Refute it at one input. -/
def procSignalsWrong : ChangeSpec := { name := "procSignals", fn := fun _ => fun
  | [d1, d2] => { results := [.lit (.bool false)], args := [d1, d2] }
  | _ => none }
def ProcSignalsWrongFalsely : Prop := procSignalsRow.holds Try.pinned (OpenSpec.ofChange procSignalsWrong)

/- THE SECOND FORM. 'bulk': how many values and letters a reading holds, each counted each time it is reached (what is shared counts as often as it is met; a slice's spare places count too). A statement '..UptoSaid' is the law's where the arguments, and the package variables that the reading takes, are together of bulk at most 1048576: NARROWER than '..Said'. Prove '..Said' where nothing that the law and all that it calls make is longer than what came in: it says more and counts as full. Else prove '..UptoSaid'. A law counts once. -/
mutual
def uptoBulk {H : Type} : DataW H → Nat
  | .lit (.string bytes) => bytes.length + 1
  | .lit _ => 1
  | .nil => 1
  | .ptr d => uptoBulk d + 1
  | .slice elems spare => uptoBulkAll elems + uptoBulkAll spare + 1
  | .agg parts => uptoBulkAll parts + 1
  | .iface _ d => uptoBulk d + 1
  | .map entries => uptoBulkEntries entries + 1
  | .held _ => 1
def uptoBulkAll {H : Type} : List (DataW H) → Nat
  | [] => 0
  | d :: r => uptoBulk d + uptoBulkAll r
def uptoBulkEntries {H : Type} : List (Lit × DataW H) → Nat
  | [] => 0
  | x :: r => uptoBulkEntry x + uptoBulkEntries r
def uptoBulkEntry {H : Type} : Lit × DataW H → Nat
  | (.string bytes, d) => bytes.length + uptoBulk d + 1
  | (_, d) => uptoBulk d + 1
 end
def uptoSmall : (H : Type) → List (DataW H) → Bool := fun _ ds => decide (uptoBulkAll ds ≤ 1048576)
def OpenSpec.upto (s : _root_.Go.ChangeSpec) : _root_.Go.OpenSpec := { _root_.Go.OpenSpec.ofChange s with cond := some uptoSmall }

/-- 'almshousekeep.FramesApart', WHERE WHAT IT READS IS OF BULK AT MOST 1048576: true; the input reads as it did. -/
def framesApartUptoRow : OpenClaim := { program := "ytiohpmcedfbcgaa", sum := "25236407f02659219cce28ff485956b39cf649576f49c1c4725668fea152529f", func := "almshouse/almshousekeep.FramesApart", spec := "framesApart", apart := false, narrowed := true }
def FramesApartUptoSaid : Prop := framesApartUptoRow.holds Try.pinned (OpenSpec.upto framesApartSpec)

/-- 'almshouselaw.OomChooses', WHERE WHAT IT READS IS OF BULK AT MOST 1048576: true; the input reads as it did. -/
def oomChoosesUptoRow : OpenClaim := { program := "ytiohpmcedfbcgaa", sum := "25236407f02659219cce28ff485956b39cf649576f49c1c4725668fea152529f", func := "almshouse/almshouselaw.OomChooses", spec := "oomChooses", unfollowed := true, recurses := true, apart := false, narrowed := true }
def OomChoosesUptoSaid : Prop := oomChoosesUptoRow.holds Try.pinned (OpenSpec.upto oomChoosesSpec)

/-- 'almshousekeep.OomFair', WHERE WHAT IT READS IS OF BULK AT MOST 1048576: true; the input reads as it did. -/
def oomFairUptoRow : OpenClaim := { program := "ytiohpmcedfbcgaa", sum := "25236407f02659219cce28ff485956b39cf649576f49c1c4725668fea152529f", func := "almshouse/almshousekeep.OomFair", spec := "oomFair", unfollowed := true, recurses := true, apart := false, narrowed := true }
def OomFairUptoSaid : Prop := oomFairUptoRow.holds Try.pinned (OpenSpec.upto oomFairSpec)

/-- 'almshousekeep.BuddyWhole', WHERE WHAT IT READS IS OF BULK AT MOST 1048576: true; the input reads as it did. -/
def buddyWholeUptoRow : OpenClaim := { program := "ytiohpmcedfbcgaa", sum := "25236407f02659219cce28ff485956b39cf649576f49c1c4725668fea152529f", func := "almshouse/almshousekeep.BuddyWhole", spec := "buddyWhole", unfollowed := true, recurses := true, apart := false, narrowed := true }
def BuddyWholeUptoSaid : Prop := buddyWholeUptoRow.holds Try.pinned (OpenSpec.upto buddyWholeSpec)

/-- 'almshousekeep.ProcSignals', WHERE WHAT IT READS IS OF BULK AT MOST 1048576: true; the input reads as it did. -/
def procSignalsUptoRow : OpenClaim := { program := "ytiohpmcedfbcgaa", sum := "25236407f02659219cce28ff485956b39cf649576f49c1c4725668fea152529f", func := "almshouse/almshousekeep.ProcSignals", spec := "procSignals", unfollowed := true, recurses := true, apart := false, narrowed := true }
def ProcSignalsUptoSaid : Prop := procSignalsUptoRow.holds Try.pinned (OpenSpec.upto procSignalsSpec)

end Rows
end Go.Proofs.Ytiohpmcedfbcgaa
