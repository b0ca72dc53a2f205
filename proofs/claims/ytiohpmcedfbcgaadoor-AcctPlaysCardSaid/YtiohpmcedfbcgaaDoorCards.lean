/-
  DERIVED. GIVEN WITH THE SEED: THE CARDS: each row of YtiohpmcedfbcgaaDoorRows.lean that lists a variable, with what it lists TIED to the program's text (the seventh form; the later family's looks); each row that meets fmt, with fmt's text TOLD by the authors' own Lean function (tested against real Go, not proved from fmt's source: count such statements apart). THE CARD IS WHAT COUNTS. Prove the row's statement (the work); the ties are given (YtiohpmcedfbcgaaDoorTie.lean); close each card by the builder's one call (the guide's Derived/Test/ToyasCard.lean, 'card_holds'). Laid BY PROGRAM, IN A SANDBOX (cutbox-door.mjs). By AI agents, Wed Nov 11 2026. No macro, syntax, notation, axiom, sorry.
-/
import Derived.Test.YtiohpmcedfbcgaaDoorRows
import GoSem.ClaimSeven
namespace Go.Proofs.YtiohpmcedfbcgaaDoor
namespace Rows

/-- THE TIED CARD OF 'almshousekeep.PipeOrder'. -/
def pipeOrderCard : Claim7 := { stood := { row := pipeOrderRow, standIns := [], harness := (true, "046439c01178a33269d918be0747d0ea353949361c2d1f2ac511c653be607ebd"), looks := true }, kinds := [], alts := [], laidByText := true, laidKinds := [.handle], laidTests := true, laidLooks := .later }
def PipeOrderCardSaid : Prop := Claim7.holds Tryd.pinned (.plain (OpenSpec.ofChange pipeOrderSpec)) pipeOrderCard

/-- THE TIED CARD OF 'almshousekeep.AcctWhole'. -/
def acctWholeCard : Claim7 := { stood := { row := acctWholeRow, standIns := [], harness := (true, "046439c01178a33269d918be0747d0ea353949361c2d1f2ac511c653be607ebd"), looks := true }, kinds := [], alts := [], laidByText := true, laidKinds := [.handle], laidTests := true, laidLooks := .later }
def AcctWholeCardSaid : Prop := Claim7.holds Tryd.pinned (.plain (OpenSpec.ofChange acctWholeSpec)) acctWholeCard

/-- THE TIED CARD OF 'almshouselaw.FramesPlays'. -/
def framesPlaysCard : Claim7 := { stood := { row := framesPlaysRow, standIns := [], harness := (true, "046439c01178a33269d918be0747d0ea353949361c2d1f2ac511c653be607ebd"), looks := true }, kinds := [], alts := [], laidByText := true, laidKinds := [.handle], laidTests := true, laidLooks := .later }
def FramesPlaysCardSaid : Prop := Claim7.holds Tryd.pinned (.plain (OpenSpec.ofChange framesPlaysSpec)) framesPlaysCard

/-- THE TIED CARD OF 'almshouselaw.AcctPlays'. -/
def acctPlaysCard : Claim7 := { stood := { row := acctPlaysRow, standIns := [], harness := (true, "046439c01178a33269d918be0747d0ea353949361c2d1f2ac511c653be607ebd"), looks := true }, kinds := [], alts := [], laidByText := true, laidKinds := [.handle, .data], laidTests := true, laidLooks := .later }
def AcctPlaysCardSaid : Prop := Claim7.holds Tryd.pinned (.plain (OpenSpec.ofChange acctPlaysSpec)) acctPlaysCard

/-- THE TIED CARD OF 'almshouselaw.PipePlays'. -/
def pipePlaysCard : Claim7 := { stood := { row := pipePlaysRow, standIns := [], harness := (true, "046439c01178a33269d918be0747d0ea353949361c2d1f2ac511c653be607ebd"), looks := true }, kinds := [], alts := [], laidByText := true, laidKinds := [.handle], laidTests := true, laidLooks := .later }
def PipePlaysCardSaid : Prop := Claim7.holds Tryd.pinned (.plain (OpenSpec.ofChange pipePlaysSpec)) pipePlaysCard

/-- THE TIED CARD OF 'almshousekeep.BuddyBack'. -/
def buddyBackCard : Claim7 := { stood := { row := buddyBackRow, standIns := [], harness := (true, "046439c01178a33269d918be0747d0ea353949361c2d1f2ac511c653be607ebd"), looks := true }, kinds := [], alts := [], laidByText := true, laidKinds := [.handle], laidTests := true, laidLooks := .later }
def BuddyBackCardSaid : Prop := Claim7.holds Tryd.pinned (.plain (OpenSpec.ofChange buddyBackSpec)) buddyBackCard

/-- THE SECOND FORM's CARD OF 'almshousekeep.PipeOrder'. -/
def pipeOrderUptoCard : Claim7 := { stood := { row := pipeOrderUptoRow, standIns := [], harness := (true, "046439c01178a33269d918be0747d0ea353949361c2d1f2ac511c653be607ebd"), looks := true }, kinds := [], alts := [], laidByText := true, laidKinds := [.handle], laidTests := true, laidLooks := .later }
def PipeOrderUptoCardSaid : Prop := Claim7.holds Tryd.pinned (.plain (OpenSpec.upto pipeOrderSpec)) pipeOrderUptoCard

/-- THE SECOND FORM's CARD OF 'almshousekeep.AcctWhole'. -/
def acctWholeUptoCard : Claim7 := { stood := { row := acctWholeUptoRow, standIns := [], harness := (true, "046439c01178a33269d918be0747d0ea353949361c2d1f2ac511c653be607ebd"), looks := true }, kinds := [], alts := [], laidByText := true, laidKinds := [.handle], laidTests := true, laidLooks := .later }
def AcctWholeUptoCardSaid : Prop := Claim7.holds Tryd.pinned (.plain (OpenSpec.upto acctWholeSpec)) acctWholeUptoCard

/-- THE SECOND FORM's CARD OF 'almshouselaw.FramesPlays'. -/
def framesPlaysUptoCard : Claim7 := { stood := { row := framesPlaysUptoRow, standIns := [], harness := (true, "046439c01178a33269d918be0747d0ea353949361c2d1f2ac511c653be607ebd"), looks := true }, kinds := [], alts := [], laidByText := true, laidKinds := [.handle], laidTests := true, laidLooks := .later }
def FramesPlaysUptoCardSaid : Prop := Claim7.holds Tryd.pinned (.plain (OpenSpec.upto framesPlaysSpec)) framesPlaysUptoCard

/-- THE SECOND FORM's CARD OF 'almshouselaw.AcctPlays'. -/
def acctPlaysUptoCard : Claim7 := { stood := { row := acctPlaysUptoRow, standIns := [], harness := (true, "046439c01178a33269d918be0747d0ea353949361c2d1f2ac511c653be607ebd"), looks := true }, kinds := [], alts := [], laidByText := true, laidKinds := [.handle, .data], laidTests := true, laidLooks := .later }
def AcctPlaysUptoCardSaid : Prop := Claim7.holds Tryd.pinned (.plain (OpenSpec.upto acctPlaysSpec)) acctPlaysUptoCard

/-- THE SECOND FORM's CARD OF 'almshouselaw.PipePlays'. -/
def pipePlaysUptoCard : Claim7 := { stood := { row := pipePlaysUptoRow, standIns := [], harness := (true, "046439c01178a33269d918be0747d0ea353949361c2d1f2ac511c653be607ebd"), looks := true }, kinds := [], alts := [], laidByText := true, laidKinds := [.handle], laidTests := true, laidLooks := .later }
def PipePlaysUptoCardSaid : Prop := Claim7.holds Tryd.pinned (.plain (OpenSpec.upto pipePlaysSpec)) pipePlaysUptoCard

/-- THE SECOND FORM's CARD OF 'almshousekeep.BuddyBack'. -/
def buddyBackUptoCard : Claim7 := { stood := { row := buddyBackUptoRow, standIns := [], harness := (true, "046439c01178a33269d918be0747d0ea353949361c2d1f2ac511c653be607ebd"), looks := true }, kinds := [], alts := [], laidByText := true, laidKinds := [.handle], laidTests := true, laidLooks := .later }
def BuddyBackUptoCardSaid : Prop := Claim7.holds Tryd.pinned (.plain (OpenSpec.upto buddyBackSpec)) buddyBackUptoCard
end Rows
end Go.Proofs.YtiohpmcedfbcgaaDoor
