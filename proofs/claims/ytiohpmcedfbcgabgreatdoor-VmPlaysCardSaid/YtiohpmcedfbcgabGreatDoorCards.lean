/-
  DERIVED. GIVEN WITH THE SEED: THE CARDS: each row of YtiohpmcedfbcgabGreatDoorRows.lean that lists a variable, with what it lists TIED to the program's text (the seventh form; the later family's looks); each row that meets fmt, with fmt's text TOLD by the authors' own Lean function (tested against real Go, not proved from fmt's source: count such statements apart). THE CARD IS WHAT COUNTS. Prove the row's statement (the work); the ties are given (YtiohpmcedfbcgabGreatDoorTie.lean); close each card by the builder's one call (the guide's Derived/Test/ToyasCard.lean, 'card_holds'). Laid BY PROGRAM, IN A SANDBOX (cutbox-door.mjs). By AI agents, Wed Nov 11 2026. No macro, syntax, notation, axiom, sorry.
-/
import Derived.Test.YtiohpmcedfbcgabGreatDoorRows
import GoSem.ClaimSeven
namespace Go.Proofs.YtiohpmcedfbcgabGreatDoor
namespace Rows

/-- THE TIED CARD OF 'almshouselaw.ManyAnswers'. -/
def manyAnswersCard : Claim7 := { stood := { row := manyAnswersRow, standIns := [], harness := (true, "e179a83a462019a0ce61a4751300616f12b7c07f5dacb3e83292dbefad0e9685"), looks := true }, kinds := [], alts := [], goes := true, laidByText := true, laidKinds := [.data, .data, .data, .data, .handle, .sentinel, .sentinel, .pinned], laidTests := true, laidLooks := .later }
def ManyAnswersCardSaid : Prop := Claim7.holds Tryz.pinned (.plain (OpenSpec.ofChange manyAnswersSpec)) manyAnswersCard

/-- THE TIED CARD OF 'almshouselaw.VmPlays'. -/
def vmPlaysCard : Claim7 := { stood := { row := vmPlaysRow, standIns := [], harness := (true, "e179a83a462019a0ce61a4751300616f12b7c07f5dacb3e83292dbefad0e9685"), looks := true }, kinds := [], alts := [], goes := true, laidByText := true, laidKinds := [.handle], laidTests := true, laidLooks := .later }
def VmPlaysCardSaid : Prop := Claim7.holds Tryz.pinned (.plain (OpenSpec.ofChange vmPlaysSpec)) vmPlaysCard

/-- THE TIED CARD OF 'almshouselaw.DescPlays'. -/
def descPlaysCard : Claim7 := { stood := { row := descPlaysRow, standIns := [], harness := (true, "e179a83a462019a0ce61a4751300616f12b7c07f5dacb3e83292dbefad0e9685"), looks := true }, kinds := [], alts := [], goes := true, laidByText := true, laidKinds := [.data, .handle, .pinned], laidTests := true, laidLooks := .later }
def DescPlaysCardSaid : Prop := Claim7.holds Tryz.pinned (.plain (OpenSpec.ofChange descPlaysSpec)) descPlaysCard

/-- THE SECOND FORM's CARD OF 'almshouselaw.ManyAnswers'. -/
def manyAnswersUptoCard : Claim7 := { stood := { row := manyAnswersUptoRow, standIns := [], harness := (true, "e179a83a462019a0ce61a4751300616f12b7c07f5dacb3e83292dbefad0e9685"), looks := true }, kinds := [], alts := [], goes := true, laidByText := true, laidKinds := [.data, .data, .data, .data, .handle, .sentinel, .sentinel, .pinned], laidTests := true, laidLooks := .later }
def ManyAnswersUptoCardSaid : Prop := Claim7.holds Tryz.pinned (.plain (OpenSpec.upto manyAnswersSpec)) manyAnswersUptoCard

/-- THE SECOND FORM's CARD OF 'almshouselaw.VmPlays'. -/
def vmPlaysUptoCard : Claim7 := { stood := { row := vmPlaysUptoRow, standIns := [], harness := (true, "e179a83a462019a0ce61a4751300616f12b7c07f5dacb3e83292dbefad0e9685"), looks := true }, kinds := [], alts := [], goes := true, laidByText := true, laidKinds := [.handle], laidTests := true, laidLooks := .later }
def VmPlaysUptoCardSaid : Prop := Claim7.holds Tryz.pinned (.plain (OpenSpec.upto vmPlaysSpec)) vmPlaysUptoCard

/-- THE SECOND FORM's CARD OF 'almshouselaw.DescPlays'. -/
def descPlaysUptoCard : Claim7 := { stood := { row := descPlaysUptoRow, standIns := [], harness := (true, "e179a83a462019a0ce61a4751300616f12b7c07f5dacb3e83292dbefad0e9685"), looks := true }, kinds := [], alts := [], goes := true, laidByText := true, laidKinds := [.data, .handle, .pinned], laidTests := true, laidLooks := .later }
def DescPlaysUptoCardSaid : Prop := Claim7.holds Tryz.pinned (.plain (OpenSpec.upto descPlaysSpec)) descPlaysUptoCard
end Rows
end Go.Proofs.YtiohpmcedfbcgabGreatDoor
