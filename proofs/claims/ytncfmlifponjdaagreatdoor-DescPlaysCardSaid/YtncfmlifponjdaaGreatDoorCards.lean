/-
  DERIVED. GIVEN WITH THE SEED: THE CARDS: each row of YtncfmlifponjdaaGreatDoorRows.lean that lists a variable, with what it lists TIED to the program's text (the seventh form; the later family's looks); each row that meets fmt, with fmt's text TOLD by the authors' own Lean function (tested against real Go, not proved from fmt's source: count such statements apart). THE CARD IS WHAT COUNTS. Prove the row's statement (the work); the ties are given (YtncfmlifponjdaaGreatDoorTie.lean); close each card by the builder's one call (the guide's Derived/Test/ToyasCard.lean, 'card_holds'). Laid BY PROGRAM, IN A SANDBOX (cutbox-door.mjs). By AI agents, Wed Nov 11 2026. No macro, syntax, notation, axiom, sorry.
-/
import Derived.Test.YtncfmlifponjdaaGreatDoorRows
import GoSem.ClaimSeven
namespace Go.Proofs.YtncfmlifponjdaaGreatDoor
namespace Rows

/-- THE TIED CARD OF 'almshouselaw.DescPlays'. -/
def descPlaysCard : Claim7 := { stood := { row := descPlaysRow, standIns := [], harness := (true, "eaadf2832a2368168ed4d02d7e77982021e433c7ecdb91791e65afe35224bafd"), looks := true }, kinds := [], alts := [], laidByText := true, laidKinds := [.data, .handle, .pinned], laidTests := true, laidLooks := .later }
def DescPlaysCardSaid : Prop := Claim7.holds Tryz.pinned (.plain (OpenSpec.ofChange descPlaysSpec)) descPlaysCard

/-- THE SECOND FORM's CARD OF 'almshouselaw.DescPlays'. -/
def descPlaysUptoCard : Claim7 := { stood := { row := descPlaysUptoRow, standIns := [], harness := (true, "eaadf2832a2368168ed4d02d7e77982021e433c7ecdb91791e65afe35224bafd"), looks := true }, kinds := [], alts := [], laidByText := true, laidKinds := [.data, .handle, .pinned], laidTests := true, laidLooks := .later }
def DescPlaysUptoCardSaid : Prop := Claim7.holds Tryz.pinned (.plain (OpenSpec.upto descPlaysSpec)) descPlaysUptoCard
end Rows
end Go.Proofs.YtncfmlifponjdaaGreatDoor
