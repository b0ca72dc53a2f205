/-
  DERIVED. GIVEN WITH THE SEED: THE CARDS: each row of YtiohpmcedfbcgacGreatDoorRows.lean that lists a variable, with what it lists TIED to the program's text (the seventh form; the later family's looks); each row that meets fmt, with fmt's text TOLD by the authors' own Lean function (tested against real Go, not proved from fmt's source: count such statements apart). THE CARD IS WHAT COUNTS. Prove the row's statement (the work); the ties are given (YtiohpmcedfbcgacGreatDoorTie.lean); close each card by the builder's one call (the guide's Derived/Test/ToyasCard.lean, 'card_holds'). Laid BY PROGRAM, IN A SANDBOX (cutbox-door.mjs). By AI agents, Wed Nov 11 2026. No macro, syntax, notation, axiom, sorry.
-/
import Derived.Test.YtiohpmcedfbcgacGreatDoorRows
import GoSem.ClaimSeven
namespace Go.Proofs.YtiohpmcedfbcgacGreatDoor
namespace Rows

/-- THE TIED CARD OF 'almshousekeep.VmApart'. -/
def vmApartCard : Claim7 := { stood := { row := vmApartRow, standIns := [], harness := (true, "2d0477ec0fc75a019b7a6a9299ae8982b46bce5b685b0e83acc1c47601b4b9aa"), looks := true }, kinds := [], alts := [], laidByText := true, laidKinds := [.data, .data, .data, .handle], laidTests := true, laidLooks := .later }
def VmApartCardSaid : Prop := Claim7.holds Tryz.pinned (.plain (OpenSpec.ofChange vmApartSpec)) vmApartCard

/-- THE TIED CARD OF 'almshousekeep.TreePieces'. -/
def treePiecesCard : Claim7 := { stood := { row := treePiecesRow, standIns := [], harness := (true, "2d0477ec0fc75a019b7a6a9299ae8982b46bce5b685b0e83acc1c47601b4b9aa"), looks := true }, kinds := [], alts := [], laidByText := true, laidKinds := [.data, .handle, .pinned], laidTests := true, laidLooks := .later }
def TreePiecesCardSaid : Prop := Claim7.holds Tryz.pinned (.plain (OpenSpec.ofChange treePiecesSpec)) treePiecesCard

/-- THE TIED CARD OF 'almshouselaw.TreePlays'. -/
def treePlaysCard : Claim7 := { stood := { row := treePlaysRow, standIns := [], harness := (true, "2d0477ec0fc75a019b7a6a9299ae8982b46bce5b685b0e83acc1c47601b4b9aa"), looks := true }, kinds := [], alts := [], laidByText := true, laidKinds := [.data, .handle, .pinned], laidTests := true, laidLooks := .later }
def TreePlaysCardSaid : Prop := Claim7.holds Tryz.pinned (.plain (OpenSpec.ofChange treePlaysSpec)) treePlaysCard

/-- THE TIED CARD OF 'almshousekeep.TreeLinks'. -/
def treeLinksCard : Claim7 := { stood := { row := treeLinksRow, standIns := [], harness := (true, "2d0477ec0fc75a019b7a6a9299ae8982b46bce5b685b0e83acc1c47601b4b9aa"), looks := true }, kinds := [], alts := [], laidByText := true, laidKinds := [.data, .data, .data, .data, .handle, .pinned], laidTests := true, laidLooks := .later }
def TreeLinksCardSaid : Prop := Claim7.holds Tryz.pinned (.plain (OpenSpec.ofChange treeLinksSpec)) treeLinksCard

/-- THE TIED CARD OF 'almshousekeep.DescCloses'. -/
def descClosesCard : Claim7 := { stood := { row := descClosesRow, standIns := [], harness := (true, "2d0477ec0fc75a019b7a6a9299ae8982b46bce5b685b0e83acc1c47601b4b9aa"), looks := true }, kinds := [], alts := [], laidByText := true, laidKinds := [.data, .handle, .pinned], laidTests := true, laidLooks := .later }
def DescClosesCardSaid : Prop := Claim7.holds Tryz.pinned (.plain (OpenSpec.ofChange descClosesSpec)) descClosesCard

/-- THE TIED CARD OF 'almshousekeep.KernelTalks'. -/
def kernelTalksCard : Claim7 := { stood := { row := kernelTalksRow, standIns := [], harness := (true, "2d0477ec0fc75a019b7a6a9299ae8982b46bce5b685b0e83acc1c47601b4b9aa"), looks := true }, kinds := [], alts := [], laidByText := true, laidKinds := [.handle], laidTests := true, laidLooks := .later }
def KernelTalksCardSaid : Prop := Claim7.holds Tryz.pinned (.plain (OpenSpec.ofChange kernelTalksSpec)) kernelTalksCard

/-- THE TIED CARD OF 'almshousekeep.KernelLimits'. -/
def kernelLimitsCard : Claim7 := { stood := { row := kernelLimitsRow, standIns := [], harness := (true, "2d0477ec0fc75a019b7a6a9299ae8982b46bce5b685b0e83acc1c47601b4b9aa"), looks := true }, kinds := [], alts := [], laidByText := true, laidKinds := [.data, .handle, .pinned], laidTests := true, laidLooks := .later }
def KernelLimitsCardSaid : Prop := Claim7.holds Tryz.pinned (.plain (OpenSpec.ofChange kernelLimitsSpec)) kernelLimitsCard

/-- THE TIED CARD OF 'almshousekeep.KernelGoes'. -/
def kernelGoesCard : Claim7 := { stood := { row := kernelGoesRow, standIns := [], harness := (true, "2d0477ec0fc75a019b7a6a9299ae8982b46bce5b685b0e83acc1c47601b4b9aa"), looks := true }, kinds := [], alts := [], laidByText := true, laidKinds := [.data, .handle, .pinned], laidTests := true, laidLooks := .later }
def KernelGoesCardSaid : Prop := Claim7.holds Tryz.pinned (.plain (OpenSpec.ofChange kernelGoesSpec)) kernelGoesCard

/-- THE TIED CARD OF 'almshousekeep.KernelLeaks'. -/
def kernelLeaksCard : Claim7 := { stood := { row := kernelLeaksRow, standIns := [], harness := (true, "2d0477ec0fc75a019b7a6a9299ae8982b46bce5b685b0e83acc1c47601b4b9aa"), looks := true }, kinds := [], alts := [], laidByText := true, laidKinds := [.data, .handle, .pinned], laidTests := true, laidLooks := .later }
def KernelLeaksCardSaid : Prop := Claim7.holds Tryz.pinned (.plain (OpenSpec.ofChange kernelLeaksSpec)) kernelLeaksCard

/-- THE TIED CARD OF 'almshouselaw.KernelPlays'. -/
def kernelPlaysCard : Claim7 := { stood := { row := kernelPlaysRow, standIns := [], harness := (true, "2d0477ec0fc75a019b7a6a9299ae8982b46bce5b685b0e83acc1c47601b4b9aa"), looks := true }, kinds := [], alts := [], laidByText := true, laidKinds := [.data, .handle, .pinned], laidTests := true, laidLooks := .later }
def KernelPlaysCardSaid : Prop := Claim7.holds Tryz.pinned (.plain (OpenSpec.ofChange kernelPlaysSpec)) kernelPlaysCard

/-- THE TIED CARD OF 'almshousekeep.KernelRefuses'. -/
def kernelRefusesCard : Claim7 := { stood := { row := kernelRefusesRow, standIns := [], harness := (true, "2d0477ec0fc75a019b7a6a9299ae8982b46bce5b685b0e83acc1c47601b4b9aa"), looks := true }, kinds := [], alts := [], laidByText := true, laidKinds := [.data, .data, .data, .data, .handle, .pinned], laidTests := true, laidLooks := .later }
def KernelRefusesCardSaid : Prop := Claim7.holds Tryz.pinned (.plain (OpenSpec.ofChange kernelRefusesSpec)) kernelRefusesCard

/-- THE SECOND FORM's CARD OF 'almshousekeep.VmApart'. -/
def vmApartUptoCard : Claim7 := { stood := { row := vmApartUptoRow, standIns := [], harness := (true, "2d0477ec0fc75a019b7a6a9299ae8982b46bce5b685b0e83acc1c47601b4b9aa"), looks := true }, kinds := [], alts := [], laidByText := true, laidKinds := [.data, .data, .data, .handle], laidTests := true, laidLooks := .later }
def VmApartUptoCardSaid : Prop := Claim7.holds Tryz.pinned (.plain (OpenSpec.upto vmApartSpec)) vmApartUptoCard

/-- THE SECOND FORM's CARD OF 'almshousekeep.TreePieces'. -/
def treePiecesUptoCard : Claim7 := { stood := { row := treePiecesUptoRow, standIns := [], harness := (true, "2d0477ec0fc75a019b7a6a9299ae8982b46bce5b685b0e83acc1c47601b4b9aa"), looks := true }, kinds := [], alts := [], laidByText := true, laidKinds := [.data, .handle, .pinned], laidTests := true, laidLooks := .later }
def TreePiecesUptoCardSaid : Prop := Claim7.holds Tryz.pinned (.plain (OpenSpec.upto treePiecesSpec)) treePiecesUptoCard

/-- THE SECOND FORM's CARD OF 'almshouselaw.TreePlays'. -/
def treePlaysUptoCard : Claim7 := { stood := { row := treePlaysUptoRow, standIns := [], harness := (true, "2d0477ec0fc75a019b7a6a9299ae8982b46bce5b685b0e83acc1c47601b4b9aa"), looks := true }, kinds := [], alts := [], laidByText := true, laidKinds := [.data, .handle, .pinned], laidTests := true, laidLooks := .later }
def TreePlaysUptoCardSaid : Prop := Claim7.holds Tryz.pinned (.plain (OpenSpec.upto treePlaysSpec)) treePlaysUptoCard

/-- THE SECOND FORM's CARD OF 'almshousekeep.TreeLinks'. -/
def treeLinksUptoCard : Claim7 := { stood := { row := treeLinksUptoRow, standIns := [], harness := (true, "2d0477ec0fc75a019b7a6a9299ae8982b46bce5b685b0e83acc1c47601b4b9aa"), looks := true }, kinds := [], alts := [], laidByText := true, laidKinds := [.data, .data, .data, .data, .handle, .pinned], laidTests := true, laidLooks := .later }
def TreeLinksUptoCardSaid : Prop := Claim7.holds Tryz.pinned (.plain (OpenSpec.upto treeLinksSpec)) treeLinksUptoCard

/-- THE SECOND FORM's CARD OF 'almshousekeep.DescCloses'. -/
def descClosesUptoCard : Claim7 := { stood := { row := descClosesUptoRow, standIns := [], harness := (true, "2d0477ec0fc75a019b7a6a9299ae8982b46bce5b685b0e83acc1c47601b4b9aa"), looks := true }, kinds := [], alts := [], laidByText := true, laidKinds := [.data, .handle, .pinned], laidTests := true, laidLooks := .later }
def DescClosesUptoCardSaid : Prop := Claim7.holds Tryz.pinned (.plain (OpenSpec.upto descClosesSpec)) descClosesUptoCard

/-- THE SECOND FORM's CARD OF 'almshousekeep.KernelTalks'. -/
def kernelTalksUptoCard : Claim7 := { stood := { row := kernelTalksUptoRow, standIns := [], harness := (true, "2d0477ec0fc75a019b7a6a9299ae8982b46bce5b685b0e83acc1c47601b4b9aa"), looks := true }, kinds := [], alts := [], laidByText := true, laidKinds := [.handle], laidTests := true, laidLooks := .later }
def KernelTalksUptoCardSaid : Prop := Claim7.holds Tryz.pinned (.plain (OpenSpec.upto kernelTalksSpec)) kernelTalksUptoCard

/-- THE SECOND FORM's CARD OF 'almshousekeep.KernelLimits'. -/
def kernelLimitsUptoCard : Claim7 := { stood := { row := kernelLimitsUptoRow, standIns := [], harness := (true, "2d0477ec0fc75a019b7a6a9299ae8982b46bce5b685b0e83acc1c47601b4b9aa"), looks := true }, kinds := [], alts := [], laidByText := true, laidKinds := [.data, .handle, .pinned], laidTests := true, laidLooks := .later }
def KernelLimitsUptoCardSaid : Prop := Claim7.holds Tryz.pinned (.plain (OpenSpec.upto kernelLimitsSpec)) kernelLimitsUptoCard

/-- THE SECOND FORM's CARD OF 'almshousekeep.KernelGoes'. -/
def kernelGoesUptoCard : Claim7 := { stood := { row := kernelGoesUptoRow, standIns := [], harness := (true, "2d0477ec0fc75a019b7a6a9299ae8982b46bce5b685b0e83acc1c47601b4b9aa"), looks := true }, kinds := [], alts := [], laidByText := true, laidKinds := [.data, .handle, .pinned], laidTests := true, laidLooks := .later }
def KernelGoesUptoCardSaid : Prop := Claim7.holds Tryz.pinned (.plain (OpenSpec.upto kernelGoesSpec)) kernelGoesUptoCard

/-- THE SECOND FORM's CARD OF 'almshousekeep.KernelLeaks'. -/
def kernelLeaksUptoCard : Claim7 := { stood := { row := kernelLeaksUptoRow, standIns := [], harness := (true, "2d0477ec0fc75a019b7a6a9299ae8982b46bce5b685b0e83acc1c47601b4b9aa"), looks := true }, kinds := [], alts := [], laidByText := true, laidKinds := [.data, .handle, .pinned], laidTests := true, laidLooks := .later }
def KernelLeaksUptoCardSaid : Prop := Claim7.holds Tryz.pinned (.plain (OpenSpec.upto kernelLeaksSpec)) kernelLeaksUptoCard

/-- THE SECOND FORM's CARD OF 'almshouselaw.KernelPlays'. -/
def kernelPlaysUptoCard : Claim7 := { stood := { row := kernelPlaysUptoRow, standIns := [], harness := (true, "2d0477ec0fc75a019b7a6a9299ae8982b46bce5b685b0e83acc1c47601b4b9aa"), looks := true }, kinds := [], alts := [], laidByText := true, laidKinds := [.data, .handle, .pinned], laidTests := true, laidLooks := .later }
def KernelPlaysUptoCardSaid : Prop := Claim7.holds Tryz.pinned (.plain (OpenSpec.upto kernelPlaysSpec)) kernelPlaysUptoCard

/-- THE SECOND FORM's CARD OF 'almshousekeep.KernelRefuses'. -/
def kernelRefusesUptoCard : Claim7 := { stood := { row := kernelRefusesUptoRow, standIns := [], harness := (true, "2d0477ec0fc75a019b7a6a9299ae8982b46bce5b685b0e83acc1c47601b4b9aa"), looks := true }, kinds := [], alts := [], laidByText := true, laidKinds := [.data, .data, .data, .data, .handle, .pinned], laidTests := true, laidLooks := .later }
def KernelRefusesUptoCardSaid : Prop := Claim7.holds Tryz.pinned (.plain (OpenSpec.upto kernelRefusesSpec)) kernelRefusesUptoCard
end Rows
end Go.Proofs.YtiohpmcedfbcgacGreatDoor
