/-
  DERIVED. GIVEN WITH THE SEED: THE CARDS: each row of YtamleilijmgoeaaGreatDoorRows.lean that lists a variable, with what it lists TIED to the program's text (the seventh form; the later family's looks); each row that meets fmt, with fmt's text TOLD by the authors' own Lean function (tested against real Go, not proved from fmt's source: count such statements apart). THE CARD IS WHAT COUNTS. Prove the row's statement (the work); the ties are given (YtamleilijmgoeaaGreatDoorTie.lean); close each card by the builder's one call (the guide's Derived/Test/ToyasCard.lean, 'card_holds'). Laid BY PROGRAM, IN A SANDBOX (cutbox-door.mjs). By AI agents, Wed Nov 11 2026. No macro, syntax, notation, axiom, sorry.
-/
import Derived.Test.YtamleilijmgoeaaGreatDoorRows
import GoSem.ClaimSeven
namespace Go.Proofs.YtamleilijmgoeaaGreatDoor
namespace Rows

/-- THE TIED CARD OF 'almshousekeep.KernelTalks'. -/
def kernelTalksCard : Claim7 := { stood := { row := kernelTalksRow, standIns := [], harness := (true, "a0723add5df4238dcb443c786eb499ae987512307ef7d4b41dc26f8abcf01def"), looks := true }, kinds := [], alts := [], laidByText := true, laidKinds := [.handle], laidTests := true, laidLooks := .later }
def KernelTalksCardSaid : Prop := Claim7.holds Tryz.pinned (.plain (OpenSpec.ofChange kernelTalksSpec)) kernelTalksCard

/-- THE TIED CARD OF 'almshousekeep.KernelLimits'. -/
def kernelLimitsCard : Claim7 := { stood := { row := kernelLimitsRow, standIns := [], harness := (true, "a0723add5df4238dcb443c786eb499ae987512307ef7d4b41dc26f8abcf01def"), looks := true }, kinds := [], alts := [], laidByText := true, laidKinds := [.data, .handle, .pinned], laidTests := true, laidLooks := .later }
def KernelLimitsCardSaid : Prop := Claim7.holds Tryz.pinned (.plain (OpenSpec.ofChange kernelLimitsSpec)) kernelLimitsCard

/-- THE TIED CARD OF 'almshousekeep.KernelGoes'. -/
def kernelGoesCard : Claim7 := { stood := { row := kernelGoesRow, standIns := [], harness := (true, "a0723add5df4238dcb443c786eb499ae987512307ef7d4b41dc26f8abcf01def"), looks := true }, kinds := [], alts := [], laidByText := true, laidKinds := [.data, .handle, .pinned], laidTests := true, laidLooks := .later }
def KernelGoesCardSaid : Prop := Claim7.holds Tryz.pinned (.plain (OpenSpec.ofChange kernelGoesSpec)) kernelGoesCard

/-- THE TIED CARD OF 'almshousekeep.KernelLeaks'. -/
def kernelLeaksCard : Claim7 := { stood := { row := kernelLeaksRow, standIns := [], harness := (true, "a0723add5df4238dcb443c786eb499ae987512307ef7d4b41dc26f8abcf01def"), looks := true }, kinds := [], alts := [], laidByText := true, laidKinds := [.data, .handle, .pinned], laidTests := true, laidLooks := .later }
def KernelLeaksCardSaid : Prop := Claim7.holds Tryz.pinned (.plain (OpenSpec.ofChange kernelLeaksSpec)) kernelLeaksCard

/-- THE TIED CARD OF 'almshouselaw.KernelPlays'. -/
def kernelPlaysCard : Claim7 := { stood := { row := kernelPlaysRow, standIns := [], harness := (true, "a0723add5df4238dcb443c786eb499ae987512307ef7d4b41dc26f8abcf01def"), looks := true }, kinds := [], alts := [], laidByText := true, laidKinds := [.data, .handle, .pinned], laidTests := true, laidLooks := .later }
def KernelPlaysCardSaid : Prop := Claim7.holds Tryz.pinned (.plain (OpenSpec.ofChange kernelPlaysSpec)) kernelPlaysCard

/-- THE TIED CARD OF 'almshousekeep.KernelRefuses'. -/
def kernelRefusesCard : Claim7 := { stood := { row := kernelRefusesRow, standIns := [], harness := (true, "a0723add5df4238dcb443c786eb499ae987512307ef7d4b41dc26f8abcf01def"), looks := true }, kinds := [], alts := [], laidByText := true, laidKinds := [.data, .data, .data, .data, .handle, .pinned], laidTests := true, laidLooks := .later }
def KernelRefusesCardSaid : Prop := Claim7.holds Tryz.pinned (.plain (OpenSpec.ofChange kernelRefusesSpec)) kernelRefusesCard

/-- THE TIED CARD OF 'almshousekeep.KernelApart'. -/
def kernelApartCard : Claim7 := { stood := { row := kernelApartRow, standIns := [], harness := (true, "a0723add5df4238dcb443c786eb499ae987512307ef7d4b41dc26f8abcf01def"), looks := true }, kinds := [], alts := [], laidByText := true, laidKinds := [.data, .data, .data, .data, .handle, .pinned], laidTests := true, laidLooks := .later }
def KernelApartCardSaid : Prop := Claim7.holds Tryz.pinned (.plain (OpenSpec.ofChange kernelApartSpec)) kernelApartCard

/-- THE TIED CARD OF 'almshousekeep.KernelRounds'. -/
def kernelRoundsCard : Claim7 := { stood := { row := kernelRoundsRow, standIns := [], harness := (true, "a0723add5df4238dcb443c786eb499ae987512307ef7d4b41dc26f8abcf01def"), looks := true }, kinds := [], alts := [], laidByText := true, laidKinds := [.data, .data, .data, .data, .handle, .pinned], laidTests := true, laidLooks := .later }
def KernelRoundsCardSaid : Prop := Claim7.holds Tryz.pinned (.plain (OpenSpec.ofChange kernelRoundsSpec)) kernelRoundsCard

/-- THE SECOND FORM's CARD OF 'almshousekeep.KernelTalks'. -/
def kernelTalksUptoCard : Claim7 := { stood := { row := kernelTalksUptoRow, standIns := [], harness := (true, "a0723add5df4238dcb443c786eb499ae987512307ef7d4b41dc26f8abcf01def"), looks := true }, kinds := [], alts := [], laidByText := true, laidKinds := [.handle], laidTests := true, laidLooks := .later }
def KernelTalksUptoCardSaid : Prop := Claim7.holds Tryz.pinned (.plain (OpenSpec.upto kernelTalksSpec)) kernelTalksUptoCard

/-- THE SECOND FORM's CARD OF 'almshousekeep.KernelLimits'. -/
def kernelLimitsUptoCard : Claim7 := { stood := { row := kernelLimitsUptoRow, standIns := [], harness := (true, "a0723add5df4238dcb443c786eb499ae987512307ef7d4b41dc26f8abcf01def"), looks := true }, kinds := [], alts := [], laidByText := true, laidKinds := [.data, .handle, .pinned], laidTests := true, laidLooks := .later }
def KernelLimitsUptoCardSaid : Prop := Claim7.holds Tryz.pinned (.plain (OpenSpec.upto kernelLimitsSpec)) kernelLimitsUptoCard

/-- THE SECOND FORM's CARD OF 'almshousekeep.KernelGoes'. -/
def kernelGoesUptoCard : Claim7 := { stood := { row := kernelGoesUptoRow, standIns := [], harness := (true, "a0723add5df4238dcb443c786eb499ae987512307ef7d4b41dc26f8abcf01def"), looks := true }, kinds := [], alts := [], laidByText := true, laidKinds := [.data, .handle, .pinned], laidTests := true, laidLooks := .later }
def KernelGoesUptoCardSaid : Prop := Claim7.holds Tryz.pinned (.plain (OpenSpec.upto kernelGoesSpec)) kernelGoesUptoCard

/-- THE SECOND FORM's CARD OF 'almshousekeep.KernelLeaks'. -/
def kernelLeaksUptoCard : Claim7 := { stood := { row := kernelLeaksUptoRow, standIns := [], harness := (true, "a0723add5df4238dcb443c786eb499ae987512307ef7d4b41dc26f8abcf01def"), looks := true }, kinds := [], alts := [], laidByText := true, laidKinds := [.data, .handle, .pinned], laidTests := true, laidLooks := .later }
def KernelLeaksUptoCardSaid : Prop := Claim7.holds Tryz.pinned (.plain (OpenSpec.upto kernelLeaksSpec)) kernelLeaksUptoCard

/-- THE SECOND FORM's CARD OF 'almshouselaw.KernelPlays'. -/
def kernelPlaysUptoCard : Claim7 := { stood := { row := kernelPlaysUptoRow, standIns := [], harness := (true, "a0723add5df4238dcb443c786eb499ae987512307ef7d4b41dc26f8abcf01def"), looks := true }, kinds := [], alts := [], laidByText := true, laidKinds := [.data, .handle, .pinned], laidTests := true, laidLooks := .later }
def KernelPlaysUptoCardSaid : Prop := Claim7.holds Tryz.pinned (.plain (OpenSpec.upto kernelPlaysSpec)) kernelPlaysUptoCard

/-- THE SECOND FORM's CARD OF 'almshousekeep.KernelRefuses'. -/
def kernelRefusesUptoCard : Claim7 := { stood := { row := kernelRefusesUptoRow, standIns := [], harness := (true, "a0723add5df4238dcb443c786eb499ae987512307ef7d4b41dc26f8abcf01def"), looks := true }, kinds := [], alts := [], laidByText := true, laidKinds := [.data, .data, .data, .data, .handle, .pinned], laidTests := true, laidLooks := .later }
def KernelRefusesUptoCardSaid : Prop := Claim7.holds Tryz.pinned (.plain (OpenSpec.upto kernelRefusesSpec)) kernelRefusesUptoCard

/-- THE SECOND FORM's CARD OF 'almshousekeep.KernelApart'. -/
def kernelApartUptoCard : Claim7 := { stood := { row := kernelApartUptoRow, standIns := [], harness := (true, "a0723add5df4238dcb443c786eb499ae987512307ef7d4b41dc26f8abcf01def"), looks := true }, kinds := [], alts := [], laidByText := true, laidKinds := [.data, .data, .data, .data, .handle, .pinned], laidTests := true, laidLooks := .later }
def KernelApartUptoCardSaid : Prop := Claim7.holds Tryz.pinned (.plain (OpenSpec.upto kernelApartSpec)) kernelApartUptoCard

/-- THE SECOND FORM's CARD OF 'almshousekeep.KernelRounds'. -/
def kernelRoundsUptoCard : Claim7 := { stood := { row := kernelRoundsUptoRow, standIns := [], harness := (true, "a0723add5df4238dcb443c786eb499ae987512307ef7d4b41dc26f8abcf01def"), looks := true }, kinds := [], alts := [], laidByText := true, laidKinds := [.data, .data, .data, .data, .handle, .pinned], laidTests := true, laidLooks := .later }
def KernelRoundsUptoCardSaid : Prop := Claim7.holds Tryz.pinned (.plain (OpenSpec.upto kernelRoundsSpec)) kernelRoundsUptoCard
end Rows
end Go.Proofs.YtamleilijmgoeaaGreatDoor
