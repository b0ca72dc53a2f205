/-
  DERIVED. GIVEN WITH THE SEED: THE CARDS: each row of YtiohpmcedfbcgabDoorRows.lean that lists a variable, with what it lists TIED to the program's text (the seventh form; the later family's looks); each row that meets fmt, with fmt's text TOLD by the authors' own Lean function (tested against real Go, not proved from fmt's source: count such statements apart). THE CARD IS WHAT COUNTS. Prove the row's statement (the work); the ties are given (YtiohpmcedfbcgabDoorTie.lean); close each card by the builder's one call (the guide's Derived/Test/ToyasCard.lean, 'card_holds'). Laid BY PROGRAM, IN A SANDBOX (cutbox-door.mjs). By AI agents, Wed Nov 11 2026. No macro, syntax, notation, axiom, sorry.
-/
import Derived.Test.YtiohpmcedfbcgabDoorRows
import GoSem.ClaimSeven
namespace Go.Proofs.YtiohpmcedfbcgabDoor
namespace Rows

/-- THE TIED CARD OF 'almshousekeep.BuddyTrue'. -/
def buddyTrueCard : Claim7 := { stood := { row := buddyTrueRow, standIns := [], harness := (true, "b741827d354660da8de34dac679fc991e4f5cd6c844b678f7829c68029c1eede"), looks := true }, kinds := [], alts := [], laidByText := true, laidKinds := [.handle], laidTests := true, laidLooks := .later }
def BuddyTrueCardSaid : Prop := Claim7.holds Tryd.pinned (.plain (OpenSpec.ofChange buddyTrueSpec)) buddyTrueCard

/-- THE TIED CARD OF 'almshouselaw.BuddyPlays'. -/
def buddyPlaysCard : Claim7 := { stood := { row := buddyPlaysRow, standIns := [], harness := (true, "b741827d354660da8de34dac679fc991e4f5cd6c844b678f7829c68029c1eede"), looks := true }, kinds := [], alts := [], laidByText := true, laidKinds := [.handle], laidTests := true, laidLooks := .later }
def BuddyPlaysCardSaid : Prop := Claim7.holds Tryd.pinned (.plain (OpenSpec.ofChange buddyPlaysSpec)) buddyPlaysCard

/-- THE TIED CARD OF 'almshouselaw.ProcPlays'. -/
def procPlaysCard : Claim7 := { stood := { row := procPlaysRow, standIns := [], harness := (true, "b741827d354660da8de34dac679fc991e4f5cd6c844b678f7829c68029c1eede"), looks := true }, kinds := [], alts := [], laidByText := true, laidKinds := [.handle], laidTests := true, laidLooks := .later }
def ProcPlaysCardSaid : Prop := Claim7.holds Tryd.pinned (.plain (OpenSpec.ofChange procPlaysSpec)) procPlaysCard

/-- THE TIED CARD OF 'almshousekeep.ProcParents'. -/
def procParentsCard : Claim7 := { stood := { row := procParentsRow, standIns := [], harness := (true, "b741827d354660da8de34dac679fc991e4f5cd6c844b678f7829c68029c1eede"), looks := true }, kinds := [], alts := [], laidByText := true, laidKinds := [.handle], laidTests := true, laidLooks := .later }
def ProcParentsCardSaid : Prop := Claim7.holds Tryd.pinned (.plain (OpenSpec.ofChange procParentsSpec)) procParentsCard

/-- THE TIED CARD OF 'almshouselaw.SlabPlays'. -/
def slabPlaysCard : Claim7 := { stood := { row := slabPlaysRow, standIns := [], harness := (true, "b741827d354660da8de34dac679fc991e4f5cd6c844b678f7829c68029c1eede"), looks := true }, kinds := [], alts := [], laidByText := true, laidKinds := [.handle], laidTests := true, laidLooks := .later }
def SlabPlaysCardSaid : Prop := Claim7.holds Tryd.pinned (.plain (OpenSpec.ofChange slabPlaysSpec)) slabPlaysCard

/-- THE TIED CARD OF 'almshousekeep.SlabCounts'. -/
def slabCountsCard : Claim7 := { stood := { row := slabCountsRow, standIns := [], harness := (true, "b741827d354660da8de34dac679fc991e4f5cd6c844b678f7829c68029c1eede"), looks := true }, kinds := [], alts := [], laidByText := true, laidKinds := [.handle], laidTests := true, laidLooks := .later }
def SlabCountsCardSaid : Prop := Claim7.holds Tryd.pinned (.plain (OpenSpec.ofChange slabCountsSpec)) slabCountsCard

/-- THE TIED CARD OF 'almshousekeep.VmFrames'. -/
def vmFramesCard : Claim7 := { stood := { row := vmFramesRow, standIns := [], harness := (true, "b741827d354660da8de34dac679fc991e4f5cd6c844b678f7829c68029c1eede"), looks := true }, kinds := [], alts := [], laidByText := true, laidKinds := [.handle], laidTests := true, laidLooks := .later }
def VmFramesCardSaid : Prop := Claim7.holds Tryd.pinned (.plain (OpenSpec.ofChange vmFramesSpec)) vmFramesCard

/-- THE TIED CARD OF 'almshousekeep.DescShares'. -/
def descSharesCard : Claim7 := { stood := { row := descSharesRow, standIns := [], harness := (true, "b741827d354660da8de34dac679fc991e4f5cd6c844b678f7829c68029c1eede"), looks := true }, kinds := [], alts := [], laidByText := true, laidKinds := [.data, .handle, .pinned], laidTests := true, laidLooks := .later }
def DescSharesCardSaid : Prop := Claim7.holds Tryd.pinned (.plain (OpenSpec.ofChange descSharesSpec)) descSharesCard

/-- THE TIED CARD OF 'almshousekeep.TreeStays'. -/
def treeStaysCard : Claim7 := { stood := { row := treeStaysRow, standIns := [], harness := (true, "b741827d354660da8de34dac679fc991e4f5cd6c844b678f7829c68029c1eede"), looks := true }, kinds := [], alts := [], laidByText := true, laidKinds := [.data, .pinned], laidTests := true, laidLooks := .later }
def TreeStaysCardSaid : Prop := Claim7.holds Tryd.pinned (.plain (OpenSpec.ofChange treeStaysSpec)) treeStaysCard

/-- THE SECOND FORM's CARD OF 'almshousekeep.BuddyTrue'. -/
def buddyTrueUptoCard : Claim7 := { stood := { row := buddyTrueUptoRow, standIns := [], harness := (true, "b741827d354660da8de34dac679fc991e4f5cd6c844b678f7829c68029c1eede"), looks := true }, kinds := [], alts := [], laidByText := true, laidKinds := [.handle], laidTests := true, laidLooks := .later }
def BuddyTrueUptoCardSaid : Prop := Claim7.holds Tryd.pinned (.plain (OpenSpec.upto buddyTrueSpec)) buddyTrueUptoCard

/-- THE SECOND FORM's CARD OF 'almshouselaw.BuddyPlays'. -/
def buddyPlaysUptoCard : Claim7 := { stood := { row := buddyPlaysUptoRow, standIns := [], harness := (true, "b741827d354660da8de34dac679fc991e4f5cd6c844b678f7829c68029c1eede"), looks := true }, kinds := [], alts := [], laidByText := true, laidKinds := [.handle], laidTests := true, laidLooks := .later }
def BuddyPlaysUptoCardSaid : Prop := Claim7.holds Tryd.pinned (.plain (OpenSpec.upto buddyPlaysSpec)) buddyPlaysUptoCard

/-- THE SECOND FORM's CARD OF 'almshouselaw.ProcPlays'. -/
def procPlaysUptoCard : Claim7 := { stood := { row := procPlaysUptoRow, standIns := [], harness := (true, "b741827d354660da8de34dac679fc991e4f5cd6c844b678f7829c68029c1eede"), looks := true }, kinds := [], alts := [], laidByText := true, laidKinds := [.handle], laidTests := true, laidLooks := .later }
def ProcPlaysUptoCardSaid : Prop := Claim7.holds Tryd.pinned (.plain (OpenSpec.upto procPlaysSpec)) procPlaysUptoCard

/-- THE SECOND FORM's CARD OF 'almshousekeep.ProcParents'. -/
def procParentsUptoCard : Claim7 := { stood := { row := procParentsUptoRow, standIns := [], harness := (true, "b741827d354660da8de34dac679fc991e4f5cd6c844b678f7829c68029c1eede"), looks := true }, kinds := [], alts := [], laidByText := true, laidKinds := [.handle], laidTests := true, laidLooks := .later }
def ProcParentsUptoCardSaid : Prop := Claim7.holds Tryd.pinned (.plain (OpenSpec.upto procParentsSpec)) procParentsUptoCard

/-- THE SECOND FORM's CARD OF 'almshouselaw.SlabPlays'. -/
def slabPlaysUptoCard : Claim7 := { stood := { row := slabPlaysUptoRow, standIns := [], harness := (true, "b741827d354660da8de34dac679fc991e4f5cd6c844b678f7829c68029c1eede"), looks := true }, kinds := [], alts := [], laidByText := true, laidKinds := [.handle], laidTests := true, laidLooks := .later }
def SlabPlaysUptoCardSaid : Prop := Claim7.holds Tryd.pinned (.plain (OpenSpec.upto slabPlaysSpec)) slabPlaysUptoCard

/-- THE SECOND FORM's CARD OF 'almshousekeep.SlabCounts'. -/
def slabCountsUptoCard : Claim7 := { stood := { row := slabCountsUptoRow, standIns := [], harness := (true, "b741827d354660da8de34dac679fc991e4f5cd6c844b678f7829c68029c1eede"), looks := true }, kinds := [], alts := [], laidByText := true, laidKinds := [.handle], laidTests := true, laidLooks := .later }
def SlabCountsUptoCardSaid : Prop := Claim7.holds Tryd.pinned (.plain (OpenSpec.upto slabCountsSpec)) slabCountsUptoCard

/-- THE SECOND FORM's CARD OF 'almshousekeep.VmFrames'. -/
def vmFramesUptoCard : Claim7 := { stood := { row := vmFramesUptoRow, standIns := [], harness := (true, "b741827d354660da8de34dac679fc991e4f5cd6c844b678f7829c68029c1eede"), looks := true }, kinds := [], alts := [], laidByText := true, laidKinds := [.handle], laidTests := true, laidLooks := .later }
def VmFramesUptoCardSaid : Prop := Claim7.holds Tryd.pinned (.plain (OpenSpec.upto vmFramesSpec)) vmFramesUptoCard

/-- THE SECOND FORM's CARD OF 'almshousekeep.DescShares'. -/
def descSharesUptoCard : Claim7 := { stood := { row := descSharesUptoRow, standIns := [], harness := (true, "b741827d354660da8de34dac679fc991e4f5cd6c844b678f7829c68029c1eede"), looks := true }, kinds := [], alts := [], laidByText := true, laidKinds := [.data, .handle, .pinned], laidTests := true, laidLooks := .later }
def DescSharesUptoCardSaid : Prop := Claim7.holds Tryd.pinned (.plain (OpenSpec.upto descSharesSpec)) descSharesUptoCard

/-- THE SECOND FORM's CARD OF 'almshousekeep.TreeStays'. -/
def treeStaysUptoCard : Claim7 := { stood := { row := treeStaysUptoRow, standIns := [], harness := (true, "b741827d354660da8de34dac679fc991e4f5cd6c844b678f7829c68029c1eede"), looks := true }, kinds := [], alts := [], laidByText := true, laidKinds := [.data, .pinned], laidTests := true, laidLooks := .later }
def TreeStaysUptoCardSaid : Prop := Claim7.holds Tryd.pinned (.plain (OpenSpec.upto treeStaysSpec)) treeStaysUptoCard
end Rows
end Go.Proofs.YtiohpmcedfbcgabDoor
