/- What Free hands back: the free blocks of a pool, in memory. No condition. -/
import Derived.Test.YtiohpmcedfbcgabDoorFreePlain
import Derived.Test.YtiohpmcedfbcgabDoorBlocks
namespace Go.Proofs.YtiohpmcedfbcgabDoor
open Go.RowKit
set_option linter.unusedVariables false
def FreeRes (fr : Fr) (w : World) (e : Ending) (w' : World) : Prop :=
  ∃ (l : List Bk) (a : Option Addr) (cap : Nat), FreeOf fr l ∧ e = .returned (.slice a l.length cap) ∧ (l = [] ∨ ∃ g, a = some ⟨g, 0, none⟩ ∧ w.heap.size ≤ g ∧ g < w'.heap.size ∧ BksAt w' g 0 l) ∧ Turn (fun _ => False) w w'
end Go.Proofs.YtiohpmcedfbcgabDoor
