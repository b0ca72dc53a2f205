/- A block: its first frame, and its order. No condition. -/
import Derived.Test.YtiohpmcedfbcgabDoorBase
namespace Go.Proofs.YtiohpmcedfbcgabDoor
/-- A block: its first frame, and its order. -/
abbrev Bk := Int × Nat
end Go.Proofs.YtiohpmcedfbcgabDoor
