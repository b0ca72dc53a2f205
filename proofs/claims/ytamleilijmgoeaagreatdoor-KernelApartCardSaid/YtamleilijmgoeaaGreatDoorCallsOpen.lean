/- A list of calls as an argument: opened. No condition. -/
import Derived.Test.YtamleilijmgoeaaGreatDoorLaw
import Derived.Test.YtamleilijmgoeaaGreatDoorKernFork
import Derived.SevenTiedAt
namespace Go.Proofs.YtamleilijmgoeaaGreatDoor
set_option linter.unusedVariables false
section
open Go.ChangeShapes Go.WideShapes Go.ChangeAt Go.RowKit
theorem kpick_lt {α:Type} [Inhabited α] {p:Nat→α→Prop} {n:Nat} (h:∀ i,i < n→∃ z,p i z):∃ g:Nat→α,∀ i,i < n→p i (g i):=by
 classical
 refine ⟨fun i => if hi:i < n then Classical.choose (h i hi) else default,fun i hi => ?_⟩
 show p i (if hi:i < n then Classical.choose (h i hi) else default)
 rw [dif_pos hi]
 exact Classical.choose_spec (h i hi)
end
end Go.Proofs.YtamleilijmgoeaaGreatDoor
