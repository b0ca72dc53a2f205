/- Package tree: List: a directory's names, in order. Conditions: each theorem's own premises. A tree of a law's own: each call of package tree, told over the plain tree alone. Conditions: each theorem's own premises. -/
import Derived.Test.YtncfmlifponjdaaGreatDoorPaths
import Derived.Test.YtncfmlifponjdaaGreatDoorKeysStr
import Derived.Test.YtncfmlifponjdaaGreatDoorKeysN
import Derived.Test.YtncfmlifponjdaaGreatDoorBase
namespace Go.Proofs.YtncfmlifponjdaaGreatDoor
open Go.RowKit
set_option linter.unusedVariables false
section
open Go.RowKit Go.Maps Go.Sort Go.Shelf Go.WideElems
end
section
variable {W w w' w1 w2:World} {tb:Nat} {T T':PT} {n:Int} {F:Nat→Prop}
end
end Go.Proofs.YtncfmlifponjdaaGreatDoor
