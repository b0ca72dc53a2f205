/- Keys of a map from texts, sorted: what the kit's laid contracts want. Conditions: each theorem's own premises. -/
import Derived.Test.YtncfmlifponjdaaGreatDoorBase
import Derived.Test.YtncfmlifponjdaaGreatDoorSortedS
import Derived.Test.YtncfmlifponjdaaGreatDoorSortS
import Derived.Shelf.SlIter.Nil
import Derived.Shelf.SortM.Plain
import Derived.Shelf.SortM.SortNone
namespace Go.Proofs.YtncfmlifponjdaaGreatDoor
set_option linter.unusedVariables false

end Go.Proofs.YtncfmlifponjdaaGreatDoor
