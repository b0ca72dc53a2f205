/- Keys of a map from texts, sorted: what the kit's laid contracts want. Conditions: each theorem's own premises. -/
import Derived.Test.YtamleilijmgoeaaGreatDoorBase
import Derived.Test.YtamleilijmgoeaaGreatDoorSortedS
import Derived.Test.YtamleilijmgoeaaGreatDoorSortS
import Derived.Shelf.SlIter.Nil
import Derived.Shelf.SortM.Plain
import Derived.Shelf.SortM.SortNone
namespace Go.Proofs.YtamleilijmgoeaaGreatDoor
set_option linter.unusedVariables false

end Go.Proofs.YtamleilijmgoeaaGreatDoor
