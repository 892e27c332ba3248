/- The law PermitsText: the walk. -/
import Derived.Test.YtgiimcdjojjbmaaGreatDoorB2
import Derived.Test.YtgiimcdjojjbmaaGreatDoorC3
namespace Go.Proofs.YtgiimcdjojjbmaaGreatDoor
open Go Go.RowKit

end Go.Proofs.YtgiimcdjojjbmaaGreatDoor
