/- spec.l07Plain. -/
import Derived.Test.YtgiimcdjojjbmaaGreatDoorA3
namespace Go.Proofs.YtgiimcdjojjbmaaGreatDoor
open Go Go.RowKit

def badP (p : Pm) : Bool := !inB p.o 0 7 || !inB p.c 0 63 || !inB p.r 0 400

end Go.Proofs.YtgiimcdjojjbmaaGreatDoor
