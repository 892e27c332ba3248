/- The tests on a list of permits: impl.ratesOk, impl.permitsOk, spec.l07Plain. -/
import Derived.Test.YtgiimcdjojjbmaaGreatDoorA2
namespace Go.Proofs.YtgiimcdjojjbmaaGreatDoor
open Go Go.RowKit

def badRate (p : Pm) : Bool := !inB p.r 0 400
def badWho (p : Pm) : Bool := !inB p.o 0 7 || !inB p.c 0 63

theorem PmSl.len {w : World} {v : Value} {ps : List Pm} (h : PmSl w v ps) : ∃ a c, v = .slice a ps.length c := by
  rcases h with ⟨a, c, rfl, rfl⟩ | ⟨b, off, c, rfl, _⟩
  · exact ⟨_, _, rfl⟩
  · exact ⟨_, _, rfl⟩

theorem PmSl.mono {w w' : World} {v : Value} {ps : List Pm} (h : PmSl w v ps) (hB : Below w.heap.size w w') : PmSl w' v ps := by
  rcases h with ⟨a, c, rfl, rfl⟩ | ⟨b, off, c, rfl, hb, hat⟩
  · exact .inl ⟨_, _, rfl, rfl⟩
  · exact .inr ⟨_, _, _, rfl, Nat.lt_of_lt_of_le hb hB.size, hat.mono hb hB⟩

end Go.Proofs.YtgiimcdjojjbmaaGreatDoor
