/- laws.toPermitS: a copy of a list of permits in new memory. -/
import Derived.Test.YtgiimcdjojjbmaaGreatDoorB0
namespace Go.Proofs.YtgiimcdjojjbmaaGreatDoor
open Go Go.RowKit

theorem getD_set_take (a : List Pm) (k : Nat) (p : Pm) (h : k < a.length) : (a.set k p).take (k + 1) = a.take k ++ [p] := by
  rw [take_snocD default _ k (by simpa using h)]
  congr 1
  · rw [List.take_set_of_le (Nat.le_refl _)]
  · simp [List.getD, h]

end Go.Proofs.YtgiimcdjojjbmaaGreatDoor
