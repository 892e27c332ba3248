/- Contracts of the smallest functions: whether a whole number lies between two others. -/
import Derived.Test.YtgiimcdjojjbmaaDoorChecked
import Derived.WalkKit
import Derived.WalkLawsBesides
import Derived.WalkSpells
namespace Go.Proofs.YtgiimcdjojjbmaaDoor
open Go Go.RowKit

def inB (a b c : Int) : Bool := decide (b ≤ a) && decide (a ≤ c)

theorem l00In_any (a b c : Int) (w : World) : Calls Tryd.prog 40 #[.int .i64 a, .int .i64 b, .int .i64 c] w
    fun e w' => e = .returned (.bool (inB a b c)) ∧ w = w' := by
  unfold inB
  by_cases h : b ≤ a
  all_goals
    go_enter Tryd.func40, Tryd.ntmps40
    go_wp2
    go_ret
    exact ⟨by first | (simp [h]; done) | (simp; omega), rfl⟩

theorem in_any (a b c : Int) (w : World) : Calls Tryd.prog 52 #[.int .i64 a, .int .i64 b, .int .i64 c] w
    fun e w' => e = .returned (.bool (inB a b c)) ∧ w = w' := by
  unfold inB
  by_cases h : b ≤ a
  all_goals
    go_enter Tryd.func52, Tryd.ntmps52
    go_wp2
    go_ret
    exact ⟨by first | (simp [h]; done) | (simp; omega), rfl⟩

theorem isOwner_any (a : Int) (w : World) (h0 : -128 ≤ a) (h1 : a ≤ 127) : Calls Tryd.prog 51 #[.int .i8 a] w
    fun e w' => e = .returned (.bool (inB a 0 7)) ∧ w = w' := by
  go_enter Tryd.func51, Tryd.ntmps51
  go_wp2_with (go_at_call 52; refine (in_any _ _ _ _).mono ?_; rintro e w' ⟨rfl, rfl⟩)
  go_ret
  exact ⟨rfl, rfl⟩

theorem isRate_any (a : Int) (w : World) (h0 : -32768 ≤ a) (h1 : a ≤ 32767) : Calls Tryd.prog 66 #[.int .i16 a] w
    fun e w' => e = .returned (.bool (inB a 0 400)) ∧ w = w' := by
  go_enter Tryd.func66, Tryd.ntmps66
  go_wp2_with (go_at_call 52; refine (in_any _ _ _ _).mono ?_; rintro e w' ⟨rfl, rfl⟩)
  go_ret
  exact ⟨rfl, rfl⟩
end Go.Proofs.YtgiimcdjojjbmaaDoor
