/- Permits in memory; the tests of one permit; slices.IndexFunc and slices.ContainsFunc over a test that only reads. -/
import Derived.Test.YtgiimcdjojjbmaaDoorA0
namespace Go.Proofs.YtgiimcdjojjbmaaDoor
open Go Go.RowKit

/-- A permit: its owner, its cell, its rate. -/
structure Pm where
  o : Int
  c : Int
  r : Int

instance : Inhabited Pm := ⟨⟨0, 0, 0⟩⟩

def Pm.ok (p : Pm) : Prop := -128 ≤ p.o ∧ p.o ≤ 127 ∧ -128 ≤ p.c ∧ p.c ≤ 127 ∧ -32768 ≤ p.r ∧ p.r ≤ 32767

/-- The cells at an address hold a list of permits. -/
def PmAt (w : World) (b off : Nat) (ps : List Pm) : Prop :=
  ∀ k, k < ps.length → w.cell? ⟨b, off + k * 3, none⟩ = some (.int .i8 (ps.getD k default).o) ∧
    w.cell? ⟨b, off + k * 3 + 1, none⟩ = some (.int .i8 (ps.getD k default).c) ∧ w.cell? ⟨b, off + k * 3 + 2, none⟩ = some (.int .i16 (ps.getD k default).r)

/-- A slice value that reads as a list of permits. -/
def PmSl (w : World) (v : Value) (ps : List Pm) : Prop :=
  (∃ a c, v = .slice a 0 c ∧ ps = []) ∨ (∃ b off c, v = .slice (some ⟨b, off, none⟩) ps.length c ∧ b < w.heap.size ∧ PmAt w b off ps)

theorem rateLit_any (o c r : Int) (w : World) (h0 : -32768 ≤ r) (h1 : r ≤ 32767) : Calls Tryd.prog 65 #[.agg #[.int .i8 o, .int .i8 c, .int .i16 r]] w
    fun e w' => e = .returned (.bool (!inB r 0 400)) ∧ Below w.heap.size w w' := by
  go_enter Tryd.func65, Tryd.ntmps65
  go_wp2_with (go_at_call 66; refine (isRate_any _ _ h0 h1).mono ?_; rintro e w' ⟨rfl, rfl⟩)
  go_ret
  exact ⟨rfl, (Below.refl _ _).alloc (Nat.le_refl _) _⟩

theorem permLit_any (o c r : Int) (w : World) (h0 : -128 ≤ o) (h1 : o ≤ 127) (h2 : -128 ≤ c) (h3 : c ≤ 127) : Calls Tryd.prog 50 #[.agg #[.int .i8 o, .int .i8 c, .int .i16 r]] w
    fun e w' => e = .returned (.bool (!inB o 0 7 || !inB c 0 63)) ∧ Below w.heap.size w w' := by
  rcases hb : inB o 0 7 with _ | _
  all_goals
    go_enter Tryd.func50, Tryd.ntmps50
    go_wp2_with (first | (go_at_call 51; refine (isOwner_any _ _ h0 h1).mono ?_; rintro e w' ⟨rfl, rfl⟩) | (go_at_call 52; refine (in_any _ _ _ _).mono ?_; rintro e w' ⟨rfl, rfl⟩))
    go_ret
    exact ⟨by simp, (Below.refl _ _).alloc (Nat.le_refl _) _⟩
end Go.Proofs.YtgiimcdjojjbmaaDoor
