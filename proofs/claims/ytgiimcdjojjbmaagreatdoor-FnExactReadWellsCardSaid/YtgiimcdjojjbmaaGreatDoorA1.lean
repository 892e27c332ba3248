/- Permits in memory; the tests of one permit; slices.IndexFunc and slices.ContainsFunc over a test that only reads. -/
import Derived.Test.YtgiimcdjojjbmaaGreatDoorA0
namespace Go.Proofs.YtgiimcdjojjbmaaGreatDoor
open Go Go.RowKit

/-- A permit: its owner, its cell, its rate. -/
structure Pm where
  o : Int
  c : Int
  r : Int

instance : Inhabited Pm := ⟨⟨0, 0, 0⟩⟩

def Pm.ok (p : Pm) : Prop := -128 ≤ p.o ∧ p.o ≤ 127 ∧ -128 ≤ p.c ∧ p.c ≤ 127 ∧ -32768 ≤ p.r ∧ p.r ≤ 32767

/-- The cells at an address hold a list of permits. -/
def PmAt (w : World) (b off : Nat) (ps : List Pm) : Prop :=
  ∀ k, k < ps.length → w.cell? ⟨b, off + k * 3, none⟩ = some (.int .i8 (ps.getD k default).o) ∧
    w.cell? ⟨b, off + k * 3 + 1, none⟩ = some (.int .i8 (ps.getD k default).c) ∧ w.cell? ⟨b, off + k * 3 + 2, none⟩ = some (.int .i16 (ps.getD k default).r)

/-- A slice value that reads as a list of permits. -/
def PmSl (w : World) (v : Value) (ps : List Pm) : Prop :=
  (∃ a c, v = .slice a 0 c ∧ ps = []) ∨ (∃ b off c, v = .slice (some ⟨b, off, none⟩) ps.length c ∧ b < w.heap.size ∧ PmAt w b off ps)

end Go.Proofs.YtgiimcdjojjbmaaGreatDoor
