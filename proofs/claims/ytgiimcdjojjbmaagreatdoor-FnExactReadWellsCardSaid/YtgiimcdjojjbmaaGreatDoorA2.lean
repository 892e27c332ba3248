/- slices.IndexFunc and slices.ContainsFunc over permits, at a test that makes memory at most. -/
import Derived.Test.YtgiimcdjojjbmaaGreatDoorA1
import Derived.Lib.Hide
namespace Go.Proofs.YtgiimcdjojjbmaaGreatDoor
open Go Go.RowKit

def anyPm (T : Pm → Bool) (ps : List Pm) : Bool := ps.any T

theorem PmAt.mono {w w' : World} {b off : Nat} {ps : List Pm} (h : PmAt w b off ps) (hb : b < w.heap.size) (hB : Below w.heap.size w w') : PmAt w' b off ps := fun k hk =>
  ⟨(hB.cell (p := ⟨b, off + k * 3, none⟩) hb).trans (h k hk).1, (hB.cell (p := ⟨b, off + k * 3 + 1, none⟩) hb).trans (h k hk).2.1, (hB.cell (p := ⟨b, off + k * 3 + 2, none⟩) hb).trans (h k hk).2.2⟩

theorem getD_mem {α : Type} (d : α) (l : List α) (k : Nat) (h : k < l.length) : l.getD k d ∈ l := by
  simp [List.getD, List.getElem?_eq_getElem h]
theorem take_snocD {α : Type} (d : α) (l : List α) (k : Nat) (h : k < l.length) : l.take (k + 1) = l.take k ++ [l.getD k d] := by
  rw [List.take_succ_eq_append_getElem h]; simp [List.getD, List.getElem?_eq_getElem h]
theorem anyPm_snoc (T : Pm → Bool) (l : List Pm) (k : Nat) (h : k < l.length) : anyPm T (l.take (k + 1)) = (anyPm T (l.take k) || T (l.getD k default)) := by
  rw [take_snocD default l k h]; simp [anyPm]
theorem anyPm_hit (T : Pm → Bool) (l : List Pm) (k : Nat) (h : k < l.length) (ht : T (l.getD k default) = true) : anyPm T l = true := by
  simp only [anyPm, List.any_eq_true]; exact ⟨_, getD_mem default l k h, ht⟩

def TestOf (q : Nat) (T : Pm → Bool) : Prop := ∀ (p : Pm) (w : World), p.ok → Calls Tryz.prog q #[.agg #[.int .i8 p.o, .int .i8 p.c, .int .i16 p.r]] w
    fun e w' => e = .returned (.bool (T p)) ∧ Below w.heap.size w w'

end Go.Proofs.YtgiimcdjojjbmaaGreatDoor
