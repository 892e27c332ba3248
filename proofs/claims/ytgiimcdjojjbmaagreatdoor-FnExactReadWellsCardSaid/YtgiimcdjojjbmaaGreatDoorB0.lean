/- Blocks of cells that are known whole; copies of permits (laws.toPermit). -/
import Derived.Test.YtgiimcdjojjbmaaGreatDoorA2
namespace Go.Proofs.YtgiimcdjojjbmaaGreatDoor
open Go Go.RowKit

/-- Block g holds just these cells, none of them frozen. -/
def RowIs (w : World) (g T : Nat) (L : List Value) : Prop := w.heap[g]? = some (.cells L.toArray T (0, 0))

section
variable {w : World} {g T : Nat} {L : List Value}
theorem RowIs.lt (h : RowIs w g T L) : g < w.heap.size := (Array.getElem?_eq_some_iff.1 h).1
theorem RowIs.cell (h : RowIs w g T L) (j : Nat) : w.cell? ⟨g, j, none⟩ = L[j]? := by
  rw [cell_of_row w g j L.toArray T (0, 0) h]; simp
theorem RowIs.frozen (h : RowIs w g T L) (j : Nat) : w.frozen? ⟨g, j, none⟩ = false := by
  unfold RowIs at h
  simp [World.frozen?, h]
theorem RowIs.set (h : RowIs w g T L) (j : Nat) (v : Value) : RowIs (w.setCell ⟨g, j, none⟩ v) g T (L.set j v) := by
  unfold RowIs at h ⊢
  rw [heap_setCell_same w g j L.toArray T v h]; simp
theorem RowIs.other (h : RowIs w g T L) (a : Addr) (v : Value) (hne : g ≠ a.block) : RowIs (w.setCell a v) g T L := by
  unfold RowIs at h ⊢
  rw [heap_setCell_other w a g v hne]; exact h
theorem RowIs.below {w' : World} {B : Nat} (h : RowIs w g T L) (hB : Below B w w') (hg : g < B) : RowIs w' g T L := (hB.block g hg).trans h
theorem RowIs.alloc (h : RowIs w g T L) (o : Obj) : RowIs (w.alloc o) g T L := (Below.heap_alloc w o g h.lt).trans h
end

/-- The cells of a list of permits. -/
def pmCells : List Pm → List Value
  | [] => []
  | p :: r => .int .i8 p.o :: .int .i8 p.c :: .int .i16 p.r :: pmCells r
def zeroP : Pm := ⟨0, 0, 0⟩

theorem pmCells_append (a b : List Pm) : pmCells (a ++ b) = pmCells a ++ pmCells b := by
  induction a with
  | nil => rfl
  | cons p r ih => simp [pmCells, ih]
theorem pmCells_length (a : List Pm) : (pmCells a).length = a.length * 3 := by
  induction a with
  | nil => rfl
  | cons p r ih => simp [pmCells, ih]; omega
theorem pmCells_get (a : List Pm) : ∀ k, k < a.length → (pmCells a)[k * 3]? = some (.int .i8 (a.getD k default).o) ∧ (pmCells a)[k * 3 + 1]? = some (.int .i8 (a.getD k default).c) ∧ (pmCells a)[k * 3 + 2]? = some (.int .i16 (a.getD k default).r) := by
  induction a with
  | nil => intro k h; simp at h
  | cons p r ih =>
    intro k h
    cases k with
    | zero => simp [pmCells]
    | succ k =>
      have := ih k (by simpa using h)
      have e : (k + 1) * 3 = k * 3 + 3 := by omega
      simp only [pmCells, e, List.getD_cons_succ]
      simpa using this
theorem pmCells_set (a : List Pm) (p : Pm) : ∀ k, k < a.length → (((pmCells a).set (k * 3) (.int .i8 p.o)).set (k * 3 + 1) (.int .i8 p.c)).set (k * 3 + 2) (.int .i16 p.r) = pmCells (a.set k p) := by
  induction a with
  | nil => intro k h; simp at h
  | cons q r ih =>
    intro k h
    cases k with
    | zero => simp [pmCells]
    | succ k =>
      have := ih k (by simpa using h)
      have e : (k + 1) * 3 = k * 3 + 3 := by omega
      simp only [pmCells, e, List.set_cons_succ]
      rw [this]
theorem pmCells_zero (n : Nat) : madeCells #[.int .i8 0, .int .i8 0, .int .i16 0] (n * 3) = (pmCells (List.replicate n zeroP)).toArray := by
  refine Array.ext (by simp [size_madeCells, pmCells_length]) fun j h1 h2 => ?_
  have hl : j < n * 3 := by simpa [size_madeCells] using h1
  obtain ⟨k, r, rfl, hr⟩ : ∃ k r, j = k * 3 + r ∧ r < 3 := ⟨j / 3, j % 3, by omega, by omega⟩
  have hk : k < (List.replicate n zeroP).length := by simp; omega
  obtain ⟨g1, g2, g3⟩ := pmCells_get (List.replicate n zeroP) k hk
  have hz : (List.replicate n zeroP).getD k default = zeroP := by
    have : k < n := by omega
    simp [List.getD, this]
  rw [hz] at g1 g2 g3
  match r, hr with
  | 0, _ =>
    have e := (List.getElem?_eq_some_iff.1 g1).2
    simp only [Nat.add_zero, List.getElem_toArray]
    rw [e]; simp [madeCells, zeroP]
  | 1, _ =>
    have e := (List.getElem?_eq_some_iff.1 g2).2
    simp only [List.getElem_toArray]
    rw [e]; simp [madeCells, zeroP, Nat.add_mod]
  | 2, _ =>
    have e := (List.getElem?_eq_some_iff.1 g3).2
    simp only [List.getElem_toArray]
    rw [e]; simp [madeCells, zeroP, Nat.add_mod]

theorem RowIs.pmAt {w : World} {g T : Nat} {a : List Pm} (h : RowIs w g T (pmCells a)) : PmAt w g 0 a := fun k hk => by
  have := pmCells_get a k hk
  simp only [Nat.zero_add]
  rw [h.cell, h.cell, h.cell]; exact this
end Go.Proofs.YtgiimcdjojjbmaaGreatDoor
