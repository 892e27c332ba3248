/- Readings in memory; laws.eqReading, laws.eqReadingS: two lists of readings that are the same. -/
import Derived.Test.YtgiimcdjojjbmaaGreatDoorB2
namespace Go.Proofs.YtgiimcdjojjbmaaGreatDoor
open Go Go.RowKit

/-- A reading: its time, its level. -/
structure Rd where
  t : Int
  l : Int

instance : Inhabited Rd := ⟨⟨0, 0⟩⟩

/-- The cells at an address hold a list of readings. -/
def RdAt (w : World) (b off : Nat) (ps : List Rd) : Prop :=
  ∀ k, k < ps.length → w.cell? ⟨b, off + k * 2, none⟩ = some (.int .i64 (ps.getD k default).t) ∧
    w.cell? ⟨b, off + k * 2 + 1, none⟩ = some (.int .i16 (ps.getD k default).l)
theorem RdAt.mono {w w' : World} {b off : Nat} {ps : List Rd} (h : RdAt w b off ps) (hb : b < w.heap.size) (hB : Below w.heap.size w w') : RdAt w' b off ps := fun k hk =>
  ⟨(hB.cell (p := ⟨b, off + k * 2, none⟩) hb).trans (h k hk).1, (hB.cell (p := ⟨b, off + k * 2 + 1, none⟩) hb).trans (h k hk).2⟩

/-- A slice value that reads as a list of readings. -/
def RdSl (w : World) (v : Value) (ps : List Rd) : Prop :=
  (∃ a c, v = .slice a 0 c ∧ ps = []) ∨ (∃ b off c, v = .slice (some ⟨b, off, none⟩) ps.length c ∧ b < w.heap.size ∧ RdAt w b off ps)
theorem RdSl.mono {w w' : World} {v : Value} {ps : List Rd} (h : RdSl w v ps) (hB : Below w.heap.size w w') : RdSl w' v ps := by
  rcases h with h | ⟨b, off, c, hv, hb, hat⟩
  · exact .inl h
  · exact .inr ⟨b, off, c, hv, Nat.lt_of_lt_of_le hb hB.size, hat.mono hb hB⟩
theorem RdSl.len {w : World} {v : Value} {ps : List Rd} (h : RdSl w v ps) : ∃ a c, v = .slice a ps.length c := by
  rcases h with ⟨a, c, rfl, rfl⟩ | ⟨b, off, c, rfl, _, _⟩
  · exact ⟨_, _, rfl⟩
  · exact ⟨_, _, rfl⟩

/-- The cells of a list of readings. -/
def rdCells : List Rd → List Value
  | [] => []
  | p :: r => .int .i64 p.t :: .int .i16 p.l :: rdCells r

theorem rdCells_append (a b : List Rd) : rdCells (a ++ b) = rdCells a ++ rdCells b := by
  induction a with
  | nil => rfl
  | cons p r ih => simp [rdCells, ih]
theorem rdCells_length (a : List Rd) : (rdCells a).length = a.length * 2 := by
  induction a with
  | nil => rfl
  | cons p r ih => simp [rdCells, ih]; omega
theorem rdCells_get (a : List Rd) : ∀ k, k < a.length → (rdCells a)[k * 2]? = some (.int .i64 (a.getD k default).t) ∧ (rdCells a)[k * 2 + 1]? = some (.int .i16 (a.getD k default).l) := by
  induction a with
  | nil => intro k h; simp at h
  | cons p r ih =>
    intro k h
    cases k with
    | zero => simp [rdCells]
    | succ k =>
      have := ih k (by simpa using h)
      have e : (k + 1) * 2 = k * 2 + 2 := by omega
      simp only [rdCells, e, List.getD_cons_succ]
      simpa using this
theorem rdCells_set (a : List Rd) (p : Rd) : ∀ k, k < a.length → ((rdCells a).set (k * 2) (.int .i64 p.t)).set (k * 2 + 1) (.int .i16 p.l) = rdCells (a.set k p) := by
  induction a with
  | nil => intro k h; simp at h
  | cons q r ih =>
    intro k h
    cases k with
    | zero => simp [rdCells]
    | succ k =>
      have := ih k (by simpa using h)
      have e : (k + 1) * 2 = k * 2 + 2 := by omega
      simp only [rdCells, e, List.set_cons_succ]
      rw [this]

end Go.Proofs.YtgiimcdjojjbmaaGreatDoor
