/- All lines of a text, each read by a function; rows of the call's own. -/
import Derived.Test.YtgiimcdjojjbmaaGreatDoorF6
import Derived.Maps.AppendAt
namespace Go.Proofs.YtgiimcdjojjbmaaGreatDoor
open Go Go.RowKit

section
variable {α : Type} (f : ByteArray → Option α)
/-- All lines, each read by f. -/
def parseAll (ls : List ByteArray) : Option (List α) := ls.foldl (fun acc l => acc.bind fun D => (f l).map fun p => D ++ [p]) (some [])
theorem parseAll_snoc (ls : List ByteArray) (l : ByteArray) : parseAll f (ls ++ [l]) = (parseAll f ls).bind fun D => (f l).map fun p => D ++ [p] := by
  unfold parseAll; rw [List.foldl_append]; rfl
theorem parseAll_stays (ls : List ByteArray) : ls.foldl (fun (acc : Option (List α)) l => acc.bind fun D => (f l).map fun p => D ++ [p]) none = none := by
  induction ls with
  | nil => rfl
  | cons l r ih => exact ih
theorem parseAll_none {ls : List ByteArray} {k : Nat} (h : parseAll f (ls.take k) = none) : parseAll f ls = none := by
  unfold parseAll at h ⊢
  rw [← List.take_append_drop k ls, List.foldl_append, h]
  exact parseAll_stays f _
theorem parseAll_from : ∀ (ls : List ByteArray) (D0 D : List α), ls.foldl (fun (acc : Option (List α)) l => acc.bind fun D => (f l).map fun p => D ++ [p]) (some D0) = some D →
    ∃ E, D = D0 ++ E ∧ ls.map f = E.map some
  | [], D0, D, h => by
    simp only [List.foldl_nil, Option.some.injEq] at h
    exact ⟨[], by rw [h]; simp, rfl⟩
  | l :: r, D0, D, h => by
    simp only [List.foldl_cons, Option.bind_some] at h
    cases hp : f l with
    | none =>
      rw [hp] at h
      have := parseAll_stays f r
      simp only [Option.map_none] at h
      rw [this] at h
      cases h
    | some p =>
      rw [hp] at h
      obtain ⟨E, h1, h2⟩ := parseAll_from r (D0 ++ [p]) D h
      exact ⟨p :: E, by rw [h1]; simp, by simp [hp, h2]⟩
theorem parseAll_iff {ls : List ByteArray} {D : List α} : parseAll f ls = some D ↔ ls.map f = D.map some := by
  constructor
  · intro h
    obtain ⟨E, h1, h2⟩ := parseAll_from f ls [] D h
    rw [h1]; exact h2
  · have back : ∀ (ls : List ByteArray) (D0 E : List α), ls.map f = E.map some → ls.foldl (fun (acc : Option (List α)) l => acc.bind fun D => (f l).map fun p => D ++ [p]) (some D0) = some (D0 ++ E) := by
      intro ls
      induction ls with
      | nil =>
        intro D0 E h
        have : E = [] := by simpa using h.symm
        rw [this]; simp
      | cons l r ih =>
        intro D0 E h
        cases E with
        | nil => simp at h
        | cons p q =>
          simp only [List.map_cons, List.cons.injEq] at h
          simp only [List.foldl_cons, Option.bind_some, h.1, Option.map_some]
          rw [ih (D0 ++ [p]) q h.2]; simp
    intro h
    exact back ls [] D h
theorem parseAll_length {ls : List ByteArray} {D : List α} (h : parseAll f ls = some D) : D.length = ls.length := by
  have := congrArg List.length ((parseAll_iff f).1 h)
  simpa using this.symm
theorem parseAll_each {ls : List ByteArray} {D : List α} (h : parseAll f ls = some D) : ∀ p ∈ D, ∃ l ∈ ls, f l = some p := by
  intro p hp
  have h1 := (parseAll_iff f).1 h
  have : some p ∈ ls.map f := by rw [h1]; exact List.mem_map_of_mem hp
  obtain ⟨l, hl, e⟩ := List.mem_map.1 this
  exact ⟨l, hl, e⟩
end

theorem row_emptyN (w : World) (T s : Nat) : (w.alloc (.cells #[] T)).ownsRow w.heap.size T s (.slice (some ⟨w.heap.size, 0, none⟩) 0 0) 0 [] :=
  ⟨by simp, .inr ⟨_, 0, #[], rfl, Nat.le_refl _, heap_alloc_new w _, Nat.le_refl _, by simp [maxLen], by simp, by simp⟩⟩
theorem row_emptyA (w : World) (o : Obj) (T s : Nat) : ((w.alloc o).alloc (.cells #[] T)).ownsRow (w.heap.size + 1) T s (.slice (some ⟨w.heap.size + 1, 0, none⟩) 0 0) 0 [] := by
  have h := row_emptyN (w.alloc o) T s
  have e : (w.alloc o).heap.size = w.heap.size + 1 := by simp
  rwa [e] at h
theorem slice_of_rowN {W : World} {B T e n : Nat} {v : Value} {xs : List Value} (h : W.ownsRow B T e v n xs) : ∃ a c, v = .slice a n c := by
  rcases h.2 with ⟨rfl, h0⟩ | ⟨g, cap, cur, rfl, _⟩
  · exact ⟨none, 0, by rw [h0]⟩
  · exact ⟨_, _, rfl⟩

theorem row_lowerN {W : World} {B B' e s n : Nat} {v : Value} {xs : List Value} (h : W.ownsRow B e s v n xs) (hB : B' ≤ B) : W.ownsRow B' e s v n xs := by
  refine ⟨h.1, ?_⟩
  rcases h.2 with h | ⟨g, cap, cur, rfl, hb, rest⟩
  · exact .inl h
  · exact .inr ⟨g, cap, cur, rfl, Nat.le_trans hB hb, rest⟩
end Go.Proofs.YtgiimcdjojjbmaaGreatDoor
