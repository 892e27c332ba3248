/- spec.ReadPermits. -/
import Derived.Test.YtgiimcdjojjbmaaGreatDoorF6
namespace Go.Proofs.YtgiimcdjojjbmaaGreatDoor
open Go Go.RowKit

def permOut (t : ByteArray) : List Pm × Int := match permRead t with
  | some L => (L, 0)
  | none => ([], 5)

theorem row_lower {W : World} {B B' e s n : Nat} {v : Value} {xs : List Value} (h : W.ownsRow B e s v n xs) (hB : B' ≤ B) : W.ownsRow B' e s v n xs := by
  refine ⟨h.1, ?_⟩
  rcases h.2 with h | ⟨g, cap, cur, rfl, hb, rest⟩
  · exact .inl h
  · exact .inr ⟨g, cap, cur, rfl, Nat.le_trans hB hb, rest⟩

theorem row_empty (w : World) (T : Nat) : (w.alloc (.cells #[] T)).ownsRow w.heap.size T 3 (.slice (some ⟨w.heap.size, 0, none⟩) 0 0) 0 [] :=
  ⟨rfl, .inr ⟨_, 0, #[], rfl, Nat.le_refl _, heap_alloc_new w _, Nat.le_refl _, by simp [maxLen], rfl, rfl⟩⟩

theorem slice_of_row3 {W : World} {B e n : Nat} {v : Value} {xs : List Value} (h : W.ownsRow B e 3 v n xs) : ∃ a c, v = .slice a n c := by
  rcases h.2 with ⟨rfl, h0⟩ | ⟨g, cap, cur, rfl, _⟩
  · have h1 := h.1
    rw [h0] at h1
    have : n = 0 := by simp at h1; omega
    exact ⟨none, 0, by rw [this]⟩
  · exact ⟨_, _, rfl⟩

theorem permRead_none {t : ByteArray} (h : parsePre (pieces 10 t).dropLast = none ∨ ((pieces 10 t).getLastD default).size ≠ 0) : permOut t = ([], 5) := by
  have hn : permRead t = none := by
    unfold permRead
    rcases h with h | h
    · rw [h]; split <;> rfl
    · rw [if_neg h]
  unfold permOut
  rw [hn]

theorem take_last {α : Type} (l : List α) (k : Nat) (h : k + 1 = l.length) : l.take k = l.dropLast := by
  rw [List.dropLast_eq_take]; congr 1; omega
theorem take_pre {α : Type} (l : List α) (k : Nat) (h : k ≤ l.length - 1) : l.take k = l.dropLast.take k := by
  rw [List.dropLast_eq_take, List.take_take, Nat.min_eq_left h]
theorem dropLast_take_snoc {l : List ByteArray} {k : Nat} (h : k + 1 < l.length) : l.dropLast.take (k + 1) = l.dropLast.take k ++ [l.getD k default] := by
  rw [take_snocD default _ k (by simp; omega)]
  congr 2
  simp only [List.getD]
  rw [List.dropLast_eq_take, List.getElem?_take, if_pos (by omega)]
theorem len_three {α : Type} {l : List α} (h : l.length = 3) : ∃ a b c, l = [a, b, c] := by
  match l, h with
  | [a, b, c], _ => exact ⟨a, b, c, rfl⟩

theorem getLastD_at {l : List ByteArray} (h : l ≠ []) : l.getLastD default = l.getD (l.length - 1) default := by
  cases l with
  | nil => exact absurd rfl h
  | cons a r => rw [List.getLastD_eq_getLast?, List.getLast?_eq_getElem?]; rfl

end Go.Proofs.YtgiimcdjojjbmaaGreatDoor
