/- What ReadWave returns: over strings.Cut at a space; spec.ReadWave. -/
import Derived.Test.YtgiimcdjojjbmaaGreatDoorD2
import Derived.Lib.CutLaws
import Derived.Lib.IndexBytes
namespace Go.Proofs.YtgiimcdjojjbmaaGreatDoor
open Go Go.RowKit

theorem indexByte_free {c : UInt8} : ∀ {a : List UInt8}, c ∉ a → Lib.indexByte a c = -1
  | [], _ => rfl
  | x :: r, h => by
    have h1 : ¬ x = c := fun e => h (by rw [e]; simp)
    have h2 := indexByte_free (a := r) (c := c) (fun e => h (List.mem_cons_of_mem _ e))
    unfold Lib.indexByte
    simp [h1, h2]

theorem indexByte_hit {c : UInt8} {b : List UInt8} : ∀ {a : List UInt8}, c ∉ a → Lib.indexByte (a ++ c :: b) c = a.length
  | [], _ => by unfold Lib.indexByte; simp
  | x :: r, h => by
    have h1 : ¬ x = c := fun e => h (by rw [e]; simp)
    have h2 := indexByte_hit (b := b) (a := r) (c := c) (fun e => h (List.mem_cons_of_mem _ e))
    rw [List.cons_append]
    unfold Lib.indexByte
    rw [h2]
    simp [h1]

theorem index_free {c : UInt8} {a : List UInt8} (h : c ∉ a) : Lib.index a [c] = -1 := by rw [Lib.index_one, indexByte_free h]
theorem index_at {c : UInt8} {a b : List UInt8} (h : c ∉ a) : Lib.index (a ++ c :: b) [c] = a.length := by rw [Lib.index_one, indexByte_hit h]

theorem cut_free {c : UInt8} {a : List UInt8} (h : c ∉ a) : Lib.cut a [c] = (a, [], false) := by
  unfold Lib.cut; rw [index_free h, if_neg (by omega)]
theorem cut_at {c : UInt8} {a b : List UInt8} (h : c ∉ a) : Lib.cut (a ++ c :: b) [c] = (a, b, true) := by
  unfold Lib.cut; rw [index_at h, if_pos (by omega)]
  simp

def cutA (t : ByteArray) : ByteArray := ⟨(Lib.cut t.data.toList [32]).1.toArray⟩
def cutB (t : ByteArray) : ByteArray := ⟨(Lib.cut t.data.toList [32]).2.1.toArray⟩

theorem len_two {α : Type} {l : List α} (h : l.length = 2) : ∃ a b, l = [a, b] := by
  match l, h with
  | [a, b], _ => exact ⟨a, b, rfl⟩

def waveOut (a b : ByteArray) : Nat × Nat × Int := match numRead a, numRead b with
  | some x, some y => (x, y, 0)
  | _, _ => (0, 0, 5)

theorem numRead_blank {t : ByteArray} (h : (32 : UInt8) ∈ t.data.toList) : numRead t = none := by
  have : ∀ (l : List UInt8) (n : Nat), (32 : UInt8) ∈ l → hexVal l n = none := by
    intro l
    induction l with
    | nil => intro n h; cases h
    | cons c r ih =>
      intro n h
      unfold hexVal
      rcases List.mem_cons.1 h with h | h
      · rw [← h]; rfl
      · cases hexD c with
        | none => rfl
        | some d => exact ih _ h
  unfold numRead hexRead
  split
  · rw [this _ _ h]; rfl
  · rfl
theorem numRead_empty {t : ByteArray} (h : t.size ≠ 8) : numRead t = none := by
  unfold numRead hexRead; rw [if_neg h]; rfl

theorem cut_two {t a b : ByteArray} (h : SplitOf 32 t [a, b]) : cutA t = a ∧ cutB t = b := by
  obtain ⟨h1, h2⟩ := h
  have hab : t.data.toList = a.data.toList ++ 32 :: b.data.toList := by
    rw [flat_cons, flat_cons] at h1
    have h3 : (a.data.toList ++ 32 :: b.data.toList) ++ [32] = t.data.toList ++ [32] := by rw [← h1]; simp [flat]
    exact (List.append_cancel_right h3).symm
  unfold cutA cutB
  rw [hab, cut_at (h2 a (by simp))]
  exact ⟨rfl, rfl⟩

theorem flat_end (c : UInt8) : ∀ (ps : List ByteArray), ps ≠ [] → ∃ z, flat c ps = z ++ [c]
  | [], h => absurd rfl h
  | [p], _ => ⟨p.data.toList, by simp [flat]⟩
  | p :: q :: r, _ => by
    obtain ⟨z, hz⟩ := flat_end c (q :: r) (by simp)
    exact ⟨p.data.toList ++ c :: z, by rw [flat_cons, hz]; simp⟩

theorem cut_other {t : ByteArray} {ps : List ByteArray} (h : SplitOf 32 t ps) (hn : ps.length ≠ 2) : waveOut (cutA t) (cutB t) = (0, 0, 5) := by
  have hB : numRead (cutB t) = none := by
    match ps, h, hn with
    | [], h, _ => exact absurd rfl h.ne
    | [p], h, _ =>
      obtain ⟨h1, h2⟩ := h
      have hp : t.data.toList = p.data.toList := by
        rw [flat_cons] at h1
        have h3 : p.data.toList ++ [32] = t.data.toList ++ [32] := by rw [← h1]; simp [flat]
        exact (List.append_cancel_right h3).symm
      unfold cutB
      rw [hp, cut_free (h2 p (by simp))]
      exact numRead_empty (by show ([] : List UInt8).toArray.size ≠ 8; decide)
    | p :: q :: r :: l, h, _ =>
      obtain ⟨h1, h2⟩ := h
      obtain ⟨z, hz⟩ := flat_end 32 (r :: l) (by simp)
      have hp : t.data.toList = p.data.toList ++ 32 :: (q.data.toList ++ 32 :: z) := by
        rw [flat_cons, flat_cons, hz] at h1
        have h3 : (p.data.toList ++ 32 :: (q.data.toList ++ 32 :: z)) ++ [32] = t.data.toList ++ [32] := by rw [← h1]; simp
        exact (List.append_cancel_right h3).symm
      unfold cutB
      rw [hp, cut_at (h2 p (by simp))]
      exact numRead_blank (by simp)
  unfold waveOut
  rw [hB]
  cases numRead (cutA t) <;> rfl

theorem waveOut_none {a b : ByteArray} (h : numRead a = none ∨ numRead b = none) : waveOut a b = (0, 0, 5) ∧ ((numOut a).2 = 5 ∨ (numOut b).2 = 5) := by
  unfold waveOut numOut
  rcases h with h | h
  · rw [h]; exact ⟨rfl, .inl rfl⟩
  · rw [h]; cases numRead a <;> exact ⟨rfl, .inr rfl⟩

theorem numOut_code (a : ByteArray) : (numRead a = none ∧ numOut a = (0, 5)) ∨ ∃ x, numRead a = some x ∧ numOut a = (x, 0) := by
  unfold numOut
  cases numRead a with
  | none => exact .inl ⟨rfl, rfl⟩
  | some x => exact .inr ⟨x, rfl, rfl⟩

end Go.Proofs.YtgiimcdjojjbmaaGreatDoor
