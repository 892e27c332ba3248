/- lineWords at a text of lines of words. -/
import Derived.Test.YtgiimcdjojjbmaaGreatDoorF8
namespace Go.Proofs.YtgiimcdjojjbmaaGreatDoor
open Go Go.RowKit

theorem splitK_words : ∀ (ws : List ByteArray) (s : List UInt8) (k : Nat), ws ≠ [] → flat 32 ws = s ++ [32] → (∀ p ∈ ws, (32 : UInt8) ∉ p.data.toList) → ws.length - 1 ≤ k → Lib.splitK [32] 0 k s = ws.map (·.data.toList)
  | [], _, _, h, _, _, _ => absurd rfl h
  | [p], s, k, _, hf, hfree, _ => by
    have hs : s = p.data.toList := by
      rw [flat_cons] at hf
      have h2 : p.data.toList ++ [32] = s ++ [32] := by rw [← hf]; simp [flat]
      exact (List.append_cancel_right h2).symm
    rw [hs]
    cases k with
    | zero => rfl
    | succ k =>
      unfold Lib.splitK
      rw [index_free (hfree p (by simp))]
      rfl
  | p :: q :: r, s, k, _, hf, hfree, hk => by
    obtain ⟨z, hz⟩ := flat_end 32 (q :: r) (by simp)
    have hs : s = p.data.toList ++ 32 :: z := by
      rw [flat_cons, hz] at hf
      have h2 : (p.data.toList ++ 32 :: z) ++ [32] = s ++ [32] := by rw [← hf]; simp
      exact (List.append_cancel_right h2).symm
    have ih := splitK_words (q :: r) z (k - 1) (by simp) hz (fun x hx => hfree x (by simp [hx])) (by simp at hk ⊢; omega)
    obtain ⟨k', rfl⟩ : ∃ k', k = k' + 1 := ⟨k - 1, by simp at hk; omega⟩
    unfold Lib.splitK
    rw [hs, index_at (hfree p (by simp))]
    rw [if_neg (by rw [beq_iff_eq]; omega)]
    simp only [Int.toNat_natCast, Nat.add_zero, List.length_singleton, List.map_cons]
    rw [List.take_left', show (p.data.toList ++ 32 :: z).drop (p.data.toList.length + 1) = z from by rw [show p.data.toList ++ 32 :: z = (p.data.toList ++ [32]) ++ z from by simp, List.drop_left' (by simp)]]
    · simp only [Nat.add_sub_cancel] at ih
      rw [ih]; rfl
    · rfl

theorem flat_len (c : UInt8) : ∀ ws : List ByteArray, ws.length ≤ (flat c ws).length
  | [] => by simp [flat]
  | p :: r => by
    rw [flat_cons]
    have := flat_len c r
    simp only [List.length_append, List.length_cons]
    omega

theorem trim_line (b : ByteArray) (ln : ByteArray) (h : ln.data.toList = b.data.toList ++ [10]) : trimmed ln = b := by
  apply bytes_ext
  show (Lib.trimSuffix ln.data.toList [10]) = b.data.toList
  unfold Lib.trimSuffix Lib.hasSuffix
  rw [h, if_pos (by rw [List.isSuffixOf_iff_suffix]; exact List.suffix_append _ _)]
  simp

theorem wordsOf_line {b ln : ByteArray} {ws : List ByteArray} (hs : SplitOf 32 b ws) (h : ln.data.toList = b.data.toList ++ [10]) : wordsOf ws.length ln = ws := by
  unfold wordsOf
  rw [trim_line b ln h]
  have h1 := flat_len 32 ws
  rw [hs.1] at h1
  simp only [List.length_append, List.length_singleton, size_toList] at h1
  have h2 := Lib.splitB_data ⟨#[32]⟩ 0 (min ws.length b.size) b
  rw [show (⟨#[32]⟩ : ByteArray).data.toList = [32] from rfl, splitK_words ws b.data.toList (min ws.length b.size) hs.ne hs.1 hs.2 (by omega)] at h2
  have key : ∀ (x y : List ByteArray), x.map (·.data.toList) = y.map (·.data.toList) → x = y := by
    intro x
    induction x with
    | nil => intro y h; cases y with
      | nil => rfl
      | cons => simp at h
    | cons a r ih => intro y h; cases y with
      | nil => simp at h
      | cons c q =>
        simp only [List.map_cons, List.cons.injEq] at h
        rw [bytes_ext h.1, ih q h.2]
  exact key _ _ h2

theorem lineA_of {t : ByteArray} {a z : List UInt8} (h : t.data.toList = a ++ 10 :: z) (hf : (10 : UInt8) ∉ a) : (lineA t).data.toList = a ++ [10] ∧ (lineB t).data.toList = z := by
  have hi : Lib.indexByte t.data.toList 10 = a.length := by rw [h, indexByte_hit hf]
  unfold lineA lineB
  rw [hi, if_pos (by omega), if_pos (by omega), Int.toNat_natCast, extract_list, extract_list, h]
  constructor
  · rw [List.drop_zero, show a ++ 10 :: z = (a ++ [10]) ++ z from by simp, List.take_left' (by simp)]
  · rw [show t.size = (a ++ 10 :: z).length from by rw [← h, size_toList], List.take_length, show a ++ 10 :: z = (a ++ [10]) ++ z from by simp, List.drop_left' (by simp)]

theorem lw_lines {α : Type} (body : α → ByteArray) (words : α → List ByteArray) (many most : Nat) : ∀ (L : List α) (t : ByteArray) (acc : List (List ByteArray)), t.data.toList = flat 10 (L.map body) →
    (∀ p ∈ L, (10 : UInt8) ∉ (body p).data.toList ∧ SplitOf 32 (body p) (words p) ∧ (words p).length = many) → acc.length + L.length ≤ most → lw many most t acc = some (acc ++ L.map words)
  | [], t, acc, h, _, _ => by
    have : t = ⟨#[]⟩ := bytes_ext (by rw [h]; rfl)
    rw [this, lw_nil]; simp
  | p :: r, t, acc, h, hall, hlen => by
    obtain ⟨hf, hsp, hwl⟩ := hall p (by simp)
    rw [List.map_cons, flat_cons] at h
    obtain ⟨hA, hB⟩ := lineA_of h hf
    have hpos : 0 < t.size := by rw [← size_toList, h]; simp; omega
    have hwo : wordsOf many (lineA t) = words p := by rw [← hwl]; exact wordsOf_line hsp hA
    simp only [List.length_cons] at hlen
    rw [lw_next hpos (by rw [hwo, hwl]; omega), hwo]
    rw [lw_lines body words many most r (lineB t) (acc ++ [words p]) hB (fun x hx => hall x (by simp [hx])) (by simp; omega)]
    simp

theorem lw_text {L : List Pm} (h6 : L.length ≤ 6) : lw 3 6 (pmText L) [] = some (L.map pmWords) := by
  have := lw_lines pmBody pmWords 3 6 L (pmText L) [] (pmText_list L) (fun p _ => ⟨pmBody_free p, pmBody_split p, rfl⟩) (by simpa using h6)
  simpa using this
end Go.Proofs.YtgiimcdjojjbmaaGreatDoor
