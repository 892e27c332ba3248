/- The digits of base sixteen that the library lays. -/
import Derived.Test.YtgiimcdjojjbmaaGreatDoorD1
import Derived.Test.YtgiimcdjojjbmaaGreatDoorD2
namespace Go.Proofs.YtgiimcdjojjbmaaGreatDoor
open Go Go.RowKit

def hexC (d : Nat) : UInt8 := if d < 10 then UInt8.ofNat (48 + d) else UInt8.ofNat (87 + d)
theorem hexC_nat (d : Nat) (h : d < 16) : (hexC d).toNat = if d < 10 then 48 + d else 87 + d := by
  unfold hexC
  split <;> simp [UInt8.toNat_ofNat'] <;> omega
theorem hexD_hexC (d : Nat) (h : d < 16) : hexD (hexC d) = some d := by
  unfold hexD
  rw [hexC_nat d h]
  by_cases h10 : d < 10
  · rw [if_pos h10, if_pos (by omega)]; congr 1; omega
  · rw [if_neg h10, if_neg (by omega), if_pos (by omega)]; congr 1; omega
theorem hexC_hexD {c : UInt8} {d : Nat} (h : hexD c = some d) : c = hexC d := by
  have hd := hexD_lt h
  apply UInt8.toNat_inj.1
  rw [hexC_nat d hd]
  unfold hexD at h
  split at h
  · simp only [Option.some.injEq] at h; rw [if_pos (by omega)]; omega
  · split at h
    · simp only [Option.some.injEq] at h; rw [if_neg (by omega)]; omega
    · cases h

def hexDigs (n : Nat) : List UInt8 := if h : n < 16 then [hexC n] else hexDigs (n / 16) ++ [hexC (n % 16)]
theorem hexDigs_small {n : Nat} (h : n < 16) : hexDigs n = [hexC n] := by rw [hexDigs, dif_pos h]
theorem hexDigs_big {n : Nat} (h : ¬ n < 16) : hexDigs n = hexDigs (n / 16) ++ [hexC (n % 16)] := by rw [hexDigs, dif_neg h]
theorem hexDigs_pos (n : Nat) : 1 ≤ (hexDigs n).length := by
  by_cases h : n < 16
  · rw [hexDigs_small h]; simp
  · rw [hexDigs_big h]; simp
theorem hexDigs_two {n : Nat} (h : ¬ n < 16) : 2 ≤ (hexDigs n).length := by
  rw [hexDigs_big h]
  have := hexDigs_pos (n / 16)
  simp; omega
theorem hexDigs_len : ∀ (k n : Nat), n < 16 ^ (k + 1) → (hexDigs n).length ≤ k + 1
  | 0, n, h => by rw [hexDigs_small (by simpa using h)]; simp
  | k + 1, n, h => by
    by_cases hn : n < 16
    · rw [hexDigs_small hn]; simp
    · rw [hexDigs_big hn]
      have := hexDigs_len k (n / 16) (by rw [Nat.div_lt_iff_lt_mul (by omega)]; rw [Nat.pow_succ] at h; exact h)
      simp; omega
theorem hexVal_digs (n : Nat) : hexVal (hexDigs n) 0 = some n := by
  induction n using Nat.strongRecOn with
  | _ n ih =>
    by_cases h : n < 16
    · rw [hexDigs_small h]; simp [hexVal, hexD_hexC n h]
    · rw [hexDigs_big h, hexVal_append, ih (n / 16) (by omega)]
      simp [hexVal, hexD_hexC (n % 16) (by omega)]
      omega
theorem hexVal_zeros (k : Nat) (l : List UInt8) : hexVal (List.replicate k 48 ++ l) 0 = hexVal l 0 := by
  induction k with
  | zero => rfl
  | succ k ih =>
    rw [List.replicate_succ, List.cons_append]
    have : hexD 48 = some 0 := by decide
    simp only [hexVal, this, Option.bind_some]
    simpa using ih

/-- The text of a number of 32 bits. -/
def hexText (n : Nat) : ByteArray := ⟨(List.replicate (8 - (hexDigs n).length) 48 ++ hexDigs n).toArray⟩
theorem hexText_read {n : Nat} (h : n < 4294967296) : hexRead (hexText n) = some n := by
  have hl := hexDigs_len 7 n (by simpa using h)
  unfold hexRead
  have hs : (hexText n).size = 8 := by
    show (List.replicate (8 - (hexDigs n).length) 48 ++ hexDigs n).toArray.size = 8
    simp; omega
  rw [if_pos hs]
  show hexVal (List.replicate (8 - (hexDigs n).length) 48 ++ hexDigs n) 0 = some n
  rw [hexVal_zeros, hexVal_digs]

theorem hexVal_snoc_inj {a b : List UInt8} {n m v : Nat} (hl : a.length = b.length) (ha : hexVal a n = some v) (hb : hexVal b m = some v) : a = b ∧ n = m := by
  induction a generalizing b n m with
  | nil =>
    cases b with
    | nil => simp only [hexVal, Option.some.injEq] at ha hb; exact ⟨rfl, by omega⟩
    | cons => cases hl
  | cons c r ih =>
    cases b with
    | nil => cases hl
    | cons d s =>
      simp only [hexVal] at ha hb
      cases hc : hexD c with
      | none => rw [hc] at ha; cases ha
      | some x =>
        cases hd : hexD d with
        | none => rw [hd] at hb; cases hb
        | some y =>
          rw [hc] at ha
          rw [hd] at hb
          obtain ⟨h1, h2⟩ := ih (by simpa using hl) ha hb
          have hx := hexD_lt hc
          have hy := hexD_lt hd
          have : x = y := by omega
          subst this
          exact ⟨by rw [h1, hexC_hexD hc, hexC_hexD hd], by omega⟩

theorem hexRead_text {t : ByteArray} {n : Nat} (h : hexRead t = some n) : t = hexText n := by
  have hn := hexRead_lt h
  have h2 := hexText_read hn
  unfold hexRead at h h2
  split at h
  · rename_i h8
    split at h2
    · rename_i h8'
      apply bytes_ext
      exact (hexVal_snoc_inj (by rw [size_toList, size_toList, h8, h8']) h h2).1
    · cases h2
  · cases h

/-- What NumberText hands back: the text of the one pattern. -/
theorem numRead_iff {t : ByteArray} {b : Nat} : numRead t = some b ↔ (b < 4294967296 ∧ canon b = b ∧ t = hexText b) := by
  constructor
  · intro h
    obtain ⟨h1, h2⟩ := numRead_hex h
    exact ⟨hexRead_lt h1, h2, hexRead_text h1⟩
  · rintro ⟨h1, h2, rfl⟩
    unfold numRead
    rw [hexText_read h1]
    simp [h2]
end Go.Proofs.YtgiimcdjojjbmaaGreatDoor
