/- impl.ReadPermits. -/
import Derived.Test.YtgiimcdjojjbmaaGreatDoorF9
import Derived.Test.YtgiimcdjojjbmaaGreatDoorC4
namespace Go.Proofs.YtgiimcdjojjbmaaGreatDoor
open Go Go.RowKit

/-- The permit that words spell, whatever they are. -/
def pmOfWords (ws : List ByteArray) : Pm := ⟨numVal (ws.getD 0 default) 0 7, numVal (ws.getD 1 default) 0 63, numVal (ws.getD 2 default) 0 400⟩

theorem pmOfWords_fine (ws : List ByteArray) : (pmOfWords ws).fine := by
  have h1 := numVal_range (ws.getD 0 default) 0 7 (by omega) (by omega)
  have h2 := numVal_range (ws.getD 1 default) 0 63 (by omega) (by omega)
  have h3 := numVal_range (ws.getD 2 default) 0 400 (by omega) (by omega)
  unfold Pm.fine pmOfWords
  simp only
  omega

theorem pmOfWords_words {p : Pm} (h : p.fine) : pmOfWords (pmWords p) = p := by
  unfold Pm.fine at h
  unfold pmOfWords pmWords
  simp only [List.getD_cons_zero, List.getD_cons_succ]
  rw [numVal_dec (by omega) (by omega) (by omega), numVal_dec (by omega) (by omega) (by omega), numVal_dec (by omega) (by omega) (by omega)]
  cases p
  simp only [Pm.mk.injEq] at *
  omega

theorem permText_fine {out : List Pm} (hf : ∀ p ∈ out, p.fine) (h6 : out.length ≤ 6) : permText out = pmText out := by
  unfold permText
  rw [if_pos]
  rw [decide_eq_true h6, Bool.true_and]
  simp only [anyPm, Bool.not_eq_true', List.any_eq_false]
  intro p hp
  rw [(hf p hp).notBad]; simp

/-- What impl.ReadPermits returns, by the words: it is what the reference returns. -/
theorem permOut_words (t : ByteArray) : permOut t = match lw 3 6 t [] with
    | none => ([], 5)
    | some L => if L.length ≤ 6 ∧ pmText (L.map pmOfWords) = t then (L.map pmOfWords, 0) else ([], 5) := by
  unfold permOut
  cases hr : permRead t with
  | some D =>
    obtain ⟨ht, hf, h6⟩ := text_of_read hr
    have hl := lw_text h6
    rw [← ht] at hl
    rw [hl]
    have hm : (D.map pmWords).map pmOfWords = D := by
      rw [List.map_map]
      conv => rhs; rw [← List.map_id D]
      apply List.map_congr_left
      intro p hp
      exact pmOfWords_words (hf p hp)
    simp only
    rw [hm, if_pos ⟨by simpa using h6, ht.symm⟩]
  | none =>
    cases hl : lw 3 6 t [] with
    | none => rfl
    | some L =>
      simp only
      rw [if_neg]
      rintro ⟨h6, ht⟩
      have := permRead_text (L := L.map pmOfWords) (fun p hp => by
        obtain ⟨ws, _, rfl⟩ := List.mem_map.1 hp
        exact pmOfWords_fine ws) (by simpa using h6)
      rw [ht, hr] at this
      cases this
end Go.Proofs.YtgiimcdjojjbmaaGreatDoor
