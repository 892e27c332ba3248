/- What lineWords hands back: bounds. -/
import Derived.Test.YtgiimcdjojjbmaaGreatDoorG1
namespace Go.Proofs.YtgiimcdjojjbmaaGreatDoor
open Go Go.RowKit

theorem splitB_size (sep : ByteArray) : ∀ (k : Nat) (s : ByteArray), ∀ x ∈ Lib.splitB sep 0 k s, x.size ≤ s.size
  | 0, s, x, hx => by
    rw [Lib.splitB_zero] at hx
    obtain rfl := List.mem_singleton.1 hx
    exact Nat.le_refl _
  | k + 1, s, x, hx => by
    unfold Lib.splitB at hx
    split at hx
    · obtain rfl := List.mem_singleton.1 hx
      exact Nat.le_refl _
    · rcases List.mem_cons.1 hx with rfl | hx
      · simp [ByteArray.size_extract]
        omega
      · have := splitB_size sep k _ x hx
        simp [ByteArray.size_extract] at this
        omega

theorem lw_props (many most : Nat) (rest : ByteArray) (acc L : List (List ByteArray)) (h : lw many most rest acc = some L) (hr : rest.size ≤ 1048576) (hl : acc.length ≤ most)
    (ha : ∀ ws ∈ acc, ws.length = many ∧ ∀ x ∈ ws, x.size ≤ 1048576) : L.length ≤ most ∧ ∀ ws ∈ L, ws.length = many ∧ ∀ x ∈ ws, x.size ≤ 1048576 := by
  induction hn : rest.size using Nat.strongRecOn generalizing rest acc with
  | _ n ih =>
    by_cases h0 : rest.size = 0
    · rw [lw, dif_pos h0] at h
      cases h
      exact ⟨hl, ha⟩
    · by_cases hb : (wordsOf many (lineA rest)).length ≠ many ∨ acc.length = most
      · rw [lw_bad (by omega) hb] at h; cases h
      · rw [lw_next (by omega) hb] at h
        refine ih _ (by rw [← hn]; exact lineB_lt rest (by omega)) (lineB rest) _ h (Nat.le_trans (lineB_size rest) hr) (by simp; omega) ?_ rfl
        intro ws hws
        rcases List.mem_append.1 hws with hws | hws
        · exact ha ws hws
        · obtain rfl := List.mem_singleton.1 hws
          refine ⟨by omega, fun x hx => ?_⟩
          have h1 := splitB_size _ _ _ x hx
          have h2 := trimmed_size (lineA rest)
          have h3 := lineA_size rest
          omega
end Go.Proofs.YtgiimcdjojjbmaaGreatDoor
