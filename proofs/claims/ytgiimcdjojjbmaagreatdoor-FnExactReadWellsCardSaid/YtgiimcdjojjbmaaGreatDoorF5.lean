/- spec.l01Number; the pieces of a text as a function. -/
import Derived.Test.YtgiimcdjojjbmaaGreatDoorF4
namespace Go.Proofs.YtgiimcdjojjbmaaGreatDoor
open Go Go.RowKit

set_option maxHeartbeats 2000000 in
set_option maxRecDepth 100000 in
theorem l01Number_any (t : ByteArray) (w : World) (hs : t.size ≤ 1048576) : Calls Tryz.prog 22 #[.string t] w
    fun e w' => e = .returned (.tuple #[.int .i64 (((decRead t).getD 0 : Nat) : Int), .bool (decRead t).isSome]) ∧ w = w' := by
  have hlen := size_toList t
  by_cases hbad : t.size < 1 ∨ 9 < t.size ∨ (t.data.toList.head? = some 48 ∧ 1 < t.size)
  · have hN : decRead t = none := by unfold decRead; rw [if_pos hbad]
    rw [hN]
    clear hN
    by_cases h1 : t.size < 1
    · clear hbad
      go_enter Tryz.func22, Tryz.ntmps22
      go_wp2
      go_ret2
      exact ⟨rfl, rfl⟩
    · by_cases h9 : 9 < t.size
      · clear hbad
        go_enter Tryz.func22, Tryz.ntmps22
        go_wp2
        go_ret2
        exact ⟨rfl, rfl⟩
      · obtain ⟨hh, h1'⟩ : t.data.toList.head? = some 48 ∧ 1 < t.size := by
          rcases hbad with h | h | h
          · exact absurd h h1
          · exact absurd h h9
          · exact h
        have h0 : (t[0]'(by omega)) = 48 := by
          have : t.data.toList.head? = some (t[0]'(by omega)) := by
            rw [List.head?_eq_getElem?, List.getElem?_eq_getElem (by omega)]; rfl
          rw [hh] at this
          exact (Option.some.inj this).symm
        have h0i : ((t[0]'(by omega)).toNat : Int) = 48 := by rw [h0]; rfl
        clear hbad hh h0
        go_enter Tryz.func22, Tryz.ntmps22
        go_wp2
        go_ret2
        exact ⟨rfl, rfl⟩
  · have h1 : 1 ≤ t.size := by omega
    have h00 : 0 < t.size := h1
    have h9 : t.size ≤ 9 := by omega
    have h0 : 1 < t.size → ¬ ((t[0]'h00).toNat : Int) = 48 := fun h e => by
      refine hbad (.inr (.inr ⟨?_, h⟩))
      rw [List.head?_eq_getElem?, List.getElem?_eq_getElem (by omega)]
      show some (t[0]'h00) = some 48
      congr 1
      exact UInt8.toNat_inj.1 (by have : (48 : UInt8).toNat = 48 := rfl
                                  rw [this]; omega)
    have hR : decRead t = decVal t.data.toList 0 := by unfold decRead; rw [if_neg hbad]
    obtain ⟨o, ho⟩ : ∃ o, o = decRead t := ⟨_, rfl⟩
    rw [← ho]
    rw [hR] at ho
    have HO := Lib.hid ho
    clear ho hR hbad
    have step : ∀ (Q : Prop), (t.size = 1 → Q) → (1 < t.size → Q) → Q := fun Q a b => by
      by_cases h : 1 < t.size
      · exact b h
      · exact a (by omega)
    go_enter Tryz.func22, Tryz.ntmps22
    by_cases hgt : 1 < t.size
    all_goals
      first
        | have h0' := h0 hgt
        | skip
      clear h0 step
      go_wp2
      all_goals
        go_loopw [5, 4] (fun i n wr => ∃ k m : Nat, k ≤ t.size ∧ i = .int .i64 k ∧ n = .int .i64 m ∧ Hid (decVal (t.data.toList.take k) 0 = some m) ∧ m < 10 ^ k ∧ wr = w) (fun i _ _ => t.size - (intOf i).toNat)
        case atStart => exact ⟨0, 0, by omega, rfl, rfl, rfl, by decide, rfl⟩
        case round =>
          obtain ⟨k, m, hk, rfl, rfl, HM, hm, rfl⟩ := hrel
          have hp : (10 : Nat) ^ k ≤ 10 ^ 9 := Nat.pow_le_pow_right (by omega) (by omega)
          have hm9 : m < 1000000000 := by omega
          clear hp
          by_cases hlt : k < t.size
          · obtain ⟨c, hc⟩ : ∃ c, c = t[k]'(by omega) := ⟨_, rfl⟩
            have hT := decVal_take t.data.toList k (by omega)
            rw [HM.out, show t.data.toList[k]'(by omega) = c from by rw [hc]; rfl] at hT
            simp only [Option.bind_some] at hT
            have HT := Lib.hid hT
            have HM2 := Lib.hid hm
            clear hT hm
            by_cases hd : 48 ≤ c.toNat ∧ c.toNat ≤ 57
            · obtain ⟨hd1, hd2⟩ := hd
              have hi1 : 48 ≤ ((t[k]'(by omega)).toNat : Int) := by rw [← hc]; omega
              have hi2 : ((t[k]'(by omega)).toNat : Int) ≤ 57 := by rw [← hc]; omega
              go_wp2
              go_roundw
              case rel =>
                refine ⟨k + 1, m * 10 + (c.toNat - 48), by omega, by go_num, ?_, ?_, ?_, by first | rfl | trivial⟩
                · simp only [Value.int.injEq, true_and, ← hc]; omega
                · have := HT.out
                  rw [if_pos ⟨hd1, hd2⟩] at this
                  exact this
                · have := HM2.out
                  rw [Nat.pow_succ]; omega
              case measure => simp [intOf]; omega
            · obtain rfl : o = none := by
                rw [HO.out]
                have := HT.out
                rw [if_neg hd] at this
                exact decVal_none _ _ this
              by_cases hlo : 48 ≤ c.toNat
              · have hi1 : 48 ≤ ((t[k]'(by omega)).toNat : Int) := by rw [← hc]; omega
                have hi2 : 57 < ((t[k]'(by omega)).toNat : Int) := by rw [← hc]; omega
                go_wp2
                go_ret2
                exact ⟨rfl, rfl⟩
              · have hi1 : ((t[k]'(by omega)).toNat : Int) < 48 := by rw [← hc]; omega
                go_wp2
                go_ret2
                exact ⟨rfl, rfl⟩
          · obtain rfl : o = some m := by
              rw [HO.out]
              have := HM.out
              rwa [List.take_of_length_le (by omega)] at this
            go_wp2
            go_ret2
            exact ⟨rfl, rfl⟩
end Go.Proofs.YtgiimcdjojjbmaaGreatDoor
