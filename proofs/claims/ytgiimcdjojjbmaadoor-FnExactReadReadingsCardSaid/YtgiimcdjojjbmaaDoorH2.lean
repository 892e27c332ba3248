/- impl.isMoment, impl.timesOk, impl.ValidReadings. -/
import Derived.Test.YtgiimcdjojjbmaaDoorH1
import Derived.Maps.AppendAt
import Derived.OwnWalk
namespace Go.Proofs.YtgiimcdjojjbmaaDoor
open Go Go.RowKit

theorem isMoment_any (a : Int) (w : World) : Calls Tryd.prog 83 #[.int .i64 a] w
    fun e w' => e = .returned (.bool (inB a 1 100000)) ∧ w = w' := by
  go_enter Tryd.func83, Tryd.ntmps83
  go_wp2_with (go_at_call 52; refine (in_any _ _ _ _).mono ?_; rintro e w' ⟨rfl, rfl⟩)
  go_ret
  exact ⟨rfl, rfl⟩

theorem okAt_zero (L : List Rd) : okAt L 0 = inB (L.getD 0 default).t 1 100000 := rfl
theorem okAt_pos (L : List Rd) (k : Nat) (h : 0 < k) : okAt L k = inB (L.getD k default).t ((L.getD (k - 1) default).t + 1) 100000 := by
  unfold okAt prevT; rw [if_neg (by omega)]
theorem okAt_low {L : List Rd} {k : Nat} (h : okAt L k = true) (hp : k = 0 ∨ 0 ≤ (L.getD (k - 1) default).t) : 1 ≤ (L.getD k default).t := by
  unfold okAt prevT inB at h
  simp only [Bool.and_eq_true, decide_eq_true_eq] at h
  split at h
  · omega
  · omega
theorem okAt_lows {L : List Rd} {k : Nat} (h : ∀ j, j < k → okAt L j = true) : ∀ j, j < k → 1 ≤ (L.getD j default).t := by
  intro j
  induction j with
  | zero => intro hj; exact okAt_low (h 0 hj) (.inl rfl)
  | succ j ih => intro hj; exact okAt_low (h (j + 1) hj) (.inr (by have := ih (by omega); simpa using (by omega : (0 : Int) ≤ (L.getD j default).t)))

set_option maxHeartbeats 2000000 in
set_option maxRecDepth 100000 in
theorem timesOk_any (L : List Rd) (g : Option Nat) (c : Nat) (w : World) (hlen : L.length ≤ 4611686018427387904) (hg : L ≠ [] → ∃ b, g = some b ∧ ∀ k, k < L.length → w.cell? ⟨b, k, none⟩ = some (.int .i64 (L.getD k default).t)) :
    Calls Tryd.prog 64 #[.slice (g.map fun b => ⟨b, 0, none⟩) L.length c] w
    fun e w' => e = .returned (.bool (decide (L.length ≤ 40) && rdsB L)) ∧ w = w' := by
  by_cases h0 : L = []
  · subst h0
    clear hg
    simp only [List.length_nil]
    go_enter Tryd.func64, Tryd.ntmps64
    go_wp2_with fail
    refine wp_loop_rounds 1 ?_
    rw [rounds_succ]
    go_wp2_with fail
    go_ret
    exact ⟨rfl, rfl⟩
  · obtain ⟨b, rfl, hat⟩ := hg h0
    simp only [Option.map_some]
    have HAT := Lib.hid hat
    obtain ⟨r, hr⟩ : ∃ r, r = (decide (L.length ≤ 40) && rdsB L) := ⟨_, rfl⟩
    rw [← hr]
    have HR := Lib.hid hr
    clear hat h0 hr hg
    go_enter Tryd.func64, Tryd.ntmps64
    go_wp2_with fail
    go_loop [7] (fun i => ∃ (k : Nat), k ≤ L.length ∧ i = .int .i64 k ∧ Hid (∀ j, j < k → okAt L j = true)) (fun i => L.length - (intOf i).toNat)
    case atStart => exact ⟨0, Nat.zero_le _, rfl, fun j hj => by omega⟩
    case round =>
      obtain ⟨k, hk, rfl, HA⟩ := hrel
      by_cases hlt : k < L.length
      · have h1 := HAT.out k hlt
        obtain ⟨p, hp⟩ : ∃ p, p = L.getD k default := ⟨_, rfl⟩
        rw [← hp] at h1
        have HP := Lib.hid hp
        have hnext : okAt L k = true → ∀ j, j < k + 1 → okAt L j = true := fun h j hj => by
          rcases Nat.lt_or_ge j k with h' | h'
          · exact HA.out j h'
          · obtain rfl : j = k := by omega
            exact h
        have HNX := Lib.hid hnext
        have HLW := Lib.hid (okAt_lows HA.out)
        clear hp hnext
        cases hin : inB p.t 1 100000
        · have HI0 := isMoment_any p.t w
          rw [hin] at HI0
          have HI := Lib.hid HI0
          have HN := Lib.hid hin
          clear hin HI0
          go_wp2_with (go_at_call 83; refine HI.out.mono ?_; rintro e w2 ⟨rfl, rfl⟩)
          go_ret
          refine ⟨?_, rfl⟩
          have hbad : okAt L k = false := by
            have h2 := HN.out
            unfold okAt prevT
            rw [← HP.out]
            unfold inB at h2 ⊢
            by_cases hk0 : k = 0
            · rw [if_pos hk0]; exact h2
            · rw [if_neg hk0]
              have h3 := HLW.out (k - 1) (by omega)
              simp only [Bool.and_eq_false_iff, decide_eq_false_iff_not] at h2 ⊢
              omega
          rw [HR.out, rdsB_hit hlt hbad]
          simp
        · have HI0 := isMoment_any p.t w
          rw [hin] at HI0
          have HI := Lib.hid HI0
          have hb2 : 1 ≤ p.t ∧ p.t ≤ 100000 := by unfold inB at hin; simpa using hin
          clear hin HI0
          by_cases hk0 : k = 0
          · subst hk0
            have hok : okAt L 0 = true := by rw [okAt_zero, ← HP.out]; unfold inB; simp; omega
            have HOK := Lib.hid hok
            clear hok
            go_wp2_with (go_at_call 83; refine HI.out.mono ?_; rintro e w2 ⟨rfl, rfl⟩)
            go_round
            case rel => exact ⟨1, by omega, by go_num, HNX.out HOK.out⟩
            case measure => simp [intOf]; omega
          · have hidx : ((k : Int) - 1).toNat = k - 1 := by omega
            have hk1 : 1 ≤ k := by omega
            have h2 := HAT.out (k - 1) (by omega)
            obtain ⟨q, hq⟩ : ∃ q, q = L.getD (k - 1) default := ⟨_, rfl⟩
            rw [← hq] at h2
            have hq1 : 1 ≤ q.t := by rw [hq]; exact HLW.out (k - 1) (by omega)
            have hok : okAt L k = inB p.t (q.t + 1) 100000 := by rw [okAt_pos L k (by omega), ← HP.out, hq]
            have HOK := Lib.hid hok
            clear hok hq hk0
            by_cases hpq : q.t < p.t
            · have hd : decide (p.t ≤ q.t) = false := by rw [decide_eq_false_iff_not]; omega
              have hok2 : okAt L k = true := by rw [HOK.out]; unfold inB; simp; omega
              have HOK2 := Lib.hid hok2
              clear hok2
              go_wp2_with (go_at_call 83; refine HI.out.mono ?_; rintro e w2 ⟨rfl, rfl⟩)
              go_round
              case rel => exact ⟨k + 1, by omega, by go_num, HNX.out HOK2.out⟩
              case measure => simp [intOf]; omega
            · have hd : decide (p.t ≤ q.t) = true := by rw [decide_eq_true_eq]; omega
              go_wp2_with (go_at_call 83; refine HI.out.mono ?_; rintro e w2 ⟨rfl, rfl⟩)
              go_ret
              refine ⟨?_, rfl⟩
              have hbad : okAt L k = false := by rw [HOK.out]; unfold inB; simp; omega
              rw [HR.out, rdsB_hit hlt hbad]
              simp
      · go_wp2_with fail
        go_ret
        refine ⟨?_, rfl⟩
        rw [HR.out, rdsB_all fun j hj => HA.out j (by omega), Bool.and_true]
        simp
        omega
end Go.Proofs.YtgiimcdjojjbmaaDoor
