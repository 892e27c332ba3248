/- spec.l04Ok: whether times ascend, each a moment. -/
import Derived.Test.YtgiimcdjojjbmaaDoorH0
namespace Go.Proofs.YtgiimcdjojjbmaaDoor
open Go Go.RowKit

/-- The time ahead of the k-th reading. -/
def prevT (L : List Rd) (k : Nat) : Int := if k = 0 then 0 else (L.getD (k - 1) default).t
def okAt (L : List Rd) (k : Nat) : Bool := inB (L.getD k default).t (prevT L k + 1) 100000
/-- Times ascend, each a moment. -/
def rdsB (L : List Rd) : Bool := (List.range L.length).all (okAt L)
theorem rdsB_hit {L : List Rd} {k : Nat} (hk : k < L.length) (h : okAt L k = false) : rdsB L = false := by
  unfold rdsB
  rw [List.all_eq_false]
  exact ⟨k, List.mem_range.2 hk, by rw [h]; simp⟩
theorem rdsB_all {L : List Rd} (h : ∀ k, k < L.length → okAt L k = true) : rdsB L = true := by
  unfold rdsB
  rw [List.all_eq_true]
  exact fun k hk => h k (List.mem_range.1 hk)
theorem rdsB_at {L : List Rd} (h : rdsB L = true) {k : Nat} (hk : k < L.length) : okAt L k = true := by
  unfold rdsB at h
  rw [List.all_eq_true] at h
  exact h k (List.mem_range.2 hk)

set_option maxHeartbeats 1000000 in
set_option maxRecDepth 100000 in
theorem l04Ok_any (L : List Rd) (v : Value) (w : World) (hv : RdSl w v L) (hlen : L.length ≤ 4611686018427387904) : Calls Tryd.prog 41 #[v] w
    fun e w' => e = .returned (.bool (decide (L.length ≤ 40) && rdsB L)) ∧ w = w' := by
  by_cases h40 : L.length ≤ 40
  · by_cases h0 : L = []
    · subst h0
      obtain ⟨a, c, rfl⟩ := hv.len
      clear hv h40
      simp only [List.length_nil]
      go_enter Tryd.func41, Tryd.ntmps41
      go_wp2
      refine wp_loop_rounds 1 ?_
      rw [rounds_succ]
      go_wp2
      go_ret
      exact ⟨rfl, rfl⟩
    · rcases hv with ⟨_, _, _, rfl⟩ | ⟨b, off, c, rfl, hb, hat⟩
      · exact absurd rfl h0
      have HAT := Lib.hid hat
      obtain ⟨r, hr⟩ : ∃ r, r = (decide (L.length ≤ 40) && rdsB L) := ⟨_, rfl⟩
      rw [← hr]
      have HR := Lib.hid hr
      clear hat h0 hr
      go_enter Tryd.func41, Tryd.ntmps41
      go_wp2_with fail
      go_loop [3, 4] (fun t i => ∃ (k : Nat) (q : Int), k ≤ L.length ∧ i = .int .i64 k ∧ t = .int .i64 q ∧ Hid (q = prevT L k) ∧ 0 ≤ q ∧ q ≤ 100000 ∧ Hid (∀ j, j < k → okAt L j = true)) (fun _ i => L.length - (intOf i).toNat)
      case atStart => exact ⟨0, 0, Nat.zero_le _, rfl, rfl, rfl, by omega, by omega, fun j hj => by omega⟩
      case round =>
        obtain ⟨k, q, hk, rfl, rfl, HQ, hq0, hq1, HA⟩ := hrel
        by_cases hlt : k < L.length
        · obtain ⟨h1, h2⟩ := HAT.out k hlt
          obtain ⟨p, hp⟩ : ∃ p, p = L.getD k default := ⟨_, rfl⟩
          rw [← hp] at h1 h2
          have hok : okAt L k = inB p.t (q + 1) 100000 := by unfold okAt; rw [hp, HQ.out]
          have HP := Lib.hid hp
          have HOK := Lib.hid hok
          clear hp hok
          cases hin : inB p.t (q + 1) 100000
          all_goals
            have HI0 := l00In_any p.t (q + 1) 100000 w
            rw [hin] at HI0
            have HI := Lib.hid HI0
            have HN := Lib.hid hin
            clear hin HI0
            go_wp2_with (go_at_call 40; refine HI.out.mono ?_; rintro e w2 ⟨rfl, rfl⟩)
          · go_ret
            refine ⟨?_, rfl⟩
            rw [HR.out, rdsB_hit hlt (HOK.out.trans HN.out)]
            simp
          · have hb2 : q + 1 ≤ p.t ∧ p.t ≤ 100000 := by have := HN.out; unfold inB at this; simpa using this
            go_round
            case rel => exact ⟨k + 1, p.t, by omega, by go_num, rfl, (by show p.t = prevT L (k + 1); unfold prevT; rw [if_neg (by omega), HP.out]; rfl), by omega, by omega, (fun j hj => by
              rcases Nat.lt_or_ge j k with h | h
              · exact HA.out j h
              · obtain rfl : j = k := by omega
                exact HOK.out.trans HN.out)⟩
            case measure => simp [intOf]; omega
        · go_wp2_with fail
          go_ret
          refine ⟨?_, rfl⟩
          rw [HR.out, decide_eq_true h40, rdsB_all fun j hj => HA.out j (by omega)]
          rfl
  · obtain ⟨a, c, rfl⟩ := hv.len
    rw [decide_eq_false h40, Bool.false_and]
    clear hv
    go_enter Tryd.func41, Tryd.ntmps41
    go_wp2_with fail
    go_ret
    exact ⟨rfl, rfl⟩
end Go.Proofs.YtgiimcdjojjbmaaDoor
