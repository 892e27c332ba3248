/- spec.l07Plain. -/
import Derived.Test.YtgiimcdjojjbmaaDoorA3
namespace Go.Proofs.YtgiimcdjojjbmaaDoor
open Go Go.RowKit

def badP (p : Pm) : Bool := !inB p.o 0 7 || !inB p.c 0 63 || !inB p.r 0 400

set_option maxRecDepth 100000 in
theorem l07Plain_rows (ps : List Pm) (hok : ∀ p ∈ ps, p.ok) (b off c : Nat) (w : World)
    (hb : b < w.heap.size) (hat : PmAt w b off ps) (hlen : ps.length ≤ 4611686018427387904) : Calls Tryd.prog 24 #[.slice (some ⟨b, off, none⟩) ps.length c] w
    fun e w' => e = .returned (.bool (decide (ps.length ≤ 6) && !anyPm badP ps)) ∧ Below w.heap.size w w' := by
  have HOK := Lib.hid hok; clear hok
  have HAT := Lib.hid hat; clear hat
  go_enter Tryd.func24, Tryd.ntmps24
  go_wp2
  go_loopw [3] (fun i wr => ∃ k : Nat, k ≤ ps.length ∧ i = .int .i64 k ∧ Hid (anyPm badP (ps.take k) = false) ∧ Below w.heap.size w wr) (fun i _ => ps.length - (intOf i).toNat)
  case atStart => exact ⟨0, Nat.zero_le _, rfl, by simp [anyPm, Hid], Below.refl _ _⟩
  case round =>
    obtain ⟨k, hk, rfl, hno, hB⟩ := hrel
    by_cases hlt : k < ps.length
    · obtain ⟨h1, h2, h3⟩ := HAT.out.mono hb hB k hlt
      obtain ⟨p, hp⟩ : ∃ p, p = ps.getD k default := ⟨_, rfl⟩
      rw [← hp] at h1 h2 h3
      have HP := Lib.hid hp; clear hp
      have hpo : p.ok := HOK.out p (by rw [HP.out]; exact getD_mem _ _ _ hlt)
      obtain ⟨g1, g2, g3, g4, g5, g6⟩ := hpo
      have Hgoal : badP p = (!inB p.o 0 7 || !inB p.c 0 63 || !inB p.r 0 400) := rfl
      have HG := Lib.hid Hgoal; clear Hgoal
      rcases b1 : inB p.o 0 7 with _ | _ <;> rcases b2 : inB p.c 0 63 with _ | _ <;> rcases b3 : inB p.r 0 400 with _ | _
      all_goals
        rw [b1, b2, b3] at HG
        go_wp2_with (go_at_call 40; refine (l00In_any _ _ _ _).mono ?_; rintro e w1 ⟨rfl, rfl⟩)
      all_goals first
        | (go_ret
           exact ⟨by rw [anyPm_hit badP ps k hlt (by rw [← HP.out, HG.out]; rfl)]; simp, hB.trans ((Below.refl _ _).alloc hB.size _)⟩)
        | (go_roundw
           case rel => exact ⟨k + 1, by omega, by go_num, by show _ = _; rw [anyPm_snoc badP ps k hlt, ← HP.out, HG.out, hno.out]; rfl, hB.trans ((Below.refl _ _).alloc hB.size _)⟩
           case measure => simp [intOf]; omega)
    · go_wp2_with fail
      go_ret
      have : ps.take k = ps := List.take_of_length_le (by omega)
      exact ⟨by rw [show anyPm badP ps = false from (by rw [← this]; exact hno.out)]; simp; omega, hB⟩

set_option maxRecDepth 100000 in
theorem l07Plain_any (ps : List Pm) (hok : ∀ p ∈ ps, p.ok) (v : Value) (w : World) (hv : PmSl w v ps) (hlen : ps.length ≤ 4611686018427387904) :
    Calls Tryd.prog 24 #[v] w fun e w' => e = .returned (.bool (decide (ps.length ≤ 6) && !anyPm badP ps)) ∧ Below w.heap.size w w' := by
  rcases hv with ⟨a, c, rfl, rfl⟩ | ⟨b, off, c, rfl, hb, hat⟩
  · clear hok
    go_enter Tryd.func24, Tryd.ntmps24
    go_wp2
    refine wp_loop_rounds 1 ?_
    rw [rounds_succ]
    go_wp2
    go_ret
    exact ⟨by simp [anyPm], Below.refl _ _⟩
  · exact l07Plain_rows ps hok b off c w hb hat hlen
end Go.Proofs.YtgiimcdjojjbmaaDoor
