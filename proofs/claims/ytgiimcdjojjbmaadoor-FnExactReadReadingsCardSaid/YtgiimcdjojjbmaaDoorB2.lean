/- laws.toPermitS at every list; laws.eqPermit, laws.eqPermitS: two lists of permits that are the same. -/
import Derived.Test.YtgiimcdjojjbmaaDoorB1
import Derived.Test.YtgiimcdjojjbmaaDoorA3
import Derived.StillTailTactics
namespace Go.Proofs.YtgiimcdjojjbmaaDoor
open Go Go.RowKit

set_option maxRecDepth 100000 in
theorem toPermitS_any (ps : List Pm) (v : Value) (w : World) (hv : PmSl w v ps) (hlen : ps.length ≤ 35184372088832) : Calls Tryd.prog 9 #[v] w
    fun e w' => (∃ v', e = .returned v' ∧ PmSl w' v' ps) ∧ Below w.heap.size w w' := by
  rcases hv with ⟨a, c, rfl, rfl⟩ | ⟨b, off, c, rfl, hb, hat⟩
  · obtain ⟨i0, hi, hz0, hz1, hz2⟩ := info_parts infoP
    have hmk : ∀ w, (Instr.makeSlice 25 (.int .i64 0) (.int .i64 0)).run Tryd.prog w = .ok (.slice (some ⟨w.heap.size, 0, none⟩) 0 0) (w.alloc (.cells #[] 48)) := fun w => by
      have := run_make (P := Tryd.prog) w 25 48 i0 _ Tryd.underlying25 hi hz0 .i64 .i64 0 0 (by omega) (Int.le_refl _) (by rw [hz2]; omega) (by omega)
      rw [hz1] at this
      rw [this, show madeCells (Value.agg #[Value.int .i8 0, .int .i8 0, .int .i16 0]).cells (Int.toNat 0 * 3) = #[] from pmCells_zero 0]; rfl
    clear hi hz0 hz1 hz2
    go_enter Tryd.func9, Tryd.ntmps9
    go_wp2
    refine wp_loop_rounds 1 ?_
    rw [rounds_succ]
    go_wp2
    go_ret
    exact ⟨⟨_, rfl, .inl ⟨_, _, rfl, rfl⟩⟩, (Below.refl _ _).alloc (Nat.le_refl _) _⟩
  · refine (toPermitS_rows ps b off c w hb hat hlen).mono ?_
    rintro e w' ⟨⟨g, rfl, hg, hrow⟩, hB⟩
    exact ⟨⟨_, rfl, .inr ⟨_, _, _, rfl, hrow.lt, hrow.pmAt⟩⟩, hB⟩

theorem eqPermit_same (p : Pm) (w : World) : Calls Tryd.prog 31 #[.agg #[.int .i8 p.o, .int .i8 p.c, .int .i16 p.r], .agg #[.int .i8 p.o, .int .i8 p.c, .int .i16 p.r]] w
    fun e w' => e = .returned (.bool true) ∧ Below w.heap.size w w' := by
  go_enter Tryd.func31, Tryd.ntmps31
  go_wp2
  go_ret
  exact ⟨rfl, ((Below.refl _ _).alloc (Nat.le_refl _) _).alloc (by simp) _⟩

set_option maxRecDepth 100000 in
theorem eqPermitS_same (ps : List Pm) (v v2 : Value) (w : World) (hv : PmSl w v ps) (hv2 : PmSl w v2 ps) (hlen : ps.length ≤ 4611686018427387904) : Calls Tryd.prog 11 #[v, v2] w
    fun e w' => e = .returned (.bool true) ∧ Below w.heap.size w w' := by
  by_cases h0 : ps = []
  · subst h0
    obtain ⟨a, c, rfl⟩ := hv.len
    obtain ⟨a2, c2, rfl⟩ := hv2.len
    clear hv hv2
    simp only [List.length_nil]
    go_enter Tryd.func11, Tryd.ntmps11
    go_wp2
    refine wp_loop_rounds 1 ?_
    rw [rounds_succ]
    go_wp2
    go_ret
    exact ⟨rfl, Below.refl _ _⟩
  · rcases hv with ⟨_, _, _, rfl⟩ | ⟨b, off, c, rfl, hb, hat⟩
    · exact absurd rfl h0
    rcases hv2 with ⟨_, _, _, rfl⟩ | ⟨b2, off2, c2, rfl, hb2, hat2⟩
    · exact absurd rfl h0
    have HAT := Lib.hid hat; clear hat
    have HAT2 := Lib.hid hat2; clear hat2 h0
    go_enter Tryd.func11, Tryd.ntmps11
    go_wp2
    go_loopw [5] (fun i wr => ∃ k : Nat, k ≤ ps.length ∧ i = .int .i64 k ∧ Below w.heap.size w wr) (fun i _ => ps.length - (intOf i).toNat)
    case atStart => exact ⟨0, Nat.zero_le _, rfl, Below.refl _ _⟩
    case round =>
      obtain ⟨k, hk, rfl, hB⟩ := hrel
      by_cases hlt : k < ps.length
      · obtain ⟨h1, h2, h3⟩ := HAT.out.mono hb hB k hlt
        obtain ⟨g1, g2, g3⟩ := HAT2.out.mono hb2 hB k hlt
        obtain ⟨p, hp⟩ : ∃ p, p = ps.getD k default := ⟨_, rfl⟩
        rw [← hp] at h1 h2 h3 g1 g2 g3
        clear hp
        go_wp2_with fail
        go_still_tail 8, (by kernel_rfl)
        go_goals
        all_goals change wpList _ _ _ _ _ wr.drew
        all_goals
          go_wp2_with (go_at_call 31; refine (eqPermit_same _ _).mono ?_; rintro e w1 ⟨rfl, hB1⟩)
          go_roundw
          case rel => exact ⟨k + 1, by omega, by go_num, hB.drew.trans (hB1.mono hB.size)⟩
          case measure => simp [intOf]; omega
      · go_wp2_with fail
        go_ret
        exact ⟨rfl, hB⟩
end Go.Proofs.YtgiimcdjojjbmaaDoor
