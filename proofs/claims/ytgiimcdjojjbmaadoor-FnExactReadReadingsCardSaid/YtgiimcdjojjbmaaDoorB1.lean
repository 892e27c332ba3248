/- laws.toPermitS: a copy of a list of permits in new memory. -/
import Derived.Test.YtgiimcdjojjbmaaDoorB0
namespace Go.Proofs.YtgiimcdjojjbmaaDoor
open Go Go.RowKit

theorem infoP : (Tryd.prog.info? 48).map (fun i => (i.zero, i.size, i.bytes)) = some (some (.agg #[.int .i8 0, .int .i8 0, .int .i16 0]), 3, 4) := by kernel_rfl

theorem getD_set_take (a : List Pm) (k : Nat) (p : Pm) (h : k < a.length) : (a.set k p).take (k + 1) = a.take k ++ [p] := by
  rw [take_snocD default _ k (by simpa using h)]
  congr 1
  · rw [List.take_set_of_le (Nat.le_refl _)]
  · simp [List.getD, h]

set_option maxRecDepth 100000 in
theorem toPermitS_rows (ps : List Pm) (b off c : Nat) (w : World)
    (hb : b < w.heap.size) (hat : PmAt w b off ps) (hlen : ps.length ≤ 35184372088832) : Calls Tryd.prog 9 #[.slice (some ⟨b, off, none⟩) ps.length c] w
    fun e w' => (∃ g, e = .returned (.slice (some ⟨g, 0, none⟩) ps.length ps.length) ∧ w.heap.size ≤ g ∧ RowIs w' g 48 (pmCells ps)) ∧ Below w.heap.size w w' := by
  have HAT := Lib.hid hat; clear hat
  obtain ⟨i0, hi, hz0, hz1, hz2⟩ := info_parts infoP
  have hmk : ∀ w, (Instr.makeSlice 25 (.int .i64 (ps.length : Int)) (.int .i64 (ps.length : Int))).run Tryd.prog w =
      .ok (.slice (some ⟨w.heap.size, 0, none⟩) ps.length ps.length) (w.alloc (.cells (pmCells (List.replicate ps.length zeroP)).toArray 48)) := fun w => by
    have := run_make (P := Tryd.prog) w 25 48 i0 _ Tryd.underlying25 hi hz0 .i64 .i64 ps.length ps.length (by omega) (Int.le_refl _) (by rw [hz2]; omega) (by omega)
    rw [hz1] at this
    simp only [Int.toNat_natCast] at this
    rw [this, ← pmCells_zero]; rfl
  clear hi hz0 hz1 hz2
  go_enter Tryd.func9, Tryd.ntmps9
  go_wp2
  clear hmk
  have h0 : RowIs (w.alloc (.cells (pmCells (List.replicate ps.length zeroP)).toArray 48)) w.heap.size 48 (pmCells (List.replicate ps.length zeroP)) := heap_alloc_new w _
  go_loopw [4] (fun i wr => ∃ k : Nat, k ≤ ps.length ∧ i = .int .i64 k ∧ (∃ xs : List Pm, Hid (xs.length = ps.length) ∧ Hid (xs.take k = ps.take k) ∧ RowIs wr w.heap.size 48 (pmCells xs)) ∧ Below w.heap.size w wr) (fun i _ => ps.length - (intOf i).toNat)
  case atStart => exact ⟨0, Nat.zero_le _, rfl, ⟨_, List.length_replicate, by simp [Hid], h0⟩, (Below.refl _ _).alloc (Nat.le_refl _) _⟩
  case round =>
    obtain ⟨k, hk, rfl, ⟨xs, Hl, Ht, hrow⟩, hB⟩ := hrel
    clear h0
    by_cases hlt : k < ps.length
    · obtain ⟨h1, h2, h3⟩ := HAT.out.mono hb hB k hlt
      obtain ⟨p, hp⟩ : ∃ p, p = ps.getD k default := ⟨_, rfl⟩
      rw [← hp] at h1 h2 h3
      have HP := Lib.hid hp; clear hp
      have HR := Lib.hid hrow; clear hrow
      go_wp2_with (go_at_call 26; refine (toPermit_any _ _ _ _).mono ?_; rintro e w1 ⟨rfl, hB1⟩; have hrow1 := HR.out.below hB1 HR.out.lt; have q0 := pmCells_get xs k (by rw [Hl.out]; exact hlt); have e0 := (hrow1.cell (k * 3)).trans q0.1; have e1 := (hrow1.cell (k * 3 + 1)).trans q0.2.1; have e2 := (hrow1.cell (k * 3 + 2)).trans q0.2.2; have f0 := hrow1.frozen (k * 3); have f1 := hrow1.frozen (k * 3 + 1); have f2 := hrow1.frozen (k * 3 + 2); have HR1 := Lib.hid hrow1; clear hrow1 q0)
      have hs := ((HR1.out.set (k * 3) (.int .i8 p.o)).set (k * 3 + 1) (.int .i8 p.c)).set (k * 3 + 2) (.int .i16 p.r)
      rw [pmCells_set xs p k (by rw [Hl.out]; exact hlt)] at hs
      have hB2 := ((((hB.trans (hB1.mono hB.size)).setCell (p := ⟨w.heap.size, k * 3, none⟩) (Nat.le_refl _) (.int .i8 p.o)).setCell (p := ⟨w.heap.size, k * 3 + 1, none⟩) (Nat.le_refl _) (.int .i8 p.c)).setCell (p := ⟨w.heap.size, k * 3 + 2, none⟩) (Nat.le_refl _) (.int .i16 p.r))
      have hl2 : (xs.set k p).length = ps.length := by rw [List.length_set]; exact Hl.out
      have ht2 : (xs.set k p).take (k + 1) = ps.take (k + 1) := by rw [getD_set_take xs k p (by rw [Hl.out]; exact hlt), take_snocD default ps k hlt, Ht.out, HP.out]
      go_roundw
      case rel => exact ⟨k + 1, by omega, by go_num, ⟨_, hl2, ht2, hs⟩, hB2⟩
      case measure => simp [intOf]; omega
    · go_wp2_with fail
      go_ret
      have : xs = ps := by rw [← List.take_of_length_le (l := xs) (i := k) (by rw [Hl.out]; omega), Ht.out, List.take_of_length_le (by omega)]
      exact ⟨⟨_, rfl, Nat.le_refl _, by rw [← this]; exact hrow⟩, hB⟩
end Go.Proofs.YtgiimcdjojjbmaaDoor
