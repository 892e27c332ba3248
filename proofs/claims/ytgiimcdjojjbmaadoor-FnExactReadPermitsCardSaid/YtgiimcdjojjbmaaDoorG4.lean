/- laws.markPermitS, laws.heldPermitS over a row of the call's own. -/
import Derived.Test.YtgiimcdjojjbmaaDoorF7
namespace Go.Proofs.YtgiimcdjojjbmaaDoor
open Go Go.RowKit

theorem grown_trans {a b c : World} {row : Option Nat} (h : a.grownBy b row) (k : b.grownBy c row) : a.grownBy c row :=
  ⟨k.os.trans h.os, k.tape.trans h.tape, k.output.trans h.output, Nat.le_trans h.size k.size, fun j hj hne => (k.block j (Nat.lt_of_lt_of_le hj h.size) hne).trans (h.block j hj hne)⟩

/-- The permits that are marked. -/
def marks (m : Int) (n : Nat) : List Pm := (List.range n).map fun (k : Nat) => ⟨m + 3 * (k : Int), m + 3 * (k : Int) + 1, m + 3 * (k : Int) + 2⟩
theorem marks_len (m : Int) (n : Nat) : (marks m n).length = n := by simp [marks]
theorem marks_get (m : Int) (n k : Nat) (h : k < n) : (marks m n).getD k default = ⟨m + 3 * k, m + 3 * k + 1, m + 3 * k + 2⟩ := by
  simp [marks, List.getD, h]

theorem w8 (q : Int) (h0 : 0 ≤ q) (h1 : q ≤ 127) : IntKind.i8.wrap q = q := by simp only [IntKind.wrap]; simp [IntKind.signed, IntKind.bits]; omega
theorem w16 (q : Int) (h0 : 0 ≤ q) (h1 : q ≤ 32767) : IntKind.i16.wrap q = q := by simp only [IntKind.wrap]; simp [IntKind.signed, IntKind.bits]; omega

set_option maxHeartbeats 2000000 in
set_option maxRecDepth 100000 in
theorem markPermitS_any (v : Value) (n : Nat) (ps : List Pm) (hps : ps.length = n) (m : Int) (h0 : 0 ≤ m) (h1 : m + 3 * n ≤ 100) (w : World) (B : Nat) (hrow : w.ownsRow B 48 3 v n (pmCells ps)) :
    Calls Tryd.prog 22 #[v, .int .i64 m] w fun e w' => e = .returned (.int .i64 (m + 3 * n)) ∧ w'.ownsRow B 48 3 v n (pmCells (marks m n)) ∧ w.grownBy w' v.ownBlock := by
  by_cases hn : n = 0
  · subst hn
    obtain ⟨a, c, rfl⟩ := slice_of_row3 hrow
    have HR := Lib.hid hrow
    have hps0 : ps = [] := List.length_eq_zero_iff.1 hps
    clear hrow hps
    go_enter Tryd.func22, Tryd.ntmps22
    go_wp2_with fail
    refine wp_loop_rounds 1 ?_
    rw [rounds_succ]
    go_wp2_with fail
    go_ret
    refine ⟨by simp, ?_, World.grownBy.refl _ _⟩
    have := HR.out
    rw [hps0] at this
    simpa [marks] using this
  · obtain ⟨g, c, rfl, hg1, hg2⟩ : ∃ g c, v = .slice (some ⟨g, 0, none⟩) n c ∧ B ≤ g ∧ g < w.heap.size := by
      rcases hrow.2 with ⟨_, h⟩ | ⟨g, cap, cur, rfl, hb, hg, _⟩
      · exact absurd h hn
      · exact ⟨g, cap, rfl, hb, (Array.getElem?_eq_some_iff.1 hg).1⟩
    have HR := Lib.hid hrow
    have HP := Lib.hid hps
    have hn0 : (n : Int) ≤ 100 := by omega
    clear hrow hps
    go_enter Tryd.func22, Tryd.ntmps22
    go_wp2_with fail
    go_loopw [1, 5] (fun t i wr => ∃ (k : Nat) (q : Int), k ≤ n ∧ i = .int .i64 k ∧ t = .int .i64 q ∧ Hid (q = m + 3 * k) ∧ (∃ xs : List Pm, Hid (xs.length = n) ∧ Hid (xs.take k = (marks m n).take k) ∧ Hid (wr.ownsRow B 48 3 (.slice (some ⟨g, 0, none⟩) n c) n (pmCells xs)) ∧ Hid (w.grownBy wr (some g)))) (fun _ i _ => n - (intOf i).toNat)
    case atStart => exact ⟨0, m, Nat.zero_le _, rfl, rfl, by simp [Hid], ps, HP, by simp [Hid], HR, World.grownBy.refl _ _⟩
    case round =>
      obtain ⟨k, q, hk, rfl, rfl, HQ, xs, HL, HTK, HROW, HG⟩ := hrel
      clear HR HP
      by_cases hlt : k < n
      · have q0 : 0 ≤ q := by have := HQ.out; omega
        have q1 : q + 3 ≤ 100 := by have := HQ.out; omega
        have x1 := w8 q q0 (by omega)
        have x2 := w8 (q + 1) (by omega) (by omega)
        have x3 := w16 (q + 1 + 1) (by omega) (by omega)
        obtain ⟨p0, p1, p2⟩ := pmCells_get xs k (by rw [HL.out]; exact hlt)
        have e0 := (World.ownsRow.cellAt HROW.out (k * 3) (by omega)).trans p0
        have e1 := (World.ownsRow.cellAt HROW.out (k * 3 + 1) (by omega)).trans p1
        have e2 := (World.ownsRow.cellAt HROW.out (k * 3 + 2) (by omega)).trans p2
        have f0 := World.ownsRow.frozenAt HROW.out (k * 3)
        have f1 := World.ownsRow.frozenAt HROW.out (k * 3 + 1)
        have f2 := World.ownsRow.frozenAt HROW.out (k * 3 + 2)
        clear p0 p1 p2
        go_wp2_with fail
        obtain ⟨s1, t1⟩ := World.ownsRow.stored HROW.out (k * 3) (.int .i8 q)
        obtain ⟨s2, t2⟩ := World.ownsRow.stored s1 (k * 3 + 1) (.int .i8 (q + 1))
        obtain ⟨s3, t3⟩ := World.ownsRow.stored s2 (k * 3 + 2) (.int .i16 (q + 1 + 1))
        have hs := pmCells_set xs ⟨q, q + 1, q + 1 + 1⟩ k (by rw [HL.out]; exact hlt)
        simp only at hs
        rw [hs] at s3
        have hgr := grown_trans (grown_trans (grown_trans HG.out t1) t2) t3
        have hl2 : (xs.set k ⟨q, q + 1, q + 1 + 1⟩).length = n := by rw [List.length_set]; exact HL.out
        have ht2 : (xs.set k ⟨q, q + 1, q + 1 + 1⟩).take (k + 1) = (marks m n).take (k + 1) := by
          rw [getD_set_take xs k _ (by rw [HL.out]; exact hlt), take_snocD default (marks m n) k (by rw [marks_len]; exact hlt), HTK.out, marks_get m n k hlt, HQ.out]
          congr 3
          omega
        clear x1 x2 x3 e0 e1 e2 f0 f1 f2 s1 s2 t1 t2 t3 hs
        go_roundw
        case rel => exact ⟨k + 1, q + 1 + 1 + 1, by omega, by go_num, rfl, (by have := HQ.out; show q + 1 + 1 + 1 = m + 3 * ((k + 1 : Nat) : Int); omega), _, hl2, ht2, s3, hgr⟩
        case measure => simp [intOf]; omega
      · go_wp2_with fail
        go_ret
        have hkn : k = n := by omega
        have hx : xs = marks m n := by
          have := HTK.out
          rw [List.take_of_length_le (by rw [HL.out]; omega), List.take_of_length_le (by rw [marks_len]; omega)] at this
          exact this
        refine ⟨by rw [HQ.out, hkn]; rfl, by rw [← hx]; exact HROW.out, HG.out⟩

set_option maxHeartbeats 2000000 in
set_option maxRecDepth 100000 in
theorem heldPermitS_any (v : Value) (n : Nat) (m : Int) (h0 : 0 ≤ m) (h1 : m + 3 * n ≤ 100) (w : World) (B : Nat) (hrow : w.ownsRow B 48 3 v n (pmCells (marks m n))) :
    Calls Tryd.prog 23 #[v, .int .i64 m] w fun e w' => e = .returned (.int .i64 (m + 3 * n)) ∧ w = w' := by
  by_cases hn : n = 0
  · subst hn
    obtain ⟨a, c, rfl⟩ := slice_of_row3 hrow
    clear hrow
    go_enter Tryd.func23, Tryd.ntmps23
    go_wp2_with fail
    refine wp_loop_rounds 1 ?_
    rw [rounds_succ]
    go_wp2_with fail
    go_ret
    exact ⟨by simp, rfl⟩
  · obtain ⟨g, c, rfl⟩ : ∃ g c, v = .slice (some ⟨g, 0, none⟩) n c := by
      rcases hrow.2 with ⟨_, h⟩ | ⟨g, cap, cur, rfl, hb, hg, _⟩
      · exact absurd h hn
      · exact ⟨g, cap, rfl⟩
    have HR := Lib.hid hrow
    have hn0 : (n : Int) ≤ 100 := by omega
    clear hrow
    go_enter Tryd.func23, Tryd.ntmps23
    go_wp2_with fail
    go_loop [1, 5] (fun t i => ∃ (k : Nat) (q : Int), k ≤ n ∧ i = .int .i64 k ∧ t = .int .i64 q ∧ Hid (q = m + 3 * k)) (fun _ i => n - (intOf i).toNat)
    case atStart => exact ⟨0, m, Nat.zero_le _, rfl, rfl, by simp [Hid]⟩
    case round =>
      obtain ⟨k, q, hk, rfl, rfl, HQ⟩ := hrel
      by_cases hlt : k < n
      · have q0 : 0 ≤ q := by have := HQ.out; omega
        have q1 : q + 3 ≤ 100 := by have := HQ.out; omega
        have x1 := w8 q q0 (by omega)
        have x2 := w8 (q + 1) (by omega) (by omega)
        have x3 := w16 (q + 1 + 1) (by omega) (by omega)
        obtain ⟨p0, p1, p2⟩ := pmCells_get (marks m n) k (by rw [marks_len]; exact hlt)
        rw [marks_get m n k hlt] at p0 p1 p2
        simp only at p0 p1 p2
        rw [show m + 3 * (k : Int) = q from HQ.out.symm] at p0 p1 p2
        rw [show q + 2 = q + 1 + 1 by omega] at p2
        have e0 := (World.ownsRow.cellAt HR.out (k * 3) (by omega)).trans p0
        have e1 := (World.ownsRow.cellAt HR.out (k * 3 + 1) (by omega)).trans p1
        have e2 := (World.ownsRow.cellAt HR.out (k * 3 + 2) (by omega)).trans p2
        clear p0 p1 p2
        go_wp2_with fail
        go_round
        case rel => exact ⟨k + 1, q + 1 + 1 + 1, by omega, by go_num, rfl, (by have := HQ.out; show q + 1 + 1 + 1 = m + 3 * ((k + 1 : Nat) : Int); omega)⟩
        case measure => simp [intOf]; omega
      · go_wp2_with fail
        go_ret
        have hkn : k = n := by omega
        exact ⟨by rw [HQ.out, hkn]; rfl, rfl⟩
end Go.Proofs.YtgiimcdjojjbmaaDoor
