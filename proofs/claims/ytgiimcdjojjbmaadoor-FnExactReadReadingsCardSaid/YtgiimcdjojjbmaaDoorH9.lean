/- laws.markReadingS, laws.heldReadingS over a row of the call's own. -/
import Derived.Test.YtgiimcdjojjbmaaDoorH6
namespace Go.Proofs.YtgiimcdjojjbmaaDoor
open Go Go.RowKit

theorem grown_trans2 {a b c : World} {row : Option Nat} (h : a.grownBy b row) (k : b.grownBy c row) : a.grownBy c row :=
  ⟨k.os.trans h.os, k.tape.trans h.tape, k.output.trans h.output, Nat.le_trans h.size k.size, fun j hj hne => (k.block j (Nat.lt_of_lt_of_le hj h.size) hne).trans (h.block j hj hne)⟩

/-- The readings that are marked. -/
def marksR (m : Int) (n : Nat) : List Rd := (List.range n).map fun (k : Nat) => ⟨m + 2 * (k : Int), m + 2 * (k : Int) + 1⟩
theorem marksR_len (m : Int) (n : Nat) : (marksR m n).length = n := by simp [marksR]
theorem marksR_get (m : Int) (n k : Nat) (h : k < n) : (marksR m n).getD k default = ⟨m + 2 * k, m + 2 * k + 1⟩ := by
  simp [marksR, List.getD, h]
theorem rset_take (a : List Rd) (k : Nat) (p : Rd) (h : k < a.length) : (a.set k p).take (k + 1) = a.take k ++ [p] := by
  rw [take_snocD default _ k (by simpa using h)]
  congr 1
  · rw [List.take_set_of_le (Nat.le_refl _)]
  · simp [List.getD, h]

theorem w16r (q : Int) (h0 : 0 ≤ q) (h1 : q ≤ 32767) : IntKind.i16.wrap q = q := by simp only [IntKind.wrap]; simp [IntKind.signed, IntKind.bits]; omega

set_option maxHeartbeats 2000000 in
set_option maxRecDepth 100000 in
theorem markReadingS_any (v : Value) (n : Nat) (ps : List Rd) (hps : ps.length = n) (m : Int) (h0 : 0 ≤ m) (h1 : m + 2 * n ≤ 100) (w : World) (B : Nat) (hrow : w.ownsRow B 76 2 v n (rdCells ps)) :
    Calls Tryd.prog 18 #[v, .int .i64 m] w fun e w' => e = .returned (.int .i64 (m + 2 * n)) ∧ w'.ownsRow B 76 2 v n (rdCells (marksR m n)) ∧ w.grownBy w' v.ownBlock := by
  by_cases hn : n = 0
  · subst hn
    obtain ⟨a, c, rfl⟩ := slice_of_rowN hrow
    have HR := Lib.hid hrow
    have hps0 : ps = [] := List.length_eq_zero_iff.1 hps
    clear hrow hps
    go_enter Tryd.func18, Tryd.ntmps18
    go_wp2_with fail
    refine wp_loop_rounds 1 ?_
    rw [rounds_succ]
    go_wp2_with fail
    go_ret
    refine ⟨by simp, ?_, World.grownBy.refl _ _⟩
    have := HR.out
    rw [hps0] at this
    simpa [marksR] using this
  · obtain ⟨g, c, rfl, hg1, hg2⟩ : ∃ g c, v = .slice (some ⟨g, 0, none⟩) n c ∧ B ≤ g ∧ g < w.heap.size := by
      rcases hrow.2 with ⟨_, h⟩ | ⟨g, cap, cur, rfl, hb, hg, _⟩
      · exact absurd h hn
      · exact ⟨g, cap, rfl, hb, (Array.getElem?_eq_some_iff.1 hg).1⟩
    have HR := Lib.hid hrow
    have HP := Lib.hid hps
    have hn0 : (n : Int) ≤ 100 := by omega
    clear hrow hps
    go_enter Tryd.func18, Tryd.ntmps18
    go_wp2_with fail
    go_loopw [1, 5] (fun t i wr => ∃ (k : Nat) (q : Int), k ≤ n ∧ i = .int .i64 k ∧ t = .int .i64 q ∧ Hid (q = m + 2 * k) ∧ (∃ xs : List Rd, Hid (xs.length = n) ∧ Hid (xs.take k = (marksR m n).take k) ∧ Hid (wr.ownsRow B 76 2 (.slice (some ⟨g, 0, none⟩) n c) n (rdCells xs)) ∧ Hid (w.grownBy wr (some g)))) (fun _ i _ => n - (intOf i).toNat)
    case atStart => exact ⟨0, m, Nat.zero_le _, rfl, rfl, by simp [Hid], ps, HP, by simp [Hid], HR, World.grownBy.refl _ _⟩
    case round =>
      obtain ⟨k, q, hk, rfl, rfl, HQ, xs, HL, HTK, HROW, HG⟩ := hrel
      clear HR HP
      by_cases hlt : k < n
      · have q0 : 0 ≤ q := by have := HQ.out; omega
        have q1 : q + 2 ≤ 100 := by have := HQ.out; omega
        have x2 := w16r (q + 1) (by omega) (by omega)
        obtain ⟨p0, p1⟩ := rdCells_get xs k (by rw [HL.out]; exact hlt)
        have e0 := (World.ownsRow.cellAt HROW.out (k * 2) (by omega)).trans p0
        have e1 := (World.ownsRow.cellAt HROW.out (k * 2 + 1) (by omega)).trans p1
        have f0 := World.ownsRow.frozenAt HROW.out (k * 2)
        have f1 := World.ownsRow.frozenAt HROW.out (k * 2 + 1)
        clear p0 p1
        go_wp2_with fail
        obtain ⟨s1, t1⟩ := World.ownsRow.stored HROW.out (k * 2) (.int .i64 q)
        obtain ⟨s2, t2⟩ := World.ownsRow.stored s1 (k * 2 + 1) (.int .i16 (q + 1))
        have hs := rdCells_set xs ⟨q, q + 1⟩ k (by rw [HL.out]; exact hlt)
        simp only at hs
        rw [hs] at s2
        have hgr := grown_trans2 (grown_trans2 HG.out t1) t2
        have hl2 : (xs.set k ⟨q, q + 1⟩).length = n := by rw [List.length_set]; exact HL.out
        have ht2 : (xs.set k ⟨q, q + 1⟩).take (k + 1) = (marksR m n).take (k + 1) := by
          rw [rset_take xs k _ (by rw [HL.out]; exact hlt), take_snocD default (marksR m n) k (by rw [marksR_len]; exact hlt), HTK.out, marksR_get m n k hlt, HQ.out]
        clear x2 e0 e1 f0 f1 s1 t1 t2 hs
        go_roundw
        case rel => exact ⟨k + 1, q + 1 + 1, by omega, by go_num, rfl, (by have := HQ.out; show q + 1 + 1 = m + 2 * ((k + 1 : Nat) : Int); omega), _, hl2, ht2, s2, hgr⟩
        case measure => simp [intOf]; omega
      · go_wp2_with fail
        go_ret
        have hkn : k = n := by omega
        have hx : xs = marksR m n := by
          have := HTK.out
          rw [List.take_of_length_le (by rw [HL.out]; omega), List.take_of_length_le (by rw [marksR_len]; omega)] at this
          exact this
        refine ⟨by rw [HQ.out, hkn]; rfl, by rw [← hx]; exact HROW.out, HG.out⟩

set_option maxHeartbeats 2000000 in
set_option maxRecDepth 100000 in
theorem heldReadingS_any (v : Value) (n : Nat) (m : Int) (h0 : 0 ≤ m) (h1 : m + 2 * n ≤ 100) (w : World) (B : Nat) (hrow : w.ownsRow B 76 2 v n (rdCells (marksR m n))) :
    Calls Tryd.prog 19 #[v, .int .i64 m] w fun e w' => e = .returned (.int .i64 (m + 2 * n)) ∧ w = w' := by
  by_cases hn : n = 0
  · subst hn
    obtain ⟨a, c, rfl⟩ := slice_of_rowN hrow
    clear hrow
    go_enter Tryd.func19, Tryd.ntmps19
    go_wp2_with fail
    refine wp_loop_rounds 1 ?_
    rw [rounds_succ]
    go_wp2_with fail
    go_ret
    exact ⟨by simp, rfl⟩
  · obtain ⟨g, c, rfl⟩ : ∃ g c, v = .slice (some ⟨g, 0, none⟩) n c := by
      rcases hrow.2 with ⟨_, h⟩ | ⟨g, cap, cur, rfl, hb, hg, _⟩
      · exact absurd h hn
      · exact ⟨g, cap, rfl⟩
    have HR := Lib.hid hrow
    have hn0 : (n : Int) ≤ 100 := by omega
    clear hrow
    go_enter Tryd.func19, Tryd.ntmps19
    go_wp2_with fail
    go_loop [1, 5] (fun t i => ∃ (k : Nat) (q : Int), k ≤ n ∧ i = .int .i64 k ∧ t = .int .i64 q ∧ Hid (q = m + 2 * k)) (fun _ i => n - (intOf i).toNat)
    case atStart => exact ⟨0, m, Nat.zero_le _, rfl, rfl, by simp [Hid]⟩
    case round =>
      obtain ⟨k, q, hk, rfl, rfl, HQ⟩ := hrel
      by_cases hlt : k < n
      · have q0 : 0 ≤ q := by have := HQ.out; omega
        have q1 : q + 2 ≤ 100 := by have := HQ.out; omega
        have x2 := w16r (q + 1) (by omega) (by omega)
        obtain ⟨p0, p1⟩ := rdCells_get (marksR m n) k (by rw [marksR_len]; exact hlt)
        rw [marksR_get m n k hlt] at p0 p1
        simp only at p0 p1
        rw [show m + 2 * (k : Int) = q from HQ.out.symm] at p0 p1
        have e0 := (World.ownsRow.cellAt HR.out (k * 2) (by omega)).trans p0
        have e1 := (World.ownsRow.cellAt HR.out (k * 2 + 1) (by omega)).trans p1
        clear p0 p1
        go_wp2_with fail
        go_round
        case rel => exact ⟨k + 1, q + 1 + 1, by omega, by go_num, rfl, (by have := HQ.out; show q + 1 + 1 = m + 2 * ((k + 1 : Nat) : Int); omega)⟩
        case measure => simp [intOf]; omega
      · go_wp2_with fail
        go_ret
        have hkn : k = n := by omega
        exact ⟨by rw [HQ.out, hkn]; rfl, rfl⟩
end Go.Proofs.YtgiimcdjojjbmaaDoor
