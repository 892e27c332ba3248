/- laws.eqWell, laws.eqWellS, laws.markWellS, laws.heldWellS. -/
import Derived.Test.YtgiimcdjojjbmaaGreatDoorW4
import Derived.Test.YtgiimcdjojjbmaaGreatDoorE5
import Derived.StillTailTactics
namespace Go.Proofs.YtgiimcdjojjbmaaGreatDoor
open Go Go.RowKit

theorem conv_num (b : Nat) (h : nanOf .f32 b = false) : ∃ r, wideOf b r ∧ ∀ w, (convert 29 98 (.float .f32 b)).run Tryz.prog w = .ok (.float .f64 r) w := by
  obtain ⟨r, hr⟩ := conv_some b h
  refine ⟨r, .inr ⟨h, hr⟩, fun w => ?_⟩
  have := run_floatToFloat (P := Tryz.prog) w hr
  simp [convert, run_underlying Tryz.underlying29, run_underlying Tryz.underlying98, this]

set_option maxRecDepth 100000 in
theorem eqWell_same (p : Wl) (w : World) (h : nanOf .f32 p.r = false) : Calls Tryz.prog 21 #[.agg #[.int .i8 p.x, .int .i8 p.y, .float .f32 p.r], .agg #[.int .i8 p.x, .int .i8 p.y, .float .f32 p.r]] w
    fun e w' => e = .returned (.bool true) ∧ Below w.heap.size w w' := by
  obtain ⟨r, hw, hc⟩ := conv_num p.r h
  have HS := Lib.hid (fun w => sameFloat_wide p.r r r w hw hw)
  clear hw h
  go_enter Tryz.func21, Tryz.ntmps21
  go_wp2_with (go_at_call 50; refine (HS.out _).mono ?_; rintro e w' ⟨rfl, rfl⟩)
  go_ret
  exact ⟨rfl, ((Below.refl _ _).alloc (Nat.le_refl _) _).alloc (by simp) _⟩

set_option maxRecDepth 100000 in
theorem eqWellS_same (ps : List Wl) (v v2 : Value) (w : World) (hv : WlSl w v ps) (hv2 : WlSl w v2 ps) (hlen : ps.length ≤ 4611686018427387904) (hnan : ∀ p ∈ ps, nanOf .f32 p.r = false) : Calls Tryz.prog 7 #[v, v2] w
    fun e w' => e = .returned (.bool true) ∧ Below w.heap.size w w' := by
  by_cases h0 : ps = []
  · subst h0
    obtain ⟨a, c, rfl⟩ := hv.len
    obtain ⟨a2, c2, rfl⟩ := hv2.len
    clear hv hv2 hnan
    simp only [List.length_nil]
    go_enter Tryz.func7, Tryz.ntmps7
    go_wp2
    refine wp_loop_rounds 1 ?_
    rw [rounds_succ]
    go_wp2
    go_ret
    exact ⟨rfl, Below.refl _ _⟩
  · rcases hv with ⟨_, _, _, rfl⟩ | ⟨b, off, c, rfl, hb, hat⟩
    · exact absurd rfl h0
    rcases hv2 with ⟨_, _, _, rfl⟩ | ⟨b2, off2, c2, rfl, hb2, hat2⟩
    · exact absurd rfl h0
    have HAT := Lib.hid hat; clear hat
    have HAT2 := Lib.hid hat2
    have HNAN := Lib.hid hnan
    clear hat2 h0 hnan
    go_enter Tryz.func7, Tryz.ntmps7
    go_wp2
    go_loopw [5] (fun i wr => ∃ k : Nat, k ≤ ps.length ∧ i = .int .i64 k ∧ Below w.heap.size w wr) (fun i _ => ps.length - (intOf i).toNat)
    case atStart => exact ⟨0, Nat.zero_le _, rfl, Below.refl _ _⟩
    case round =>
      obtain ⟨k, hk, rfl, hB⟩ := hrel
      by_cases hlt : k < ps.length
      · obtain ⟨h1, h2, h3⟩ := HAT.out.mono hb hB k hlt
        obtain ⟨g1, g2, g3⟩ := HAT2.out.mono hb2 hB k hlt
        obtain ⟨p, hp⟩ : ∃ p, p = ps.getD k default := ⟨_, rfl⟩
        rw [← hp] at h1 h2 h3 g1 g2 g3
        have HN := Lib.hid (HNAN.out p (by rw [hp]; exact getD_mem _ _ _ hlt))
        clear hp
        go_wp2_with fail
        go_still_tail 8, (by kernel_rfl)
        go_goals
        all_goals change wpList _ _ _ _ _ wr.drew
        all_goals
          go_wp2_with (go_at_call 21; refine (eqWell_same _ _ HN.out).mono ?_; rintro e w1 ⟨rfl, hB1⟩)
          go_roundw
          case rel => exact ⟨k + 1, by omega, by go_num, hB.drew.trans (hB1.mono hB.size)⟩
          case measure => simp [intOf]; omega
      · go_wp2_with fail
        go_ret
        exact ⟨rfl, hB⟩

theorem grown_transW {a b c : World} {row : Option Nat} (h : a.grownBy b row) (k : b.grownBy c row) : a.grownBy c row :=
  ⟨k.os.trans h.os, k.tape.trans h.tape, k.output.trans h.output, Nat.le_trans h.size k.size, fun j hj hne => (k.block j (Nat.lt_of_lt_of_le hj h.size) hne).trans (h.block j hj hne)⟩

/-- The wells that are marked. -/
def marksW (m : Int) (n : Nat) : List Wl := (List.range n).map fun (k : Nat) => ⟨m + 3 * (k : Int), m + 3 * (k : Int) + 1, floatOfInt .f32 (m + 3 * (k : Int) + 2)⟩
theorem marksW_len (m : Int) (n : Nat) : (marksW m n).length = n := by simp [marksW]
theorem marksW_get (m : Int) (n k : Nat) (h : k < n) : (marksW m n).getD k default = ⟨m + 3 * k, m + 3 * k + 1, floatOfInt .f32 (m + 3 * k + 2)⟩ := by
  simp [marksW, List.getD, h]
theorem wset_take (a : List Wl) (k : Nat) (p : Wl) (h : k < a.length) : (a.set k p).take (k + 1) = a.take k ++ [p] := by
  rw [take_snocD default _ k (by simpa using h)]
  congr 1
  · rw [List.take_set_of_le (Nat.le_refl _)]
  · simp [List.getD, h]

theorem int_num (q : Int) (h0 : 0 ≤ q) (h1 : q ≤ 100) : (FloatKind.f32.format.order (floatOfInt .f32 q) (floatOfInt .f32 q) != some .eq) = false := by
  obtain ⟨n, rfl⟩ := Int.eq_ofNat_of_zero_le h0
  have key : ∀ n : Fin 101, (FloatKind.f32.format.order (floatOfInt .f32 (n.val : Int)) (floatOfInt .f32 (n.val : Int)) != some .eq) = false := by decide +kernel
  exact key ⟨n, by omega⟩

attribute [local go_sem] run_store_float

set_option maxHeartbeats 2000000 in
set_option maxRecDepth 100000 in
theorem markWellS_any (v : Value) (n : Nat) (ps : List Wl) (hps : ps.length = n) (m : Int) (h0 : 0 ≤ m) (h1 : m + 3 * n ≤ 100) (w : World) (B : Nat) (hrow : w.ownsRow B 41 3 v n (wlCells ps)) :
    Calls Tryz.prog 8 #[v, .int .i64 m] w fun e w' => e = .returned (.int .i64 (m + 3 * n)) ∧ w'.ownsRow B 41 3 v n (wlCells (marksW m n)) ∧ w.grownBy w' v.ownBlock := by
  by_cases hn : n = 0
  · subst hn
    obtain ⟨a, c, rfl⟩ := slice_of_rowN hrow
    have HR := Lib.hid hrow
    have hps0 : ps = [] := List.length_eq_zero_iff.1 hps
    clear hrow hps
    go_enter Tryz.func8, Tryz.ntmps8
    go_wp2_with fail
    refine wp_loop_rounds 1 ?_
    rw [rounds_succ]
    go_wp2_with fail
    go_ret
    refine ⟨by simp, ?_, World.grownBy.refl _ _⟩
    have := HR.out
    rw [hps0] at this
    simpa [marksW] using this
  · obtain ⟨g, c, rfl, hg1, hg2⟩ : ∃ g c, v = .slice (some ⟨g, 0, none⟩) n c ∧ B ≤ g ∧ g < w.heap.size := by
      rcases hrow.2 with ⟨_, h⟩ | ⟨g, cap, cur, rfl, hb, hg, _⟩
      · exact absurd h hn
      · exact ⟨g, cap, rfl, hb, (Array.getElem?_eq_some_iff.1 hg).1⟩
    have HR := Lib.hid hrow
    have HP := Lib.hid hps
    have hn0 : (n : Int) ≤ 100 := by omega
    clear hrow hps
    go_enter Tryz.func8, Tryz.ntmps8
    go_wp2_with fail
    go_loopw [1, 5] (fun t i wr => ∃ (k : Nat) (q : Int), k ≤ n ∧ i = .int .i64 k ∧ t = .int .i64 q ∧ Hid (q = m + 3 * k) ∧ (∃ xs : List Wl, Hid (xs.length = n) ∧ Hid (xs.take k = (marksW m n).take k) ∧ Hid (wr.ownsRow B 41 3 (.slice (some ⟨g, 0, none⟩) n c) n (wlCells xs)) ∧ Hid (w.grownBy wr (some g)))) (fun _ i _ => n - (intOf i).toNat)
    case atStart => exact ⟨0, m, Nat.zero_le _, rfl, rfl, by simp [Hid], ps, HP, by simp [Hid], HR, World.grownBy.refl _ _⟩
    case round =>
      obtain ⟨k, q, hk, rfl, rfl, HQ, xs, HL, HTK, HROW, HG⟩ := hrel
      clear HR HP
      by_cases hlt : k < n
      · have q0 : 0 ≤ q := by have := HQ.out; omega
        have q1 : q + 3 ≤ 100 := by have := HQ.out; omega
        have x1 := w8any q (by omega) (by omega)
        have x2 := w8any (q + 1) (by omega) (by omega)
        have x3 := int_num (q + 1 + 1) (by omega) (by omega)
        obtain ⟨p0, p1, p2⟩ := wlCells_get xs k (by rw [HL.out]; exact hlt)
        have e0 := (World.ownsRow.cellAt HROW.out (k * 3) (by omega)).trans p0
        have e1 := (World.ownsRow.cellAt HROW.out (k * 3 + 1) (by omega)).trans p1
        have e2 := (World.ownsRow.cellAt HROW.out (k * 3 + 2) (by omega)).trans p2
        have f0 := World.ownsRow.frozenAt HROW.out (k * 3)
        have f1 := World.ownsRow.frozenAt HROW.out (k * 3 + 1)
        have f2 := World.ownsRow.frozenAt HROW.out (k * 3 + 2)
        clear p0 p1 p2
        go_wp2_with fail
        obtain ⟨s1, t1⟩ := World.ownsRow.stored HROW.out (k * 3) (.int .i8 q)
        obtain ⟨s2, t2⟩ := World.ownsRow.stored s1 (k * 3 + 1) (.int .i8 (q + 1))
        obtain ⟨s3, t3⟩ := World.ownsRow.stored s2 (k * 3 + 2) (.float .f32 (floatOfInt .f32 (q + 1 + 1)))
        have hs := wlCells_set xs ⟨q, q + 1, floatOfInt .f32 (q + 1 + 1)⟩ k (by rw [HL.out]; exact hlt)
        simp only at hs
        rw [hs] at s3
        have hgr := grown_transW (grown_transW (grown_transW HG.out t1) t2) t3
        have hl2 : (xs.set k ⟨q, q + 1, floatOfInt .f32 (q + 1 + 1)⟩).length = n := by rw [List.length_set]; exact HL.out
        have ht2 : (xs.set k ⟨q, q + 1, floatOfInt .f32 (q + 1 + 1)⟩).take (k + 1) = (marksW m n).take (k + 1) := by
          rw [wset_take xs k _ (by rw [HL.out]; exact hlt), take_snocD default (marksW m n) k (by rw [marksW_len]; exact hlt), HTK.out, marksW_get m n k hlt, HQ.out]
          rw [show m + 3 * (k : Int) + 1 + 1 = m + 3 * (k : Int) + 2 by omega]
        clear x1 x2 x3 e0 e1 e2 f0 f1 f2 s1 s2 t1 t2 t3 hs
        go_roundw
        case rel => exact ⟨k + 1, q + 1 + 1 + 1, by omega, by go_num, rfl, (by have := HQ.out; show q + 1 + 1 + 1 = m + 3 * ((k + 1 : Nat) : Int); omega), _, hl2, ht2, s3, hgr⟩
        case measure => simp [intOf]; omega
      · go_wp2_with fail
        go_ret
        have hkn : k = n := by omega
        have hx : xs = marksW m n := by
          have := HTK.out
          rw [List.take_of_length_le (by rw [HL.out]; omega), List.take_of_length_le (by rw [marksW_len]; omega)] at this
          exact this
        refine ⟨by rw [HQ.out, hkn]; rfl, by rw [← hx]; exact HROW.out, HG.out⟩

set_option maxHeartbeats 2000000 in
set_option maxRecDepth 100000 in
theorem heldWellS_any (v : Value) (n : Nat) (m : Int) (h0 : 0 ≤ m) (h1 : m + 3 * n ≤ 100) (w : World) (B : Nat) (hrow : w.ownsRow B 41 3 v n (wlCells (marksW m n))) :
    Calls Tryz.prog 9 #[v, .int .i64 m] w fun e w' => e = .returned (.int .i64 (m + 3 * n)) ∧ w = w' := by
  by_cases hn : n = 0
  · subst hn
    obtain ⟨a, c, rfl⟩ := slice_of_rowN hrow
    clear hrow
    go_enter Tryz.func9, Tryz.ntmps9
    go_wp2_with fail
    refine wp_loop_rounds 1 ?_
    rw [rounds_succ]
    go_wp2_with fail
    go_ret
    exact ⟨by simp, rfl⟩
  · obtain ⟨g, c, rfl⟩ : ∃ g c, v = .slice (some ⟨g, 0, none⟩) n c := by
      rcases hrow.2 with ⟨_, h⟩ | ⟨g, cap, cur, rfl, hb, hg, _⟩
      · exact absurd h hn
      · exact ⟨g, cap, rfl⟩
    have HR := Lib.hid hrow
    have hn0 : (n : Int) ≤ 100 := by omega
    clear hrow
    go_enter Tryz.func9, Tryz.ntmps9
    go_wp2_with fail
    go_loop [1, 5] (fun t i => ∃ (k : Nat) (q : Int), k ≤ n ∧ i = .int .i64 k ∧ t = .int .i64 q ∧ Hid (q = m + 3 * k)) (fun _ i => n - (intOf i).toNat)
    case atStart => exact ⟨0, m, Nat.zero_le _, rfl, rfl, by simp [Hid]⟩
    case round =>
      obtain ⟨k, q, hk, rfl, rfl, HQ⟩ := hrel
      by_cases hlt : k < n
      · have q0 : 0 ≤ q := by have := HQ.out; omega
        have q1 : q + 3 ≤ 100 := by have := HQ.out; omega
        have x1 := w8any q (by omega) (by omega)
        have x2 := w8any (q + 1) (by omega) (by omega)
        have x3 := int_num (q + 1 + 1) (by omega) (by omega)
        obtain ⟨p0, p1, p2⟩ := wlCells_get (marksW m n) k (by rw [marksW_len]; exact hlt)
        rw [marksW_get m n k hlt] at p0 p1 p2
        simp only at p0 p1 p2
        rw [show m + 3 * (k : Int) = q from HQ.out.symm] at p0 p1 p2
        rw [show q + 2 = q + 1 + 1 by omega] at p2
        have e0 := (World.ownsRow.cellAt HR.out (k * 3) (by omega)).trans p0
        have e1 := (World.ownsRow.cellAt HR.out (k * 3 + 1) (by omega)).trans p1
        have e2 := (World.ownsRow.cellAt HR.out (k * 3 + 2) (by omega)).trans p2
        clear p0 p1 p2
        go_wp2_with fail
        go_round
        case rel => exact ⟨k + 1, q + 1 + 1 + 1, by omega, by go_num, rfl, (by have := HQ.out; show q + 1 + 1 + 1 = m + 3 * ((k + 1 : Nat) : Int); omega)⟩
        case measure => simp [intOf]; omega
      · go_wp2_with fail
        go_ret
        have hkn : k = n := by omega
        exact ⟨by rw [HQ.out, hkn]; rfl, rfl⟩
end Go.Proofs.YtgiimcdjojjbmaaGreatDoor
