/- impl.ReadWave; the law ReadWave: the walk. -/
import Derived.Test.YtgiimcdjojjbmaaDoorE4
namespace Go.Proofs.YtgiimcdjojjbmaaDoor
open Go Go.RowKit

/-- The library's variable of the greatest length for a fast search: it holds some number. -/
def MaxAt (w : World) : Prop := (∃ m, w.cell? ⟨1, 0, none⟩ = some (.int .i64 m)) ∧ 1 < w.heap.size
theorem MaxAt.below {w w' : World} (h : MaxAt w) (hB : Below w.heap.size w w') : MaxAt w' := by
  obtain ⟨⟨m, h1⟩, h2⟩ := h
  exact ⟨⟨m, (hB.cell (p := ⟨1, 0, none⟩) h2).trans h1⟩, Nat.lt_of_lt_of_le h2 hB.size⟩

theorem below_drewN (w : World) : ∀ n, Below w.heap.size w (w.drewN n)
  | 0 => Below.refl _ _
  | n + 1 => ⟨rfl, rfl, rfl, Nat.le_refl _, fun _ _ => rfl⟩

theorem cut_any (t : ByteArray) (w : World) (hs : t.size ≤ 1048576) (hM : MaxAt w) : Calls Tryd.prog 35 #[.string t, .string ⟨#[32]⟩] w
    fun e w' => (∃ f, e = .returned (.tuple #[.string (cutA t), .string (cutB t), .bool f])) ∧ Below w.heap.size w w' := by
  obtain ⟨⟨m, hm⟩, _⟩ := hM
  refine (Tryd.strings_Cut t ⟨#[32]⟩ m w (by omega) hm).mono ?_
  rintro e w' ⟨rfl, n, rfl⟩
  exact ⟨⟨_, rfl⟩, below_drewN w n⟩

theorem cutA_size (t : ByteArray) : (cutA t).size ≤ t.size := by
  show (Lib.cut t.data.toList [32]).1.toArray.size ≤ t.size
  unfold Lib.cut
  split
  · simp; omega
  · simp
theorem cutB_size (t : ByteArray) : (cutB t).size ≤ t.size := by
  show (Lib.cut t.data.toList [32]).2.1.toArray.size ≤ t.size
  unfold Lib.cut
  split
  · simp
  · simp

set_option maxHeartbeats 1000000 in
set_option maxRecDepth 100000 in
theorem implReadWave_any (t : ByteArray) (w : World) (hs : t.size ≤ 1048576) (hE : Errs w) (hD : Deb w) (hM : MaxAt w) : Calls Tryd.prog 13 #[.string t] w
    fun e w' => e = .returned (.tuple #[.complex .f32 (waveOut (cutA t) (cutB t)).1 (waveOut (cutA t) (cutB t)).2.1, .int .i64 (waveOut (cutA t) (cutB t)).2.2]) ∧ Below w.heap.size w w' := by
  obtain ⟨W, hW⟩ : ∃ W, W = waveOut (cutA t) (cutB t) := ⟨_, rfl⟩
  rw [← hW]
  have HW := Lib.hid hW
  clear hW
  have hp := Nat.le_trans (cutA_size t) hs
  have hq := Nat.le_trans (cutB_size t) hs
  obtain ⟨p, hpa⟩ : ∃ p, p = cutA t := ⟨_, rfl⟩
  obtain ⟨q, hqa⟩ : ∃ q, q = cutB t := ⟨_, rfl⟩
  have HCUT := Lib.hid (cut_any t w hs hM)
  rw [← hpa] at hp HW HCUT
  rw [← hqa] at hq HW HCUT
  have HE := Lib.hid hE
  have HD := Lib.hid hD
  clear hE hD hM hpa hqa
  go_enter Tryd.func13, Tryd.ntmps13
  go_wp2_with fail
  refine HCUT.out.mono ?_
  rintro e w1 ⟨⟨f, rfl⟩, hB1⟩
  rcases numOut_code p with ⟨n1, o1⟩ | ⟨x, n1, o1⟩ <;> rcases numOut_code q with ⟨n2, o2⟩ | ⟨y, n2, o2⟩
  all_goals
    have N1 := Lib.hid n1
    have N2 := Lib.hid n2
    have O1 := Lib.hid o1
    have O2 := Lib.hid o2
    clear n1 n2 o1 o2
    go_wp2_with fail
    refine (readNumber_any p w1 hp (HE.out.below hB1) (HD.out.below hB1)).mono ?_
    rw [O1.out]
    rintro e w2 ⟨rfl, hB2⟩
    have hb2 := hB1.trans (hB2.mono hB1.size)
    go_wp2_with fail
    refine (readNumber_any q w2 hq (HE.out.below hb2) (HD.out.below hb2)).mono ?_
    rw [O2.out]
    rintro e w3 ⟨rfl, hB3⟩
    have hb3 := hb2.trans (hB3.mono hb2.size)
    go_wp2_with fail
    go_ret2
    refine ⟨?_, hb3⟩
    rw [HW.out]
    unfold waveOut
    rw [N1.out, N2.out]
    rfl

set_option maxHeartbeats 1000000 in
set_option maxRecDepth 100000 in
theorem sameFloat_nan (r s : Nat) (w : World) (h1 : nanOf .f64 r = true) (h2 : nanOf .f64 s = true) : Calls Tryd.prog 37 #[.float .f64 r, .float .f64 s] w
    fun e w' => e = .returned (.bool true) ∧ w = w' := by
  unfold nanOf at h1 h2
  go_enter Tryd.func37, Tryd.ntmps37
  go_wp2
  go_ret
  exact ⟨rfl, rfl⟩

set_option maxHeartbeats 1000000 in
set_option maxRecDepth 100000 in
theorem sameFloat_eq (r : Nat) (w : World) (h1 : nanOf .f64 r = false) : Calls Tryd.prog 37 #[.float .f64 r, .float .f64 r] w
    fun e w' => e = .returned (.bool true) ∧ w = w' := by
  have h2 : (FloatKind.f64.format.order r r == some .eq) = true := by
    unfold nanOf at h1
    simpa using h1
  unfold nanOf at h1
  by_cases hz : FloatKind.f64.format.order r 0 = some .eq
  · obtain ⟨q, hq⟩ := inv_zero r hz
    have hdiv := fun (t : TypeId) (w : World) => run_float_arith (P := Tryd.prog) w .quo t .f64 _ _ _ hq
    have hz2 : (FloatKind.f64.format.order r 0 == some .eq) = true := by rw [hz]; rfl
    clear hz hq
    go_enter Tryd.func37, Tryd.ntmps37
    go_wp2
    go_ret
    simp
  · have hz2 : (FloatKind.f64.format.order r 0 == some .eq) = false := by
      rw [beq_eq_false_iff_ne]; exact hz
    clear hz
    go_enter Tryd.func37, Tryd.ntmps37
    go_wp2
    go_ret
    simp

theorem sameFloat_wide (b r s : Nat) (w : World) (hr : wideOf b r) (hs : wideOf b s) : Calls Tryd.prog 37 #[.float .f64 r, .float .f64 s] w
    fun e w' => e = .returned (.bool true) ∧ w = w' := by
  rcases hr with ⟨h1, h2⟩ | ⟨h1, h2⟩ <;> rcases hs with ⟨h3, h4⟩ | ⟨h3, h4⟩
  · exact sameFloat_nan r s w h2 h4
  · rw [h1] at h3; cases h3
  · rw [h1] at h3; cases h3
  · obtain rfl : r = s := Option.some.inj (h2.symm.trans h4)
    cases hn : nanOf .f64 r
    · exact sameFloat_eq r w hn
    · exact sameFloat_nan r r w hn hn

set_option maxRecDepth 100000 in
theorem sameComplex_wide (a b r1 r2 s1 s2 : Nat) (w : World) (h1 : wideOf a r1) (h2 : wideOf b r2) (h3 : wideOf a s1) (h4 : wideOf b s2) :
    Calls Tryd.prog 14 #[.complex .f64 r1 r2, .complex .f64 s1 s2] w fun e w' => e = .returned (.bool true) ∧ w = w' := by
  have H1 := Lib.hid (fun w => sameFloat_wide a r1 s1 w h1 h3)
  have H2 := Lib.hid (fun w => sameFloat_wide b r2 s2 w h2 h4)
  clear h1 h2 h3 h4
  go_enter Tryd.func14, Tryd.ntmps14
  go_wp2_with fail
  refine (H1.out _).mono ?_
  rintro e w1 ⟨rfl, rfl⟩
  go_wp2_with fail
  refine (H2.out _).mono ?_
  rintro e w1 ⟨rfl, rfl⟩
  go_wp2_with fail
  go_ret
  exact ⟨rfl, rfl⟩

theorem conv_wide (a b : Nat) (w : World) : ∃ r s w', (convert 30 34 (.complex .f32 a b)).run Tryd.prog w = .ok (.complex .f64 r s) w' ∧ Below w.heap.size w w' ∧ wideOf a r ∧ wideOf b s := by
  obtain ⟨r, w1, h1, hw1, hr⟩ := run_wide Tryd.prog a w
  obtain ⟨s, w2, h2, hw2, hs⟩ := run_wide Tryd.prog b w1
  have hB1 : Below w.heap.size w w1 := by rcases hw1 with rfl | rfl; exact Below.refl _ _; exact (Below.refl _ _).drew
  have hB2 : Below w1.heap.size w1 w2 := by rcases hw2 with rfl | rfl; exact Below.refl _ _; exact (Below.refl _ _).drew
  refine ⟨r, s, w2, ?_, hB1.trans (hB2.mono hB1.size), hr, hs⟩
  simp [convert, run_underlying Tryd.underlying30, run_underlying Tryd.underlying34, Conv.complexToComplex, h1, h2]

set_option maxHeartbeats 1000000 in
set_option maxRecDepth 100000 in
theorem law_readWave (t : ByteArray) (w : World) (hE : Errs w) (hD : Deb w) (hM : MaxAt w) (h63 : t.size ≤ 9223372036854775807) : Calls Tryd.prog 4 #[.string t] w
    fun e w' => e = .returned (.bool true) ∧ Below w.heap.size w w' := by
  by_cases hbig : 1048576 < t.size
  · clear hE hD hM
    go_enter Tryd.func4, Tryd.ntmps4
    go_wp2_with fail
    go_ret
    exact ⟨rfl, Below.refl _ _⟩
  · have hs : t.size ≤ 1048576 := by omega
    obtain ⟨W, hW⟩ : ∃ W, W = waveOut (cutA t) (cutB t) := ⟨_, rfl⟩
    have HS := Lib.hid (fun w => specReadWave_any t w hs)
    have HI := Lib.hid (fun w => implReadWave_any t w hs)
    rw [← hW] at HS HI
    obtain ⟨x, y, c⟩ := W
    have HE := Lib.hid hE
    have HD := Lib.hid hD
    have HM := Lib.hid hM
    clear hE hD hM hW
    go_enter Tryd.func4, Tryd.ntmps4
    go_wp2_with fail
    refine (HS.out _).mono ?_
    rintro e w1 ⟨rfl, hB1⟩
    go_wp2_with fail
    refine (HI.out _ (HE.out.below hB1) (HD.out.below hB1) (HM.out.below hB1)).mono ?_
    rintro e w2 ⟨rfl, hB2⟩
    have hb2 := hB1.trans (hB2.mono hB1.size)
    obtain ⟨r1, r2, w3, hc1, hB3, hr1, hr2⟩ := conv_wide x y w2
    obtain ⟨s1, s2, w4, hc2, hB4, hs1, hs2⟩ := conv_wide x y w3
    have hb4 := (hb2.trans (hB3.mono hb2.size)).trans (hB4.mono (Nat.le_trans hb2.size hB3.size))
    have HC := Lib.hid (sameComplex_wide x y r1 r2 s1 s2 w4 hr1 hr2 hs1 hs2)
    clear hr1 hr2 hs1 hs2 HS HI
    go_wp2_with fail
    refine HC.out.mono ?_
    rintro e w5 ⟨rfl, rfl⟩
    clear HC
    go_wp2_with fail
    go_ret
    exact ⟨rfl, hb4⟩
end Go.Proofs.YtgiimcdjojjbmaaDoor
