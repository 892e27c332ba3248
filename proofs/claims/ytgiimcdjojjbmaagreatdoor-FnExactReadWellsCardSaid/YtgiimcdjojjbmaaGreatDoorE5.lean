/- impl.ReadWave; the law ReadWave: the walk. -/
import Derived.Test.YtgiimcdjojjbmaaGreatDoorE4
namespace Go.Proofs.YtgiimcdjojjbmaaGreatDoor
open Go Go.RowKit

/-- The library's variable of the greatest length for a fast search: it holds some number. -/
def MaxAt (w : World) : Prop := (∃ m, w.cell? ⟨1, 0, none⟩ = some (.int .i64 m)) ∧ 1 < w.heap.size
theorem MaxAt.below {w w' : World} (h : MaxAt w) (hB : Below w.heap.size w w') : MaxAt w' := by
  obtain ⟨⟨m, h1⟩, h2⟩ := h
  exact ⟨⟨m, (hB.cell (p := ⟨1, 0, none⟩) h2).trans h1⟩, Nat.lt_of_lt_of_le h2 hB.size⟩

theorem below_drewN (w : World) : ∀ n, Below w.heap.size w (w.drewN n)
  | 0 => Below.refl _ _
  | n + 1 => ⟨rfl, rfl, rfl, Nat.le_refl _, fun _ _ => rfl⟩

theorem cut_any (t : ByteArray) (w : World) (hs : t.size ≤ 1048576) (hM : MaxAt w) : Calls Tryz.prog 28 #[.string t, .string ⟨#[32]⟩] w
    fun e w' => (∃ f, e = .returned (.tuple #[.string (cutA t), .string (cutB t), .bool f])) ∧ Below w.heap.size w w' := by
  obtain ⟨⟨m, hm⟩, _⟩ := hM
  refine (Tryz.strings_Cut t ⟨#[32]⟩ m w (by omega) hm).mono ?_
  rintro e w' ⟨rfl, n, rfl⟩
  exact ⟨⟨_, rfl⟩, below_drewN w n⟩

theorem cutA_size (t : ByteArray) : (cutA t).size ≤ t.size := by
  show (Lib.cut t.data.toList [32]).1.toArray.size ≤ t.size
  unfold Lib.cut
  split
  · simp; omega
  · simp
theorem cutB_size (t : ByteArray) : (cutB t).size ≤ t.size := by
  show (Lib.cut t.data.toList [32]).2.1.toArray.size ≤ t.size
  unfold Lib.cut
  split
  · simp
  · simp

set_option maxHeartbeats 1000000 in
set_option maxRecDepth 100000 in
theorem sameFloat_nan (r s : Nat) (w : World) (h1 : nanOf .f64 r = true) (h2 : nanOf .f64 s = true) : Calls Tryz.prog 50 #[.float .f64 r, .float .f64 s] w
    fun e w' => e = .returned (.bool true) ∧ w = w' := by
  unfold nanOf at h1 h2
  go_enter Tryz.func50, Tryz.ntmps50
  go_wp2
  go_ret
  exact ⟨rfl, rfl⟩

set_option maxHeartbeats 1000000 in
set_option maxRecDepth 100000 in
theorem sameFloat_eq (r : Nat) (w : World) (h1 : nanOf .f64 r = false) : Calls Tryz.prog 50 #[.float .f64 r, .float .f64 r] w
    fun e w' => e = .returned (.bool true) ∧ w = w' := by
  have h2 : (FloatKind.f64.format.order r r == some .eq) = true := by
    unfold nanOf at h1
    simpa using h1
  unfold nanOf at h1
  by_cases hz : FloatKind.f64.format.order r 0 = some .eq
  · obtain ⟨q, hq⟩ := inv_zero r hz
    have hdiv := fun (t : TypeId) (w : World) => run_float_arith (P := Tryz.prog) w .quo t .f64 _ _ _ hq
    have hz2 : (FloatKind.f64.format.order r 0 == some .eq) = true := by rw [hz]; rfl
    clear hz hq
    go_enter Tryz.func50, Tryz.ntmps50
    go_wp2
    go_ret
    simp
  · have hz2 : (FloatKind.f64.format.order r 0 == some .eq) = false := by
      rw [beq_eq_false_iff_ne]; exact hz
    clear hz
    go_enter Tryz.func50, Tryz.ntmps50
    go_wp2
    go_ret
    simp

theorem sameFloat_wide (b r s : Nat) (w : World) (hr : wideOf b r) (hs : wideOf b s) : Calls Tryz.prog 50 #[.float .f64 r, .float .f64 s] w
    fun e w' => e = .returned (.bool true) ∧ w = w' := by
  rcases hr with ⟨h1, h2⟩ | ⟨h1, h2⟩ <;> rcases hs with ⟨h3, h4⟩ | ⟨h3, h4⟩
  · exact sameFloat_nan r s w h2 h4
  · rw [h1] at h3; cases h3
  · rw [h1] at h3; cases h3
  · obtain rfl : r = s := Option.some.inj (h2.symm.trans h4)
    cases hn : nanOf .f64 r
    · exact sameFloat_eq r w hn
    · exact sameFloat_nan r r w hn hn

end Go.Proofs.YtgiimcdjojjbmaaGreatDoor
