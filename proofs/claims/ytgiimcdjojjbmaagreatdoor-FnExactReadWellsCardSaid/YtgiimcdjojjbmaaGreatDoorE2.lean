/- strconv.FormatUint at base sixteen; impl.NumberText. -/
import Derived.Test.YtgiimcdjojjbmaaGreatDoorE1
import Derived.Test.YtgiimcdjojjbmaaGreatDoorShelf
import Derived.Laws.Strings
namespace Go.Proofs.YtgiimcdjojjbmaaGreatDoor
open Go Go.RowKit

set_option maxRecDepth 100000 in
theorem formatUint_in (n : Nat) (w : World) (hn : n < 4294967296) (hD : Deb w) : Calls Tryz.prog 94 #[.int .u64 n, .int .i64 16] w
    fun e w' => e = .returned (.string ⟨(hexDigs n).toArray⟩) ∧ Below w.heap.size w w' := by
  have HC := Lib.hid (formatBits_hex n w hn hD); clear hD
  go_enter Tryz.func94, Tryz.ntmps94
  go_wp2_with (go_at_call 115; refine HC.out.mono ?_; rintro e w1 ⟨rfl, hB⟩)
  go_ret
  exact ⟨rfl, hB⟩

set_option maxRecDepth 100000 in
theorem formatUint_any (n : Nat) (w : World) (hn : n < 4294967296) (hD : Deb w) : Calls Tryz.prog 68 #[.int .u64 n, .int .i64 16] w
    fun e w' => e = .returned (.string ⟨(hexDigs n).toArray⟩) ∧ Below w.heap.size w w' := by
  have HC := Lib.hid (formatUint_in n w hn hD); clear hD
  go_enter Tryz.func68, Tryz.ntmps68
  go_wp2_with (go_at_call 94; refine HC.out.mono ?_; rintro e w1 ⟨rfl, hB⟩)
  go_ret
  exact ⟨rfl, hB⟩

theorem repeatL_one (c : UInt8) (k : Nat) : Lib.repeatL [c] k = List.replicate k c := by
  induction k with
  | zero => rfl
  | succ k ih => rw [List.replicate_succ, ← ih]; rfl

theorem canonText : hexText 2143289344 = ⟨#[55, 102, 99, 48, 48, 48, 48, 48]⟩ := by
  symm
  refine hexRead_text ?_
  decide

set_option maxHeartbeats 1000000 in
set_option maxRecDepth 100000 in
/-- impl.NumberText: the text of the one pattern. -/
theorem numberText_any (b : Nat) (w : World) (hb : b < 4294967296) (hD : Deb w) : Calls Tryz.prog 42 #[.float .f32 b] w
    fun e w' => e = .returned (.string (hexText (canon b))) ∧ Below w.heap.size w w' := by
  have HN : Calls Tryz.prog 67 #[.float .f32 b] w fun e w' => e = .returned (.bool (nanOf .f32 b)) ∧ w = w' := by
    unfold nanOf
    go_enter Tryz.func67, Tryz.ntmps67
    go_wp2
    go_ret
    exact ⟨rfl, rfl⟩
  have HC := Lib.hid (formatUint_any b w hb hD)
  have hl8 := hexDigs_len 7 b (by simpa using hb)
  have hp := hexDigs_pos b
  unfold canon
  cases hn : nanOf .f32 b
  · rw [hn] at HN
    rw [if_neg (by decide)]
    have H2 := Lib.hid HN; clear HN hn hD
    obtain ⟨k, hk⟩ : ∃ k, k = 8 - (hexDigs b).length := ⟨_, rfl⟩
    have hR := fun w => Tryz.strings_Repeat ⟨#[48]⟩ k w (by omega) (by show 1 * k ≤ _; omega)
    rw [show Lib.repeatL (⟨#[48]⟩ : ByteArray).data.toList k = List.replicate k 48 from repeatL_one 48 k] at hR
    have hsum : ({ data := Array.replicate k 48 } : ByteArray) ++ { data := (hexDigs b).toArray } = hexText b := by
      unfold hexText
      rw [← hk]
      apply ByteArray.ext; simp
    have HS := Lib.hid hsum; clear hsum
    have hlen : (⟨(hexDigs b).toArray⟩ : ByteArray).size = 8 - k := by show (hexDigs b).toArray.size = _; simp; omega
    have hk8 : k ≤ 7 := by omega
    have HR := Lib.hid hR; clear hR hk hl8 hp
    go_enter Tryz.func42, Tryz.ntmps42
    go_wp2_with (first | (go_at_call 67; refine H2.out.mono ?_; rintro e w1 ⟨rfl, rfl⟩) | (go_at_call 68; refine HC.out.mono ?_; rintro e w2 ⟨rfl, hB⟩))
    rw [show (8 : Int) - ↑(8 - k) = (k : Int) from by omega]
    refine (HR.out _).mono ?_
    rintro e w3 ⟨rfl, hB3⟩
    go_wp2_with fail
    go_ret
    exact ⟨by rw [← HS.out]; rfl, hB.trans (hB3.mono hB.size)⟩
  · rw [hn] at HN
    rw [if_pos rfl, canonText]
    have H2 := Lib.hid HN; clear HN HC hD
    go_enter Tryz.func42, Tryz.ntmps42
    go_wp2_with (go_at_call 67; refine H2.out.mono ?_; rintro e w1 ⟨rfl, rfl⟩)
    go_ret
    exact ⟨rfl, Below.refl _ _⟩

/-! ParseUint at base sixteen and 32 bits. -/
theorem lower_any (c : Int) (w : World) : Calls Tryz.prog 88 #[.int .u8 c] w fun e w' => e = .returned (.int .u8 (bits .or .u8 c 32)) ∧ w = w' := by
  go_enter Tryz.func88, Tryz.ntmps88
  go_wp2
  go_ret
  exact ⟨rfl, rfl⟩
end Go.Proofs.YtgiimcdjojjbmaaGreatDoor
