/- internal/strconv.formatBits at base sixteen; strconv.FormatUint. -/
import Derived.Test.YtgiimcdjojjbmaaGreatDoorE0
import Derived.Test.YtgiimcdjojjbmaaGreatDoorB0
import Derived.Lib.LaidTab
import Derived.Laws.BitsLemmas
import Derived.Lib.EndianBits
namespace Go.Proofs.YtgiimcdjojjbmaaGreatDoor
open Go Go.RowKit

/-- The one place of the library's table of trailing zeros that sixteen leads to. -/
def Deb (w : World) : Prop := w.cell? ⟨8, 15, none⟩ = some (.int .u8 4) ∧ 8 < w.heap.size
theorem Deb.below {w w' : World} (h : Deb w) (hB : Below w.heap.size w w') : Deb w' := ⟨(hB.cell (p := ⟨8, 15, none⟩) h.2).trans h.1, Nat.lt_of_lt_of_le h.2 hB.size⟩

set_option maxHeartbeats 1000000 in
set_option maxRecDepth 100000 in
theorem trailing16 (w : World) (h : Deb w) : Calls Tryz.prog 127 #[.int .u64 16] w fun e w' => e = .returned (.int .i64 4) ∧ w = w' := by
  have hc := h.1
  have e1 : IntKind.u64.wrap (-16) = 18446744073709551600 := by decide
  have e2 : bits BinOp.and IntKind.u64 16 18446744073709551600 = 16 := by decide
  have e3 : IntKind.u64.wrap (16 * 285870213051353865) = 4573923408821661840 := by decide
  go_enter Tryz.func127, Tryz.ntmps127
  go_wp2
  go_ret
  exact ⟨rfl, rfl⟩

theorem isPow16 (w : World) : Calls Tryz.prog 126 #[.int .i64 16] w fun e w' => e = .returned (.bool true) ∧ w = w' := by
  have e2 : bits BinOp.and IntKind.i64 16 15 = 0 := by decide
  go_enter Tryz.func126, Tryz.ntmps126
  go_wp2
  go_ret
  exact ⟨rfl, rfl⟩

theorem digit36 : ∀ d : Fin 16, (({ data := #[48,49,50,51,52,53,54,55,56,57,97,98,99,100,101,102,103,104,105,106,107,108,109,110,111,112,113,114,115,116,117,118,119,120,121,122] } : ByteArray)[d.val]'(by have := d.isLt; show d.val < 36; omega)) = hexC d.val := by decide +kernel
theorem digit_at (d : Nat) (h : d < 16) (hb : d < ({ data := #[48,49,50,51,52,53,54,55,56,57,97,98,99,100,101,102,103,104,105,106,107,108,109,110,111,112,113,114,115,116,117,118,119,120,121,122] } : ByteArray).size) : ({ data := #[48,49,50,51,52,53,54,55,56,57,97,98,99,100,101,102,103,104,105,106,107,108,109,110,111,112,113,114,115,116,117,118,119,120,121,122] } : ByteArray)[d] = hexC d := digit36 ⟨d, h⟩

theorem drop_set_self {α : Type} (L : List α) (j : Nat) (x : α) (h : j < L.length) : (L.set j x).drop j = x :: L.drop (j + 1) := by
  rw [List.drop_eq_getElem_cons (by simpa using h), List.drop_set_of_lt (by omega)]
  simp

def u8v (c : UInt8) : Value := .int .u8 c.toNat
theorem zero65 : Tryz.zeroCells157 = ((List.replicate 65 (0 : UInt8)).map u8v).toArray := by kernel_rfl

theorem slice65 (g j : Nat) (h : j < 65) (w : World) : (Instr.sliceAt 157 (.pointer (some ⟨g, 0, none⟩)) (some (.int .i64 (j : Int))) none none).run Tryz.prog w = .ok (.slice (some ⟨g, j, none⟩) (65 - j) (65 - j)) w := by
  have hl : Tryz.prog.arrayLen 157 = 65 := by kernel_rfl
  have he : Tryz.prog.elem 157 = 5 := by kernel_rfl
  have hu : Tryz.prog.underlying 157 = some (.array (Tryz.prog.arrayLen 157) (Tryz.prog.elem 157)) := by rw [hl, he]; exact Tryz.underlying157
  rw [run_sliceAt_array_l w 157 ⟨g, 0, none⟩ hu .i64 j (by omega) (by rw [hl]; omega), hl, he]
  have hsz : (sizeOf 5).run Tryz.prog w = .ok 1 w := by simp [go_sem]
  rw [hsz]
  simp only [Result.andThen, slicedAt, Int.toNat_natCast, Nat.mul_one]
  rw [if_neg (by omega)]
  rw [show (⟨g, 0, none⟩ : Addr).add j = ⟨g, j, none⟩ from by unfold Addr.add; split <;> simp_all]

theorem conv_bytes (w : World) (g j : Nat) (l : List UInt8) (h : ∀ i, i < l.length → w.cell? ⟨g, j + i, none⟩ = (l[i]?).map u8v) (c : Nat) :
    (convert 90 9 (.slice (some ⟨g, j, none⟩) l.length c)).run Tryz.prog w = .ok (.string ⟨l.toArray⟩) w := by
  have := run_convert_bytes_back (P := Tryz.prog) w 90 9 5 ⟨g, j, none⟩ c l Tryz.underlying90 Tryz.underlying5 Tryz.underlying9 (by
    intro i hi
    have h1 := h i hi
    have : (⟨g, j, none⟩ : Addr).add i = ⟨g, j + i, none⟩ := by unfold Addr.add; split <;> simp_all
    rw [this, h1]
    simp [u8v, hi])
  exact this

set_option maxHeartbeats 1000000 in
set_option maxRecDepth 100000 in
theorem formatBits_hex (n : Nat) (w : World) (hn : n < 4294967296) (hD : Deb w) : Calls Tryz.prog 115 #[.slice none 0 0, .int .u64 n, .int .i64 16, .bool false, .bool false] w
    fun e w' => e = .returned (.tuple #[.slice none 0 0, .string ⟨(hexDigs n).toArray⟩]) ∧ Below w.heap.size w w' := by
  have HD := Lib.hid hD; clear hD
  have h0 : RowIs (w.alloc (.cells Tryz.zeroCells157 157)) w.heap.size 157 ((List.replicate 65 (0 : UInt8)).map u8v) := by rw [zero65]; exact heap_alloc_new w _
  have H0 := Lib.hid h0; clear h0
  have hB0 : Below w.heap.size w (w.alloc (.cells Tryz.zeroCells157 157)) := (Below.refl _ _).alloc (Nat.le_refl _) _
  have hl8 := hexDigs_len 7 n (by simpa using hn)
  go_enter Tryz.func115, Tryz.ntmps115
  go_wp2_with (first | (go_at_call 126; refine (isPow16 _).mono ?_; rintro e w1 ⟨rfl, rfl⟩) | (go_at_call 127; refine (trailing16 _ (HD.out.below hB0)).mono ?_; rintro e w2 ⟨rfl, rfl⟩))
  go_loopw [13, 1] (fun i u wr => ∃ (k m : Nat) (L : List UInt8), i = .int .i64 k ∧ u = .int .u64 m ∧ k ≤ 65 ∧ m ≤ n ∧ L.length = 65 ∧ Hid (hexDigs n = hexDigs m ++ L.drop k) ∧ Hid (RowIs wr w.heap.size 157 (L.map u8v)) ∧ Below w.heap.size w wr) (fun _ u _ => (intOf u).toNat)
  case atStart => exact ⟨65, n, List.replicate 65 0, rfl, rfl, by omega, by omega, by simp, by simp [Hid], H0, hB0⟩
  case round =>
    obtain ⟨k, m, L, rfl, rfl, hk, hm, hL, HX, HR, hB⟩ := hrel
    clear hB0 H0
    have hlen : (hexDigs m).length + (65 - k) ≤ 8 := by
      have := congrArg List.length HX.out
      simp [hL] at this
      omega
    by_cases hlt : m < 16
    · have hc : wr.cell? ⟨w.heap.size, k - 1, none⟩ = some (u8v (L.getD (k - 1) 0)) := by
        rw [HR.out.cell (k - 1), List.getElem?_map]
        have : k - 1 < L.length := by omega
        simp [List.getD, this]
      have hf := HR.out.frozen (k - 1)
      have hp := hexDigs_pos m
      have hset := HR.out.set (k - 1) (u8v (hexC m))
      rw [← List.map_set] at hset
      have hdr : (L.set (k - 1) (hexC m)).drop (k - 1) = hexC m :: L.drop k := by
        rw [drop_set_self L (k - 1) _ (by omega), show k - 1 + 1 = k from by omega]
      have hX2 : hexDigs n = (L.set (k - 1) (hexC m)).drop (k - 1) := by
        rw [hdr, HX.out, hexDigs_small hlt]; simp
      have hB2 := hB.setCell (p := ⟨w.heap.size, k - 1, none⟩) (Nat.le_refl _) (u8v (hexC m))
      have hl2 : (hexDigs n).length = 65 - (k - 1) := by rw [hX2]; simp [hL]
      have hcv := conv_bytes _ w.heap.size (k - 1) (hexDigs n) (fun i hi => by
        rw [hset.cell (k - 1 + i), List.getElem?_map, hX2, List.getElem?_drop]) (65 - (k - 1))
      rw [hl2] at hcv
      have hsl := slice65 w.heap.size (k - 1) (by omega)
      rw [show ((k - 1 : Nat) : Int) = (k : Int) - 1 from by omega] at hsl
      have hdg := fun hb => digit_at m hlt hb
      unfold u8v at hcv hB2 hc
      clear hset hdr hX2 HX HR hl2 HD
      go_wp2_with fail
      go_ret2
      exact ⟨rfl, hB2⟩
    · have h2 := hexDigs_two hlt
      obtain ⟨d, hd⟩ : ∃ d : Nat, d = m % 16 := ⟨_, rfl⟩
      have hd16 : d < 16 := by omega
      have eA : bits .and .u64 (m : Int) 15 = (d : Int) := by
        have h := bits_mask .u64 63 (by decide) (fun n h0 h1 => by rw [IntKind.wrap_u64]; omega) 4 (by decide) (m : Int) (by omega) (by omega)
        have e : ((2 : Int) ^ 4 - 1) = 15 := by decide
        have e2 : ((2 : Int) ^ 4) = 16 := by decide
        rw [e, e2] at h
        rw [h]; omega
      have HDd := Lib.hid hd; clear hd
      have hc : wr.cell? ⟨w.heap.size, k - 1, none⟩ = some (u8v (L.getD (k - 1) 0)) := by
        rw [HR.out.cell (k - 1), List.getElem?_map]
        have : k - 1 < L.length := by omega
        simp [List.getD, this]
      have hf := HR.out.frozen (k - 1)
      go_wp2_with fail
      clear hc hf
      have hset := HR.out.set (k - 1) (u8v (hexC d))
      rw [← List.map_set] at hset
      have hdr : (L.set (k - 1) (hexC d)).drop (k - 1) = hexC d :: L.drop k := by
        rw [drop_set_self L (k - 1) _ (by omega), show k - 1 + 1 = k from by omega]
      have hX2 : hexDigs n = hexDigs (m / 16) ++ (L.set (k - 1) (hexC d)).drop (k - 1) := by
        rw [hdr, HX.out, hexDigs_big hlt, HDd.out]; simp
      have hB2 := hB.setCell (p := ⟨w.heap.size, k - 1, none⟩) (Nat.le_refl _) (u8v (hexC d))
      simp only [digit_at d hd16]
      go_roundw
      case rel => exact ⟨k - 1, m / 16, L.set (k - 1) (hexC d), by simp only [Value.int.injEq, true_and]; omega, by go_num, by omega, by omega, by simp [hL], hX2, hset, hB2⟩
      case measure => simp [intOf]; omega
end Go.Proofs.YtgiimcdjojjbmaaGreatDoor
