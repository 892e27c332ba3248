/- The text of a number in single precision: eight digits of base sixteen; spec.l01Read, spec.ReadNumber. -/
import Derived.Test.YtgiimcdjojjbmaaGreatDoorD0
import Derived.Laws.Externs
import Derived.Laws.BytesString
namespace Go.Proofs.YtgiimcdjojjbmaaGreatDoor
open Go Go.RowKit

/-- The value of a digit of base sixteen. -/
def hexD (c : UInt8) : Option Nat :=
  if 48 ≤ c.toNat ∧ c.toNat ≤ 57 then some (c.toNat - 48) else if 97 ≤ c.toNat ∧ c.toNat ≤ 102 then some (c.toNat - 87) else none

theorem hexD_lt {c : UInt8} {d : Nat} (h : hexD c = some d) : d < 16 := by
  unfold hexD at h
  split at h
  · cases h; omega
  · split at h
    · cases h; omega
    · cases h

/-- The value of digits behind a number. -/
def hexVal : List UInt8 → Nat → Option Nat
  | [], n => some n
  | c :: r, n => (hexD c).bind fun d => hexVal r (n * 16 + d)

theorem hexVal_append (a b : List UInt8) (n : Nat) : hexVal (a ++ b) n = (hexVal a n).bind (hexVal b) := by
  induction a generalizing n with
  | nil => rfl
  | cons c r ih =>
    simp only [List.cons_append, hexVal]
    cases hexD c with
    | none => rfl
    | some d => simp [ih]

theorem hexVal_lt (a : List UInt8) (n v : Nat) (h : hexVal a n = some v) : v < (n + 1) * 16 ^ a.length := by
  induction a generalizing n with
  | nil => simp only [hexVal, Option.some.injEq] at h; simp; omega
  | cons c r ih =>
    simp only [hexVal] at h
    cases hd : hexD c with
    | none => rw [hd] at h; cases h
    | some d =>
      rw [hd] at h
      have h1 := ih _ h
      have h2 := hexD_lt hd
      have h3 : n * 16 + d + 1 ≤ (n + 1) * 16 := by omega
      calc v < (n * 16 + d + 1) * 16 ^ r.length := h1
        _ ≤ ((n + 1) * 16) * 16 ^ r.length := Nat.mul_le_mul_right _ h3
        _ = (n + 1) * 16 ^ (c :: r).length := by rw [List.length_cons, Nat.pow_succ, Nat.mul_assoc, Nat.mul_comm 16]

theorem hexVal_take (l : List UInt8) (k : Nat) (hk : k < l.length) : hexVal (l.take (k + 1)) 0 = (hexVal (l.take k) 0).bind fun n => (hexD l[k]).bind fun d => some (n * 16 + d) := by
  rw [List.take_succ_eq_append_getElem hk, hexVal_append]
  rfl

theorem hexVal_none (l : List UInt8) (k : Nat) (h : hexVal (l.take k) 0 = none) : hexVal l 0 = none := by
  rw [← List.take_append_drop k l, hexVal_append, h]; rfl

/-- The number with a text of eight digits. -/
def hexRead (t : ByteArray) : Option Nat := if t.size = 8 then hexVal t.data.toList 0 else none
/-- The number with a text, where it is that of its own text. -/
def numRead (t : ByteArray) : Option Nat := (hexRead t).bind fun b => if canon b = b then some b else none

theorem hexRead_lt {t : ByteArray} {b : Nat} (h : hexRead t = some b) : b < 4294967296 := by
  unfold hexRead at h
  split at h
  · rename_i hs
    have := hexVal_lt _ _ _ h
    have hl : t.data.toList.length = 8 := by simpa using hs
    rw [hl] at this
    simpa using this
  · cases h
theorem numRead_hex {t : ByteArray} {b : Nat} (h : numRead t = some b) : hexRead t = some b ∧ canon b = b := by
  unfold numRead at h
  cases hh : hexRead t with
  | none => rw [hh] at h; cases h
  | some x =>
    rw [hh] at h
    simp only [Option.bind_some] at h
    split at h
    · rename_i hc; cases h; exact ⟨rfl, hc⟩
    · cases h

@[go_sem] theorem run_bits32 (b : Nat) (w : World) : (callFunc 69 #[.float .f32 b]).run Tryz.prog w = .ok (.value (.int .u32 b)) w := by
  rw [run_callFunc_extern (e := Extern.MathFloatBits.float32bits) Tryz.func69 (by kernel_rfl) (by kernel_rfl) (by kernel_rfl) (by kernel_rfl)]; rfl
@[go_sem] theorem run_from32 (n : Int) (w : World) : (callFunc 41 #[.int .u32 n]).run Tryz.prog w = .ok (.value (.float .f32 n.toNat)) w := by
  rw [run_callFunc_extern (e := Extern.MathFloatBits.float32frombits) Tryz.func41 (by kernel_rfl) (by kernel_rfl) (by kernel_rfl) (by kernel_rfl)]; rfl

set_option maxRecDepth 100000 in
theorem l01Bits_any (b : Nat) (w : World) : Calls Tryz.prog 51 #[.float .f32 b] w fun e w' => e = .returned (.int .u32 (canon b)) ∧ w = w' := by
  unfold canon nanOf
  cases h : (FloatKind.f32.format.order b b != some .eq)
  all_goals
    go_enter Tryz.func51, Tryz.ntmps51
    go_wp2
    go_ret
    exact ⟨rfl, rfl⟩

theorem size_toList (t : ByteArray) : t.data.toList.length = t.size := by simp

set_option maxHeartbeats 2000000 in
set_option maxRecDepth 100000 in
/-- spec.l01Read at eight bytes. -/
theorem l01Read_eight (t : ByteArray) (w : World) (hs : t.size = 8) : Calls Tryz.prog 25 #[.string t] w
    fun e w' => (∃ b, e = .returned (.tuple #[.float .f32 b, .bool (numRead t).isSome]) ∧ ∀ b', numRead t = some b' → b = b') ∧ w = w' := by
  have hlen : t.data.toList.length = 8 := by rw [size_toList, hs]
  have hget : ∀ k : Nat, (hk : k < 8) → t.get! k = t.data.toList[k]'(by omega) := fun k hk => by simp [ByteArray.get!]; rw [getElem!_pos _ _ (by show k < t.data.size; rw [show t.data.size = t.size from rfl, hs]; exact hk)]
  have hR : hexRead t = hexVal t.data.toList 0 := by unfold hexRead; rw [if_pos hs]
  have HN : ∀ k, hexVal (t.data.toList.take k) 0 = none → numRead t = none := fun k h => by unfold numRead; rw [hR, hexVal_none _ k h]; rfl
  go_enter Tryz.func25, Tryz.ntmps25
  go_wp2
  go_loopw [5, 4] (fun i n wr => ∃ k m : Nat, k ≤ 8 ∧ i = .int .i64 k ∧ n = .int .u32 m ∧ hexVal (t.data.toList.take k) 0 = some m ∧ wr = w) (fun i _ _ => 8 - (intOf i).toNat)
  case atStart => exact ⟨0, 0, by omega, rfl, rfl, rfl, rfl⟩
  case round =>
    obtain ⟨k, m, hk, rfl, rfl, hm, rfl⟩ := hrel
    have hm28 : m < 268435456 ∨ k = 8 := by
      by_cases h8 : k = 8
      · exact .inr h8
      · have := hexVal_lt _ _ _ hm
        have h7 : (t.data.toList.take k).length ≤ 7 := by simp; omega
        have := Nat.pow_le_pow_right (show 0 < 16 by omega) h7
        exact .inl (by omega)
    by_cases hlt : k < 8
    · obtain ⟨c, hc⟩ : ∃ c, c = t[k]'(by omega) := ⟨_, rfl⟩
      have hcl : t.data.toList[k]'(by omega) = c := by rw [hc]; rfl
      have hT := hexVal_take t.data.toList k (by omega)
      rw [hm, hcl] at hT
      simp only [Option.bind_some] at hT
      have D1 : 48 ≤ (c.toNat : Int) → (c.toNat : Int) ≤ 57 → hexD c = some (c.toNat - 48) := fun h1 h2 => by unfold hexD; rw [if_pos (by omega)]
      have D2 : 97 ≤ (c.toNat : Int) → (c.toNat : Int) ≤ 102 → hexD c = some (c.toNat - 87) := fun h1 h2 => by unfold hexD; rw [if_neg (by omega), if_pos (by omega)]
      have D3 : ¬ (48 ≤ (c.toNat : Int) ∧ (c.toNat : Int) ≤ 57) → ¬ (97 ≤ (c.toNat : Int) ∧ (c.toNat : Int) ≤ 102) → hexD c = none := fun h1 h2 => by unfold hexD; rw [if_neg (by omega), if_neg (by omega)]
      go_wp2
      all_goals simp only [← hc] at *
      all_goals first
        | (go_ret2
           refine ⟨⟨_, by rw [HN (k + 1) (by rw [hT, D3 (by omega) (by omega)]; rfl)]; rfl, fun b' hb => ?_⟩, rfl⟩
           rw [HN (k + 1) (by rw [hT, D3 (by omega) (by omega)]; rfl)] at hb
           cases hb)
        | (go_roundw
           case rel =>
             first
               | exact ⟨k + 1, m * 16 + (c.toNat - 48), by omega, by go_num, by go_num, by rw [hT, D1 (by omega) (by omega)]; rfl, by first | rfl | trivial⟩
               | exact ⟨k + 1, m * 16 + (c.toNat - 87), by omega, by go_num, by go_num, by rw [hT, D2 (by omega) (by omega)]; rfl, by first | rfl | trivial⟩
           case measure => simp [intOf]; omega)
    · have h8 : k = 8 := by omega
      rw [h8, List.take_of_length_le (by omega)] at hm
      have hmR : hexRead t = some m := by rw [hR, hm]
      have hm32 := hexRead_lt hmR
      have hN : (numRead t).isSome = decide ((canon m : Int) = m) := by
        unfold numRead
        rw [hmR]
        simp only [Option.bind_some]
        by_cases hcm : canon m = m
        · rw [if_pos hcm, hcm]; simp
        · rw [if_neg hcm, decide_eq_false (by omega)]; rfl
      go_wp2_with (go_at_call 51; refine (l01Bits_any _ _).mono ?_; rintro e w1 ⟨rfl, rfl⟩)
      go_ret2
      refine ⟨⟨m, by rw [hN]; simp; rfl, fun b' hb => ?_⟩, rfl⟩
      have := (numRead_hex hb).1
      rw [hmR] at this
      exact Option.some.inj this

set_option maxRecDepth 100000 in
theorem l01Read_any (t : ByteArray) (w : World) (hs : t.size ≤ 1048576) : Calls Tryz.prog 25 #[.string t] w
    fun e w' => (∃ b, e = .returned (.tuple #[.float .f32 b, .bool (numRead t).isSome]) ∧ ∀ b', numRead t = some b' → b = b') ∧ w = w' := by
  by_cases h8 : t.size = 8
  · exact l01Read_eight t w h8
  · have hN : numRead t = none := by unfold numRead hexRead; rw [if_neg h8]; rfl
    rw [hN]
    go_enter Tryz.func25, Tryz.ntmps25
    go_wp2
    go_ret2
    exact ⟨⟨_, rfl, fun b' hb => by cases hb⟩, rfl⟩

/-- What ReadNumber returns: the number, or 0 and the code of a text that has none. -/
def numOut (t : ByteArray) : Nat × Int := match numRead t with | some b => (b, 0) | none => (0, 5)

set_option maxRecDepth 100000 in
theorem specReadNumber_any (t : ByteArray) (w : World) (hs : t.size ≤ 1048576) : Calls Tryz.prog 35 #[.string t] w
    fun e w' => e = .returned (.tuple #[.float .f32 (numOut t).1, .int .i64 (numOut t).2]) ∧ w = w' := by
  unfold numOut
  have H := l01Read_any t w hs
  cases hn : numRead t with
  | none =>
    rw [hn] at H
    have HC := Lib.hid H; clear H
    go_enter Tryz.func35, Tryz.ntmps35
    go_wp2_with (go_at_call 25; refine HC.out.mono ?_; rintro e w1 ⟨⟨b, rfl, _⟩, rfl⟩; rw [Option.isSome_none])
    go_ret2
    exact ⟨rfl, rfl⟩
  | some x =>
    rw [hn] at H
    have HC := Lib.hid H; clear H
    go_enter Tryz.func35, Tryz.ntmps35
    go_wp2_with (go_at_call 25; refine HC.out.mono ?_; rintro e w1 ⟨⟨b, rfl, hb⟩, rfl⟩; obtain rfl := hb x rfl; rw [Option.isSome_some])
    go_ret2
    exact ⟨rfl, rfl⟩
end Go.Proofs.YtgiimcdjojjbmaaGreatDoor
