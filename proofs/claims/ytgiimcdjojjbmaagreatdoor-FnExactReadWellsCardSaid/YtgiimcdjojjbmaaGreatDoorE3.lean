/- internal/strconv.ParseUint at base sixteen and 32 bits: a number of 32 bits, whatever the text; the number of a text of eight digits. -/
import Derived.Test.YtgiimcdjojjbmaaGreatDoorE2
import Derived.Lib.ConvBytes
import Derived.Lib.SmallJoins
namespace Go.Proofs.YtgiimcdjojjbmaaGreatDoor
open Go Go.RowKit

def lowC (c : Nat) : Nat := if c / 32 % 2 = 0 then c + 32 else c
theorem low_bits : ∀ c : Fin 256, bits .or .u8 (c.val : Int) 32 = (lowC c.val : Int) := by decide +kernel
theorem lowC_lt (c : Nat) (h : c < 256) : lowC c < 256 := by unfold lowC; split <;> omega
theorem lowC_hex (c : Nat) (h1 : 97 ≤ c) (h2 : c ≤ 102) : lowC c = c := by unfold lowC; rw [if_neg (by omega)]

theorem hexVal_ge : ∀ (l : List UInt8) (n v : Nat), hexVal l n = some v → n ≤ v
  | [], n, v, h => by simp only [hexVal, Option.some.injEq] at h; omega
  | c :: r, n, v, h => by
    simp only [hexVal] at h
    cases hd : hexD c with
    | none => rw [hd] at h; cases h
    | some d =>
      rw [hd] at h
      have := hexVal_ge r _ v h
      omega
theorem hexVal_take_le (l : List UInt8) (k n v : Nat) (h1 : hexVal (l.take k) 0 = some n) (h2 : hexVal l 0 = some v) : n ≤ v := by
  rw [← List.take_append_drop k l, hexVal_append, h1] at h2
  exact hexVal_ge _ _ _ h2

/-- What ParseUint's outcome says. -/
def PuOut (t : ByteArray) (n : Nat) (er : Value) : Prop :=
  n < 4294967296 ∧ (er = .nilIface ∨ er = .iface 121 (.int .i64 2) ∨ er = .iface 121 (.int .i64 1)) ∧ ∀ b, hexRead t = some b → n = b ∧ er = .nilIface

theorem hexRead_val {t : ByteArray} {b : Nat} (h : hexRead t = some b) : hexVal t.data.toList 0 = some b := by
  unfold hexRead at h
  split at h
  · exact h
  · cases h

set_option maxHeartbeats 4000000 in
set_option maxRecDepth 100000 in
theorem parseUint_in (t : ByteArray) (w : World) (hs : t.size ≤ 1048576) (hne : t ≠ ⟨#[]⟩) : Calls Tryz.prog 65 #[.string t, .int .i64 16, .int .i64 32] w
    fun e w' => (∃ (n : Nat) (er : Value), e = .returned (.tuple #[.int .u64 n, er]) ∧ PuOut t n er) ∧ w' = Lib.bytesWorld w 5 t := by
  have hemp : t.toList.isEmpty = false := by
    rw [← decide_eq_emptyBytes]
    exact decide_eq_false hne
  have hcv := Lib.run_convert_string_bytes (P := Tryz.prog) w 9 90 5 t (u := .string) Tryz.underlying9 Tryz.underlying90 Tryz.underlying5
  have hB : ∀ j, j < t.size → (Lib.bytesWorld w 5 t).cell? ⟨w.heap.size, j, none⟩ = some (.int .u8 (t.data.toList.getD j 0).toNat) := fun j hj => Lib.bytesWorld_cell w 5 t j hj
  obtain ⟨W1, hW1⟩ : ∃ W1, W1 = Lib.bytesWorld w 5 t := ⟨_, rfl⟩
  rw [← hW1] at hcv hB ⊢
  clear hW1
  have hlen : t.data.toList.length = t.size := size_toList t
  have hmv : IntKind.u64.wrap (4294967296 - 1) = 4294967295 := by rw [IntKind.wrap_u64]; decide
  go_enter Tryz.func65, Tryz.ntmps65
  go_wp2_with fail
  go_loop [12, 13, 101] (fun vu vn vi => ∃ (k : Nat) (a : Int), vu = .bool false ∧ vn = .int .u64 a ∧ vi = .int .i64 k ∧ k ≤ t.size ∧ 0 ≤ a ∧ a ≤ 4294967295 ∧ Hid (∀ b, hexRead t = some b → hexVal (t.data.toList.take k) 0 = some a.toNat))
    (fun _ _ vi => t.size - (intOf vi).toNat)
  case atStart => exact ⟨0, 0, rfl, rfl, rfl, by omega, by omega, by omega, fun b _ => rfl⟩
  case round =>
    obtain ⟨k, a, rfl, rfl, rfl, hk, a0, a1, HX⟩ := hrel
    clear hcv hemp
    by_cases hkn : k < t.size
    · have hc := hB k hkn
      have hk' : k < t.data.toList.length := by omega
      have hget : t.data.toList.getD k 0 = t.data.toList[k] := by simp [List.getD, List.getElem?_eq_getElem hk']
      have hT := hexVal_take t.data.toList k hk'
      rw [hget] at hc
      generalize t.data.toList[k] = c at hc hT
      have hc256 : c.toNat < 256 := c.toNat_lt
      clear hB hget
      have eL : bits .or .u8 (c.toNat : Int) 32 = ((lowC c.toNat : Nat) : Int) := low_bits ⟨c.toNat, hc256⟩
      have hl256 := lowC_lt c.toNat hc256
      have hlx := lowC_hex c.toNat
      have hD : ∀ d, hexD c = some d → (48 ≤ c.toNat ∧ c.toNat ≤ 57 ∧ d = c.toNat - 48) ∨ (97 ≤ c.toNat ∧ c.toNat ≤ 102 ∧ d = c.toNat - 87) := fun d h => by
        unfold hexD at h
        split at h
        · cases h; left; omega
        · split at h
          · cases h; right; omega
          · cases h
      generalize hlc : lowC c.toNat = lc at *
      clear hlc
      have HD := Lib.hid hD
      have HT := Lib.hid hT
      have HL := Lib.hid hlx
      have HNX : Hid (hexD c = none → ∀ b, hexRead t ≠ some b) := by
        intro hn b hb
        have h1 := HX.out b hb
        have h2 := HT.out
        rw [h1, hn] at h2
        have h3 := hexVal_none _ _ h2
        rw [hexRead_val hb] at h3
        cases h3
      have HSX : Hid (∀ d, hexD c = some d → ∀ b, hexRead t = some b → hexVal (t.data.toList.take (k + 1)) 0 = some (a.toNat * 16 + d) ∧ a.toNat * 16 + d ≤ 4294967295) := by
        intro d hd b hb
        have h1 := HX.out b hb
        have h2 := HT.out
        rw [h1, hd] at h2
        have h3 := hexVal_take_le _ _ _ _ h2 (hexRead_val hb)
        have h4 := hexRead_lt hb
        exact ⟨h2, by omega⟩
      clear hD hT hlx HT HX
      have e95 : bits .or .u8 95 32 = 127 := by decide
      go_wp2_with (go_at_call 88; refine (lower_any _ _).mono ?_; rintro e w' ⟨rfl, rfl⟩; first | rw [eL] | rw [e95])
      all_goals first
        | (go_ret2
           refine ⟨⟨_, _, rfl, by decide, by simp, fun b hb => ?_⟩, rfl⟩
           exfalso
           cases hd : hexD c with
           | none => exact HNX.out hd b hb
           | some d =>
             have h1 := (HSX.out d hd b hb).2
             rcases HD.out d hd with ⟨p, q, r⟩ | ⟨p, q, r⟩
             · omega
             · have := HL.out p q
               omega)
        | (refine ⟨⟨k + 1, _, rfl, rfl, by go_num, by omega, by omega, by omega, fun b hb => ?_⟩, by simp [intOf]; omega⟩
           cases hd : hexD c with
           | none => exact absurd hb (HNX.out hd b)
           | some d =>
             rw [(HSX.out d hd b hb).1]
             congr 1
             rcases HD.out d hd with ⟨p, q, r⟩ | ⟨p, q, r⟩
             · omega
             · have := HL.out p q
               omega)
    · have hkk : k = t.size := by omega
      obtain ⟨m, rfl⟩ := Int.eq_ofNat_of_zero_le a0
      have HX2 : Hid (∀ b, hexRead t = some b → m = b) := by
        intro b hb
        have h1 := HX.out b hb
        rw [List.take_of_length_le (by omega), hexRead_val hb] at h1
        simp only [Option.some.injEq] at h1
        omega
      clear hB HX
      go_wp2_with fail
      go_ret2
      exact ⟨⟨m, _, rfl, by omega, .inl rfl, fun b hb => ⟨HX2.out b hb, rfl⟩⟩, rfl⟩

set_option maxRecDepth 100000 in
theorem parseUint_empty (w : World) : Calls Tryz.prog 65 #[.string ⟨#[]⟩, .int .i64 16, .int .i64 32] w
    fun e w' => (∃ (n : Nat) (er : Value), e = .returned (.tuple #[.int .u64 n, er]) ∧ PuOut ⟨#[]⟩ n er) ∧ w = w' := by
  have h0 : hexRead ⟨#[]⟩ = none := by decide
  go_enter Tryz.func65, Tryz.ntmps65
  go_wp2_with fail
  go_ret2
  exact ⟨⟨0, _, rfl, by decide, by simp, fun b hb => by rw [h0] at hb; cases hb⟩, rfl⟩

theorem parseUint_any (t : ByteArray) (w : World) (hs : t.size ≤ 1048576) : Calls Tryz.prog 65 #[.string t, .int .i64 16, .int .i64 32] w
    fun e w' => (∃ (n : Nat) (er : Value), e = .returned (.tuple #[.int .u64 n, er]) ∧ PuOut t n er) ∧ Below w.heap.size w w' := by
  by_cases h : t = ⟨#[]⟩
  · subst h
    exact (parseUint_empty w).mono fun e w' he => ⟨he.1, by rw [← he.2]; exact Below.refl _ _⟩
  · exact (parseUint_in t w hs h).mono fun e w' he => ⟨he.1, by rw [he.2]; exact Go.Joins.below_bytesWorld _ _ _ _ (Nat.le_refl _)⟩
end Go.Proofs.YtgiimcdjojjbmaaGreatDoor
