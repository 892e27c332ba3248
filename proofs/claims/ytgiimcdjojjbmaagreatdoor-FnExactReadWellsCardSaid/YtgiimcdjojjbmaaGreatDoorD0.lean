/- Single precision numbers by their bits: NaN, the one pattern for all NaN, the conversion to double precision. -/
import Derived.Test.YtgiimcdjojjbmaaGreatDoorA0
import Derived.Lib.Hide
import Derived.Laws.ComplexArith
import Derived.Laws.FloatArith
import Derived.Laws.Cover2
namespace Go.Proofs.YtgiimcdjojjbmaaGreatDoor
open Go Go.RowKit Ieee

def nanOf (k : FloatKind) (b : Nat) : Bool := k.format.order b b != some .eq
def canon (b : Nat) : Nat := if nanOf .f32 b then 2143289344 else b

theorem order_self (k : FloatKind) (b : Nat) : nanOf k b = (k.format.read b).isNaN := by
  unfold nanOf Format.order
  cases h : k.format.read b with
  | nan s f => rfl
  | infinity s => cases s <;> rfl
  | number s m i =>
    have : compare (signed s m (i - min i i).toNat) (signed s m (i - min i i).toNat) = .eq := by simp [compare, compareOfLessAndEq]
    simp only [Datum.order, this]
    rfl

theorem nan_canon : nanOf .f32 2143289344 = true := by decide +kernel
theorem canon_canon (b : Nat) : canon (canon b) = canon b := by
  unfold canon
  by_cases h : nanOf .f32 b = true
  · rw [if_pos h, if_pos nan_canon]
  · rw [if_neg h, if_neg h]
theorem canon_lt (b : Nat) (h : b < 4294967296) : canon b < 4294967296 := by unfold canon; split <;> omega

theorem binade_dbl : double.binade = 2 ^ 52 := rfl

/-- A number of single precision, as told. -/
theorem read_single (b : Nat) (s : Bool) (m : Nat) (e : Int) (h : single.read b = .number s m e) : m < 16777216 ∧ -149 ≤ e ∧ e ≤ 104 := by
  have hb : single.binade = 8388608 := by decide
  have hi : single.infRung = 2139095040 := by decide
  have hl : single.leastPlace = -149 := by decide
  unfold Format.read at h
  simp only [hb, hi, hl] at h
  generalize b % single.signWeight = r at h
  split at h
  · simp only [Datum.number.injEq] at h
    omega
  · split at h
    · simp only [Datum.number.injEq] at h
      have h1 := Nat.mod_lt r (show 0 < 8388608 by omega)
      have h2 : r / 8388608 < 255 := by omega
      omega
    · split at h <;> cases h

theorem cut_zero (neg : Bool) (n : Nat) : Toward.even.cut neg n 0 = n := by
  unfold Toward.cut
  simp [Nat.shiftLeft_eq, Nat.mod_one]

theorem lim (c k : Nat) (hc : c ≤ 1149) (hk : k < 9007199254740992) : min (c * 4503599627370496 + k) 9218868437227405312 < 9218868437227405312 := by omega
theorem h53 : (2 : Nat) ^ 53 = 9007199254740992 := by decide +kernel

/-- A number of single precision stays a number in double precision. -/
theorem nearest_finite (s : Bool) (m : Nat) (e : Int) (hm : m < 16777216) (h1 : -149 ≤ e) (h2 : e ≤ 104) : ((double.read (double.write (.number s m e))).isInfinity = false) := by
  have hb : double.binade = 4503599627370496 := by decide +kernel
  have hi : double.infRung = 9218868437227405312 := by decide +kernel
  have hl : double.leastPlace = -1074 := by decide +kernel
  have hsw : double.signWeight = 9223372036854775808 := by decide +kernel
  obtain ⟨r, hr, hlt⟩ : ∃ r, double.write (.number s m e) = double.word s r ∧ r < 9218868437227405312 := by
    rw [show double.write (.number s m e) = double.nearest s m e from rfl]
    unfold Format.nearest
    split
    · exact ⟨0, rfl, by omega⟩
    · rename_i hm0
      refine ⟨_, rfl, ?_⟩
      simp only [hl, hb, hi]
      have hlog : m.log2 < 24 := (Nat.log2_lt hm0).2 (by omega)
      have hself := @Nat.lt_log2_self m
      have hfb : (double.fractionBits : Int) = 52 := rfl
      rw [hfb]
      generalize hL : max (e + (m.log2 : Int) - 52) (-1074) = last
      have hle : last ≤ e := by omega
      have h75 : last ≤ 75 := by omega
      have hd : (last - e).toNat = 0 := by omega
      rw [hd, cut_zero]
      have hsh : (e - last).toNat ≤ 52 - m.log2 := by omega
      have hk : m <<< (e - last).toNat < 2 ^ 53 := by
        rw [Nat.shiftLeft_eq]
        calc m * 2 ^ (e - last).toNat ≤ m * 2 ^ (52 - m.log2) := Nat.mul_le_mul_left _ (Nat.pow_le_pow_right (by omega) hsh)
          _ < 2 ^ (m.log2 + 1) * 2 ^ (52 - m.log2) := Nat.mul_lt_mul_of_pos_right hself (Nat.pow_pos (by omega))
          _ = 2 ^ 53 := by rw [← Nat.pow_add]; congr 1; omega
      have hc : (last - -1074).toNat ≤ 1149 := by omega
      exact lim _ _ hc (Nat.lt_of_lt_of_eq hk h53)
  rw [hr]
  have hmod : double.word s r % double.signWeight = r := by
    unfold Format.word
    rw [hsw]
    cases s <;> simp <;> omega
  unfold Format.read
  rw [hmod]
  simp only [hb, hi]
  split
  · rfl
  · rfl

theorem conv_some (b : Nat) (h : nanOf .f32 b = false) : ∃ r, floatToFloatBits .f32 b .f64 = some r := by
  rw [order_self] at h
  unfold floatToFloatBits
  rw [if_neg (by decide)]
  unfold FloatKind.decode FloatKind.encode
  cases hd : FloatKind.f32.format.read b with
  | nan s f => rw [hd] at h; cases h
  | infinity s => exact ⟨_, rfl⟩
  | number s m e =>
    obtain ⟨h1, h2, h3⟩ := read_single b s m e hd
    have := nearest_finite s m e h1 h2 h3
    refine ⟨_, if_neg (by rw [show FloatKind.f64.format = double from rfl, this]; decide)⟩

/-- One part of a wave in double precision. -/
def wideOf (b r : Nat) : Prop := (nanOf .f32 b = true ∧ nanOf .f64 r = true) ∨ (nanOf .f32 b = false ∧ floatToFloatBits .f32 b .f64 = some r)

theorem nan_drawn (t : Nat) : nanOf .f64 ((t % 2) * 2 ^ 63 + 0x7ff0000000000000 + 1 + (t / 2) % (2 ^ 52 - 1)) = true := by
  rw [order_self]
  have hb : double.binade = 4503599627370496 := by decide +kernel
  have hi : double.infRung = 9218868437227405312 := by decide +kernel
  have hsw : double.signWeight = 9223372036854775808 := by decide +kernel
  have h52 : (2 : Nat) ^ 52 - 1 = 4503599627370495 := by decide +kernel
  have h63 : (2 : Nat) ^ 63 = 9223372036854775808 := by decide +kernel
  rw [h52, h63]
  have h0 := Nat.mod_lt t (show 0 < 2 by omega)
  have h1 := Nat.mod_lt (t / 2) (show 0 < 4503599627370495 by omega)
  generalize t % 2 = x at *
  generalize t / 2 % 4503599627370495 = y at *
  unfold Format.read
  rw [show FloatKind.f64.format = double from rfl, hb, hi, hsw]
  have : (x * 9223372036854775808 + 0x7ff0000000000000 + 1 + y) % 9223372036854775808 = 9218868437227405313 + y := by
    rcases (show x = 0 ∨ x = 1 by omega) with rfl | rfl <;> omega
  rw [this]
  simp only
  rw [if_neg (by omega), if_neg (by omega), if_neg (by omega)]
  rfl

theorem run_wide (P : Program) (b : Nat) (w : World) : ∃ r w', (Conv.floatToFloat .f32 b .f64).run P w = .ok (.float .f64 r) w' ∧ (w' = w ∨ w' = w.drew) ∧ wideOf b r := by
  by_cases h : nanOf .f32 b = true
  · have h' := h
    rw [order_self] at h'
    cases hd : FloatKind.f32.format.read b with
    | number s m e => rw [hd] at h'; cases h'
    | infinity s => rw [hd] at h'; cases h'
    | nan s f =>
      refine ⟨Question.cut (.nanConv .f64 b) (w.tape w.drawn (.nanConv .f64 b)), w.drew, ?_, .inr rfl, .inl ⟨h, ?_⟩⟩
      · simp only [Conv.floatToFloat, FloatKind.decode, hd]
        rw [if_neg (by decide)]
        simp only [choose, Sem.run, bind, Sem.bind, pure, Question.forced, Question.cut]
        rfl
      · exact nan_drawn _
  · have h' : nanOf .f32 b = false := by simpa using h
    obtain ⟨r, hr⟩ := conv_some b h'
    exact ⟨r, w, run_floatToFloat w hr, .inl rfl, .inr ⟨h', hr⟩⟩

/-- 1 / x is a number where x is 0. -/
theorem inv_zero (r : Nat) (h : FloatKind.f64.format.order r 0 = some .eq) : ∃ q, floatBits .quo .f64 4607182418800017408 r = some q := by
  have h0 : double.read 0 = .number false 0 (-1074) := by decide +kernel
  have h1 : double.read 4607182418800017408 = .number false 4503599627370496 (-52) := by decide +kernel
  unfold Format.order at h
  rw [show FloatKind.f64.format = double from rfl, h0] at h
  unfold floatBits
  simp only
  unfold Format.div
  rw [show FloatKind.f64.format = double from rfl, h1]
  cases hd : double.read r with
  | nan s f => rw [hd] at h; cases h
  | infinity s => rw [hd] at h; cases s <;> cases h
  | number s m e =>
    by_cases hm : m = 0
    · subst hm; exact ⟨_, rfl⟩
    · exfalso
      rw [hd] at h
      simp only [Datum.order, signed, Option.some.injEq] at h
      have hp : 0 < m <<< (e - min e (-1074)).toNat := by rw [Nat.shiftLeft_eq]; exact Nat.mul_pos (by omega) (Nat.pow_pos (by omega))
      generalize m <<< (e - min e (-1074)).toNat = q at *
      simp only [Nat.zero_shiftLeft] at h
      have h := Std.LawfulEqOrd.eq_of_compare h
      cases s <;> simp at h <;> omega
end Go.Proofs.YtgiimcdjojjbmaaGreatDoor
