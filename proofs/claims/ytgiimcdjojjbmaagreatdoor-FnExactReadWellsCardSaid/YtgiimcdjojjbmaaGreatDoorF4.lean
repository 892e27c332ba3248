/- Decimal texts read: spec.l01Number; strconv.ParseInt at base ten; impl.numberOf. -/
import Derived.Test.YtgiimcdjojjbmaaGreatDoorC3
import Derived.Test.YtgiimcdjojjbmaaGreatDoorE5
import Derived.Lib.ParseIntB
namespace Go.Proofs.YtgiimcdjojjbmaaGreatDoor
open Go Go.RowKit

/-- The number of decimal digits behind a number. -/
def decVal : List UInt8 → Nat → Option Nat
  | [], n => some n
  | c :: r, n => if 48 ≤ c.toNat ∧ c.toNat ≤ 57 then decVal r (n * 10 + (c.toNat - 48)) else none

theorem decVal_append (a b : List UInt8) (n : Nat) : decVal (a ++ b) n = (decVal a n).bind (decVal b) := by
  induction a generalizing n with
  | nil => rfl
  | cons c r ih =>
    simp only [List.cons_append, decVal]
    split
    · exact ih _
    · rfl
theorem decVal_take (l : List UInt8) (k : Nat) (hk : k < l.length) : decVal (l.take (k + 1)) 0 = (decVal (l.take k) 0).bind fun n => if 48 ≤ l[k].toNat ∧ l[k].toNat ≤ 57 then some (n * 10 + (l[k].toNat - 48)) else none := by
  rw [List.take_succ_eq_append_getElem hk, decVal_append]
  rfl
theorem decVal_none (l : List UInt8) (k : Nat) (h : decVal (l.take k) 0 = none) : decVal l 0 = none := by
  rw [← List.take_append_drop k l, decVal_append, h]; rfl
theorem decVal_lt : ∀ (l : List UInt8) (n v : Nat), decVal l n = some v → v < (n + 1) * 10 ^ l.length
  | [], n, v, h => by simp only [decVal, Option.some.injEq] at h; simp; omega
  | c :: r, n, v, h => by
    simp only [decVal] at h
    split at h
    · have h1 := decVal_lt r _ v h
      have h3 : n * 10 + (c.toNat - 48) + 1 ≤ (n + 1) * 10 := by omega
      calc v < (n * 10 + (c.toNat - 48) + 1) * 10 ^ r.length := h1
        _ ≤ ((n + 1) * 10) * 10 ^ r.length := Nat.mul_le_mul_right _ h3
        _ = (n + 1) * 10 ^ (c :: r).length := by rw [List.length_cons, Nat.pow_succ, Nat.mul_assoc, Nat.mul_comm 10]
    · cases h
theorem decVal_ge : ∀ (l : List UInt8) (n v : Nat), decVal l n = some v → n ≤ v
  | [], n, v, h => by simp only [decVal, Option.some.injEq] at h; omega
  | c :: r, n, v, h => by
    simp only [decVal] at h
    split at h
    · have := decVal_ge r _ v h; omega
    · cases h

theorem decVal_digits (n : Nat) : decVal (Lib.decDigits n) 0 = some n := by
  induction n using Nat.strongRecOn with
  | _ n ih =>
    by_cases h : n < 10
    · rw [Lib.decDigits_one h]
      have : (UInt8.ofNat (48 + n)).toNat = 48 + n := by simp [UInt8.toNat_ofNat']; omega
      simp only [decVal, this]
      rw [if_pos (by omega)]
      congr 1; omega
    · have hd : Lib.decDigits n = Lib.decDigits (n / 10) ++ [UInt8.ofNat (48 + n % 10)] := by rw [Lib.decDigits, dif_neg h]
      rw [hd, decVal_append, ih (n / 10) (by omega)]
      have : (UInt8.ofNat (48 + n % 10)).toNat = 48 + n % 10 := by simp [UInt8.toNat_ofNat']; omega
      simp only [Option.bind_some, decVal, this]
      rw [if_pos (by omega)]
      congr 1; omega

/-- The number with a text of one to nine digits, without a nought ahead. -/
def decRead (t : ByteArray) : Option Nat := if t.size < 1 ∨ 9 < t.size ∨ (t.data.toList.head? = some 48 ∧ 1 < t.size) then none else decVal t.data.toList 0

theorem decDigits_ne (n : Nat) : Lib.decDigits n ≠ [] := by
  by_cases h : n < 10
  · rw [Lib.decDigits_one h]; simp
  · rw [Lib.decDigits, dif_neg h]; simp
theorem head_app {α : Type} {a b : List α} (h : a ≠ []) : (a ++ b).head? = a.head? := by
  cases a with
  | nil => exact absurd rfl h
  | cons x r => rfl
theorem decDigits_head (n : Nat) (h : 10 ≤ n) : (Lib.decDigits n).head? ≠ some 48 := by
  induction n using Nat.strongRecOn with
  | _ n ih =>
    have hd : Lib.decDigits n = Lib.decDigits (n / 10) ++ [UInt8.ofNat (48 + n % 10)] := by rw [Lib.decDigits, dif_neg (by omega)]
    rw [hd, head_app (decDigits_ne _)]
    by_cases h2 : n / 10 < 10
    · rw [Lib.decDigits_one h2]
      simp only [List.head?_cons, ne_eq, Option.some.injEq]
      intro e
      have := congrArg UInt8.toNat e
      simp [UInt8.toNat_ofNat'] at this
      omega
    · exact ih (n / 10) (by omega) (by omega)
theorem decDigits_len : ∀ (k n : Nat), n < 10 ^ (k + 1) → (Lib.decDigits n).length ≤ k + 1
  | 0, n, h => by rw [Lib.decDigits_one (by simpa using h)]; simp
  | k + 1, n, h => by
    by_cases hn : n < 10
    · rw [Lib.decDigits_one hn]; simp
    · have hd : Lib.decDigits n = Lib.decDigits (n / 10) ++ [UInt8.ofNat (48 + n % 10)] := by rw [Lib.decDigits, dif_neg hn]
      rw [hd]
      have := decDigits_len k (n / 10) (by rw [Nat.div_lt_iff_lt_mul (by omega)]; rw [Nat.pow_succ] at h; exact h)
      simp; omega
theorem decRead_str {n : Nat} (h : n < 1000000000) : decRead (decStr n) = some n := by
  have hl := decDigits_len 8 n (by simpa using h)
  have hp := List.length_pos_iff.2 (decDigits_ne n)
  have hs : (decStr n).size = (Lib.decDigits n).length := by show (Lib.decDigits n).toArray.size = _; simp
  unfold decRead
  rw [if_neg]
  · exact decVal_digits n
  · rw [hs]
    rintro (h1 | h1 | ⟨h1, h2⟩)
    · omega
    · omega
    · have h10 : 10 ≤ n := by
        by_cases hn : n < 10
        · rw [Lib.decDigits_one hn] at h2; simp at h2
        · omega
      exact decDigits_head n h10 h1

/-- Digits without a nought ahead are those of their number. -/
theorem digits_of_val : ∀ (k : Nat) (l : List UInt8) (v : Nat), l.length = k + 1 → (l.head? = some 48 → k = 0) → decVal l 0 = some v → l = Lib.decDigits v
  | 0, l, v, hl, _, h => by
    match l, hl with
    | [c], _ =>
      simp only [decVal] at h
      split at h
      · rename_i hc
        simp only [Option.some.injEq] at h
        have hv : v < 10 := by omega
        rw [Lib.decDigits_one hv]
        congr 1
        apply UInt8.toNat_inj.1
        simp [UInt8.toNat_ofNat']; omega
      · cases h
  | k + 1, l, v, hl, h0, h => by
    obtain ⟨a, c, rfl⟩ : ∃ a c, l = a ++ [c] := ⟨l.dropLast, l.getLast (by intro e; rw [e] at hl; simp at hl), (List.dropLast_concat_getLast _).symm⟩
    have hal : a.length = k + 1 := by simp at hl; omega
    have hne : a ≠ [] := by intro e; rw [e] at hal; simp at hal
    rw [decVal_append] at h
    cases hv : decVal a 0 with
    | none => rw [hv] at h; cases h
    | some x =>
      rw [hv] at h
      simp only [Option.bind_some, decVal] at h
      split at h
      · rename_i hc
        simp only [Option.some.injEq] at h
        rw [head_app hne] at h0
        have ha : a.head? ≠ some 48 := fun e => by have := h0 e; omega
        have ih := digits_of_val k a x hal (fun e => absurd e ha) hv
        have hx : 1 ≤ x := by
          match a, hne with
          | d :: r, _ =>
            simp only [decVal] at hv
            split at hv
            · rename_i hd
              have h48 : d.toNat ≠ 48 := fun e => ha (by simp only [List.head?_cons, Option.some.injEq]; exact UInt8.toNat_inj.1 e)
              have := decVal_ge _ _ _ hv
              omega
            · cases hv
        have hv10 : ¬ v < 10 := by omega
        have hd : Lib.decDigits v = Lib.decDigits (v / 10) ++ [UInt8.ofNat (48 + v % 10)] := by rw [Lib.decDigits, dif_neg hv10]
        rw [hd, ih, show v / 10 = x from by omega]
        congr 2
        apply UInt8.toNat_inj.1
        simp [UInt8.toNat_ofNat']; omega
      · cases h

theorem decRead_iff {t : ByteArray} {n : Nat} : decRead t = some n ↔ n < 1000000000 ∧ t = decStr n := by
  constructor
  · intro h
    unfold decRead at h
    split at h
    · cases h
    · rename_i hc
      have hlen := size_toList t
      have h1 : ¬ t.size < 1 := fun e => hc (.inl e)
      have h2 : ¬ 9 < t.size := fun e => hc (.inr (.inl e))
      have h3 : ¬ (t.data.toList.head? = some 48 ∧ 1 < t.size) := fun e => hc (.inr (.inr e))
      have hv := decVal_lt _ _ _ h
      have hp : (10 : Nat) ^ t.data.toList.length ≤ 10 ^ 9 := Nat.pow_le_pow_right (by omega) (by omega)
      refine ⟨by omega, bytes_ext ?_⟩
      exact digits_of_val (t.size - 1) _ n (by omega) (fun e => by
        by_cases h1t : 1 < t.size
        · exact absurd ⟨e, h1t⟩ h3
        · omega) h
  · rintro ⟨h, rfl⟩
    exact decRead_str h

theorem parseUintM_ok : ∀ (l : List UInt8) (acc v : Nat), decVal l acc = some v → v ≤ 1000000000 → Lib.parseUintM (2 ^ 64 - 1) acc l = .ok v
  | [], acc, v, h, _ => by simp only [decVal, Option.some.injEq] at h; rw [← h]; rfl
  | c :: r, acc, v, h, hv => by
    simp only [decVal] at h
    split at h
    · rename_i hc
      have h1 := decVal_ge r _ v h
      unfold Lib.parseUintM
      rw [if_pos hc, if_neg (by omega), if_neg (by have : (2 : Nat) ^ 64 - 1 = 18446744073709551615 := by decide +kernel
                                                   rw [this]; omega)]
      exact parseUintM_ok r _ v h hv
    · cases h

theorem parseIntB_dec {n : Nat} (h : n < 1000000000) : Lib.parseIntB 64 (Lib.decDigits n) = .ok (n : Int) := by
  have hne := decDigits_ne n
  have hu := parseUintM_ok _ _ _ (decVal_digits n) (by omega)
  cases hd : Lib.decDigits n with
  | nil => exact absurd hd hne
  | cons c r =>
    have hc : 48 ≤ c.toNat := by
      have hv := decVal_digits n
      rw [hd] at hv
      simp only [decVal] at hv
      split at hv
      · rename_i hc; exact hc.1
      · cases hv
    unfold Lib.parseIntB
    simp only
    rw [if_neg (by omega), ← hd]
    have hB : Lib.parseUintB 64 (Lib.decDigits n) = .ok n := by unfold Lib.parseUintB; rw [if_neg hne]; exact hu
    rw [hB]
    simp only
    have h63 : (2 : Nat) ^ (64 - 1) = 9223372036854775808 := by decide +kernel
    rw [h63, if_neg (by omega), if_neg (by omega), if_neg (by omega)]

theorem parseIntB_neg {n : Nat} (h : n < 1000000000) : Lib.parseIntB 64 (45 :: Lib.decDigits n) = .ok (-(n : Int)) := by
  have hne := decDigits_ne n
  have hu := parseUintM_ok _ _ _ (decVal_digits n) (by omega)
  unfold Lib.parseIntB
  simp only
  rw [if_pos (by decide)]
  have hB : Lib.parseUintB 64 (Lib.decDigits n) = .ok n := by unfold Lib.parseUintB; rw [if_neg hne]; exact hu
  rw [hB]
  simp only
  have h63 : (2 : Nat) ^ (64 - 1) = 9223372036854775808 := by decide +kernel
  rw [h63, if_neg (by rintro ⟨h1, _⟩; exact h1 (by decide)), if_neg (by omega), if_pos (by decide)]

/-- What numberOf hands back. -/
def numVal (s : ByteArray) (lo hi : Int) : Int := match Lib.parseIntB 64 s.data.toList with
  | .ok v => if inB v lo hi = true then v else 0
  | _ => 0

theorem numVal_range (s : ByteArray) (lo hi : Int) (h1 : lo ≤ 0) (h2 : 0 ≤ hi) : lo ≤ numVal s lo hi ∧ numVal s lo hi ≤ hi := by
  unfold numVal
  split
  · split
    · rename_i h; unfold inB at h; simp at h; omega
    · omega
  · omega

theorem numVal_dec {n : Nat} {lo hi : Int} (h : n < 1000000000) (h1 : lo ≤ n) (h2 : (n : Int) ≤ hi) : numVal (decStr n) lo hi = n := by
  unfold numVal
  rw [show (decStr n).data.toList = Lib.decDigits n from rfl, parseIntB_dec h]
  simp only
  rw [if_pos (by unfold inB; simp; omega)]

set_option maxRecDepth 100000 in
theorem parseInt_any (s : ByteArray) (w : World) (hs : s.size ≤ 1048576) (hE : Errs w) : Calls Tryz.prog 43 #[.string s, .int .i64 10, .int .i64 64] w
    fun e w' => (∃ v er, e = .returned (.tuple #[.int .i64 v, er]) ∧ ((Lib.parseIntB 64 s.data.toList = .ok v ∧ er = .nilIface) ∨ ((∀ v, Lib.parseIntB 64 s.data.toList ≠ .ok v) ∧ ∃ y p, er = .iface y p))) ∧ Below w.heap.size w w' := by
  obtain ⟨⟨⟨e1, p1, q1⟩, _⟩, ⟨⟨e2, p2, q2⟩, _⟩⟩ := hE
  cases hp : Lib.parseIntB 64 s.data.toList with
  | ok v =>
    refine (Any.strconv_ParseInt_10_at64_ok Tryz.laysC174 s (by omega) v hp w).mono ?_
    rintro e w' ⟨rfl, (rfl | ⟨t, rfl⟩)⟩
    · exact ⟨⟨_, _, rfl, .inl ⟨rfl, rfl⟩⟩, Below.refl _ _⟩
    · exact ⟨⟨_, _, rfl, .inl ⟨rfl, rfl⟩⟩, Go.Joins.below_bytesWorld _ _ _ _ (Nat.le_refl _)⟩
  | range =>
    refine (Any.strconv_ParseInt_10_at64_range Tryz.laysC174 s (by omega) hp e2 w p2 q2).mono ?_
    rintro e w' ⟨N, rfl, _, _, hB⟩
    exact ⟨⟨_, _, rfl, .inr ⟨fun v h => (by cases h), _, _, rfl⟩⟩, hB⟩
  | _ =>
    refine (Any.strconv_ParseInt_10_at64_syntax Tryz.laysC174 s (by omega) hp e1 w p1 q1).mono ?_
    rintro e w' ⟨N, rfl, _, _, hB⟩
    exact ⟨⟨_, _, rfl, .inr ⟨fun v h => (by cases h), _, _, rfl⟩⟩, hB⟩

set_option maxRecDepth 100000 in
theorem numberOf_any (s : ByteArray) (lo hi : Int) (w : World) (hs : s.size ≤ 1048576) (hE : Errs w) : Calls Tryz.prog 17 #[.string s, .int .i64 lo, .int .i64 hi] w
    fun e w' => e = .returned (.int .i64 (numVal s lo hi)) ∧ Below w.heap.size w w' := by
  have HP := Lib.hid (parseInt_any s w hs hE)
  obtain ⟨z, hz⟩ : ∃ z, z = numVal s lo hi := ⟨_, rfl⟩
  rw [← hz]
  have HZ := Lib.hid hz; clear hz hE
  go_enter Tryz.func17, Tryz.ntmps17
  go_wp2_with fail
  refine HP.out.mono ?_
  rintro e w1 ⟨⟨v, er, rfl, (⟨hv, rfl⟩ | ⟨hv, y, p, rfl⟩)⟩, hB⟩
  · have HV := Lib.hid hv; clear hv
    cases hin : inB v lo hi
    all_goals
      have HI := Lib.hid (hin ▸ (fun w => in_any v lo hi w))
      have HN := Lib.hid hin
      clear hin
      go_wp2_with (go_at_call 44; refine (HI.out _).mono ?_; rintro e w2 ⟨rfl, rfl⟩)
      go_ret
      refine ⟨?_, hB⟩
      rw [HZ.out]
      unfold numVal
      rw [HV.out]
      simp only
      rw [HN.out]
      rfl
  · have HV := Lib.hid hv; clear hv
    go_wp2_with fail
    go_ret
    refine ⟨?_, hB⟩
    rw [HZ.out]
    unfold numVal
    cases hp : Lib.parseIntB 64 s.data.toList with
    | ok v => exact absurd hp (HV.out v)
    | range => rfl
    | _ => rfl
end Go.Proofs.YtgiimcdjojjbmaaGreatDoor
