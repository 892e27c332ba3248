/- Signed numbers: spec.l03ReadSigned; what numberOf makes of a number's text. -/
import Derived.Test.YtgiimcdjojjbmaaGreatDoorF5
import Derived.Test.YtgiimcdjojjbmaaGreatDoorH4
namespace Go.Proofs.YtgiimcdjojjbmaaGreatDoor
open Go Go.RowKit

/-- A number, maybe with a sign. -/
def sgRead (t : ByteArray) : Option Int :=
  if t.data.toList.head? = some 45 then (decRead (t.extract 1 t.size)).bind fun n => if 0 < n then some (-(n : Int)) else none
  else (decRead t).map fun n => (n : Int)

theorem decRead_lt {t : ByteArray} {n : Nat} (h : decRead t = some n) : n < 1000000000 := (decRead_iff.1 h).1

theorem size_pos_head {t : ByteArray} (h : 0 < t.size) : t.data.toList.head? = some (t[0]'h) := by
  rw [List.head?_eq_getElem?, List.getElem?_eq_getElem (by simpa using h)]; rfl

set_option maxHeartbeats 2000000 in
set_option maxRecDepth 100000 in
theorem l03ReadSigned_any (t : ByteArray) (w : World) (hs : t.size ≤ 1048576) : Calls Tryz.prog 34 #[.string t] w
    fun e w' => e = .returned (.tuple #[.int .i64 ((sgRead t).getD 0), .bool (sgRead t).isSome]) ∧ w = w' := by
  have N0 := l01Number_any t w hs
  have hex : (t.extract 1 t.size).size ≤ 1048576 := by simp [ByteArray.size_extract]; omega
  have N1 := l01Number_any (t.extract 1 t.size) w hex
  clear hex
  by_cases h0 : t.size = 0
  · have ht : t = ⟨#[]⟩ := bytes_ext (List.length_eq_zero_iff.1 (by rw [size_toList]; exact h0))
    subst ht
    have hR : sgRead ⟨#[]⟩ = none := by unfold sgRead; rfl
    have hD : decRead ⟨#[]⟩ = none := rfl
    rw [hR]
    rw [hD] at N0
    simp only [Option.getD_none, Option.isSome_none] at N0 ⊢
    have M0 := Lib.hid N0
    clear N0 N1 hR hD h0
    go_enter Tryz.func34, Tryz.ntmps34
    go_wp2_with (go_at_call 22; refine M0.out.mono ?_; rintro e w1 ⟨rfl, rfl⟩)
    go_ret2
    exact ⟨rfl, rfl⟩
  · have hpos : 0 < t.size := by omega
    have hh := size_pos_head hpos
    have hne1 : (t.toList == []) = false := by
      rw [ByteArray.toList_eq, beq_eq_false_iff_ne]
      intro e
      rw [← size_toList, e] at hpos
      cases hpos
    have hne2 : t.toList.isEmpty = false := by
      rw [ByteArray.toList_eq]
      cases hl : t.data.toList with
      | nil => rw [← size_toList, hl] at hpos; cases hpos
      | cons => rfl
    have hne3 : ¬ t.toList = [] := by
      rw [ByteArray.toList_eq]
      intro e
      rw [← size_toList, e] at hpos
      cases hpos
    by_cases h45 : ((t[0]'hpos).toNat : Int) = 45
    · have hc : t[0]'hpos = 45 := UInt8.toNat_inj.1 (by have : (45 : UInt8).toNat = 45 := rfl
                                                        rw [this]; omega)
      have hR : sgRead t = (decRead (t.extract 1 t.size)).bind fun n => if 0 < n then some (-(n : Int)) else none := by unfold sgRead; rw [hh, hc, if_pos rfl]
      rw [hR]
      clear N0 hR hc hh
      rcases hd : decRead (t.extract 1 t.size) with _ | n
      · rw [hd] at N1
        simp only [Option.getD_none, Option.isSome_none, Option.bind_none] at N1 ⊢
        have M1 := Lib.hid N1
        clear N1 hd
        go_enter Tryz.func34, Tryz.ntmps34
        go_wp2_with (go_at_call 22; refine M1.out.mono ?_; rintro e w1 ⟨rfl, rfl⟩)
        go_ret2
        exact ⟨rfl, rfl⟩
      · rw [hd] at N1
        have hn := decRead_lt hd
        simp only [Option.getD_some, Option.isSome_some, Option.bind_some] at N1 ⊢
        have M1 := Lib.hid N1
        clear N1 hd
        by_cases hn0 : 0 < n
        · rw [if_pos hn0]
          simp only [Option.getD_some, Option.isSome_some]
          have wn : IntKind.i64.wrap (-(n : Int)) = -(n : Int) := by rw [IntKind.wrap_i64]; omega
          go_enter Tryz.func34, Tryz.ntmps34
          go_wp2_with (go_at_call 22; refine M1.out.mono ?_; rintro e w1 ⟨rfl, rfl⟩)
          go_ret2
          exact ⟨by simp, rfl⟩
        · obtain rfl : n = 0 := by omega
          rw [if_neg hn0]
          simp only [Option.getD_none, Option.isSome_none]
          go_enter Tryz.func34, Tryz.ntmps34
          go_wp2_with (go_at_call 22; refine M1.out.mono ?_; rintro e w1 ⟨rfl, rfl⟩)
          go_ret2
          exact ⟨rfl, rfl⟩
    · have hc : ¬ t[0]'hpos = 45 := fun e => h45 (by rw [e]; rfl)
      have hR : sgRead t = (decRead t).map fun n => (n : Int) := by
        unfold sgRead; rw [hh, if_neg]
        intro e
        exact hc (Option.some.inj e)
      rw [hR]
      clear N1 hR hc hh
      rcases hd : decRead t with _ | n
      all_goals
        rw [hd] at N0
        simp only [Option.getD_none, Option.getD_some, Option.isSome_none, Option.isSome_some] at N0 ⊢
        have M0 := Lib.hid N0
        clear N0 hd
        go_enter Tryz.func34, Tryz.ntmps34
        go_wp2_with (go_at_call 22; refine M0.out.mono ?_; rintro e w1 ⟨rfl, rfl⟩)
        go_ret2
        exact ⟨rfl, rfl⟩

/-! ### The plain laws of signed numbers -/
theorem decVal_digit' : ∀ (l : List UInt8) (n v : Nat), decVal l n = some v → ∀ c ∈ l, 48 ≤ c.toNat ∧ c.toNat ≤ 57
  | [], _, _, _, c, hc => by cases hc
  | d :: r, n, v, h, c, hc => by
    simp only [decVal] at h
    split at h
    · rename_i hd
      rcases List.mem_cons.1 hc with rfl | hc
      · exact hd
      · exact decVal_digit' r _ v h c hc
    · cases h
theorem decStr_free' (n : Nat) (c : UInt8) (h : c.toNat < 48) : c ∉ Lib.decDigits n := fun hc => by
  have := decVal_digit' _ _ _ (decVal_digits n) c hc
  omega
theorem itoa_cases (z : Int) : (0 ≤ z ∧ Lib.itoa z = Lib.decDigits z.toNat) ∨ (z < 0 ∧ Lib.itoa z = 45 :: Lib.decDigits z.natAbs) := by
  unfold Lib.itoa
  by_cases h : z < 0
  · rw [if_pos h]; exact .inr ⟨h, rfl⟩
  · rw [if_neg h]; exact .inl ⟨by omega, rfl⟩

theorem decDigits_head45 (n : Nat) : (Lib.decDigits n).head? ≠ some 45 := fun h => by
  have hm : (45 : UInt8) ∈ Lib.decDigits n := List.mem_of_mem_head? h
  exact decStr_free' n 45 (by decide) hm

theorem sgRead_str {z : Int} (h0 : -1000000000 < z) (h1 : z < 1000000000) : sgRead (sgStr z) = some z := by
  rcases itoa_cases z with ⟨h, e⟩ | ⟨h, e⟩
  · have hs : sgStr z = decStr z.toNat := by unfold sgStr; rw [e]; rfl
    unfold sgRead
    rw [hs, show (decStr z.toNat).data.toList = Lib.decDigits z.toNat from rfl, if_neg (decDigits_head45 _), decRead_str (by omega)]
    show some ((z.toNat : Nat) : Int) = some z
    congr 1
    omega
  · have hl : (sgStr z).data.toList = 45 :: Lib.decDigits z.natAbs := by unfold sgStr; rw [e]
    have hx : (sgStr z).extract 1 (sgStr z).size = decStr z.natAbs := by
      apply bytes_ext
      rw [extract_list, hl, ← size_toList, hl]
      rw [List.take_length]
      rfl
    unfold sgRead
    rw [hl, hx, decRead_str (by omega)]
    simp only [List.head?_cons, if_true, Option.bind_some]
    rw [if_pos (by omega)]
    congr 1
    omega

theorem sgRead_iff {t : ByteArray} {z : Int} : sgRead t = some z ↔ (-1000000000 < z ∧ z < 1000000000) ∧ t = sgStr z := by
  constructor
  · intro h
    unfold sgRead at h
    split at h
    · rename_i hh
      cases hd : decRead (t.extract 1 t.size) with
      | none => rw [hd] at h; cases h
      | some n =>
        rw [hd] at h
        simp only [Option.bind_some] at h
        split at h
        · rename_i hn
          cases h
          obtain ⟨h1, h2⟩ := decRead_iff.1 hd
          refine ⟨by omega, ?_⟩
          apply bytes_ext
          have hl : (sgStr (-(n : Int))).data.toList = 45 :: Lib.decDigits n := by
            rcases itoa_cases (-(n : Int)) with ⟨h, e⟩ | ⟨h, e⟩
            · omega
            · unfold sgStr; rw [e]; simp
          rw [hl]
          have h3 : (t.extract 1 t.size).data.toList = Lib.decDigits n := by rw [h2]; rfl
          rw [extract_list] at h3
          cases ht : t.data.toList with
          | nil => rw [ht] at hh; cases hh
          | cons a r =>
            rw [ht] at hh h3
            simp only [List.head?_cons, Option.some.injEq] at hh
            rw [hh]
            congr 1
            rw [← size_toList, ht, List.take_length] at h3
            simpa using h3
        · cases h
    · cases hd : decRead t with
      | none => rw [hd] at h; cases h
      | some n =>
        rw [hd] at h
        obtain rfl : (n : Int) = z := Option.some.inj h
        obtain ⟨h1, h2⟩ := decRead_iff.1 hd
        refine ⟨by omega, ?_⟩
        rw [h2]
        rcases itoa_cases (n : Int) with ⟨h, e⟩ | ⟨h, e⟩
        · unfold sgStr; rw [e]; rfl
        · omega
  · rintro ⟨⟨h0, h1⟩, rfl⟩
    exact sgRead_str h0 h1

theorem numVal_sg {z lo hi : Int} (h0 : -1000000000 < z) (h1 : z < 1000000000) (h2 : lo ≤ z) (h3 : z ≤ hi) : numVal (sgStr z) lo hi = z := by
  have hp : Lib.parseIntB 64 (Lib.itoa z) = .ok z := by
    rcases itoa_cases z with ⟨h, e⟩ | ⟨h, e⟩
    · rw [e, parseIntB_dec (by omega)]; congr 1; omega
    · rw [e, parseIntB_neg (by omega)]; congr 1; omega
  unfold numVal
  rw [show (sgStr z).data.toList = Lib.itoa z from rfl, hp]
  simp only
  rw [if_pos (by unfold inB; simp; omega)]

theorem sgStr_free (z : Int) (c : UInt8) (h : c.toNat < 45) : c ∉ (sgStr z).data.toList := fun hc => by
  have hc' : c ∈ Lib.itoa z := hc
  rcases itoa_cases z with ⟨_, e⟩ | ⟨_, e⟩
  · rw [e] at hc'
    exact decStr_free' _ c (by omega) hc'
  · rw [e] at hc'
    rcases List.mem_cons.1 hc' with rfl | hc'
    · exact absurd h (by decide)
    · exact decStr_free' _ c (by omega) hc'
end Go.Proofs.YtgiimcdjojjbmaaGreatDoor
