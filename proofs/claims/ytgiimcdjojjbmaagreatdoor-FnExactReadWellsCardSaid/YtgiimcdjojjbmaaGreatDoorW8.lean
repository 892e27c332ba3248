/- The law ReadWells: the walk. -/
import Derived.Test.YtgiimcdjojjbmaaGreatDoorW6
import Derived.Test.YtgiimcdjojjbmaaGreatDoorW7
namespace Go.Proofs.YtgiimcdjojjbmaaGreatDoor
open Go Go.RowKit

theorem wlOut_len (t : ByteArray) : (wlOut t).1.length ≤ 12 := by
  unfold wlOut
  cases hr : wlRead t with
  | none => simp
  | some D => exact (text_of_wlRead hr).2.2

theorem wlOut_num (t : ByteArray) : ∀ p ∈ (wlOut t).1, nanOf .f32 p.r = false := by
  unfold wlOut
  cases hr : wlRead t with
  | none => intro p hp; cases hp
  | some D => exact fun p hp => plain_num (wlB_parts ((text_of_wlRead hr).2.1 p hp).1).2.2

theorem rowW_below {W W' : World} {B e s n : Nat} {v : Value} {xs : List Value} (h : W.ownsRow B e s v n xs) (hB : Below W.heap.size W W') : W'.ownsRow B e s v n xs :=
  h.kept ⟨hB.os, hB.tape, hB.output, hB.size, fun j hj _ => hB.block j hj⟩ (row := none) (Classical.em _)

set_option maxHeartbeats 2000000 in
set_option maxRecDepth 100000 in
theorem law_readWells (t : ByteArray) (w : World) (hM : MaxAt w) (hE : Errs w) (hT : Tab10 w) (hD : Deb w) (h63 : t.size ≤ 9223372036854775807) : Calls Tryz.prog 3 #[.string t] w
    fun e w' => e = .returned (.bool true) ∧ Below w.heap.size w w' := by
  by_cases hbig : 1048576 < t.size
  · clear hE hT hM hD
    go_enter Tryz.func3, Tryz.ntmps3
    go_wp2_with fail
    go_ret
    exact ⟨rfl, Below.refl _ _⟩
  · have hs : t.size ≤ 1048576 := by omega
    obtain ⟨R, hR⟩ : ∃ R, R = wlOut t := ⟨_, rfl⟩
    have h6 := wlOut_len t
    have hnum := wlOut_num t
    have HS := Lib.hid (fun w => specReadWells_any t w hs)
    have HI := Lib.hid (fun w => implReadWells_any t w hs)
    rw [← hR] at HS HI h6 hnum
    obtain ⟨L, c⟩ := R
    simp only at HS HI h6 hnum
    have HE := Lib.hid hE
    have HT := Lib.hid hT
    have HM := Lib.hid hM
    have HD := Lib.hid hD
    have HNUM := Lib.hid hnum
    have hlen : L.length ≤ 4611686018427387904 := by omega
    clear hE hT hM hD hR hnum
    go_enter Tryz.func3, Tryz.ntmps3
    go_wp2_with fail
    refine (HS.out _).mono ?_
    rintro e w1 ⟨⟨v3, rfl, hr3⟩, hB1⟩
    have HR3 := Lib.hid hr3; clear hr3
    have HB1 := Lib.hid hB1
    have z1 := hB1.size
    clear hB1
    go_wp2_with fail
    refine (HI.out _ (HM.out.below HB1.out) (HE.out.below HB1.out) (HT.out.below HB1.out) (HD.out.below HB1.out)).mono ?_
    rintro e w2 ⟨⟨v5, rfl, hr5⟩, hB2⟩
    have HR5 := Lib.hid hr5; clear hr5
    have HR32 := Lib.hid (rowW_below HR3.out hB2)
    have HB2 := Lib.hid (HB1.out.trans (hB2.mono z1))
    have z2 := HB2.out.size
    have z12 := hB2.size
    clear hB2
    go_wp2_with fail
    refine (eqWellS_same L v5 v3 w2 (wlSl_of_row HR5.out) (wlSl_of_row HR32.out) hlen HNUM.out).mono ?_
    rintro e w3 ⟨rfl, hB3⟩
    have HR53 := Lib.hid (rowW_below HR5.out hB3)
    have HR33 := Lib.hid (rowW_below HR32.out hB3)
    have HB3 := Lib.hid (HB2.out.trans (hB3.mono z2))
    have z3 := HB3.out.size
    have z13 := hB3.size
    clear hB3
    go_wp2_with fail
    refine (markWellS_any v5 L.length L rfl 1 (by omega) (by omega) w3 w1.heap.size HR53.out).mono ?_
    rintro e w4 ⟨rfl, hr54, hg4⟩
    have HR54 := Lib.hid hr54
    have hne : v3.ownBlock = none ∨ v3.ownBlock ≠ v5.ownBlock := by
      cases h3 : v3.ownBlock with
      | none => exact .inl rfl
      | some k =>
        right
        intro h
        have h1 := (HR3.out.lt k h3).2
        have h2 := (HR5.out.lt k h.symm).1
        omega
    have HR34 := Lib.hid (HR33.out.kept hg4 hne)
    have HB4 := Lib.hid (HB3.out.grown hg4 z3 (fun k hk => by have := (HR5.out.lt k hk).1; omega))
    have z4 := HB4.out.size
    clear hr54 hg4 hne
    go_wp2_with fail
    refine (heldWellS_any v5 L.length 1 (by omega) (by omega) w4 w1.heap.size HR54.out).mono ?_
    rintro e w5 ⟨rfl, rfl⟩
    go_wp2_with fail
    refine (HI.out _ (HM.out.below HB4.out) (HE.out.below HB4.out) (HT.out.below HB4.out) (HD.out.below HB4.out)).mono ?_
    rintro e w5 ⟨⟨v9, rfl, hr9⟩, hB5⟩
    have HR9 := Lib.hid hr9
    have HR55 := Lib.hid (rowW_below HR54.out hB5)
    have HR35 := Lib.hid (rowW_below HR34.out hB5)
    have HB5 := Lib.hid (HB4.out.trans (hB5.mono z4))
    have z5 := HB5.out.size
    clear hr9 hB5
    go_wp2_with fail
    refine (eqWellS_same L v9 v3 w5 (wlSl_of_row HR9.out) (wlSl_of_row HR35.out) hlen HNUM.out).mono ?_
    rintro e w6 ⟨rfl, hB6⟩
    have HR56 := Lib.hid (rowW_below HR55.out hB6)
    have HB6 := Lib.hid (HB5.out.trans (hB6.mono z5))
    clear hB6
    go_wp2_with fail
    refine (heldWellS_any v5 L.length 1 (by omega) (by omega) w6 w1.heap.size HR56.out).mono ?_
    rintro e w7 ⟨rfl, rfl⟩
    go_wp2_with fail
    go_ret
    exact ⟨rfl, HB6.out⟩
end Go.Proofs.YtgiimcdjojjbmaaGreatDoor
