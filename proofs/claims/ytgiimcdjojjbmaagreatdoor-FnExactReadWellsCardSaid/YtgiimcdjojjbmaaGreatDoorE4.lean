/- strconv.ParseUint at base sixteen and 32 bits; impl.ReadNumber. -/
import Derived.Test.YtgiimcdjojjbmaaGreatDoorE3
import Derived.Test.YtgiimcdjojjbmaaGreatDoorD3
namespace Go.Proofs.YtgiimcdjojjbmaaGreatDoor
open Go Go.RowKit

/-- A variable that holds an error. -/
def ErrAt (w : World) (g : Nat) : Prop := (∃ ev, w.cell? ⟨g, 0, none⟩ = some ev ∧ (ev = .nilIface ∨ ∃ te pe, ev = .iface te pe)) ∧ g < w.heap.size
theorem ErrAt.below {w w' : World} {g : Nat} (h : ErrAt w g) (hB : Below w.heap.size w w') : ErrAt w' g := by
  obtain ⟨⟨ev, h1, h2⟩, h3⟩ := h
  exact ⟨⟨ev, (hB.cell (p := ⟨g, 0, none⟩) h3).trans h1, h2⟩, Nat.lt_of_lt_of_le h3 hB.size⟩
/-- The library's two errors of a number's text. -/
def Errs (w : World) : Prop := ErrAt w 2 ∧ ErrAt w 3
theorem Errs.below {w w' : World} (h : Errs w) (hB : Below w.heap.size w w') : Errs w' := ⟨h.1.below hB, h.2.below hB⟩

theorem toError_any (fn s : ByteArray) (base bits k : Int) (w : World) (hlim : s.size ≤ 281474976710656) (hE : Errs w) (hk : k = 2 ∨ k = 1) :
    Calls Tryz.prog 66 #[.string fn, .string s, .int .i64 base, .int .i64 bits, .iface 121 (.int .i64 k)] w
      fun e w' => (∃ t p, e = .returned (.iface t p)) ∧ Below w.heap.size w w' := by
  rcases hk with rfl | rfl
  · obtain ⟨⟨ev, h1, h2⟩, _⟩ := hE.1
    exact (Tryz.strconv_toError_syntax fn s base bits ev w hlim h1 h2).mono fun e w' ⟨N, he, _, _, hB⟩ => ⟨⟨_, _, he⟩, hB⟩
  · obtain ⟨⟨ev, h1, h2⟩, _⟩ := hE.2
    exact (Tryz.strconv_toError_range fn s base bits ev w hlim h1 h2).mono fun e w' ⟨N, he, _, _, hB⟩ => ⟨⟨_, _, he⟩, hB⟩

set_option maxRecDepth 100000 in
theorem parseUint_pub (t : ByteArray) (w : World) (hs : t.size ≤ 1048576) (hE : Errs w) : Calls Tryz.prog 40 #[.string t, .int .i64 16, .int .i64 32] w
    fun e w' => (∃ (n : Nat) (er : Value), e = .returned (.tuple #[.int .u64 n, er]) ∧ n < 4294967296 ∧ (er = .nilIface ∨ ∃ y p, er = .iface y p) ∧ ∀ b, hexRead t = some b → n = b ∧ er = .nilIface) ∧ Below w.heap.size w w' := by
  go_enter Tryz.func40, Tryz.ntmps40
  go_wp2_with fail
  refine (parseUint_any t w hs).mono ?_
  rintro e w1 ⟨⟨n, er, rfl, hn, her, hb⟩, hB⟩
  have HB := Lib.hid hb; clear hb
  have HE := Lib.hid (hE.below hB); clear hE
  rcases her with rfl | rfl | rfl
  · go_wp2_with fail
    go_ret2
    exact ⟨⟨n, _, rfl, hn, .inl rfl, fun b hb => ⟨(HB.out b hb).1, rfl⟩⟩, hB⟩
  · go_wp2_with fail
    refine (toError_any _ t _ _ 2 w1 (by omega) HE.out (.inl rfl)).mono ?_
    rintro e w2 ⟨⟨y, p, rfl⟩, hB2⟩
    go_wp2_with fail
    go_ret2
    exact ⟨⟨n, _, rfl, hn, .inr ⟨_, _, rfl⟩, fun b hb => by have := (HB.out b hb).2; cases this⟩, hB.trans (hB2.mono hB.size)⟩
  · go_wp2_with fail
    refine (toError_any _ t _ _ 1 w1 (by omega) HE.out (.inr rfl)).mono ?_
    rintro e w2 ⟨⟨y, p, rfl⟩, hB2⟩
    go_wp2_with fail
    go_ret2
    exact ⟨⟨n, _, rfl, hn, .inr ⟨_, _, rfl⟩, fun b hb => by have := (HB.out b hb).2; cases this⟩, hB.trans (hB2.mono hB.size)⟩

set_option maxHeartbeats 1000000 in
set_option maxRecDepth 100000 in
/-- impl.ReadNumber: what spec.ReadNumber returns. -/
theorem readNumber_any (t : ByteArray) (w : World) (hs : t.size ≤ 1048576) (hE : Errs w) (hD : Deb w) : Calls Tryz.prog 16 #[.string t] w
    fun e w' => e = .returned (.tuple #[.float .f32 (numOut t).1, .int .i64 (numOut t).2]) ∧ Below w.heap.size w w' := by
  have HE := Lib.hid hE; clear hE
  obtain ⟨o, ho⟩ : ∃ o, o = numOut t := ⟨_, rfl⟩
  rw [← ho]
  have HO := Lib.hid ho; clear ho
  go_enter Tryz.func16, Tryz.ntmps16
  go_wp2_with fail
  refine (parseUint_pub t w hs HE.out).mono ?_
  rintro e w1 ⟨⟨n, er, rfl, hn, her, hb⟩, hB⟩
  have HB := Lib.hid hb; clear hb
  have HD := Lib.hid (hD.below hB); clear hD
  have HT := Lib.hid (numberText_any n w1 hn HD.out)
  have hwr : IntKind.u32.wrap (n : Int) = (n : Int) := by rw [IntKind.wrap_u32]; omega
  rcases her with rfl | ⟨y, p, rfl⟩
  · by_cases hx : hexText (canon n) = t
    · have hr : numRead t = some n := by
        have h1 := hexText_read (canon_lt n hn)
        rw [hx] at h1
        have h2 := (HB.out _ h1).1
        unfold numRead
        rw [h1]
        simp only [Option.bind_some]
        rw [if_pos (canon_canon n), ← h2]
      obtain rfl : o = (n, 0) := by rw [HO.out]; unfold numOut; rw [hr]
      have HX := Lib.hid hx; clear hx hr
      go_wp2_with (go_at_call 42; refine HT.out.mono ?_; rintro e w2 ⟨rfl, hB2⟩; have hxt := HX.out)
      go_ret2
      exact ⟨rfl, hB.trans (hB2.mono hB.size)⟩
    · have hr : numRead t = none := by
        cases h : numRead t with
        | none => rfl
        | some b =>
          obtain ⟨h1, h2, h3⟩ := numRead_iff.1 h
          have h4 := (HB.out b (numRead_hex h).1).1
          exact absurd (by rw [h4, h2, ← h3]) hx
      obtain rfl : o = (0, 5) := by rw [HO.out]; unfold numOut; rw [hr]
      have hxl : ((hexText (canon n)).toList == t.toList) = false := by
        rw [ByteArray.toList_eq, ByteArray.toList_eq]
        exact beq_eq_false_iff_ne.2 fun e => hx (bytes_ext e)
      have HX := Lib.hid hxl; clear hx hr hxl
      go_wp2_with (go_at_call 42; refine HT.out.mono ?_; rintro e w2 ⟨rfl, hB2⟩; have hxt := HX.out)
      go_ret2
      exact ⟨rfl, hB.trans (hB2.mono hB.size)⟩
  · have hr : numRead t = none := by
      cases h : numRead t with
      | none => rfl
      | some b => have := (HB.out b (numRead_hex h).1).2; cases this
    obtain rfl : o = (0, 5) := by rw [HO.out]; unfold numOut; rw [hr]
    clear hr
    go_wp2_with fail
    go_ret2
    exact ⟨rfl, hB⟩
end Go.Proofs.YtgiimcdjojjbmaaGreatDoor
