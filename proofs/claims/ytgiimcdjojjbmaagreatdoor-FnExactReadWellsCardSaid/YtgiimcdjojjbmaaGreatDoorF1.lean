/- strings.Lines: the iterator's contract: it keeps the rest of the text in a cell of its own. -/
import Derived.Test.YtgiimcdjojjbmaaGreatDoorE2
import Derived.Test.YtgiimcdjojjbmaaGreatDoorD3
import Derived.RangeFuncNested
import Derived.RangeFuncBound
import Derived.RangeFuncCalls
import Derived.RangeFuncLeaves
import Derived.Shelf.Abstract
import Derived.Shelf.RegionOpen
import Derived.OwnWalkIn
import Derived.TacticsInMore
import Derived.LoopNIn
import Derived.LoopIn
namespace Go.Proofs.YtgiimcdjojjbmaaGreatDoor
open Go Go.RowKit Go.Shelf
attribute [local go_sem] Oper.semAt_some

/-- The first line of a text, its end with it. -/
def lineA (s : ByteArray) : ByteArray := if 0 ≤ Lib.indexByte s.data.toList 10 then s.extract 0 ((Lib.indexByte s.data.toList 10).toNat + 1) else s
/-- What lies behind it. -/
def lineB (s : ByteArray) : ByteArray := if 0 ≤ Lib.indexByte s.data.toList 10 then s.extract ((Lib.indexByte s.data.toList 10).toNat + 1) s.size else ⟨#[]⟩

theorem indexByte_lt (c : UInt8) : ∀ l : List UInt8, -1 ≤ Lib.indexByte l c ∧ Lib.indexByte l c < l.length
  | [] => by unfold Lib.indexByte; simp
  | x :: r => by
    have ih := indexByte_lt c r
    unfold Lib.indexByte
    split
    · simp
    · split <;> simp <;> omega

theorem lineB_lt (s : ByteArray) (h : 0 < s.size) : (lineB s).size < s.size := by
  unfold lineB
  split
  · have := indexByte_lt 10 s.data.toList
    simp [ByteArray.size_extract]
    omega
  · exact h

/-- How much is left, as the world tells it. -/
def leftOf (w : World) (B : Nat) : Nat := match w.cell? ⟨B, 0, none⟩ with
  | some (.string s) => s.size
  | _ => 0

set_option maxHeartbeats 2000000 in
set_option maxRecDepth 100000 in
theorem lines_in (n l B : Nat) (J : ByteArray → World → Prop) (Jx : World → Prop)
    (hJ : ∀ s W, J s W → W.cell? ⟨B, 0, none⟩ = some (.string s) ∧ W.frozen? ⟨B, 0, none⟩ = false ∧ s.size ≤ 1048576)
    (hY : ∀ s W W2, J s W → 0 < s.size → (W2 = W.setCell ⟨B, 0, none⟩ (.string (lineB s)) ∨ W2 = (W.setCell ⟨B, 0, none⟩ (.string (lineB s))).drew) →
      YieldAt Fence.wide (n - 1) Tryz.prog l #[.string (lineA s)] W2 fun e W' => (e = .returned (.bool true) ∧ J (lineB s) W') ∨ (e = .returned (.bool false) ∧ Jx W'))
    (s : ByteArray) (W : World) (h0 : J s W) :
    CallsIn Fence.wide n Tryz.prog 62 #[.func (.yield l) #[] #[], .pointer (some ⟨B, 0, none⟩)] W fun e W' => (∃ v, e = .returned v) ∧ (J ⟨#[]⟩ W' ∨ Jx W') := by
  refine callsIn_of_wp Tryz.func62 rfl trivial ?_ rfl
  simp only [Tryz.ntmps62, List.size_toArray, List.length_cons, List.length_nil, Nat.reduceAdd, Nat.reduceSub, Array.replicate_succ, Array.replicate_zero, List.push_toArray, List.append_toArray, List.nil_append, List.cons_append]
  gi_wp2
  gi_loopw [3] (fun _ wr => ∃ r, J r wr) (fun _ wr => leftOf wr B)
  case atStart => exact ⟨s, h0⟩
  case round =>
    obtain ⟨r, hr⟩ := hrel
    obtain ⟨hc, hf, hsz⟩ := hJ r _ hr
    have HR := Lib.hid hr; clear hr
    by_cases hz : r.size = 0
    · obtain rfl : r = ⟨#[]⟩ := by
        apply bytes_ext
        have : r.data.toList.length = 0 := by rw [size_toList]; exact hz
        exact List.length_eq_zero_iff.1 this
      gi_wp2
      go_end0
      exact ⟨⟨_, rfl⟩, .inl HR.out⟩
    · have HI := Lib.hid (fun w => (callsIn_wide (n := n - 1)).2 (Tryz.strings_IndexByte r 10 w))
      by_cases hi : 0 ≤ Lib.indexByte r.data.toList 10
      · gi_wp2_with fail
        refine ⟨trivial, fun h => (by cases h), ?_⟩
        refine (HI.out _).mono ?_
        rintro e w1 ⟨rfl, rfl⟩
        have hb := (indexByte_lt 10 r.data.toList).2
        rw [size_toList] at hb
        obtain ⟨i, hi2⟩ := Int.eq_ofNat_of_zero_le hi
        rw [show ((10 : Int).toNat.toUInt8) = 10 from rfl]
        rw [hi2] at hb ⊢
        have HI2 := Lib.hid hi2; clear hi2 hi HI
        gi_wp2_with fail
        refine wpIn_wide.2 ?_
        go_region
        have eA : lineA r = r.extract 0 (i + 1) := by unfold lineA; rw [HI2.out, if_pos (by omega)]; rfl
        have eB : lineB r = r.extract (i + 1) r.size := by unfold lineB; rw [HI2.out, if_pos (by omega)]; rfl
        have hy0 := hY r w1 _ HR.out (by omega) (.inr rfl)
        rw [eA, eB] at hy0
        obtain ⟨fn, tmps, assign, body, hy, hR⟩ := hy0
        have hlt := lineB_lt r (by omega)
        have HB := Lib.hid eB
        clear eA eB
        gi_wp2
        refine ⟨fun h => (by cases h), hR.mono ?_⟩
        rintro e W' (⟨rfl, hJ'⟩ | ⟨rfl, hJx'⟩)
        · gi_wp2
          go_roundw
          case rel => exact ⟨_, hJ'⟩
          case measure =>
            have h1 := (hJ _ _ hJ').1
            rw [HB.out] at hlt
            simp only [leftOf, h1, hc]
            exact hlt
        · gi_wp2
          refine bodyPost_ret (results_none rfl _ _ _) rfl ?_
          exact ⟨⟨_, rfl⟩, .inr hJx'⟩
      · have hi1 : Lib.indexByte r.data.toList 10 = -1 := by
          have := (indexByte_lt 10 r.data.toList).1
          omega
        gi_wp2_with fail
        refine ⟨trivial, fun h => (by cases h), ?_⟩
        refine (HI.out _).mono ?_
        rintro e w1 ⟨rfl, rfl⟩
        rw [show ((10 : Int).toNat.toUInt8) = 10 from rfl]
        rw [hi1]
        have eA : lineA r = r := by unfold lineA; rw [if_neg (by omega)]
        have eB : lineB r = ⟨#[]⟩ := by unfold lineB; rw [if_neg (by omega)]
        have hy0 := hY r w1 _ HR.out (by omega) (.inl rfl)
        rw [eA, eB] at hy0
        obtain ⟨fn, tmps, assign, body, hy, hR⟩ := hy0
        have hpos : 0 < r.size := by omega
        clear eA eB hi hi1 HI
        gi_wp2
        refine ⟨fun h => (by cases h), hR.mono ?_⟩
        rintro e W' (⟨rfl, hJ'⟩ | ⟨rfl, hJx'⟩)
        · gi_wp2
          go_roundw
          case rel => exact ⟨_, hJ'⟩
          case measure =>
            have h1 := (hJ _ _ hJ').1
            simp only [leftOf, h1, hc]
            exact hpos
        · gi_wp2
          refine bodyPost_ret (results_none rfl _ _ _) rfl ?_
          exact ⟨⟨_, rfl⟩, .inr hJx'⟩
end Go.Proofs.YtgiimcdjojjbmaaGreatDoor
