/- impl.decimal and impl.PermitsText. -/
import Derived.Test.YtgiimcdjojjbmaaGreatDoorA3
import Derived.Test.YtgiimcdjojjbmaaGreatDoorC0
import Derived.Test.YtgiimcdjojjbmaaGreatDoorC2
import Derived.Test.YtgiimcdjojjbmaaGreatDoorShelf
import Derived.Lib.AppendIntMem
namespace Go.Proofs.YtgiimcdjojjbmaaGreatDoor
open Go Go.RowKit

/-- The library's table of powers of ten is as its initialiser lays it. -/
def Tab10 (w : World) : Prop := Lib.TabIs Tryz.prog w "internal/strconv.uint64pow10" .u64 Lib.pow10Tab
theorem Tab10.below {w w' : World} (h : Tab10 w) (hB : Below w.heap.size w w') : Tab10 w' := Lib.tabBelow_of_tabIs h w' hB

theorem impl_decimal (z : Int) (w : World) (hT : Tab10 w) (h0 : -9223372036854775808 ≤ z) (h1 : z ≤ 9223372036854775807) : Calls Tryz.prog 48 #[.int .i64 z] w
    fun e w' => e = .returned (.string ⟨(Lib.itoa z).toArray⟩) ∧ Below w.heap.size w w' := by
  have HC := Lib.hid (Tryz.strconv_FormatInt_10 z h0 h1 w hT); clear hT h0 h1
  go_enter Tryz.func48, Tryz.ntmps48
  go_wp2_with (go_at_call 75; refine HC.out.mono ?_; rintro e w' ⟨rfl, k, os, rfl⟩)
  go_ret
  exact ⟨rfl, Lib.below_grow _ _ (Nat.le_refl _) _ _⟩

theorem impl_decimal_nat (z : Int) (w : World) (hT : Tab10 w) (h0 : 0 ≤ z) (h1 : z ≤ 9223372036854775807) : Calls Tryz.prog 48 #[.int .i64 z] w
    fun e w' => e = .returned (.string (decStr z.toNat)) ∧ Below w.heap.size w w' := by
  have := impl_decimal z w hT (by omega) h1
  unfold Lib.itoa at this
  rwa [if_neg (by omega)] at this

theorem strCells_append (a b : ByteArray) : Lib.strCells (a ++ b) = Lib.strCells a ++ Lib.strCells b := by
  simp [Lib.strCells]

theorem builderAt_below {T e B b : Nat} {p : Value} {bs : List Value} {w w' : World} (h : Lib.BuilderAt T e B b p bs w) (hB : Below w.heap.size w w') : Lib.BuilderAt T e B b p bs w' := by
  have hlt := h.lt
  obtain ⟨h1, v, h2, h3, h4⟩ := h
  exact ⟨h1, v, (hB.block _ hlt).trans h2, h3.kept (row := none) ⟨hB.os, hB.tape, hB.output, hB.size, fun k hk _ => hB.block k hk⟩ (by cases v.ownBlock <;> simp), h4⟩
theorem isBuilder_below {T e B b : Nat} {bs : List Value} {w w' : World} (h : Lib.IsBuilder T e B b bs w) (hB : Below w.heap.size w w') : Lib.IsBuilder T e B b bs w' := by
  rcases h with h | h
  · exact .inl (builderAt_below h hB)
  · exact .inr (builderAt_below h hB)

attribute [local go_sem] Plain plainUpon

/-- What PermitsText returns. -/
def permText (ps : List Pm) : ByteArray := if (decide (ps.length ≤ 6) && !anyPm badP ps) = true then pmText ps else ⟨#[]⟩

theorem bad_parts (ps : List Pm) : anyPm badP ps = (anyPm badRate ps || anyPm badWho ps) := by
  induction ps with
  | nil => rfl
  | cons p r ih =>
    simp only [anyPm, List.any_cons] at *
    rw [ih]
    have : badP p = (badRate p || badWho p) := by
      unfold badP badRate badWho
      cases inB p.o 0 7 <;> cases inB p.c 0 63 <;> cases inB p.r 0 400 <;> rfl
    rw [this]
    cases badRate p <;> cases badWho p <;> simp

theorem good_of {ps : List Pm} (h : anyPm badP ps = false) : ∀ p ∈ ps, p.good := by
  intro p hp
  have : badP p = false := by
    simp only [anyPm, List.any_eq_false] at h
    simpa using h p hp
  unfold badP inB at this
  simp at this
  unfold Pm.good
  omega

end Go.Proofs.YtgiimcdjojjbmaaGreatDoor
