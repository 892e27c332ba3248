/- impl.readingsText. -/
import Derived.Test.YtgiimcdjojjbmaaGreatDoorH0
import Derived.Test.YtgiimcdjojjbmaaGreatDoorC3
import Derived.Lib.ItoaLen
namespace Go.Proofs.YtgiimcdjojjbmaaGreatDoor
open Go Go.RowKit

/-- A whole number's text. -/
def sgStr (z : Int) : ByteArray := ⟨(Lib.itoa z).toArray⟩
theorem sgStr_size (z : Int) (h0 : -9223372036854775808 ≤ z) (h1 : z ≤ 9223372036854775807) : (sgStr z).size ≤ 21 := by
  have := Lib.itoa_length_le z h0 h1
  unfold sgStr
  simpa [ByteArray.size] using this

def rdLine (p : Rd) : ByteArray := ((sgStr p.t ++ spB) ++ sgStr p.l) ++ nlB
def rdText (ps : List Rd) : ByteArray := ps.foldl (fun s p => s ++ rdLine p) ⟨#[]⟩
theorem rdText_snoc (ps : List Rd) (k : Nat) (h : k < ps.length) : rdText (ps.take (k + 1)) = rdText (ps.take k) ++ rdLine (ps.getD k default) := by
  rw [take_snocD default ps k h]; simp [rdText]
def Rd.good (p : Rd) : Prop := -9223372036854775808 ≤ p.t ∧ p.t ≤ 9223372036854775807 ∧ -32768 ≤ p.l ∧ p.l ≤ 32767
theorem rdLine_size (p : Rd) (h : p.good) : (rdLine p).size ≤ 44 := by
  obtain ⟨h1, h2, h3, h4⟩ := h
  have a := sgStr_size p.t (by omega) (by omega)
  have b := sgStr_size p.l (by omega) (by omega)
  have d : spB.size = 1 := rfl
  have e : nlB.size = 1 := rfl
  simp only [rdLine, ByteArray.size_append]; omega
theorem rdText_size (ps : List Rd) (h : ∀ p ∈ ps, p.good) : ∀ k, k ≤ ps.length → (rdText (ps.take k)).size ≤ 44 * k := by
  intro k
  induction k with
  | zero => intro _; simp [rdText, ByteArray.size]
  | succ k ih =>
    intro hk
    rw [rdText_snoc ps k (by omega), ByteArray.size_append]
    have := ih (by omega)
    have := rdLine_size _ (h _ (getD_mem default ps k (by omega)))
    omega

theorem rdLine_facts (p : Rd) (h : p.good) : ∃ s1 s2 s3 : ByteArray, s3 = rdLine p ∧
    (∀ wx : World, (Op.stringOp .add (sgStr p.t) ⟨#[32]⟩).run Tryz.prog wx = .ok (.string s1) wx) ∧
    (∀ wx : World, (Op.stringOp .add s1 (sgStr p.l)).run Tryz.prog wx = .ok (.string s2) wx) ∧
    (∀ wx : World, (Op.stringOp .add s2 ⟨#[10]⟩).run Tryz.prog wx = .ok (.string s3) wx) := by
  obtain ⟨h1, h2, h3, h4⟩ := h
  have a := sgStr_size p.t (by omega) (by omega)
  have b := sgStr_size p.l (by omega) (by omega)
  have d : (⟨#[32]⟩ : ByteArray).size = 1 := rfl
  have e : (⟨#[10]⟩ : ByteArray).size = 1 := rfl
  refine ⟨_, _, _, rfl, fun wx => run_string_add_sum wx _ _ (by omega), fun wx => run_string_add_sum wx _ _ ?_, fun wx => run_string_add_sum wx _ _ ?_⟩
  all_goals (simp only [ByteArray.size_append]; omega)

attribute [local go_sem] Plain plainUpon

end Go.Proofs.YtgiimcdjojjbmaaGreatDoor
