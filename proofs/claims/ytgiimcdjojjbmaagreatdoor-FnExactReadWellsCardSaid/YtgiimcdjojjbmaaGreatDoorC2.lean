/- spec.l07Text: the text of permits. -/
import Derived.Test.YtgiimcdjojjbmaaGreatDoorA4
import Derived.Test.YtgiimcdjojjbmaaGreatDoorC1
import Derived.Test.YtgiimcdjojjbmaaGreatDoorLoose
namespace Go.Proofs.YtgiimcdjojjbmaaGreatDoor
open Go Go.RowKit

def spB : ByteArray := ⟨#[32]⟩
def nlB : ByteArray := ⟨#[10]⟩
def pmLine (p : Pm) : ByteArray := ((((decStr p.o.toNat ++ spB) ++ decStr p.c.toNat) ++ spB) ++ decStr p.r.toNat) ++ nlB
def pmText (ps : List Pm) : ByteArray := ps.foldl (fun s p => s ++ pmLine p) ⟨#[]⟩
theorem pmText_snoc (ps : List Pm) (k : Nat) (h : k < ps.length) : pmText (ps.take (k + 1)) = pmText (ps.take k) ++ pmLine (ps.getD k default) := by
  rw [take_snocD default ps k h]; simp [pmText]
def Pm.good (p : Pm) : Prop := 0 ≤ p.o ∧ p.o ≤ 127 ∧ 0 ≤ p.c ∧ p.c ≤ 127 ∧ 0 ≤ p.r ∧ p.r ≤ 32767
theorem pmLine_size (p : Pm) (h : p.good) : (pmLine p).size ≤ 66 := by
  obtain ⟨h1, h2, h3, h4, h5, h6⟩ := h
  have a := decStr_size p.o.toNat (by omega)
  have b := decStr_size p.c.toNat (by omega)
  have c := decStr_size p.r.toNat (by omega)
  have d : spB.size = 1 := rfl
  have e : nlB.size = 1 := rfl
  simp only [pmLine, ByteArray.size_append]; omega
theorem pmText_size (ps : List Pm) (h : ∀ p ∈ ps, p.good) : ∀ k, k ≤ ps.length → (pmText (ps.take k)).size ≤ 66 * k := by
  intro k
  induction k with
  | zero => intro _; simp [pmText, ByteArray.size]
  | succ k ih =>
    intro hk
    rw [pmText_snoc ps k (by omega), ByteArray.size_append]
    have := ih (by omega)
    have := pmLine_size _ (h _ (getD_mem default ps k (by omega)))
    omega

theorem line_facts (p : Pm) (h : p.good) : ∃ s1 s2 s3 s4 s5 : ByteArray, s5 = pmLine p ∧
    (∀ wx : World, (Op.stringOp .add (decStr p.o.toNat) ⟨#[32]⟩).run Tryz.prog wx = .ok (.string s1) wx) ∧
    (∀ wx : World, (Op.stringOp .add s1 (decStr p.c.toNat)).run Tryz.prog wx = .ok (.string s2) wx) ∧
    (∀ wx : World, (Op.stringOp .add s2 ⟨#[32]⟩).run Tryz.prog wx = .ok (.string s3) wx) ∧
    (∀ wx : World, (Op.stringOp .add s3 (decStr p.r.toNat)).run Tryz.prog wx = .ok (.string s4) wx) ∧
    (∀ wx : World, (Op.stringOp .add s4 ⟨#[10]⟩).run Tryz.prog wx = .ok (.string s5) wx) := by
  obtain ⟨h1, h2, h3, h4, h5, h6⟩ := h
  have a := decStr_size p.o.toNat (by omega)
  have b := decStr_size p.c.toNat (by omega)
  have c := decStr_size p.r.toNat (by omega)
  have d : (⟨#[32]⟩ : ByteArray).size = 1 := rfl
  have e : (⟨#[10]⟩ : ByteArray).size = 1 := rfl
  refine ⟨_, _, _, _, _, rfl, fun wx => run_string_add_sum wx _ _ (by omega), fun wx => run_string_add_sum wx _ _ ?_, fun wx => run_string_add_sum wx _ _ ?_, fun wx => run_string_add_sum wx _ _ ?_, fun wx => run_string_add_sum wx _ _ ?_⟩
  all_goals (simp only [ByteArray.size_append]; omega)

attribute [local go_sem] Plain plainUpon

end Go.Proofs.YtgiimcdjojjbmaaGreatDoor
