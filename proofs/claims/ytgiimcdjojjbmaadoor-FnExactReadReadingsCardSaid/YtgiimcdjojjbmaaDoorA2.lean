/- slices.IndexFunc and slices.ContainsFunc over permits, at a test that makes memory at most. -/
import Derived.Test.YtgiimcdjojjbmaaDoorA1
import Derived.Lib.Hide
namespace Go.Proofs.YtgiimcdjojjbmaaDoor
open Go Go.RowKit

def anyPm (T : Pm → Bool) (ps : List Pm) : Bool := ps.any T

theorem PmAt.mono {w w' : World} {b off : Nat} {ps : List Pm} (h : PmAt w b off ps) (hb : b < w.heap.size) (hB : Below w.heap.size w w') : PmAt w' b off ps := fun k hk =>
  ⟨(hB.cell (p := ⟨b, off + k * 3, none⟩) hb).trans (h k hk).1, (hB.cell (p := ⟨b, off + k * 3 + 1, none⟩) hb).trans (h k hk).2.1, (hB.cell (p := ⟨b, off + k * 3 + 2, none⟩) hb).trans (h k hk).2.2⟩

theorem getD_mem {α : Type} (d : α) (l : List α) (k : Nat) (h : k < l.length) : l.getD k d ∈ l := by
  simp [List.getD, List.getElem?_eq_getElem h]
theorem take_snocD {α : Type} (d : α) (l : List α) (k : Nat) (h : k < l.length) : l.take (k + 1) = l.take k ++ [l.getD k d] := by
  rw [List.take_succ_eq_append_getElem h]; simp [List.getD, List.getElem?_eq_getElem h]
theorem anyPm_snoc (T : Pm → Bool) (l : List Pm) (k : Nat) (h : k < l.length) : anyPm T (l.take (k + 1)) = (anyPm T (l.take k) || T (l.getD k default)) := by
  rw [take_snocD default l k h]; simp [anyPm]
theorem anyPm_hit (T : Pm → Bool) (l : List Pm) (k : Nat) (h : k < l.length) (ht : T (l.getD k default) = true) : anyPm T l = true := by
  simp only [anyPm, List.any_eq_true]; exact ⟨_, getD_mem default l k h, ht⟩

def TestOf (q : Nat) (T : Pm → Bool) : Prop := ∀ (p : Pm) (w : World), p.ok → Calls Tryd.prog q #[.agg #[.int .i8 p.o, .int .i8 p.c, .int .i16 p.r]] w
    fun e w' => e = .returned (.bool (T p)) ∧ Below w.heap.size w w'

set_option maxRecDepth 100000 in
theorem indexFunc_rows (q : Nat) (T : Pm → Bool) (hcf : ∀ args w, (callFunc q args).run Tryd.prog w = .ok (.enter q args) w) (hT : TestOf q T) (ps : List Pm) (hok : ∀ p ∈ ps, p.ok) (b off c : Nat) (w : World)
    (hb : b < w.heap.size) (hat : PmAt w b off ps) (hlen : ps.length ≤ 4611686018427387904) : Calls Tryd.prog 67 #[.slice (some ⟨b, off, none⟩) ps.length c, .func (.func q) #[] #[]] w
    fun e w' => (∃ n : Int, e = .returned (.int .i64 n) ∧ (decide (0 ≤ n)) = anyPm T ps) ∧ Below w.heap.size w w' := by
  have HT := Lib.hid hT; clear hT
  have HOK := Lib.hid hok; clear hok
  have HAT := Lib.hid hat; clear hat
  go_enter Tryd.func67, Tryd.ntmps67
  go_wp2
  go_loopw [8] (fun i wr => ∃ k : Nat, k ≤ ps.length ∧ i = .int .i64 k ∧ Hid (anyPm T (ps.take k) = false) ∧ Below w.heap.size w wr) (fun i _ => ps.length - (intOf i).toNat)
  case atStart => exact ⟨0, Nat.zero_le _, rfl, by simp [anyPm, Hid], Below.refl _ _⟩
  case round =>
    obtain ⟨k, hk, rfl, hno, hB⟩ := hrel
    by_cases hlt : k < ps.length
    · obtain ⟨h1, h2, h3⟩ := HAT.out.mono hb hB k hlt
      obtain ⟨p, hp⟩ : ∃ p, p = ps.getD k default := ⟨_, rfl⟩
      rw [← hp] at h1 h2 h3
      have HP := Lib.hid hp; clear hp
      have hpo : p.ok := HOK.out p (by rw [HP.out]; exact getD_mem _ _ _ hlt)
      rcases ht : T p with _ | _
      · have Ht := Lib.hid ht; clear ht
        have HC := Lib.hid (fun w => HT.out p w hpo); clear hpo
        rw [Ht.out] at HC
        go_wp2_with ((with_reducible refine (HC.out _).mono ?_); rintro e w1 ⟨rfl, hB1⟩)
        go_roundw
        case rel => exact ⟨k + 1, by omega, by go_num, by show _ = _; rw [anyPm_snoc T ps k hlt, ← HP.out, Ht.out, hno.out]; rfl, hB.trans (hB1.mono hB.size)⟩
        case measure => simp [intOf]; omega
      · have Ht := Lib.hid ht; clear ht
        have HC := Lib.hid (fun w => HT.out p w hpo); clear hpo
        rw [Ht.out] at HC
        go_wp2_with ((with_reducible refine (HC.out _).mono ?_); rintro e w1 ⟨rfl, hB1⟩)
        go_ret
        exact ⟨⟨k, rfl, by rw [anyPm_hit T ps k hlt (by rw [← HP.out]; exact Ht.out)]; simp⟩, hB.trans (hB1.mono hB.size)⟩
    · go_wp2_with fail
      go_ret
      have : ps.take k = ps := List.take_of_length_le (by omega)
      exact ⟨⟨_, rfl, by rw [show anyPm T ps = false from (by rw [← this]; exact hno.out)]; rfl⟩, hB⟩

set_option maxRecDepth 100000 in
theorem indexFunc_none (q : Nat) (a : Option Addr) (c : Nat) (w : World) : Calls Tryd.prog 67 #[.slice a 0 c, .func (.func q) #[] #[]] w
    fun e w' => e = .returned (.int .i64 (-1)) ∧ Below w.heap.size w w' := by
  go_enter Tryd.func67, Tryd.ntmps67
  go_wp2
  refine wp_loop_rounds 1 ?_
  rw [rounds_succ]
  go_wp2
  go_ret
  exact ⟨rfl, Below.refl _ _⟩

theorem containsFunc_any (q : Nat) (T : Pm → Bool) (hcf : ∀ args w, (callFunc q args).run Tryd.prog w = .ok (.enter q args) w) (hT : TestOf q T) (ps : List Pm) (hok : ∀ p ∈ ps, p.ok) (v : Value) (w : World)
    (hv : PmSl w v ps) (hlen : ps.length ≤ 4611686018427387904) : Calls Tryd.prog 49 #[v, .func (.func q) #[] #[]] w
    fun e w' => e = .returned (.bool (anyPm T ps)) ∧ Below w.heap.size w w' := by
  rcases hv with ⟨a, c, rfl, rfl⟩ | ⟨b, off, c, rfl, hb, hat⟩
  · have HT := Lib.hid hT; clear hT
    go_enter Tryd.func49, Tryd.ntmps49
    go_wp2_with (go_at_call 67; refine (indexFunc_none _ _ _ _).mono ?_; rintro e w1 ⟨rfl, hB1⟩)
    go_ret
    exact ⟨rfl, hB1⟩
  · have HC := indexFunc_rows q T hcf hT ps hok b off c w hb hat hlen
    have HK := Lib.hid HC; clear HC hT hcf
    go_enter Tryd.func49, Tryd.ntmps49
    go_wp2_with (go_at_call 67; refine HK.out.mono ?_; rintro e w1 ⟨⟨n, rfl, hn⟩, hB1⟩; have Hn := Lib.hid hn; clear hn)
    go_ret
    exact ⟨by rw [← Hn.out]; rfl, hB1⟩
end Go.Proofs.YtgiimcdjojjbmaaDoor
