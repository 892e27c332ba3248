/- slices.IndexFunc and slices.ContainsFunc over wells and a test that only reads. -/
import Derived.Test.YtgiimcdjojjbmaaGreatDoorW0
namespace Go.Proofs.YtgiimcdjojjbmaaGreatDoor
open Go Go.RowKit

def anyWl (T : Wl → Bool) (ps : List Wl) : Bool := ps.any T

theorem anyWl_snoc (T : Wl → Bool) (l : List Wl) (k : Nat) (h : k < l.length) : anyWl T (l.take (k + 1)) = (anyWl T (l.take k) || T (l.getD k default)) := by
  rw [take_snocD default l k h]; simp [anyWl]
theorem anyWl_hit (T : Wl → Bool) (l : List Wl) (k : Nat) (h : k < l.length) (ht : T (l.getD k default) = true) : anyWl T l = true := by
  simp only [anyWl, List.any_eq_true]; exact ⟨_, getD_mem default l k h, ht⟩

def TestW (q : Nat) (T : Wl → Bool) : Prop := ∀ (p : Wl) (w : World), p.ok → Calls Tryz.prog q #[.agg #[.int .i8 p.x, .int .i8 p.y, .float .f32 p.r]] w
    fun e w' => e = .returned (.bool (T p)) ∧ Below w.heap.size w w'

set_option maxRecDepth 100000 in
theorem indexFuncW_rows (q : Nat) (T : Wl → Bool) (hcf : ∀ args w, (callFunc q args).run Tryz.prog w = .ok (.enter q args) w) (hT : TestW q T) (ps : List Wl) (hok : ∀ p ∈ ps, p.ok) (b off c : Nat) (w : World)
    (hb : b < w.heap.size) (hat : WlAt w b off ps) (hlen : ps.length ≤ 4611686018427387904) : Calls Tryz.prog 45 #[.slice (some ⟨b, off, none⟩) ps.length c, .func (.func q) #[] #[]] w
    fun e w' => (∃ n : Int, e = .returned (.int .i64 n) ∧ (decide (0 ≤ n)) = anyWl T ps) ∧ Below w.heap.size w w' := by
  have HT := Lib.hid hT; clear hT
  have HOK := Lib.hid hok; clear hok
  have HAT := Lib.hid hat; clear hat
  go_enter Tryz.func45, Tryz.ntmps45
  go_wp2
  go_loopw [8] (fun i wr => ∃ k : Nat, k ≤ ps.length ∧ i = .int .i64 k ∧ Hid (anyWl T (ps.take k) = false) ∧ Below w.heap.size w wr) (fun i _ => ps.length - (intOf i).toNat)
  case atStart => exact ⟨0, Nat.zero_le _, rfl, by simp [anyWl, Hid], Below.refl _ _⟩
  case round =>
    obtain ⟨k, hk, rfl, hno, hB⟩ := hrel
    by_cases hlt : k < ps.length
    · obtain ⟨h1, h2, h3⟩ := HAT.out.mono hb hB k hlt
      obtain ⟨p, hp⟩ : ∃ p, p = ps.getD k default := ⟨_, rfl⟩
      rw [← hp] at h1 h2 h3
      have HP := Lib.hid hp; clear hp
      have hpo : p.ok := HOK.out p (by rw [HP.out]; exact getD_mem _ _ _ hlt)
      rcases ht : T p with _ | _
      · have Ht := Lib.hid ht; clear ht
        have HC := Lib.hid (fun w => HT.out p w hpo); clear hpo
        rw [Ht.out] at HC
        go_wp2_with ((with_reducible refine (HC.out _).mono ?_); rintro e w1 ⟨rfl, hB1⟩)
        go_roundw
        case rel => exact ⟨k + 1, by omega, by go_num, by show _ = _; rw [anyWl_snoc T ps k hlt, ← HP.out, Ht.out, hno.out]; rfl, hB.trans (hB1.mono hB.size)⟩
        case measure => simp [intOf]; omega
      · have Ht := Lib.hid ht; clear ht
        have HC := Lib.hid (fun w => HT.out p w hpo); clear hpo
        rw [Ht.out] at HC
        go_wp2_with ((with_reducible refine (HC.out _).mono ?_); rintro e w1 ⟨rfl, hB1⟩)
        go_ret
        exact ⟨⟨k, rfl, by rw [anyWl_hit T ps k hlt (by rw [← HP.out]; exact Ht.out)]; simp⟩, hB.trans (hB1.mono hB.size)⟩
    · go_wp2_with fail
      go_ret
      have : ps.take k = ps := List.take_of_length_le (by omega)
      exact ⟨⟨_, rfl, by rw [show anyWl T ps = false from (by rw [← this]; exact hno.out)]; rfl⟩, hB⟩

set_option maxRecDepth 100000 in
theorem indexFuncW_none (q : Nat) (a : Option Addr) (c : Nat) (w : World) : Calls Tryz.prog 45 #[.slice a 0 c, .func (.func q) #[] #[]] w
    fun e w' => e = .returned (.int .i64 (-1)) ∧ Below w.heap.size w w' := by
  go_enter Tryz.func45, Tryz.ntmps45
  go_wp2
  refine wp_loop_rounds 1 ?_
  rw [rounds_succ]
  go_wp2
  go_ret
  exact ⟨rfl, Below.refl _ _⟩

theorem containsFuncW_any (q : Nat) (T : Wl → Bool) (hcf : ∀ args w, (callFunc q args).run Tryz.prog w = .ok (.enter q args) w) (hT : TestW q T) (ps : List Wl) (hok : ∀ p ∈ ps, p.ok) (v : Value) (w : World)
    (hv : WlSl w v ps) (hlen : ps.length ≤ 4611686018427387904) : Calls Tryz.prog 18 #[v, .func (.func q) #[] #[]] w
    fun e w' => e = .returned (.bool (anyWl T ps)) ∧ Below w.heap.size w w' := by
  rcases hv with ⟨a, c, rfl, rfl⟩ | ⟨b, off, c, rfl, hb, hat⟩
  · have HT := Lib.hid hT; clear hT
    go_enter Tryz.func18, Tryz.ntmps18
    go_wp2_with (go_at_call 45; refine (indexFuncW_none _ _ _ _).mono ?_; rintro e w1 ⟨rfl, hB1⟩)
    go_ret
    exact ⟨rfl, hB1⟩
  · have HC := indexFuncW_rows q T hcf hT ps hok b off c w hb hat hlen
    have HK := Lib.hid HC; clear HC hT hcf
    go_enter Tryz.func18, Tryz.ntmps18
    go_wp2_with (go_at_call 45; refine HK.out.mono ?_; rintro e w1 ⟨⟨n, rfl, hn⟩, hB1⟩; have Hn := Lib.hid hn; clear hn)
    go_ret
    exact ⟨by rw [← Hn.out]; rfl, hB1⟩

theorem badWell_test : TestW 19 (fun p => !wlB p) := fun p w h => badWell_any p w h

theorem containsBad_any (ps : List Wl) (hok : ∀ p ∈ ps, p.ok) (v : Value) (w : World) (hv : WlSl w v ps) (hlen : ps.length ≤ 4611686018427387904) :
    Calls Tryz.prog 18 #[v, .func (.func 19) #[] #[]] w fun e w' => e = .returned (.bool (!ps.all wlB)) ∧ Below w.heap.size w w' := by
  have := containsFuncW_any 19 (fun p => !wlB p) (fun args w => by kernel_rfl) badWell_test ps hok v w hv hlen
  have e : anyWl (fun p => !wlB p) ps = !ps.all wlB := by
    unfold anyWl
    exact List.not_all_eq_any_not.symm
  rw [e] at this
  exact this
end Go.Proofs.YtgiimcdjojjbmaaGreatDoor
