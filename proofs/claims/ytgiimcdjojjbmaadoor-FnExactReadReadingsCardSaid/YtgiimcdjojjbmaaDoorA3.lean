/- The tests on a list of permits: impl.ratesOk, impl.permitsOk, spec.l07Plain. -/
import Derived.Test.YtgiimcdjojjbmaaDoorA2
namespace Go.Proofs.YtgiimcdjojjbmaaDoor
open Go Go.RowKit

def badRate (p : Pm) : Bool := !inB p.r 0 400
def badWho (p : Pm) : Bool := !inB p.o 0 7 || !inB p.c 0 63

theorem cf_rate (args : Array Value) (w : World) : (callFunc 65 args).run Tryd.prog w = .ok (.enter 65 args) w := by kernel_rfl
theorem cf_perm (args : Array Value) (w : World) : (callFunc 50 args).run Tryd.prog w = .ok (.enter 50 args) w := by kernel_rfl

theorem PmSl.len {w : World} {v : Value} {ps : List Pm} (h : PmSl w v ps) : ∃ a c, v = .slice a ps.length c := by
  rcases h with ⟨a, c, rfl, rfl⟩ | ⟨b, off, c, rfl, _⟩
  · exact ⟨_, _, rfl⟩
  · exact ⟨_, _, rfl⟩

theorem PmSl.mono {w w' : World} {v : Value} {ps : List Pm} (h : PmSl w v ps) (hB : Below w.heap.size w w') : PmSl w' v ps := by
  rcases h with ⟨a, c, rfl, rfl⟩ | ⟨b, off, c, rfl, hb, hat⟩
  · exact .inl ⟨_, _, rfl, rfl⟩
  · exact .inr ⟨_, _, _, rfl, Nat.lt_of_lt_of_le hb hB.size, hat.mono hb hB⟩

theorem ratesOk_any (ps : List Pm) (hok : ∀ p ∈ ps, p.ok) (v : Value) (w : World) (hv : PmSl w v ps) (hlen : ps.length ≤ 4611686018427387904) :
    Calls Tryd.prog 48 #[v] w fun e w' => e = .returned (.bool (decide (ps.length ≤ 6) && !anyPm badRate ps)) ∧ Below w.heap.size w w' := by
  have HC := Lib.hid (containsFunc_any 65 badRate cf_rate (fun p w h => rateLit_any p.o p.c p.r w h.2.2.2.2.1 h.2.2.2.2.2) ps hok v w hv hlen)
  obtain ⟨a, c, rfl⟩ := hv.len
  clear hv hok
  by_cases h6 : ps.length ≤ 6
  · go_enter Tryd.func48, Tryd.ntmps48
    go_wp2_with (go_at_call 49; refine HC.out.mono ?_; rintro e w1 ⟨rfl, hB1⟩)
    go_ret
    exact ⟨by simp [h6], hB1⟩
  · go_enter Tryd.func48, Tryd.ntmps48
    go_wp2_with fail
    go_ret
    exact ⟨by first | (simp; done) | (simp; omega), Below.refl _ _⟩

theorem permitsOk_any (ps : List Pm) (hok : ∀ p ∈ ps, p.ok) (v : Value) (w : World) (hv : PmSl w v ps) (hlen : ps.length ≤ 4611686018427387904) :
    Calls Tryd.prog 27 #[v] w fun e w' => e = .returned (.bool ((decide (ps.length ≤ 6) && !anyPm badRate ps) && !anyPm badWho ps)) ∧ Below w.heap.size w w' := by
  have HC := Lib.hid (fun w hv => containsFunc_any 50 badWho cf_perm (fun p w h => permLit_any p.o p.c p.r w h.1 h.2.1 h.2.2.1 h.2.2.2.1) ps hok v w hv hlen)
  have HR := Lib.hid (ratesOk_any ps hok v w hv hlen)
  have HV := Lib.hid hv
  obtain ⟨a, c, rfl⟩ := hv.len
  clear hv hok
  rcases hb : (decide (ps.length ≤ 6) && !anyPm badRate ps) with _ | _
  all_goals
    rw [hb] at HR
    have HB := Lib.hid hb; clear hb
    go_enter Tryd.func27, Tryd.ntmps27
    go_wp2_with (first | (go_at_call 48; refine HR.out.mono ?_; rintro e w1 ⟨rfl, hB1⟩) | (go_at_call 49; refine (HC.out _ (HV.out.mono hB1)).mono ?_; rintro e w2 ⟨rfl, hB2⟩))
    go_ret
  · exact ⟨rfl, hB1⟩
  · exact ⟨rfl, hB1.trans (hB2.mono hB1.size)⟩
end Go.Proofs.YtgiimcdjojjbmaaDoor
