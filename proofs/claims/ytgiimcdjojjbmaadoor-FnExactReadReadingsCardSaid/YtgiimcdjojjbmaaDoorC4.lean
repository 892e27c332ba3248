/- The law PermitsText: the walk. -/
import Derived.Test.YtgiimcdjojjbmaaDoorB2
import Derived.Test.YtgiimcdjojjbmaaDoorC3
namespace Go.Proofs.YtgiimcdjojjbmaaDoor
open Go Go.RowKit

set_option maxRecDepth 100000 in
theorem specText_any (ps : List Pm) (v : Value) (w : World) (hps : ∀ p ∈ ps, p.ok) (hv : PmSl w v ps) (hlen : ps.length ≤ 1048576) :
    Calls Tryd.prog 8 #[v] w fun e w' => e = .returned (.string (permText ps)) ∧ Below w.heap.size w w' := by
  have H0 := l07Plain_any ps hps v w hv (by omega)
  have HV := Lib.hid hv
  obtain ⟨a, c, rfl⟩ := hv.len
  clear hv
  unfold permText
  rcases hbd : (decide (ps.length ≤ 6) && !anyPm badP ps) with _ | _
  all_goals
    rw [hbd] at H0
    have HP := Lib.hid H0; clear H0
    have HB := Lib.hid hbd; clear hbd
  · go_enter Tryd.func8, Tryd.ntmps8
    go_wp2_with (go_at_call 24; refine HP.out.mono ?_; rintro e w1 ⟨rfl, hB1⟩)
    go_ret
    exact ⟨rfl, hB1⟩
  · have HG := Lib.hid (good_of (ps := ps) (by have := HB.out; simp at this; exact this.2))
    clear hps
    go_enter Tryd.func8, Tryd.ntmps8
    go_wp2_with (first | (go_at_call 24; refine HP.out.mono ?_; rintro e w1 ⟨rfl, hB1⟩) | (go_at_call 25; refine (l07Text_any ps HG.out _ _ (HV.out.mono hB1) hlen).mono ?_; rintro e w2 ⟨rfl, hB2⟩))
    go_ret
    exact ⟨rfl, hB1.trans (hB2.mono hB1.size)⟩

theorem szPermitS_any (n c : Nat) (a : Option Addr) (left : Int) (w : World) (h0 : 0 ≤ left) (h1 : left ≤ 1048576) (hn : n ≤ 9223372036854775807) :
    Calls Tryd.prog 7 #[.slice a n c, .int .i64 left] w fun e w' => e = .returned (.int .i64 (if left < n then -1 else left - n)) ∧ w = w' := by
  by_cases h : left < n
  all_goals
    go_enter Tryd.func7, Tryd.ntmps7
    go_wp2
    go_ret
  · exact ⟨rfl, rfl⟩
  · exact ⟨rfl, rfl⟩

set_option maxRecDepth 100000 in
theorem law_walk (ps : List Pm) (v : Value) (w : World) (hT : Tab10 w) (hps : ∀ p ∈ ps, p.ok) (hv : PmSl w v ps) (hlen : ps.length ≤ 9223372036854775807) :
    Calls Tryd.prog 3 #[v] w fun e w' => e = .returned (.bool true) ∧ Below w.heap.size w w' := by
  have HV := Lib.hid hv
  have HT := Lib.hid hT; clear hT
  have HPS := Lib.hid hps; clear hps
  obtain ⟨a, c, rfl⟩ := hv.len
  clear hv
  by_cases hbig : 1048576 < ps.length
  · go_enter Tryd.func3, Tryd.ntmps3
    go_wp2_with (go_at_call 7; refine (szPermitS_any _ _ _ _ _ (by omega) (by omega) hlen).mono ?_; rintro e w1 ⟨rfl, rfl⟩; rw [if_pos (by omega)])
    go_ret
    exact ⟨rfl, Below.refl _ _⟩
  · go_enter Tryd.func3, Tryd.ntmps3
    go_wp2_with (go_at_call 7; refine (szPermitS_any _ _ _ _ _ (by omega) (by omega) hlen).mono ?_; rintro e w1 ⟨rfl, rfl⟩; rw [if_neg (by omega)])
    refine (toPermitS_any ps _ w HV.out (by omega)).mono ?_
    rintro e w1 ⟨⟨v1, rfl, hv1⟩, hB1⟩
    have HV1 := Lib.hid hv1; clear hv1
    go_wp2_with fail
    refine (specText_any ps v1 w1 HPS.out HV1.out (by omega)).mono ?_
    rintro e w2 ⟨rfl, hB2⟩
    have hb2 := hB1.trans (hB2.mono hB1.size)
    go_wp2_with fail
    refine (toPermitS_any ps _ w2 (HV.out.mono hb2) (by omega)).mono ?_
    rintro e w3 ⟨⟨v3, rfl, hv3⟩, hB3⟩
    have hb3 := hb2.trans (hB3.mono hb2.size)
    have HV3 := Lib.hid hv3; clear hv3
    go_wp2_with fail
    refine (implText_any ps v3 w3 (HT.out.below hb3) HPS.out HV3.out (by omega)).mono ?_
    rintro e w4 ⟨rfl, hB4⟩
    have hb4 := hb3.trans (hB4.mono hb3.size)
    go_wp2_with fail
    refine (toPermitS_any ps _ w4 (HV.out.mono hb4) (by omega)).mono ?_
    rintro e w5 ⟨⟨v5, rfl, hv5⟩, hB5⟩
    have hb5 := hb4.trans (hB5.mono hb4.size)
    have HV5 := Lib.hid hv5; clear hv5
    go_wp2_with fail
    refine (eqPermitS_same ps v3 v5 w5 ((HV3.out.mono hB4).mono hB5) HV5.out (by omega)).mono ?_
    rintro e w6 ⟨rfl, hB6⟩
    have hb6 := hb5.trans (hB6.mono hb5.size)
    go_wp2_with fail
    go_ret
    exact ⟨rfl, hb6⟩
end Go.Proofs.YtgiimcdjojjbmaaDoor
