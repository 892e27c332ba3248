/- impl.ValidReadings. -/
import Derived.Test.YtgiimcdjojjbmaaDoorH2
import Derived.Test.YtgiimcdjojjbmaaDoorF7
namespace Go.Proofs.YtgiimcdjojjbmaaDoor
open Go Go.RowKit

theorem infoI64 : (Tryd.prog.info? 2).map (fun i => (i.zero, i.size, i.bytes)) = some (some (.int .i64 0), 1, 8) := by kernel_rfl

theorem row_empty1 (w : World) (T : Nat) : (w.alloc (.cells #[] T)).ownsRow w.heap.size T 1 (.slice (some ⟨w.heap.size, 0, none⟩) 0 0) 0 [] :=
  ⟨rfl, .inr ⟨_, 0, #[], rfl, Nat.le_refl _, heap_alloc_new w _, Nat.le_refl _, by simp [maxLen], rfl, rfl⟩⟩

/-- The cells of the times. -/
def timeCells (L : List Rd) : List Value := L.map fun p => .int .i64 p.t
theorem timeCells_get (L : List Rd) (k : Nat) (h : k < L.length) : (timeCells L)[k]? = some (.int .i64 (L.getD k default).t) := by
  simp [timeCells, List.getD, h]

theorem times_of_row {W : World} {B n : Nat} {v : Value} {L : List Rd} (h : W.ownsRow B 2 1 v n (timeCells L)) :
    ∃ g c, v = .slice (Option.map (fun b => (⟨b, 0, none⟩ : Addr)) g) L.length c ∧ (L ≠ [] → ∃ b, g = some b ∧ ∀ k, k < L.length → W.cell? ⟨b, k, none⟩ = some (.int .i64 (L.getD k default).t)) := by
  have hl : L.length = n := by have := h.1; unfold timeCells at this; simpa using this
  rcases h.2 with ⟨rfl, h0⟩ | ⟨g, cap, cur, rfl, hb, hg, _⟩
  · refine ⟨none, 0, by rw [hl, h0]; rfl, fun hne => ?_⟩
    exact absurd (List.length_eq_zero_iff.1 (hl.trans h0)) hne
  · refine ⟨some g, cap, by rw [hl]; rfl, fun _ => ⟨g, rfl, fun k hk => ?_⟩⟩
    rw [World.ownsRow.cellAt h k (by omega)]
    exact timeCells_get L k hk

set_option maxHeartbeats 2000000 in
set_option maxRecDepth 100000 in
theorem validReadings_any (L : List Rd) (v : Value) (w : World) (hv : RdSl w v L) (hlen : L.length ≤ 8796093022208) : Calls Tryd.prog 44 #[v] w
    fun e w' => e = .returned (.bool (decide (L.length ≤ 40) && rdsB L)) ∧ Below w.heap.size w w' := by
  obtain ⟨i0, hi, hz0, hz1, hz2⟩ := info_parts infoI64
  have hfin : ∀ (vt : Value) (wr : World), wr.ownsRow w.heap.size 2 1 vt L.length (timeCells L) → Below w.heap.size w wr → Calls Tryd.prog 64 #[vt] wr
      fun e w' => e = .returned (.bool (decide (L.length ≤ 40) && rdsB L)) ∧ Below w.heap.size w w' := by
    intro vt wr hr hB
    obtain ⟨g, c, rfl, hg⟩ := times_of_row hr
    refine (timesOk_any L g c wr (by omega) hg).mono ?_
    rintro e w' ⟨rfl, rfl⟩
    exact ⟨rfl, hB⟩
  obtain ⟨r, hr⟩ : ∃ r, r = (decide (L.length ≤ 40) && rdsB L) := ⟨_, rfl⟩
  rw [← hr] at hfin ⊢
  have HF := Lib.hid hfin
  have hrow0 : (w.alloc (.cells #[] 2)).ownsRow w.heap.size 2 1 (.slice (some ⟨w.heap.size, 0, none⟩) 0 0) 0 [] := row_empty1 w 2
  have HROW0 := Lib.hid hrow0
  clear hfin hr hrow0
  by_cases h0 : L = []
  · subst h0
    obtain ⟨a, c, rfl⟩ := hv.len
    clear hv
    simp only [List.length_nil]
    go_enter Tryd.func44, Tryd.ntmps44
    go_wp2_with fail
    refine wp_loop_rounds 1 ?_
    rw [rounds_succ]
    go_wp2_with fail
    refine (HF.out _ _ HROW0.out ((Below.refl _ _).alloc (Nat.le_refl _) _)).mono ?_
    rintro e w' ⟨rfl, hB⟩
    go_wp2_with fail
    go_ret
    exact ⟨rfl, hB⟩
  · rcases hv with ⟨_, _, _, rfl⟩ | ⟨b, off, c, rfl, hb, hat⟩
    · exact absurd rfl h0
    have HAT := Lib.hid hat
    clear hat h0
    go_enter Tryd.func44, Tryd.ntmps44
    go_wp2_with fail
    go_loopw [3, 9] (fun u i wr => ∃ k : Nat, k ≤ L.length ∧ i = .int .i64 k ∧ Hid (wr.ownsRow w.heap.size 2 1 u k (timeCells (L.take k))) ∧ Below w.heap.size w wr) (fun _ i _ => L.length - (intOf i).toNat)
    case atStart => exact ⟨0, Nat.zero_le _, rfl, HROW0, (Below.refl _ _).alloc (Nat.le_refl _) _⟩
    case round =>
      obtain ⟨k, hk, rfl, HROW, hB⟩ := hrel
      clear HROW0
      have hsr := hB.size
      by_cases hlt : k < L.length
      · obtain ⟨h1, h2⟩ := HAT.out.mono hb hB k hlt
        obtain ⟨p, hp⟩ : ∃ p, p = L.getD k default := ⟨_, rfl⟩
        rw [← hp] at h1 h2
        have HP := Lib.hid hp
        clear hp
        go_wp2_with (at_builtin; refine wpList_append_own _ rfl _ _ 104 rfl w.heap.size 2 i0 (.int .i64 0) 1 8 Tryd.underlying104 hi hz0 hz1 hz2 rfl (by decide) _ _ _ rfl ((HROW.out.alloc _).alloc _) ⟨wr.heap.size + 1, 0, none⟩ 1 1 [.int .i64 p.t] rfl rfl ?c1 ?c2 ?c3 ?c4 ?c5 ?_)
        case c1 =>
          intro j u hj
          match j, hj with
          | 0, hj => simp at hj; subst hj; simp [Addr.add]
        case c2 => intro u hu; simp at hu; subst hu; rfl
        case c3 => unfold maxLen; omega
        case c4 => omega
        case c5 => simp; omega
        intro v' w4 hown' hgrow _
        have hO2 : w4.ownsRow w.heap.size 2 1 v' (k + 1) (timeCells (L.take (k + 1))) := by
          rw [take_snocD default L k hlt, show timeCells (L.take k ++ [L.getD k default]) = timeCells (L.take k) ++ [.int .i64 p.t] from by rw [HP.out]; simp [timeCells]]; exact hown'
        have hB4 : Below w.heap.size w w4 := ((hB.alloc (by omega) _).alloc (by simp; omega) _).grown hgrow (by simp; omega) (fun j hj => (HROW.out.lt j hj).1)
        have HO2 := Lib.hid hO2
        clear hO2 hown' hgrow
        go_wp2_with fail
        go_roundw
        case rel => exact ⟨k + 1, by omega, by go_num, HO2, hB4⟩
        case measure => simp [intOf]; omega
      · obtain rfl : k = L.length := by omega
        have hrow := HROW.out
        rw [List.take_length] at hrow
        have HR2 := Lib.hid hrow
        clear hrow
        go_wp2_with fail
        refine (HF.out _ _ HR2.out hB).mono ?_
        rintro e w' ⟨rfl, hB'⟩
        go_wp2_with fail
        go_ret
        exact ⟨rfl, hB'⟩
end Go.Proofs.YtgiimcdjojjbmaaDoor
