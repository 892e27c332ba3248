/- Readings in memory; laws.eqReading, laws.eqReadingS: two lists of readings that are the same. -/
import Derived.Test.YtgiimcdjojjbmaaDoorB2
namespace Go.Proofs.YtgiimcdjojjbmaaDoor
open Go Go.RowKit

/-- A reading: its time, its level. -/
structure Rd where
  t : Int
  l : Int

instance : Inhabited Rd := ⟨⟨0, 0⟩⟩

/-- The cells at an address hold a list of readings. -/
def RdAt (w : World) (b off : Nat) (ps : List Rd) : Prop :=
  ∀ k, k < ps.length → w.cell? ⟨b, off + k * 2, none⟩ = some (.int .i64 (ps.getD k default).t) ∧
    w.cell? ⟨b, off + k * 2 + 1, none⟩ = some (.int .i16 (ps.getD k default).l)
theorem RdAt.mono {w w' : World} {b off : Nat} {ps : List Rd} (h : RdAt w b off ps) (hb : b < w.heap.size) (hB : Below w.heap.size w w') : RdAt w' b off ps := fun k hk =>
  ⟨(hB.cell (p := ⟨b, off + k * 2, none⟩) hb).trans (h k hk).1, (hB.cell (p := ⟨b, off + k * 2 + 1, none⟩) hb).trans (h k hk).2⟩

/-- A slice value that reads as a list of readings. -/
def RdSl (w : World) (v : Value) (ps : List Rd) : Prop :=
  (∃ a c, v = .slice a 0 c ∧ ps = []) ∨ (∃ b off c, v = .slice (some ⟨b, off, none⟩) ps.length c ∧ b < w.heap.size ∧ RdAt w b off ps)
theorem RdSl.mono {w w' : World} {v : Value} {ps : List Rd} (h : RdSl w v ps) (hB : Below w.heap.size w w') : RdSl w' v ps := by
  rcases h with h | ⟨b, off, c, hv, hb, hat⟩
  · exact .inl h
  · exact .inr ⟨b, off, c, hv, Nat.lt_of_lt_of_le hb hB.size, hat.mono hb hB⟩
theorem RdSl.len {w : World} {v : Value} {ps : List Rd} (h : RdSl w v ps) : ∃ a c, v = .slice a ps.length c := by
  rcases h with ⟨a, c, rfl, rfl⟩ | ⟨b, off, c, rfl, _, _⟩
  · exact ⟨_, _, rfl⟩
  · exact ⟨_, _, rfl⟩

theorem infoR : (Tryd.prog.info? 76).map (fun i => (i.zero, i.size, i.bytes)) = some (some (.agg #[.int .i64 0, .int .i16 0]), 2, 16) := by kernel_rfl

/-- The cells of a list of readings. -/
def rdCells : List Rd → List Value
  | [] => []
  | p :: r => .int .i64 p.t :: .int .i16 p.l :: rdCells r

theorem rdCells_append (a b : List Rd) : rdCells (a ++ b) = rdCells a ++ rdCells b := by
  induction a with
  | nil => rfl
  | cons p r ih => simp [rdCells, ih]
theorem rdCells_length (a : List Rd) : (rdCells a).length = a.length * 2 := by
  induction a with
  | nil => rfl
  | cons p r ih => simp [rdCells, ih]; omega
theorem rdCells_get (a : List Rd) : ∀ k, k < a.length → (rdCells a)[k * 2]? = some (.int .i64 (a.getD k default).t) ∧ (rdCells a)[k * 2 + 1]? = some (.int .i16 (a.getD k default).l) := by
  induction a with
  | nil => intro k h; simp at h
  | cons p r ih =>
    intro k h
    cases k with
    | zero => simp [rdCells]
    | succ k =>
      have := ih k (by simpa using h)
      have e : (k + 1) * 2 = k * 2 + 2 := by omega
      simp only [rdCells, e, List.getD_cons_succ]
      simpa using this
theorem rdCells_set (a : List Rd) (p : Rd) : ∀ k, k < a.length → ((rdCells a).set (k * 2) (.int .i64 p.t)).set (k * 2 + 1) (.int .i16 p.l) = rdCells (a.set k p) := by
  induction a with
  | nil => intro k h; simp at h
  | cons q r ih =>
    intro k h
    cases k with
    | zero => simp [rdCells]
    | succ k =>
      have := ih k (by simpa using h)
      have e : (k + 1) * 2 = k * 2 + 2 := by omega
      simp only [rdCells, e, List.set_cons_succ]
      rw [this]

theorem eqReading_same (p : Rd) (w : World) : Calls Tryd.prog 46 #[.agg #[.int .i64 p.t, .int .i16 p.l], .agg #[.int .i64 p.t, .int .i16 p.l]] w
    fun e w' => e = .returned (.bool true) ∧ Below w.heap.size w w' := by
  go_enter Tryd.func46, Tryd.ntmps46
  go_wp2
  go_ret
  exact ⟨rfl, ((Below.refl _ _).alloc (Nat.le_refl _) _).alloc (by simp) _⟩

set_option maxRecDepth 100000 in
theorem eqReadingS_same (ps : List Rd) (v v2 : Value) (w : World) (hv : RdSl w v ps) (hv2 : RdSl w v2 ps) (hlen : ps.length ≤ 4611686018427387904) : Calls Tryd.prog 17 #[v, v2] w
    fun e w' => e = .returned (.bool true) ∧ Below w.heap.size w w' := by
  by_cases h0 : ps = []
  · subst h0
    obtain ⟨a, c, rfl⟩ := hv.len
    obtain ⟨a2, c2, rfl⟩ := hv2.len
    clear hv hv2
    simp only [List.length_nil]
    go_enter Tryd.func17, Tryd.ntmps17
    go_wp2
    refine wp_loop_rounds 1 ?_
    rw [rounds_succ]
    go_wp2
    go_ret
    exact ⟨rfl, Below.refl _ _⟩
  · rcases hv with ⟨_, _, _, rfl⟩ | ⟨b, off, c, rfl, hb, hat⟩
    · exact absurd rfl h0
    rcases hv2 with ⟨_, _, _, rfl⟩ | ⟨b2, off2, c2, rfl, hb2, hat2⟩
    · exact absurd rfl h0
    have HAT := Lib.hid hat; clear hat
    have HAT2 := Lib.hid hat2; clear hat2 h0
    go_enter Tryd.func17, Tryd.ntmps17
    go_wp2
    go_loopw [5] (fun i wr => ∃ k : Nat, k ≤ ps.length ∧ i = .int .i64 k ∧ Below w.heap.size w wr) (fun i _ => ps.length - (intOf i).toNat)
    case atStart => exact ⟨0, Nat.zero_le _, rfl, Below.refl _ _⟩
    case round =>
      obtain ⟨k, hk, rfl, hB⟩ := hrel
      by_cases hlt : k < ps.length
      · obtain ⟨h1, h2⟩ := HAT.out.mono hb hB k hlt
        obtain ⟨g1, g2⟩ := HAT2.out.mono hb2 hB k hlt
        obtain ⟨p, hp⟩ : ∃ p, p = ps.getD k default := ⟨_, rfl⟩
        rw [← hp] at h1 h2 g1 g2
        clear hp
        go_wp2_with fail
        go_still_tail 8, (by kernel_rfl)
        go_goals
        all_goals change wpList _ _ _ _ _ wr.drew
        all_goals
          go_wp2_with (go_at_call 46; refine (eqReading_same _ _).mono ?_; rintro e w1 ⟨rfl, hB1⟩)
          go_roundw
          case rel => exact ⟨k + 1, by omega, by go_num, hB.drew.trans (hB1.mono hB.size)⟩
          case measure => simp [intOf]; omega
      · go_wp2_with fail
        go_ret
        exact ⟨rfl, hB⟩
end Go.Proofs.YtgiimcdjojjbmaaDoor
