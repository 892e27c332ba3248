/- Plain numbers; wells in memory; the tests of one well. -/
import Derived.Test.YtgiimcdjojjbmaaGreatDoorD0
import Derived.Test.YtgiimcdjojjbmaaGreatDoorB0
namespace Go.Proofs.YtgiimcdjojjbmaaGreatDoor
open Go Go.RowKit Ieee

theorem run_store_float {P : Program} {w : World} {a : Addr} {m : Mode} (k : FloatKind) (b : Nat) : (store a (.float k b) m).run P w = stored P w a (.float k b) m := run_store P w a _ m rfl

def geB (a b : Nat) : Bool := FloatKind.f32.format.order a b == some .gt || FloatKind.f32.format.order a b == some .eq
def leB (a b : Nat) : Bool := FloatKind.f32.format.order a b == some .lt || FloatKind.f32.format.order a b == some .eq
/-- A plain number: of a size of at most 1048576. -/
def plainB (b : Nat) : Bool := geB b 3380609024 && leB b 1233125376

theorem order_nan {k : FloatKind} {a b : Nat} (h : nanOf k a = true) : k.format.order a b = none := by
  rw [order_self] at h
  unfold Format.order
  cases hr : k.format.read a with
  | nan s f => rfl
  | infinity s => rw [hr] at h; cases h
  | number s m e => rw [hr] at h; cases h
theorem plain_num {b : Nat} (h : plainB b = true) : nanOf .f32 b = false := by
  cases hn : nanOf .f32 b with
  | false => rfl
  | true =>
    unfold plainB geB at h
    rw [order_nan hn] at h
    cases h
theorem canon_plain {b : Nat} (h : plainB b = true) : canon b = b := by
  unfold canon; rw [plain_num h]; rfl

theorem isPlain_any (b : Nat) (w : World) : Calls Tryz.prog 73 #[.float .f32 b] w fun e w' => e = .returned (.bool (plainB b)) ∧ w = w' := by
  unfold plainB
  cases h : geB b 3380609024
  all_goals
    have h' := h
    unfold geB at h h'
    unfold leB
    go_enter Tryz.func73, Tryz.ntmps73
    go_wp2
    go_ret
    exact ⟨by first | rfl | simp, rfl⟩
theorem l03Plain_any (b : Nat) (w : World) : Calls Tryz.prog 61 #[.float .f32 b] w fun e w' => e = .returned (.bool (plainB b)) ∧ w = w' := by
  unfold plainB
  cases h : geB b 3380609024
  all_goals
    have h' := h
    unfold geB at h h'
    unfold leB
    go_enter Tryz.func61, Tryz.ntmps61
    go_wp2
    go_ret
    exact ⟨by first | rfl | simp, rfl⟩
theorem l01Plain_any (b : Nat) (w : World) : Calls Tryz.prog 76 #[.float .f32 b] w fun e w' => e = .returned (.bool (plainB b)) ∧ w = w' := by
  unfold plainB
  cases h : geB b 3380609024
  all_goals
    have h' := h
    unfold geB at h h'
    unfold leB
    go_enter Tryz.func76, Tryz.ntmps76
    go_wp2
    go_ret
    exact ⟨by first | rfl | simp, rfl⟩

theorem isPlace_any (a : Int) (w : World) : Calls Tryz.prog 72 #[.int .i64 a] w fun e w' => e = .returned (.bool (inB a (-100) 100)) ∧ w = w' := by
  go_enter Tryz.func72, Tryz.ntmps72
  go_wp2_with (go_at_call 44; refine (in_any _ _ _ _).mono ?_; rintro e w' ⟨rfl, rfl⟩)
  go_ret
  exact ⟨rfl, rfl⟩
theorem l03Place_any (a : Int) (w : World) : Calls Tryz.prog 36 #[.int .i64 a] w fun e w' => e = .returned (.bool (inB a (-100) 100)) ∧ w = w' := by
  go_enter Tryz.func36, Tryz.ntmps36
  go_wp2_with (go_at_call 23; refine (l00In_any _ _ _ _).mono ?_; rintro e w' ⟨rfl, rfl⟩)
  go_ret
  exact ⟨rfl, rfl⟩

/-- A well: its place, its rate. -/
structure Wl where
  x : Int
  y : Int
  r : Nat

instance : Inhabited Wl := ⟨⟨0, 0, 0⟩⟩
def Wl.ok (p : Wl) : Prop := -128 ≤ p.x ∧ p.x ≤ 127 ∧ -128 ≤ p.y ∧ p.y ≤ 127 ∧ p.r < 4294967296
/-- A well as it must be. -/
def wlB (p : Wl) : Bool := (inB p.x (-100) 100 && inB p.y (-100) 100) && plainB p.r

set_option maxRecDepth 100000 in
theorem l03Ok_any (p : Wl) (w : World) (h : p.ok) : Calls Tryz.prog 37 #[.agg #[.int .i8 p.x, .int .i8 p.y, .float .f32 p.r]] w
    fun e w' => e = .returned (.bool (wlB p)) ∧ Below w.heap.size w w' := by
  obtain ⟨h1, h2, h3, h4, h5⟩ := h
  have HX := Lib.hid (fun w => l03Place_any p.x w)
  have HY := Lib.hid (fun w => l03Place_any p.y w)
  have HP := Lib.hid (fun w => l03Plain_any p.r w)
  obtain ⟨c, hc⟩ : ∃ c, c = wlB p := ⟨_, rfl⟩
  rw [← hc]
  unfold wlB at hc
  have HC := Lib.hid hc
  have wx : IntKind.i64.wrap p.x = p.x := by rw [IntKind.wrap_i64]; omega
  have wy : IntKind.i64.wrap p.y = p.y := by rw [IntKind.wrap_i64]; omega
  clear hc
  rcases hx : inB p.x (-100) 100 with _ | _ <;> rcases hy : inB p.y (-100) 100 with _ | _
  all_goals
    have HXB := Lib.hid hx
    have HYB := Lib.hid hy
    rw [hx] at HX
    rw [hy] at HY
    clear hx hy
    go_enter Tryz.func37, Tryz.ntmps37
    go_wp2_with (first | (go_at_call 36; (with_reducible refine (HX.out _).mono ?_); rintro e w' ⟨rfl, rfl⟩) | (go_at_call 36; (with_reducible refine (HY.out _).mono ?_); rintro e w' ⟨rfl, rfl⟩) | (go_at_call 61; (with_reducible refine (HP.out _).mono ?_); rintro e w' ⟨rfl, rfl⟩))
    go_ret
    refine ⟨?_, (Below.refl _ _).alloc (Nat.le_refl _) _⟩
    rw [HC.out, HXB.out, HYB.out]
    rfl
set_option maxRecDepth 100000 in
theorem validWell_any (p : Wl) (w : World) (h : p.ok) : Calls Tryz.prog 46 #[.agg #[.int .i8 p.x, .int .i8 p.y, .float .f32 p.r]] w
    fun e w' => e = .returned (.bool (wlB p)) ∧ Below w.heap.size w w' := by
  obtain ⟨h1, h2, h3, h4, h5⟩ := h
  have HX := Lib.hid (fun w => isPlace_any p.x w)
  have HY := Lib.hid (fun w => isPlace_any p.y w)
  have HP := Lib.hid (fun w => isPlain_any p.r w)
  obtain ⟨c, hc⟩ : ∃ c, c = wlB p := ⟨_, rfl⟩
  rw [← hc]
  unfold wlB at hc
  have HC := Lib.hid hc
  have wx : IntKind.i64.wrap p.x = p.x := by rw [IntKind.wrap_i64]; omega
  have wy : IntKind.i64.wrap p.y = p.y := by rw [IntKind.wrap_i64]; omega
  clear hc
  rcases hx : inB p.x (-100) 100 with _ | _ <;> rcases hy : inB p.y (-100) 100 with _ | _
  all_goals
    have HXB := Lib.hid hx
    have HYB := Lib.hid hy
    rw [hx] at HX
    rw [hy] at HY
    clear hx hy
    go_enter Tryz.func46, Tryz.ntmps46
    go_wp2_with (first | (go_at_call 72; (with_reducible refine (HX.out _).mono ?_); rintro e w' ⟨rfl, rfl⟩) | (go_at_call 72; (with_reducible refine (HY.out _).mono ?_); rintro e w' ⟨rfl, rfl⟩) | (go_at_call 73; (with_reducible refine (HP.out _).mono ?_); rintro e w' ⟨rfl, rfl⟩))
    go_ret
    refine ⟨?_, (Below.refl _ _).alloc (Nat.le_refl _) _⟩
    rw [HC.out, HXB.out, HYB.out]
    rfl
theorem badWell_any (p : Wl) (w : World) (h : p.ok) : Calls Tryz.prog 19 #[.agg #[.int .i8 p.x, .int .i8 p.y, .float .f32 p.r]] w
    fun e w' => e = .returned (.bool (!wlB p)) ∧ Below w.heap.size w w' := by
  have HV := Lib.hid (fun w => validWell_any p w h)
  clear h
  go_enter Tryz.func19, Tryz.ntmps19
  go_wp2_with (go_at_call 46; refine (HV.out _).mono ?_; rintro e w' ⟨rfl, hB⟩)
  go_ret
  exact ⟨rfl, ((Below.refl _ _).alloc (Nat.le_refl _) _).trans (hB.mono (by simp))⟩

/-! ### Wells in memory -/
def WlAt (w : World) (b off : Nat) (ps : List Wl) : Prop :=
  ∀ k, k < ps.length → w.cell? ⟨b, off + k * 3, none⟩ = some (.int .i8 (ps.getD k default).x) ∧
    w.cell? ⟨b, off + k * 3 + 1, none⟩ = some (.int .i8 (ps.getD k default).y) ∧ w.cell? ⟨b, off + k * 3 + 2, none⟩ = some (.float .f32 (ps.getD k default).r)
theorem WlAt.mono {w w' : World} {b off : Nat} {ps : List Wl} (h : WlAt w b off ps) (hb : b < w.heap.size) (hB : Below w.heap.size w w') : WlAt w' b off ps := fun k hk =>
  ⟨(hB.cell (p := ⟨b, off + k * 3, none⟩) hb).trans (h k hk).1, (hB.cell (p := ⟨b, off + k * 3 + 1, none⟩) hb).trans (h k hk).2.1, (hB.cell (p := ⟨b, off + k * 3 + 2, none⟩) hb).trans (h k hk).2.2⟩
/-- A slice value that reads as a list of wells. -/
def WlSl (w : World) (v : Value) (ps : List Wl) : Prop :=
  (∃ a c, v = .slice a 0 c ∧ ps = []) ∨ (∃ b off c, v = .slice (some ⟨b, off, none⟩) ps.length c ∧ b < w.heap.size ∧ WlAt w b off ps)
theorem WlSl.mono {w w' : World} {v : Value} {ps : List Wl} (h : WlSl w v ps) (hB : Below w.heap.size w w') : WlSl w' v ps := by
  rcases h with h | ⟨b, off, c, hv, hb, hat⟩
  · exact .inl h
  · exact .inr ⟨b, off, c, hv, Nat.lt_of_lt_of_le hb hB.size, hat.mono hb hB⟩
theorem WlSl.len {w : World} {v : Value} {ps : List Wl} (h : WlSl w v ps) : ∃ a c, v = .slice a ps.length c := by
  rcases h with ⟨a, c, rfl, rfl⟩ | ⟨b, off, c, rfl, _, _⟩
  · exact ⟨_, _, rfl⟩
  · exact ⟨_, _, rfl⟩

theorem infoW : (Tryz.prog.info? 41).map (fun i => (i.zero, i.size, i.bytes)) = some (some (.agg #[.int .i8 0, .int .i8 0, .float .f32 0]), 3, 8) := by kernel_rfl

def wlCells : List Wl → List Value
  | [] => []
  | p :: r => .int .i8 p.x :: .int .i8 p.y :: .float .f32 p.r :: wlCells r
theorem wlCells_append (a b : List Wl) : wlCells (a ++ b) = wlCells a ++ wlCells b := by
  induction a with
  | nil => rfl
  | cons p r ih => simp [wlCells, ih]
theorem wlCells_length (a : List Wl) : (wlCells a).length = a.length * 3 := by
  induction a with
  | nil => rfl
  | cons p r ih => simp [wlCells, ih]; omega
theorem wlCells_get (a : List Wl) : ∀ k, k < a.length → (wlCells a)[k * 3]? = some (.int .i8 (a.getD k default).x) ∧ (wlCells a)[k * 3 + 1]? = some (.int .i8 (a.getD k default).y) ∧ (wlCells a)[k * 3 + 2]? = some (.float .f32 (a.getD k default).r) := by
  induction a with
  | nil => intro k h; simp at h
  | cons p r ih =>
    intro k h
    cases k with
    | zero => simp [wlCells]
    | succ k =>
      have := ih k (by simpa using h)
      have e : (k + 1) * 3 = k * 3 + 3 := by omega
      simp only [wlCells, e, List.getD_cons_succ]
      simpa using this
theorem wlCells_set (a : List Wl) (p : Wl) : ∀ k, k < a.length → (((wlCells a).set (k * 3) (.int .i8 p.x)).set (k * 3 + 1) (.int .i8 p.y)).set (k * 3 + 2) (.float .f32 p.r) = wlCells (a.set k p) := by
  induction a with
  | nil => intro k h; simp at h
  | cons q r ih =>
    intro k h
    cases k with
    | zero => simp [wlCells]
    | succ k =>
      have := ih k (by simpa using h)
      have e : (k + 1) * 3 = k * 3 + 3 := by omega
      simp only [wlCells, e, List.set_cons_succ]
      rw [this]
end Go.Proofs.YtgiimcdjojjbmaaGreatDoor
