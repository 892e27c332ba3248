/- impl.lineWords: the words of all lines of a text. -/
import Derived.Test.YtgiimcdjojjbmaaGreatDoorF2
import Derived.Test.YtgiimcdjojjbmaaGreatDoorB0
import Derived.Test.YtgiimcdjojjbmaaGreatDoorE5
import Derived.Lib.Split
import Derived.Maps.AppendAt
import Derived.Maps.OwnIn
namespace Go.Proofs.YtgiimcdjojjbmaaGreatDoor
open Go Go.RowKit Go.Shelf
attribute [local go_sem] Oper.semAt_some

def trimmed (ln : ByteArray) : ByteArray := ⟨(Lib.trimSuffix ln.data.toList [10]).toArray⟩
/-- The words of a line, of which there may be one too many. -/
def wordsOf (many : Nat) (ln : ByteArray) : List ByteArray := Lib.splitB ⟨#[32]⟩ 0 (min many (trimmed ln).size) (trimmed ln)

/-- The words of all lines that are left; nothing where a line has not so many, or there are too many lines. -/
def lw (many most : Nat) (rest : ByteArray) (acc : List (List ByteArray)) : Option (List (List ByteArray)) :=
  if _h : rest.size = 0 then some acc
  else if (wordsOf many (lineA rest)).length ≠ many ∨ acc.length = most then none
  else lw many most (lineB rest) (acc ++ [wordsOf many (lineA rest)])
termination_by rest.size
decreasing_by exact lineB_lt rest (by omega)

theorem lw_nil (many most : Nat) (acc : List (List ByteArray)) : lw many most ⟨#[]⟩ acc = some acc := by rw [lw, dif_pos (by rfl)]
theorem lw_bad {many most : Nat} {rest : ByteArray} {acc : List (List ByteArray)} (h : 0 < rest.size) (hb : (wordsOf many (lineA rest)).length ≠ many ∨ acc.length = most) : lw many most rest acc = none := by
  rw [lw, dif_neg (by omega), if_pos hb]
theorem lw_next {many most : Nat} {rest : ByteArray} {acc : List (List ByteArray)} (h : 0 < rest.size) (hb : ¬ ((wordsOf many (lineA rest)).length ≠ many ∨ acc.length = most)) :
    lw many most rest acc = lw many most (lineB rest) (acc ++ [wordsOf many (lineA rest)]) := by
  rw [lw, dif_neg (by omega), if_neg hb]

theorem sne {a b : Nat} (h : a ≠ b) : some a ≠ some b := fun e => h (Option.some.inj e)

theorem RowIs.kept {w w' : World} {g T : Nat} {L : List Value} {row : Option Nat} (h : RowIs w g T L) (hg : w.grownBy w' row) (hne : some g ≠ row) : RowIs w' g T L :=
  (hg.block g h.lt hne).trans h

/-- A slice of strings in a row of its own, not at block x. -/
def WordSl (W : World) (lo : Nat) (x : Option Nat) (u : Value) (l : List ByteArray) : Prop :=
  ∃ g c, u = .slice (some ⟨g, 0, none⟩) l.length c ∧ lo ≤ g ∧ some g ≠ x ∧ g < W.heap.size ∧ ∀ k, k < l.length → W.cell? ⟨g, k, none⟩ = some (.string (l.getD k default))

theorem WordSl.kept {W W' : World} {lo : Nat} {x row : Option Nat} {u : Value} {l : List ByteArray} (h : WordSl W lo x u l) (hg : W.grownBy W' row) (hr : row = x ∨ row = none ∨ ∃ r, row = some r ∧ r < lo) : WordSl W' lo x u l := by
  obtain ⟨g, c, h1, h2, h3, h4, h5⟩ := h
  have hne : some g ≠ row := by
    rcases hr with rfl | rfl | ⟨r, rfl, hr⟩
    · exact h3
    · simp
    · intro e; cases e; omega
  exact ⟨g, c, h1, h2, h3, Nat.lt_of_lt_of_le h4 hg.size, fun k hk => (World.cell?_of_block (w := W) (hg.block g h4 hne)).trans (h5 k hk)⟩
theorem WordSl.grow {W W' : World} {lo : Nat} {x x' : Option Nat} {u : Value} {l : List ByteArray} (h : WordSl W lo x u l) (hg : W.grownBy W' x) (hx : x' = x ∨ x' = some W.heap.size) : WordSl W' lo x' u l := by
  obtain ⟨g, c, h1, h2, h3, h4, h5⟩ := h
  refine ⟨g, c, h1, h2, ?_, Nat.lt_of_lt_of_le h4 hg.size, fun k hk => (World.cell?_of_block (w := W) (hg.block g h4 h3)).trans (h5 k hk)⟩
  rcases hx with rfl | rfl
  · exact h3
  · exact sne (by omega)

/-- What lies between two rounds: h0: the heap's size when the call began. -/
structure LwInv (w : World) (many most : Nat) (rest : ByteArray) (acc : List (List ByteArray)) (v : Value) (vals : List Value) (W : World) : Prop where
  many : RowIs W w.heap.size 3 [.int .i64 many]
  most : RowIs W (w.heap.size + 1) 3 [.int .i64 most]
  res : RowIs W (w.heap.size + 2) 44 [.slice none 0 0]
  ok : RowIs W (w.heap.size + 3) 4 [.bool false]
  out : RowIs W (w.heap.size + 5) 44 [v]
  rest : RowIs W (w.heap.size + 6) 9 [.string rest]
  row : W.ownsRow (w.heap.size + 4) 38 1 v acc.length vals
  rowb : ∀ g, v.ownBlock = some g → g = w.heap.size + 4 ∨ w.heap.size + 9 ≤ g
  elems : ∀ k, k < acc.length → WordSl W (w.heap.size + 9) v.ownBlock (vals.getD k default) (acc.getD k [])
  below : Below w.heap.size w W

theorem LwInv.kept {w : World} {many most : Nat} {rest : ByteArray} {acc : List (List ByteArray)} {v : Value} {vals : List Value} {W W' : World} {row : Option Nat}
    (h : LwInv w many most rest acc v vals W) (hg : W.grownBy W' row) (hr : row = none ∨ row = some (w.heap.size + 7) ∨ row = some (w.heap.size + 8)) : LwInv w many most rest acc v vals W' := by
  have hne : ∀ k, k < w.heap.size + 7 → some k ≠ row := fun k hk => by
    rcases hr with rfl | rfl | rfl
    · simp
    · intro e; cases e; omega
    · intro e; cases e; omega
  refine ⟨h.many.kept hg (hne _ (by omega)), h.most.kept hg (hne _ (by omega)), h.res.kept hg (hne _ (by omega)), h.ok.kept hg (hne _ (by omega)), h.out.kept hg (hne _ (by omega)), h.rest.kept hg (hne _ (by omega)), ?_, h.rowb, fun k hk => (h.elems k hk).kept hg ?_, ?_⟩
  · refine h.row.kept hg ?_
    cases hv : v.ownBlock with
    | none => exact .inl rfl
    | some g =>
      right
      rcases h.rowb g hv with h' | h' <;> rcases hr with rfl | rfl | rfl <;> simp <;> omega
  · rcases hr with rfl | rfl | rfl
    · exact .inr (.inl rfl)
    · exact .inr (.inr ⟨_, rfl, by omega⟩)
    · exact .inr (.inr ⟨_, rfl, by omega⟩)
  · refine h.below.grown hg h.below.size fun k e => ?_
    rcases hr with rfl | rfl | rfl <;> cases e <;> omega

theorem LwInv.setRest {w : World} {many most : Nat} {rest : ByteArray} {acc : List (List ByteArray)} {v : Value} {vals : List Value} {W : World}
    (h : LwInv w many most rest acc v vals W) (rest' : ByteArray) : LwInv w many most rest' acc v vals (W.setCell ⟨w.heap.size + 6, 0, none⟩ (.string rest')) := by
  have hg := grownBy_setCell' W (w.heap.size + 6) (.string rest')
  have hne : ∀ k, k ≠ w.heap.size + 6 → some k ≠ some (w.heap.size + 6) := fun k hk e => by cases e; exact hk rfl
  refine ⟨h.many.kept hg (hne _ (by omega)), h.most.kept hg (hne _ (by omega)), h.res.kept hg (hne _ (by omega)), h.ok.kept hg (hne _ (by omega)), h.out.kept hg (hne _ (by omega)), h.rest.set 0 _, ?_, h.rowb, fun k hk => (h.elems k hk).kept hg (.inr (.inr ⟨_, rfl, by omega⟩)), h.below.setCell (p := ⟨w.heap.size + 6, 0, none⟩) (by simp) _⟩
  refine h.row.kept hg ?_
  cases hv : v.ownBlock with
  | none => exact .inl rfl
  | some g =>
    right
    rcases h.rowb g hv with h' | h' <;> simp <;> omega

theorem LwInv.next {w : World} {many most : Nat} {rest : ByteArray} {acc : List (List ByteArray)} {v v' u : Value} {vals : List Value} {ws : List ByteArray} {W W' : World}
    (h : LwInv w many most rest acc v vals W) (hu : WordSl W (w.heap.size + 9) v.ownBlock u ws) (hown : W'.ownsRow (w.heap.size + 4) 38 1 v' (acc.length + 1) (vals ++ [u])) (hg : W.grownBy W' v.ownBlock)
    (hat : v'.ownBlock = v.ownBlock ∨ v'.ownBlock = some W.heap.size) (hsz : w.heap.size + 9 ≤ W.heap.size) :
    LwInv w many most rest (acc ++ [ws]) v' (vals ++ [u]) (W'.setCell ⟨w.heap.size + 5, 0, none⟩ v') := by
  have g2 := grownBy_setCell' W' (w.heap.size + 5) v'
  have hne : ∀ k, k < w.heap.size + 9 → k ≠ w.heap.size + 4 → some k ≠ v.ownBlock := fun k h1 h2 e => by
    rcases h.rowb k e.symm with h' | h' <;> omega
  have hb' : ∀ g, v'.ownBlock = some g → g = w.heap.size + 4 ∨ w.heap.size + 9 ≤ g := fun g e => by
    rcases hat with h' | h'
    · exact h.rowb g (h'.symm.trans e)
    · rw [h'] at e; cases e; exact .inr hsz
  have kp : ∀ {g T : Nat} {L : List Value}, RowIs W g T L → g < w.heap.size + 9 → g ≠ w.heap.size + 4 → g ≠ w.heap.size + 5 → RowIs (W'.setCell ⟨w.heap.size + 5, 0, none⟩ v') g T L :=
    fun hr h1 h2 h3 => (hr.kept hg (hne _ h1 h2)).kept g2 (sne h3)
  have hvl : vals.length = acc.length := by have := h.row.1; omega
  refine ⟨kp h.many (by omega) (by omega) (by omega), kp h.most (by omega) (by omega) (by omega), kp h.res (by omega) (by omega) (by omega), kp h.ok (by omega) (by omega) (by omega),
    (h.out.kept hg (hne _ (by omega) (by omega))).set 0 v', kp h.rest (by omega) (by omega) (by omega), ?_, hb', ?_, ?_⟩
  · have h1 : W'.ownsRow (w.heap.size + 4) 38 1 v' (acc ++ [ws]).length (vals ++ [u]) := by rw [List.length_append]; exact hown
    refine h1.kept g2 ?_
    cases hv : v'.ownBlock with
    | none => exact .inl rfl
    | some g =>
      right
      rcases hb' g hv with h' | h' <;> simp <;> omega
  · intro k hk
    have hel : ∀ {y : Value} {l : List ByteArray}, WordSl W (w.heap.size + 9) v.ownBlock y l → WordSl (W'.setCell ⟨w.heap.size + 5, 0, none⟩ v') (w.heap.size + 9) v'.ownBlock y l := fun hy =>
      (hy.grow hg hat).kept g2 (.inr (.inr ⟨_, rfl, by omega⟩))
    by_cases hk' : k < acc.length
    · have := hel (h.elems k hk')
      rw [show (vals ++ [u]).getD k default = vals.getD k default from by simp only [List.getD]; rw [List.getElem?_append_left (by omega)],
        show (acc ++ [ws]).getD k [] = acc.getD k [] from by simp only [List.getD]; rw [List.getElem?_append_left hk']]
      exact this
    · have hk2 : k = acc.length := by simp at hk; omega
      have := hel hu
      rw [show (vals ++ [u]).getD k default = u from by simp only [List.getD]; rw [List.getElem?_append_right (by omega), hk2, hvl]; simp,
        show (acc ++ [ws]).getD k [] = ws from by simp only [List.getD]; rw [List.getElem?_append_right (by omega), hk2]; simp]
      exact this
  · refine (h.below.grown hg h.below.size fun k e => ?_).setCell (p := ⟨w.heap.size + 5, 0, none⟩) (by simp) _
    rcases h.rowb k e with h' | h' <;> omega

theorem callsLines (t : ByteArray) (w : World) : Calls Tryz.prog 38 #[.string t] w
    fun e w' => e = .returned (.func (.func 62) #[] #[.pointer (some ⟨w.heap.size, 0, none⟩)]) ∧ w' = w.alloc (.cells #[.string t] 9) := by
  go_enter Tryz.func38, Tryz.ntmps38
  go_wp2
  go_ret
  exact ⟨rfl, rfl⟩

theorem row_at (w : World) (x : Value) (T g : Nat) (h : g = w.heap.size) : RowIs (w.alloc (.cells #[x] T)) g T [x] := by
  rw [h]; exact heap_alloc_new w _

theorem lineA_size (s : ByteArray) : (lineA s).size ≤ s.size := by
  unfold lineA
  split
  · simp [ByteArray.size_extract]
    try omega
  · exact Nat.le_refl _
theorem lineB_size (s : ByteArray) : (lineB s).size ≤ s.size := by
  unfold lineB
  split
  · simp [ByteArray.size_extract]
    try omega
  · exact Nat.zero_le _
theorem trimmed_size (s : ByteArray) : (trimmed s).size ≤ s.size := by
  show (Lib.trimSuffix s.data.toList [10]).toArray.size ≤ s.size
  unfold Lib.trimSuffix
  split
  · simp
    try omega
  · simp

theorem slice_of_row {W : World} {B e n : Nat} {v : Value} {xs : List Value} (h : W.ownsRow B e 1 v n xs) : ∃ a c, v = .slice a n c := by
  rcases h.2 with ⟨rfl, h0⟩ | ⟨g, cap, cur, rfl, _⟩
  · have h1 := h.1
    rw [h0] at h1
    have : n = 0 := by simp at h1; omega
    exact ⟨none, 0, by rw [this]⟩
  · exact ⟨_, _, rfl⟩

theorem infoStrs : (Tryz.prog.info? 38).map (fun i => (i.zero, i.size, i.bytes)) = some (some (.slice none 0 0), 1, 24) := by kernel_rfl

set_option maxHeartbeats 4000000 in
set_option maxRecDepth 100000 in
theorem lineWords_in (n : Nat) (t : ByteArray) (many most : Nat) (w : World) (hs : t.size ≤ 1048576) (hm1 : many ≤ 1000) (hm2 : most ≤ 1000) (hM : MaxAt w) :
    CallsIn Fence.wide n Tryz.prog 15 #[.string t, .int .i64 many, .int .i64 most] w fun e w' =>
      ((lw many most t [] = none ∧ e = .returned (.tuple #[.slice none 0 0, .bool false])) ∨
        (∃ L v vals, lw many most t [] = some L ∧ e = .returned (.tuple #[v, .bool true]) ∧ w'.ownsRow (w.heap.size + 4) 38 1 v L.length vals ∧ ∀ k, k < L.length → WordSl w' (w.heap.size + 9) v.ownBlock (vals.getD k default) (L.getD k []))) ∧ Below w.heap.size w w' := by
  obtain ⟨i0, hi, hz0, hz1, hz2⟩ := info_parts infoStrs
  obtain ⟨R, hR⟩ : ∃ R, R = lw many most t [] := ⟨_, rfl⟩
  rw [← hR]
  refine callsIn_of_wp_marks Tryz.func15 rfl trivial ?_ rfl
  simp only [Tryz.ntmps15, List.size_toArray, List.length_cons, List.length_nil, Nat.reduceAdd, Nat.reduceSub, Array.replicate_succ, Array.replicate_zero, List.push_toArray, List.append_toArray, List.nil_append, List.cons_append]
  gi_wp2_with fail
  refine ⟨trivial, fun h => (by cases h), ?_⟩
  refine ((callsIn_wide (n := n - 1)).2 (callsLines t _)).mono ?_
  rintro e w1 ⟨rfl, rfl⟩
  gi_wp2_with fail
  simp only [Nat.add_assoc, Nat.reduceAdd]
  obtain ⟨W0, hW0⟩ : ∃ W0, W0 = (((((((w.alloc (.cells #[.int .i64 many] 3)).alloc (.cells #[.int .i64 most] 3)).alloc (.cells #[.slice none 0 0] 44)).alloc (.cells #[.bool false] 4)).alloc (.cells #[] 38)).alloc (.cells #[.slice (some ⟨w.heap.size + 4, 0, none⟩) 0 0] 44)).alloc (.cells #[.string t] 9)) := ⟨_, rfl⟩
  rw [← hW0]
  have h0size : W0.heap.size = w.heap.size + 7 := by rw [hW0]; simp
  have h0inv : LwInv w many most t [] (.slice (some ⟨w.heap.size + 4, 0, none⟩) 0 0) [] W0 := by
    have hs2 : ∀ (a b : Obj), ((w.alloc a).alloc b).heap.size = w.heap.size + 2 := fun a b => by simp
    have hs3 : ∀ (a b c : Obj), (((w.alloc a).alloc b).alloc c).heap.size = w.heap.size + 3 := fun a b c => by simp
    have hs4 : ∀ (a b c d : Obj), ((((w.alloc a).alloc b).alloc c).alloc d).heap.size = w.heap.size + 4 := fun a b c d => by simp
    have hs5 : ∀ (a b c d e : Obj), (((((w.alloc a).alloc b).alloc c).alloc d).alloc e).heap.size = w.heap.size + 5 := fun a b c d e => by simp
    have hs6 : ∀ (a b c d e f : Obj), ((((((w.alloc a).alloc b).alloc c).alloc d).alloc e).alloc f).heap.size = w.heap.size + 6 := fun a b c d e f => by simp
    rw [hW0]
    refine ⟨((((((row_at w _ _ _ rfl).alloc _).alloc _).alloc _).alloc _).alloc _).alloc _, (((((row_at _ _ _ _ (by simp)).alloc _).alloc _).alloc _).alloc _).alloc _, ((((row_at _ _ _ _ (hs2 _ _).symm).alloc _).alloc _).alloc _).alloc _, (((row_at _ _ _ _ (hs3 _ _ _).symm).alloc _).alloc _).alloc _, (row_at _ _ _ _ (hs5 _ _ _ _ _).symm).alloc _, row_at _ _ _ _ (hs6 _ _ _ _ _ _).symm, ?_, ?_, fun k hk => by simp at hk, ?_⟩
    · refine ⟨rfl, .inr ⟨w.heap.size + 4, 0, #[], rfl, Nat.le_refl _, ?_, Nat.le_refl _, by simp [maxLen], rfl, rfl⟩⟩
      have h0 := heap_alloc_new ((((w.alloc (.cells #[.int .i64 many] 3)).alloc (.cells #[.int .i64 most] 3)).alloc (.cells #[.slice none 0 0] 44)).alloc (.cells #[.bool false] 4)) (.cells #[] 38)
      rw [hs4] at h0
      exact (Below.heap_alloc _ _ _ (by rw [hs6]; omega)).trans ((Below.heap_alloc _ _ _ (by rw [hs5]; omega)).trans h0)
    · intro g hg
      left
      simp [Value.ownBlock] at hg
      exact hg.symm
    · exact (((((((Below.refl _ w).alloc (Nat.le_refl _) _).alloc (by simp) _).alloc (by simp; omega) _).alloc (by simp; omega) _).alloc (by simp; omega) _).alloc (by simp; omega) _).alloc (by simp; omega) _
  clear hW0
  refine range_lines (w := W0) (B := w.heap.size + 6) (t := t) rfl rfl (by omega)
    (fun s W => ∃ acc v vals, lw many most s acc = R ∧ acc.length ≤ most ∧ s.size ≤ t.size ∧ LwInv w many most s acc v vals W)
    (fun s W => ∃ acc v vals, lw many most s acc = R ∧ acc.length ≤ most ∧ s.size ≤ t.size ∧ LwInv w many most (lineB s) acc v vals W)
    (fun W => R = none ∧ RowIs W (w.heap.size + 2) 44 [.slice none 0 0] ∧ RowIs W (w.heap.size + 3) 4 [.bool false] ∧ Below w.heap.size w W)
    ?hI ?hI2 ?hIx ⟨[], _, [], hR.symm, Nat.zero_le _, Nat.le_refl _, h0inv⟩ ?hcell ?hset
    (fun x => { tmps := #[.string t, .int .i64 many, .int .i64 most, undef, .pointer (some ⟨w.heap.size, 0, none⟩), .pointer (some ⟨w.heap.size + 1, 0, none⟩), .pointer (some ⟨w.heap.size + 2, 0, none⟩), .pointer (some ⟨w.heap.size + 3, 0, none⟩), .pointer (some ⟨w.heap.size + 5, 0, none⟩), .string x, undef,
      .slice (some ⟨w.heap.size + 4, 0, none⟩) 0 0, .string t, .func (.func 62) #[] #[.pointer (some ⟨w.heap.size + 6, 0, none⟩)], .string x, undef, undef, undef, undef, undef, undef, undef, undef, undef, undef, undef, undef, undef, undef, undef, undef, undef, undef, undef, undef], defers := [] })
    ?hassign ?hbody ?hdone ?hstop
  case hI =>
    rintro s W W' row ⟨acc, v, vals, h1, h2, h3, h4⟩ hg hr
    exact ⟨acc, v, vals, h1, h2, h3, h4.kept hg (by rw [h0size] at hr; exact hr)⟩
  case hI2 =>
    rintro s W W' row ⟨acc, v, vals, h1, h2, h3, h4⟩ hg hr
    exact ⟨acc, v, vals, h1, h2, h3, h4.kept hg (by rw [h0size] at hr; exact hr)⟩
  case hIx =>
    rintro W W' row ⟨h1, h2, h3, h4⟩ hg hr
    rw [h0size] at hr
    refine ⟨h1, h2.kept hg ?_, h3.kept hg ?_, h4.grown hg h4.size fun k e => ?_⟩
    all_goals rcases hr with rfl | rfl | rfl
    all_goals simp at *
    all_goals omega
  case hcell =>
    rintro s W ⟨acc, v, vals, h1, h2, h3, h4⟩
    exact ⟨(h4.rest.cell 0).trans rfl, h4.rest.frozen 0, by omega⟩
  case hset =>
    rintro s W ⟨acc, v, vals, h1, h2, h3, h4⟩ _
    exact ⟨acc, v, vals, h1, h2, h3, h4.setRest _⟩
  case hassign =>
    intro x W K hK
    gi_wp2
    exact hK
  case hbody =>
    rintro s W ⟨acc, v, vals, h1, h2, h3, h4⟩ hpos hlt hd ⟨lr, hl⟩
    obtain ⟨va, vc, rfl⟩ := slice_of_row h4.row
    have hc0 := h4.many.cell 0
    have hc1 := h4.most.cell 0
    have hc5 := h4.out.cell 0
    simp only [List.getElem?_cons_zero] at hc0 hc1 hc5
    obtain ⟨⟨m, hm⟩, _⟩ := hM.below h4.below
    have hTs : (trimmed (lineA s)).size ≤ 1048576 := Nat.le_trans (trimmed_size _) (Nat.le_trans (lineA_size _) (by omega))
    have hAs : (lineA s).size ≤ 1048576 := Nat.le_trans (lineA_size _) (by omega)
    have CT0 : ∀ w, CallsIn Fence.wide (n - 1 - 1 - 1) Tryz.prog 39 #[.string (lineA s), .string ⟨#[10]⟩] w fun e w' => e = .returned (.string (trimmed (lineA s))) ∧ w' = w :=
      fun w => callsIn_wide.2 (Tryz.strings_TrimSuffix (lineA s) ⟨#[10]⟩ w (by omega))
    have CT := Lib.hid CT0; clear CT0
    obtain ⟨ws, cap, arr, hws, harr, CS0⟩ : ∃ (ws : List ByteArray) (cap : Nat) (arr : Array Value), ws = wordsOf many (lineA s) ∧ (∀ k, k < ws.length → arr[k]? = some (.string (ws.getD k default))) ∧
        ∀ w : World, w.cell? ⟨1, 0, none⟩ = some (.int .i64 m) → CallsIn Fence.wide (n - 1 - 1 - 1) Tryz.prog 31 #[.string (trimmed (lineA s)), .string ⟨#[32]⟩, .int .i64 ((many : Int) + 1)] w
          fun e w' => e = .returned (.slice (some ⟨w.heap.size, 0, none⟩) ws.length cap) ∧ w' = w.alloc (.cells arr 9) := by
      refine ⟨wordsOf many (lineA s), min many (trimmed (lineA s)).size + 1, Lib.cellsOf (wordsOf many (lineA s)) (min many (trimmed (lineA s)).size + 1), rfl, fun k hk => ?_, fun w hm => ?_⟩
      · unfold Lib.cellsOf
        rw [List.getElem?_toArray, List.getElem?_append_left (by simpa using hk), List.getElem?_map]
        simp [List.getD, hk]
      · have h := (callsIn_wide (n := n - 1 - 1 - 1)).2 (Tryz.strings_SplitN (trimmed (lineA s)) ⟨#[32]⟩ (many + 1) m w (by omega) hm (Nat.le_refl 1) (by omega) (by omega))
        rw [show ((many + 1 : Nat) : Int) = (many : Int) + 1 from by omega, show min (many + 1) ((trimmed (lineA s)).size + 1) = min many (trimmed (lineA s)).size + 1 from by omega, Nat.add_sub_cancel] at h
        exact h
    have CS := Lib.hid CS0; clear CS0
    have HWS := Lib.hid hws; clear hws
    have HAR := Lib.hid harr; clear harr
    have H4 := Lib.hid h4; clear h4
    have hwr : IntKind.i64.wrap ((many : Int) + 1) = (many : Int) + 1 := by rw [IntKind.wrap_i64]; omega
    have hmo : Tryz.prog.follows .mixedOrders = true := by kernel_rfl
    gi_wp2_with fail
    gi_region_with_o (first | (refine ⟨trivial, fun h => (by cases h), ?_⟩; gi_at_call 39; refine (CallsIn.inRound _ (CT.out _)).mono ?_; rintro e w' ⟨rfl, rfl⟩) | (refine ⟨trivial, fun h => (by cases h), ?_⟩; gi_at_call 31; refine (CallsIn.inRound _ (CS.out W.drew hm)).mono ?_; rintro e w' ⟨rfl, rfl⟩))
    all_goals
      obtain ⟨W2, hW2⟩ : ∃ W2, W2 = (W.alloc (.cells arr 9)).drew := ⟨_, rfl⟩
      rw [← hW2]
      have g12 : W.grownBy W2 none := by rw [hW2]; exact ⟨rfl, rfl, rfl, by simp, fun k hk _ => Below.heap_alloc W _ k hk⟩
      have hs2 : W2.heap.size = W.heap.size + 1 := by rw [hW2]; simp
      have H42 := H4.out.kept g12 (.inl rfl)
      have hnb : some W.heap.size ≠ (Value.slice va acc.length vc).ownBlock := fun e => by
        have := (H4.out.row.lt _ e.symm).2
        omega
      have hel : WordSl W2 (w.heap.size + 9) (Value.slice va acc.length vc).ownBlock (.slice (some ⟨W.heap.size, 0, none⟩) ws.length cap) ws := by
        refine ⟨W.heap.size, cap, rfl, by rw [h0size] at hlt; omega, hnb, by omega, fun k hk => ?_⟩
        have hb : W2.heap[W.heap.size]? = some (.cells arr 9 (0, 0)) := by rw [hW2]; exact heap_alloc_new W _
        rw [cell_of_row W2 W.heap.size k arr 9 (0, 0) hb, HAR.out k hk]
      have hl2 : W2.heap[W0.heap.size + 1]? = W.heap[W0.heap.size + 1]? := g12.block _ (by omega) (by simp)
      have hd2 : W2.heap[W0.heap.size]? = W.heap[W0.heap.size]? := g12.block _ (by omega) (by simp)
      have hc1' := H42.most.cell 0
      have hc0' := H42.many.cell 0
      have hc5' := H42.out.cell 0
      have hc2' := H42.res.cell 0
      have hc3' := H42.ok.cell 0
      have hf2' := H42.res.frozen 0
      have hf3' := H42.ok.frozen 0
      have hf5' := H42.out.frozen 0
      simp only [List.getElem?_cons_zero] at hc0' hc1' hc2' hc3' hc5'
      have HEL := Lib.hid hel
      have HI2 := Lib.hid H42
      have HL2 := Lib.hid hl2
      have HD2 := Lib.hid hd2
      have HS2 := Lib.hid hs2
      clear hW2 hel H42 hl2 hd2 hc0 hc1 hc5 hm hs2
      by_cases hbad : ws.length ≠ many ∨ acc.length = most
      · have hRn : R = none := by rw [← h1]; exact lw_bad hpos (by rw [← HWS.out]; exact hbad)
        have g2 := grownBy_setCell' W2 (w.heap.size + 2) (.slice none 0 0)
        have g3 := grownBy_setCell' (W2.setCell ⟨w.heap.size + 2, 0, none⟩ (.slice none 0 0)) (w.heap.size + 3) (.bool false)
        have r2 := (HI2.out.res.set 0 (.slice none 0 0)).kept g3 (sne (by omega))
        have r3 := (HI2.out.ok.kept g2 (sne (by omega))).set 0 (.bool false)
        have hfin : ((R = none ∧ RowIs ((W2.setCell ⟨w.heap.size + 2, 0, none⟩ (.slice none 0 0)).setCell ⟨w.heap.size + 3, 0, none⟩ (.bool false)) (w.heap.size + 2) 44 [.slice none 0 0] ∧ RowIs ((W2.setCell ⟨w.heap.size + 2, 0, none⟩ (.slice none 0 0)).setCell ⟨w.heap.size + 3, 0, none⟩ (.bool false)) (w.heap.size + 3) 4 [.bool false] ∧ Below w.heap.size w ((W2.setCell ⟨w.heap.size + 2, 0, none⟩ (.slice none 0 0)).setCell ⟨w.heap.size + 3, 0, none⟩ (.bool false))) ∧
            ((W2.setCell ⟨w.heap.size + 2, 0, none⟩ (.slice none 0 0)).setCell ⟨w.heap.size + 3, 0, none⟩ (.bool false)).heap[W0.heap.size + 1]? = W.heap[W0.heap.size + 1]?) ∧
            ((W2.setCell ⟨w.heap.size + 2, 0, none⟩ (.slice none 0 0)).setCell ⟨w.heap.size + 3, 0, none⟩ (.bool false)).heap[W0.heap.size]? = W.heap[W0.heap.size]? := by
          refine ⟨⟨⟨hRn, r2, r3, (HI2.out.below.setCell (p := ⟨w.heap.size + 2, 0, none⟩) (by simp) _).setCell (p := ⟨w.heap.size + 3, 0, none⟩) (by simp) _⟩, ?_⟩, ?_⟩
          · rw [Below.heap_setCell _ _ _ _ (by show W0.heap.size + 1 ≠ w.heap.size + 3; omega), Below.heap_setCell _ _ _ _ (by show W0.heap.size + 1 ≠ w.heap.size + 2; omega)]
            exact HL2.out
          · rw [Below.heap_setCell _ _ _ _ (by show W0.heap.size ≠ w.heap.size + 3; omega), Below.heap_setCell _ _ _ _ (by show W0.heap.size ≠ w.heap.size + 2; omega)]
            exact HD2.out
        have HF := Lib.hid hfin
        clear hfin g2 g3 r2 r3 hRn
        by_cases hwn : ws.length = many
        · have hx1 : (ws.length : Int) = many := by omega
          have hx2 : (acc.length : Int) = most := by omega
          clear hwn hbad
          gi_wp2_with fail
          exact HF.out
        · have hx1 : ¬ (ws.length : Int) = many := by omega
          clear hwn hbad
          gi_wp2_with fail
          exact HF.out
      · have hx1 : (ws.length : Int) = many := by omega
        have hx2 : ¬ (acc.length : Int) = most := by omega
        have hRn : lw many most (lineB s) (acc ++ [ws]) = R := by rw [← h1, HWS.out]; exact (lw_next hpos (by rw [← HWS.out]; exact hbad)).symm
        have hlm : acc.length < most := by omega
        have HRn := Lib.hid hRn
        clear hbad hRn
        gi_wp2_with (gi_at_builtin; go_loud (refine wpListIn_append_own_at _ rfl _ _ 44 rfl (w.heap.size + 4) 38 i0 (.slice none 0 0) 1 24 Tryz.underlying44 hi hz0 hz1 hz2 rfl (by decide) _ _ _ rfl (HI2.out.row.alloc _) ⟨W2.heap.size, 0, none⟩ 1 1 [.slice (some ⟨W.heap.size, 0, none⟩) ws.length cap] rfl rfl (cell_one_new _ _ _) (by simp [Value.oneCell']) (by unfold maxLen; omega) (by omega) (by have := HS2.out; simp; omega) ?_; intro v' w1 hown' hgrow _ hat; obtain ⟨g', cap', rfl⟩ := ownsRow_succ hown'; have ho := (HI2.out.out.alloc (.cells #[.slice (some ⟨W.heap.size, 0, none⟩) ws.length cap] 38)).kept hgrow (fun e => by have := HI2.out.rowb _ e.symm; omega); have hc5'' := ho.cell 0; have hf5'' := ho.frozen 0; simp only [List.getElem?_cons_zero] at hc5''; have HO := Lib.hid hown'; have HG := Lib.hid hgrow; have HA := Lib.hid hat; clear ho hown' hgrow hat))
        have ga := World.grownBy_alloc W2 (.cells #[.slice (some ⟨W.heap.size, 0, none⟩) ws.length cap] 38) none
        have hsa : (W2.alloc (.cells #[.slice (some ⟨W.heap.size, 0, none⟩) ws.length cap] 38)).heap.size = W2.heap.size + 1 := by simp
        have hkb : ∀ k, k < W.heap.size → k ≠ w.heap.size + 5 → k = w.heap.size + 7 ∨ k = w.heap.size + 8 → (w1.setCell ⟨w.heap.size + 5, 0, none⟩ (.slice (some ⟨g', 0, none⟩) (acc.length + 1) cap')).heap[k]? = W2.heap[k]? := fun k hk hk5 hk7 => by
          rw [Below.heap_setCell _ _ _ _ hk5]
          refine (HG.out.block k (by rw [hsa, HS2.out]; omega) (fun e => ?_)).trans (ga.block k (by rw [HS2.out]; omega) (by simp))
          rcases HI2.out.rowb _ e.symm with h' | h' <;> omega
        refine ⟨⟨⟨acc ++ [ws], _, vals ++ [.slice (some ⟨W.heap.size, 0, none⟩) ws.length cap], HRn.out, by simp; omega, Nat.le_trans (lineB_size s) h3,
          LwInv.next (HI2.out.kept ga (.inl rfl)) (HEL.out.kept ga (.inr (.inl rfl))) HO.out HG.out HA.out (by rw [hsa, HS2.out]; omega)⟩, ?_⟩, ?_⟩
        · exact (hkb _ (by omega) (by omega) (by omega)).trans HL2.out
        · exact (hkb _ (by omega) (by omega) (by omega)).trans HD2.out
  case hdone =>
    rintro W ⟨acc, v, vals, h1, h2, h3, h4⟩ hd
    rw [lw_nil] at h1
    obtain ⟨va, vc, rfl⟩ := slice_of_row h4.row
    have hc5 := h4.out.cell 0
    have hc2 := h4.res.cell 0
    have hc3 := h4.ok.cell 0
    have hf2 := h4.res.frozen 0
    have hf3 := h4.ok.frozen 0
    simp only [List.getElem?_cons_zero] at hc5 hc2 hc3
    have H4 := Lib.hid h4; clear h4 hi hz0 hz1 hz2
    gi_wp2_with fail
    have hd2 : ((W.setCell ⟨w.heap.size + 2, 0, none⟩ (.slice va acc.length vc)).setCell ⟨w.heap.size + 3, 0, none⟩ (.bool true)).heap[W0.heap.size]? = some (.deferred (some [])) := by
      rw [Below.heap_setCell _ _ _ _ (by show W0.heap.size ≠ w.heap.size + 3; omega), Below.heap_setCell _ _ _ _ (by show W0.heap.size ≠ w.heap.size + 2; omega)]
      exact hd
    refine ⟨by simp, .inl ⟨_, _, rfl, run_takeDeferred hd2, ?_⟩⟩
    have hg := grownBy_putObj' ((W.setCell ⟨w.heap.size + 2, 0, none⟩ (.slice va acc.length vc)).setCell ⟨w.heap.size + 3, 0, none⟩ (.bool true)) W0.heap.size (.deferred none)
    have g2 := grownBy_setCell' W (w.heap.size + 2) (.slice va acc.length vc)
    have g3 := grownBy_setCell' (W.setCell ⟨w.heap.size + 2, 0, none⟩ (.slice va acc.length vc)) (w.heap.size + 3) (.bool true)
    have r2 := H4.out.res.set 0 (.slice va acc.length vc)
    have r3 := (H4.out.ok.kept g2 (sne (by omega))).set 0 (.bool true)
    have k2 := ((r2.kept g3 (sne (by omega))).kept hg (sne (by omega))).cell 0
    have k3 := (r3.kept hg (sne (by omega))).cell 0
    simp only [List.set_cons_zero, List.getElem?_cons_zero] at k2 k3
    refine ⟨.tuple #[.slice va acc.length vc, .bool true], by simp [results, Tryz.results15, go_sem, k2, k3], .inr ⟨acc, _, vals, h1.symm, rfl, ?_, fun k hk => ?_⟩, ?_⟩
    · have hb := H4.out.rowb
      have ne : ∀ (j : Nat), j < w.heap.size + 9 → j ≠ w.heap.size + 4 → (Value.slice va acc.length vc).ownBlock = none ∨ (Value.slice va acc.length vc).ownBlock ≠ some j := fun j h1 h2 => by
        cases hv : (Value.slice va acc.length vc).ownBlock with
        | none => exact .inl rfl
        | some g =>
          right
          intro e
          cases e
          rcases hb _ hv with h' | h' <;> omega
      exact ((H4.out.row.kept g2 (ne _ (by omega) (by omega))).kept g3 (ne _ (by omega) (by omega))).kept hg (by rw [h0size]; exact ne _ (by omega) (by omega))
    · exact (((H4.out.elems k hk).kept g2 (.inr (.inr ⟨_, rfl, by omega⟩))).kept g3 (.inr (.inr ⟨_, rfl, by omega⟩))).kept hg (.inr (.inr ⟨_, rfl, by omega⟩))
    · exact ((H4.out.below.grown g2 H4.out.below.size fun k e => by cases e; omega).grown g3 (by have := H4.out.below.size; simp; exact this) fun k e => by cases e; omega).grown hg (by have := H4.out.below.size; simp; exact this) fun k e => by cases e; omega
  case hstop =>
    rintro W ⟨h1, h2, h3, h4⟩ hd
    have hc2 := h2.cell 0
    have hc3 := h3.cell 0
    simp only [List.getElem?_cons_zero] at hc2 hc3
    gi_wp2_with fail
    refine ⟨by simp, .inl ⟨_, _, rfl, run_takeDeferred hd, ?_⟩⟩
    have hg := grownBy_putObj' W W0.heap.size (.deferred none)
    have k2 := (h2.kept hg (sne (by omega))).cell 0
    have k3 := (h3.kept hg (sne (by omega))).cell 0
    simp only [List.getElem?_cons_zero] at k2 k3
    refine ⟨.tuple #[.slice none 0 0, .bool false], by simp [results, Tryz.results15, go_sem, k2, k3], .inl ⟨h1, rfl⟩, ?_⟩
    exact h4.grown hg h4.size fun k e => by cases e; omega

set_option maxRecDepth 100000 in
theorem lineWords_any (t : ByteArray) (many most : Nat) (w : World) (hs : t.size ≤ 1048576) (hm1 : many ≤ 1000) (hm2 : most ≤ 1000) (hM : MaxAt w) :
    Calls Tryz.prog 15 #[.string t, .int .i64 many, .int .i64 most] w fun e w' =>
      ((lw many most t [] = none ∧ e = .returned (.tuple #[.slice none 0 0, .bool false])) ∨
        (∃ L v vals, lw many most t [] = some L ∧ e = .returned (.tuple #[v, .bool true]) ∧ w'.ownsRow (w.heap.size + 4) 38 1 v L.length vals ∧ ∀ k, k < L.length → WordSl w' (w.heap.size + 9) v.ownBlock (vals.getD k default) (L.getD k []))) ∧ Below w.heap.size w w' :=
  (callsIn_wide (n := 0)).1 (lineWords_in 0 t many most w hs hm1 hm2 hM)
end Go.Proofs.YtgiimcdjojjbmaaGreatDoor
