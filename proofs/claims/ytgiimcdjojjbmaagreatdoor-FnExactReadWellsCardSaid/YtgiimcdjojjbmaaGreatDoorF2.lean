/- 'for line := range strings.Lines(text)': a law of the walk for it: the iterator keeps the rest in a cell of its own. -/
import Derived.Test.YtgiimcdjojjbmaaGreatDoorF1
namespace Go.Proofs.YtgiimcdjojjbmaaGreatDoor
open Go Go.RowKit Go.Shelf
attribute [local go_sem] Oper.semAt_some

/-- What speaks of no record of a loop laid at block b or behind it, and of no new memory. -/
def Abd (b : Nat) (I : World → Prop) : Prop := ∀ W W' row, I W → W.grownBy W' row → (row = none ∨ row = some b ∨ row = some (b + 1)) → I W'

theorem grown_drew (W : World) : W.grownBy W.drew none := ⟨rfl, rfl, rfl, Nat.le_refl _, fun _ _ _ => rfl⟩

/-- How a round is left: at its end, or by 'return'. -/
def linePost (l D : Nat) (I : World → Prop) (Ix : World → Prop) (W0 : World) : Exit → Act → World → Prop
  | .normal, _, W => (I W ∧ W.heap[l]? = W0.heap[l]?) ∧ W.heap[D]? = W0.heap[D]?
  | .ret, _, W => (Ix W ∧ W.heap[l]? = W0.heap[l]?) ∧ W.heap[D]? = W0.heap[D]?
  | _, _, _ => False

theorem range_lines {n : Nat} {g : Operand} {ps : Array Tmp} {assign body : Code} {Q : Exit → Act → World → Prop} {a : Act} {w : World} {B : Nat} {t : ByteArray}
    (hg : a.eval g = .func (.func 62) #[] #[.pointer (some ⟨B, 0, none⟩)]) (hps : ps.size = 1) (hBw : B < w.heap.size)
    (I I₂ : ByteArray → World → Prop) (Ix : World → Prop)
    (hI : ∀ s, Abd w.heap.size (I s)) (hI2 : ∀ s, Abd w.heap.size (I₂ s)) (hIx : Abd w.heap.size Ix) (h0 : I t w)
    (hcell : ∀ s W, I s W → W.cell? ⟨B, 0, none⟩ = some (.string s) ∧ W.frozen? ⟨B, 0, none⟩ = false ∧ s.size ≤ 1048576)
    (hset : ∀ s W, I s W → 0 < s.size → I₂ s (W.setCell ⟨B, 0, none⟩ (.string (lineB s))))
    (a₁ : ByteArray → Act)
    (hassign : ∀ (x : ByteArray) (W : World) (K : Act → World → Prop), K (a₁ x) W →
      assign.wpIn (Fence.wide.inRound (w.heap.size + 1)) (n - 1 - 1) Tryz.prog (Exit.then K (fun _ _ _ => False)) { tmps := (ps.zip #[Value.string x]).foldl (fun t (p, v) => t.setIfInBounds p v) a.tmps, defers := [] } W)
    (hbody : ∀ (s : ByteArray) (W : World), I₂ s W → 0 < s.size → w.heap.size + 1 < W.heap.size → W.heap[w.heap.size]? = some (.deferred (some [])) → (∃ r, W.heap[w.heap.size + 1]? = some (.loop r)) →
      body.wpIn (Fence.wide.inRound (w.heap.size + 1)) (n - 1 - 1) Tryz.prog (linePost (w.heap.size + 1) w.heap.size (I (lineB s)) Ix W) (a₁ (lineA s)) W)
    (hdone : ∀ W, I ⟨#[]⟩ W → W.heap[w.heap.size]? = some (.deferred (some [])) → Q .normal { a with defers := { target := .collected w.heap.size, args := #[] } :: a.defers } W)
    (hstop : ∀ W, Ix W → W.heap[w.heap.size]? = some (.deferred (some [])) → Code.ret.wpIn Fence.wide n Tryz.prog Q { a with defers := { target := .collected w.heap.size, args := #[] } :: a.defers } W) :
    (Code.rangeFunc g ps assign body).wpIn Fence.wide n Tryz.prog Q a w := by
  refine wpIn_rangeFunc fun fn hfn => ?_
  obtain ⟨rec, hrec⟩ : ∃ rec : LoopState → Option Code → Loop, rec = fun st pe => { state := st, pending := pe, fn, tmps := a.tmps, params := ps, assign, body, defers := w.heap.size } := ⟨_, rfl⟩
  have hsz2 : (w.alloc (.deferred (some []))).heap.size = w.heap.size + 1 := by simp
  have hsz3 : ∀ o, ((w.alloc (.deferred (some []))).alloc o).heap.size = w.heap.size + 2 := fun o => by simp
  have hL1 : ((w.alloc (.deferred (some []))).alloc (.loop (rec .ready none))).heap[w.heap.size + 1]? = some (.loop (rec .ready none)) := by
    have := World.alloc_heap_new (w.alloc (.deferred (some []))) (.loop (rec .ready none))
    rwa [hsz2] at this
  have hD1 : ((w.alloc (.deferred (some []))).alloc (.loop (rec .ready none))).heap[w.heap.size]? = some (.deferred (some [])) :=
    (Below.heap_alloc _ _ _ (by rw [hsz2]; omega)).trans (World.alloc_heap_new w _)
  have hI1 : I t ((w.alloc (.deferred (some []))).alloc (.loop (rec .ready none))) :=
    hI t _ _ none (hI t _ _ none h0 (World.grownBy_alloc _ _ _) (.inl rfl)) (World.grownBy_alloc _ _ _) (.inl rfl)
  refine ⟨w.heap.size + 1, [{ target := .collected w.heap.size, args := #[] }], (w.alloc (.deferred (some []))).alloc (.loop (rec .ready none)), { target := .fn (.func 62) #[.pointer (some ⟨B, 0, none⟩)], args := #[.func (.yield (w.heap.size + 1)) #[] #[]] }, (w.alloc (.deferred (some []))).alloc (.loop (rec .ready none)), 62,
    #[.func (.yield (w.heap.size + 1)) #[] #[], .pointer (some ⟨B, 0, none⟩)], (w.alloc (.deferred (some []))).alloc (.loop (rec .ready none)), by rw [hrec]; exact run_enterLoop_outer _ _ _ _ _, ?_, fun _ _ => trivial, ?_, fun h => (by cases h), ?_⟩
  · simp only [resolve, hg]
    simp [go_sem]
  · skip
    simp [invoke, go_sem]
  refine (lines_in (n - 1) (w.heap.size + 1) B
    (fun s W => I s W ∧ W.heap[w.heap.size + 1]? = some (.loop (rec .ready none)) ∧ W.heap[w.heap.size]? = some (.deferred (some [])))
    (fun W => Ix W ∧ W.heap[w.heap.size + 1]? = some (.loop (rec .done (some .ret))) ∧ W.heap[w.heap.size]? = some (.deferred (some [])))
    (fun s W h => hcell s W h.1) ?_ t _ ⟨hI1, hL1, hD1⟩).mono ?_
  · -- one round
    rintro s W W2 ⟨hi, hl, hd⟩ hpos hW2
    have hcellset : ∀ k, k ≠ B → (W.setCell ⟨B, 0, none⟩ (.string (lineB s))).heap[k]? = W.heap[k]? := fun k hk => Below.heap_setCell W ⟨B, 0, none⟩ _ k hk
    have hi2 : I₂ s W2 ∧ W2.heap[w.heap.size + 1]? = some (.loop (rec .ready none)) ∧ W2.heap[w.heap.size]? = some (.deferred (some [])) := by
      have hs0 := hset s W hi hpos
      have k1 := (hcellset (w.heap.size + 1) (by omega)).trans hl
      have k2 := (hcellset w.heap.size (by omega)).trans hd
      rcases hW2 with rfl | rfl
      · exact ⟨hs0, k1, k2⟩
      · exact ⟨hI2 s _ _ none hs0 (grown_drew _) (.inl rfl), k1, k2⟩
    obtain ⟨hi2, hl2, hd2⟩ := hi2
    have hlt : w.heap.size + 1 < W2.heap.size := (Array.getElem?_eq_some_iff.1 hl2).1
    have hy := run_yield (P := Tryz.prog) (args := #[Value.string (lineA s)]) hl2 (by rw [hrec]; exact hps.symm)
    rw [hrec] at hy
    refine ⟨fn, _, assign, body, hy, roundIn_of_wpIn hfn (hassign _ W2 _ ⟨_, run_beginRound hl2 (by rw [hrec]), ?_⟩)⟩
    have hl3 : (W2.putObj (w.heap.size + 1) (.loop { rec .ready none with state := .busy })).heap[w.heap.size + 1]? = some (.loop { rec .ready none with state := .busy }) := World.putObj_heap_same hlt
    have hd3 : (W2.putObj (w.heap.size + 1) (.loop { rec .ready none with state := .busy })).heap[w.heap.size]? = some (.deferred (some [])) := (World.putObj_heap_other (by omega)).trans hd2
    have hi3 := hI2 s _ _ _ hi2 (grownBy_putObj' W2 (w.heap.size + 1) (.loop { rec .ready none with state := .busy })) (.inr (.inr rfl))
    refine wpIn_mono (hbody s _ hi3 hpos (by simpa using hlt) hd3 ⟨_, hl3⟩) ?_
    have fin : ∀ (jump : Option Code) (W4 : World), W4.heap[w.heap.size + 1]? = some (.loop { rec .ready none with state := .busy }) → W4.heap[w.heap.size]? = some (.deferred (some [])) →
        (Instr.endRound (w.heap.size + 1) jump).run Tryz.prog W4 = .ok (.bool jump.isNone) (W4.putObj (w.heap.size + 1) (.loop (rec (if jump.isNone then .ready else .done) jump))) ∧
        (W4.putObj (w.heap.size + 1) (.loop (rec (if jump.isNone then .ready else .done) jump))).heap[w.heap.size + 1]? = some (.loop (rec (if jump.isNone then .ready else .done) jump)) ∧
        (W4.putObj (w.heap.size + 1) (.loop (rec (if jump.isNone then .ready else .done) jump))).heap[w.heap.size]? = some (.deferred (some [])) := fun jump W4 hl4 hd4 => by
      have := run_endRound (P := Tryz.prog) jump hl4
      rw [hrec] at this ⊢
      exact ⟨this, World.putObj_heap_same (Array.getElem?_eq_some_iff.1 hl4).1, (World.putObj_heap_other (by omega)).trans hd4⟩
    rintro e a3 W4 hp
    cases e with
    | normal =>
      obtain ⟨⟨hi4, hl4⟩, hd4⟩ := hp
      obtain ⟨hr, hl5, hd5⟩ := fin none W4 (hl4.trans hl3) (hd4.trans hd3)
      exact ⟨_, _, hr, .inl ⟨rfl, hI _ _ _ _ hi4 (grownBy_putObj' _ _ _) (.inr (.inr rfl)), hl5, hd5⟩⟩
    | ret =>
      obtain ⟨⟨hi4, hl4⟩, hd4⟩ := hp
      obtain ⟨hr, hl5, hd5⟩ := fin (some .ret) W4 (hl4.trans hl3) (hd4.trans hd3)
      exact ⟨_, _, hr, .inr ⟨rfl, hIx _ _ _ hi4 (grownBy_putObj' _ _ _) (.inr (.inr rfl)), hl5, hd5⟩⟩
    | exit id => exact hp.elim
    | goto t => exact hp.elim
    | panic ch => exact hp.elim
    | outgrown => exact hp.elim
  · rintro e W2 ⟨⟨v, rfl⟩, (⟨hi, hl, hd⟩ | ⟨hi, hl, hd⟩)⟩
    · exact ⟨none, _, by have := run_endLoop (P := Tryz.prog) hl (by rw [hrec]; simp); rw [hrec] at this; exact this, hdone _ (hI _ _ _ _ hi (grownBy_putObj' _ _ _) (.inr (.inr rfl))) ((World.putObj_heap_other (by omega)).trans hd)⟩
    · exact ⟨some .ret, _, by have := run_endLoop (P := Tryz.prog) hl (by rw [hrec]; simp); rw [hrec] at this; exact this, hstop _ (hIx _ _ _ hi (grownBy_putObj' _ _ _) (.inr (.inr rfl))) ((World.putObj_heap_other (by omega)).trans hd)⟩
end Go.Proofs.YtgiimcdjojjbmaaGreatDoor
