/- FnExactPermitsText returns true for every list of permits (of any length, nil too), in whatever memory; the listed tables of the library read as their initialisers lay them. -/
import Derived.Test.YtgiimcdjojjbmaaDoorC4
import Derived.Test.YtgiimcdjojjbmaaDoorCards
import Derived.Test.YtgiimcdjojjbmaaDoorTie
import Derived.ProofKit
import Derived.LaidMore
import Derived.OpenShut
import Derived.Deep.Slices
import Derived.Deep.Strs
import Derived.Lib.LaidTab
import Derived.Stop.LaidErr
namespace Go.Proofs.YtgiimcdjojjbmaaDoor
namespace LawPermitsText
open Go Go.ChangeShapes Go.WideShapes Go.ChangeAt Go.WideMaps Go.WideElems Go.RowKit Go.Deep

theorem own : ownKnob Tryd.prog.godebug = none := by kernel_rfl
theorem laidOut : laidOutB Tryd.prog = true := by kernel_rfl
theorem cellsP : Tryd.prog.cellsOf 50 = 3 := by kernel_rfl
theorem cells8 : Tryd.prog.cellsOf 45 = 1 := by kernel_rfl
theorem cells16 : Tryd.prog.cellsOf 46 = 1 := by kernel_rfl
theorem gTab : Tryd.prog.globalNamed "internal/strconv.uint64pow10" = some 2 := by kernel_rfl
theorem gTabType : (Tryd.prog.globals[2]?).map (·.type) = some 139 := by kernel_rfl
theorem cellsTab : Tryd.prog.cellsOf 139 = 20 := by kernel_rfl
theorem cells64 : Tryd.prog.cellsOf 91 = 1 := by kernel_rfl

theorem door_met (os : Os) (args : Array Value) : laidMetH Tryd.prog Rows.fnExactPermitsTextRow.laid ((World.doorLaid Tryd.prog 400 os).forCall (fun _ _ => 0) ⟨#[], args, []⟩).memory :=
  laidMetH_of_parts3 (fuel := 8) (laidMet_of_run' 8 (by kernel_rfl) (by kernel_rfl)) (by kernel_rfl) (by kernel_rfl)

/-- What the condition gives: the table of powers of ten. -/
theorem tab10 {W : World} (h : laidMetH Tryd.prog Rows.fnExactPermitsTextRow.laid W) : Tab10 W := by
  rw [MakeChecks.laidMetH_plain _ _ _ (by kernel_rfl)] at h
  have h2 := h.tail.tail
  exact Lib.tabIs_of_head (rest := []) gTab gTabType Tryd.underlying139 Tryd.underlying91 cells64 cellsTab h2

section
variable {H : Type} {enc : TypeId × Value → H} {w : World} {base : Nat} {spare : Nat → Bool} {held : Bool}
set_option maxRecDepth 100000 in
/-- One permit, opened. -/
theorem open_permit {n : Nat} {cs : List Value} {x : DataW H × List MemPlace} (h : DataW.trod enc Tryd.prog w base spare held n 50 cs = some x) :
    ∃ p : Pm, p.ok ∧ cs = [.int .i8 p.o, .int .i8 p.c, .int .i16 p.r] := by
  obtain ⟨y0, y1, y2, m, _, hl, h0, h1, h2⟩ := trod_struct3 Tryd.underlying50 h
  rw [cellsP] at hl
  match cs, hl with
  | [c0, c1, c2], _ =>
    simp only [cells8, cells16, List.drop_zero, List.drop_succ_cons, List.take_succ_cons, List.take_zero] at h0 h1 h2
    obtain ⟨a, e0, _, wa⟩ := DataW.trod_int Tryd.underlying45 h0
    obtain ⟨b, e1, _, wb⟩ := DataW.trod_int Tryd.underlying45 h1
    obtain ⟨c, e2, _, wc⟩ := DataW.trod_int Tryd.underlying46 h2
    simp only [List.cons.injEq, and_true] at e0 e1 e2
    subst e0 e1 e2
    refine ⟨⟨a, b, c⟩, ?_, rfl⟩
    simp only [Lit.wf, Bool.and_eq_true, decide_eq_true_eq] at wa wb wc
    have m8 : IntKind.i8.min = -128 := rfl
    have M8 : IntKind.i8.max = 127 := rfl
    have m16 : IntKind.i16.min = -32768 := rfl
    have M16 : IntKind.i16.max = 32767 := rfl
    unfold Pm.ok
    simp only
    omega

/-- A list of permits, opened. -/
theorem open_permits {v : Value} {d : DataW H} {ps : List MemPlace} (h : DataW.Trod enc Tryd.prog w base spare held 22 v d ps) (hs : ∃ a len cap, v = .slice a len cap) :
    ∃ l : List Pm, (∀ p ∈ l, p.ok) ∧ PmSl w v l ∧ l.length ≤ 9223372036854775807 := by
  obtain ⟨a0, len0, cap0, rfl⟩ := hs
  obtain ⟨fuel, hf⟩ := h
  rcases open_slice Tryd.underlying22 hf with ⟨hcs, _⟩ | ⟨a, len, cap, m, n, D, Pl, hcs, _, hl, hm, hmm, _, hx⟩
  · simp only [Value.cells, List.cons.injEq, and_true] at hcs
    refine ⟨[], by simp, .inl ⟨_, _, hcs, rfl⟩, by simp⟩
  · simp only [Value.cells, List.cons.injEq, and_true] at hcs
    rw [hcs]
    have hlm : len ≤ m := by rw [hmm]; split <;> omega
    by_cases h0 : len = 0
    · subst h0
      exact ⟨[], by simp, .inl ⟨_, _, rfl, rfl⟩, by simp⟩
    rw [cellsP] at hx
    obtain ⟨f, hfp⟩ := choose_lt (α := Pm) (n := len) (p := fun i p => p.ok ∧ ∀ j u, j < 3 → [Value.int .i8 p.o, .int .i8 p.c, .int .i16 p.r][j]? = some u → w.cell? ((a.add (i * 3)).add j) = some u) (fun i hi => by
      obtain ⟨cs', h1, h2⟩ := hx i (by omega)
      obtain ⟨p, hp, rfl⟩ := open_permit h2
      obtain ⟨_, _, hc⟩ := World.cells?_some h1
      exact ⟨p, hp, fun j u hj hu => (hc j hj).trans hu⟩)
    have hsp : a.spot = none := by
      have h1 := (hfp 0 (by omega)).2 0 _ (by omega) rfl
      simp only [Nat.zero_mul, Addr.add, if_true] at h1
      cases hs : a.spot with
      | none => rfl
      | some x =>
        unfold World.cell? at h1
        split at h1
        · rw [hs] at h1; simp at h1
        · cases h1
    obtain ⟨b, off, sp⟩ := a
    simp only at hsp
    subst hsp
    have hadd : ∀ x y : Nat, ((⟨b, off, none⟩ : Addr).add x).add y = ⟨b, off + x + y, none⟩ := fun x y => by
      unfold Addr.add
      by_cases hx : x = 0 <;> by_cases hy : y = 0 <;> simp [hx, hy]
    have hlen : ((List.range len).map f).length = len := by simp
    have hget : ∀ k, k < len → ((List.range len).map f).getD k default = f k := fun k hk => by simp [List.getD, hk]
    refine ⟨(List.range len).map f, ?_, .inr ⟨b, off, cap, by rw [hlen], ?_, fun k hk => ?_⟩, by rw [hlen]; unfold maxLen at hm; omega⟩
    · intro p hp
      obtain ⟨i, hi, rfl⟩ := List.mem_map.1 hp
      exact (hfp i (List.mem_range.1 hi)).1
    · have h1 := (hfp 0 (by omega)).2 0 _ (by omega) rfl
      exact World.block_lt_of_cell? w _ h1
    · rw [hlen] at hk
      rw [hget k hk]
      have h1 := (hfp k hk).2 0 _ (by omega) rfl
      have h2 := (hfp k hk).2 1 _ (by omega) rfl
      have h3 := (hfp k hk).2 2 _ (by omega) rfl
      rw [hadd] at h1 h2 h3
      exact ⟨h1, h2, h3⟩
end

set_option maxRecDepth 100000 in
theorem lifted (os : Os) (started : os.Started) (H : Type) (enc : TypeId × Value → H) :
    ReturnsInHanded {} Tryd.checked os 3 .any (fun w args => (Rows.fnExactPermitsTextSpec.pre enc Tryd.prog Tryd.f3 [] false w args ∧ laidMetH Tryd.prog Rows.fnExactPermitsTextRow.laid w) ∧ sizedMet enc Tryd.prog Tryd.f3 (OpenSpec.ofChange Rows.fnExactPermitsTextSpec) false w args)
      (Rows.fnExactPermitsTextSpec.post enc Tryd.prog Tryd.f3 false true false false) := by
  refine returnsInHanded_of_change_and (C := Tryd.checked) (X := fun w _ => laidMetH Tryd.prog Rows.fnExactPermitsTextRow.laid w) (fun _ _ _ hh h => h.of_heap hh) own started (by kernel_rfl) Tryd.func3
    (ChangeSpec.witness_shaped (enc := enc) (C := Tryd.checked) (os := os) (X := fun w _ => laidMetH Tryd.prog Rows.fnExactPermitsTextRow.laid w) false (World.doorLaid Tryd.prog 400 os) #[.slice none 0 0] 8 rfl (World.shaped_of_RefB (by kernel_rfl) (by kernel_rfl)) (by kernel_rfl) (by kernel_rfl) (by kernel_rfl) (door_met os _)) ?_
  intro W base args ds gs before hval0 hW _ _ hL _
  have hval : ∀ (j : Nat) t v, Tryd.f3.params[j]? = some t → args[j]? = some v → Value.okWide Tryd.prog W .any base t v := hval0
  have hW' := hW
  obtain ⟨p, q, hA0, hV, rfl, hfz, hnd⟩ := hW
  have hA : DataW.TrodAll enc Tryd.prog W 0 (fun _ => true) true Tryd.f3.params.toList args.toList ds p := hA0
  rw [Tryd.params3] at hA hval
  obtain ⟨v0, d0, rfl, rfl, h0⟩ := trodAll_one hA
  obtain ⟨rfl, rfl⟩ := trodVars_none hV
  obtain ⟨l, hok, hsl, hlen⟩ := open_permits h0 (okWide_slice Tryd.underlying22 (hval 0 22 v0 rfl rfl))
  clear hA0 hval0
  refine (law_walk l v0 W (tab10 hL) hok hsl hlen).mono fun e W' ⟨he, hb⟩ => ?_
  subst he
  simp only [List.append_nil] at hW'
  refine ⟨_, rfl, _, _, _, [], p, [], hW', trodAll_mk1 (shut_bool Tryd.underlying4 _), trodAll_mk1 (Below.trod laidOut (by kernel_rfl) (of_decide_eq_true (by kernel_rfl)) h0 hb (fun x hx => by simpa using hW'.lt x hx)), rfl, hb.frame _, fun h => by cases h⟩

theorem said : Rows.FnExactPermitsTextSaid :=
  OpenClaim.holds_of_wide 3 Tryd.f3 rfl rfl rfl rfl rfl rfl rfl ⟨rfl, rfl, rfl, rfl, rfl⟩ rfl rfl rfl rfl rfl (by kernel_rfl) Tryd.func3 (by kernel_rfl)
    (of_decide_eq_true (by kernel_rfl)) (by unfold Func.isWrapper; first | (rw [if_pos (by decide +kernel)]; kernel_rfl) | (rw [if_neg (by decide +kernel)]; exact ⟨rfl, rfl⟩))
    (fun os started H enc _ => lifted os started H enc)

theorem plain (f : FuncId) (fn : Func) (hf : Tryd.pinned.checked.prog.funcNamed "loop.example/g01288/laws.FnExactPermitsText" = some f) (hfn : Tryd.pinned.checked.prog.funcs[f]? = some fn) :
    true = Tryd.pinned.checked.prog.looks [] ∧ ∀ (j : Nat) t, fn.params[j]? = some t → Tryd.pinned.checked.prog.wantsStandIn t = false := by
  obtain rfl : f = 3 := Option.some.inj ((show Tryd.prog.funcNamed "loop.example/g01288/laws.FnExactPermitsText" = some 3 by kernel_rfl).symm.trans hf) |>.symm
  obtain rfl : fn = Tryd.f3 := (Option.some.inj (Tryd.func3.symm.trans hfn)).symm
  refine ⟨by kernel_rfl, fun j t ht => ?_⟩
  rw [Tryd.params3] at ht
  obtain rfl : t = 22 := by simpa using Array.mem_of_getElem? ht
  exact (show Tryd.prog.wantsStandIn 22 = false by kernel_rfl)

theorem card : Rows.FnExactPermitsTextCardSaid :=
  Claim7.holds_tied_plain_at .later [] _ _ _ _ said (fun _ h => by cases h) (by kernel_rfl) (fun _ h => by cases h) fnExactPermitsText_row_tie rfl ⟨rfl, rfl⟩ (by kernel_rfl) rfl plain (by kernel_rfl)
#print axioms card
end LawPermitsText
end Go.Proofs.YtgiimcdjojjbmaaDoor
