/- spec.l01Split: a text cut at a byte. -/
import Derived.Test.YtgiimcdjojjbmaaGreatDoorD1
import Derived.OwnWalk
import Derived.Deep.Quiet
import Derived.Lib.Split
import Derived.WalkKit
namespace Go.Proofs.YtgiimcdjojjbmaaGreatDoor
open Go Go.RowKit

/-- Pieces, each with the byte behind it. -/
def flat (c : UInt8) (ps : List ByteArray) : List UInt8 := (ps.map fun p => p.data.toList ++ [c]).flatten
/-- ps are the pieces of t between the bytes c. -/
def SplitOf (c : UInt8) (t : ByteArray) (ps : List ByteArray) : Prop := flat c ps = t.data.toList ++ [c] ∧ ∀ p ∈ ps, c ∉ p.data.toList

theorem flat_snoc (c : UInt8) (ps : List ByteArray) (p : ByteArray) : flat c (ps ++ [p]) = flat c ps ++ (p.data.toList ++ [c]) := by simp [flat]
theorem flat_cons (c : UInt8) (ps : List ByteArray) (p : ByteArray) : flat c (p :: ps) = p.data.toList ++ c :: flat c ps := by simp [flat]

theorem free_split {c : UInt8} {a b x y : List UInt8} (h : a ++ c :: x = b ++ c :: y) (ha : c ∉ a) (hb : c ∉ b) : a = b ∧ x = y := by
  induction a generalizing b with
  | nil =>
    cases b with
    | nil => exact ⟨rfl, by simpa using h⟩
    | cons d r =>
      simp only [List.nil_append, List.cons_append, List.cons.injEq] at h
      exact absurd (by rw [h.1]; simp) hb
  | cons d r ih =>
    cases b with
    | nil =>
      simp only [List.nil_append, List.cons_append, List.cons.injEq] at h
      exact absurd (by rw [← h.1]; simp) ha
    | cons d' r' =>
      simp only [List.cons_append, List.cons.injEq] at h
      obtain ⟨h1, h2⟩ := ih h.2 (fun e => ha (List.mem_cons_of_mem _ e)) (fun e => hb (List.mem_cons_of_mem _ e))
      exact ⟨by rw [h.1, h1], h2⟩

theorem bytes_ext {a b : ByteArray} (h : a.data.toList = b.data.toList) : a = b := by
  obtain ⟨⟨a⟩⟩ := a; obtain ⟨⟨b⟩⟩ := b
  simp only at h
  rw [h]

/-- The pieces of a text are those pieces alone. -/
theorem flat_inj {c : UInt8} : ∀ {ps qs : List ByteArray}, flat c ps = flat c qs → (∀ p ∈ ps, c ∉ p.data.toList) → (∀ p ∈ qs, c ∉ p.data.toList) → ps = qs
  | [], [], _, _, _ => rfl
  | [], q :: qs, h, _, _ => by rw [flat_cons] at h; simp [flat] at h
  | p :: ps, [], h, _, _ => by rw [flat_cons] at h; simp [flat] at h
  | p :: ps, q :: qs, h, hp, hq => by
    rw [flat_cons, flat_cons] at h
    obtain ⟨h1, h2⟩ := free_split h (hp p (by simp)) (hq q (by simp))
    rw [bytes_ext h1, flat_inj h2 (fun x hx => hp x (by simp [hx])) (fun x hx => hq x (by simp [hx]))]

theorem SplitOf.unique {c : UInt8} {t : ByteArray} {ps qs : List ByteArray} (h : SplitOf c t ps) (h' : SplitOf c t qs) : ps = qs := flat_inj (h.1.trans h'.1.symm) h.2 h'.2
theorem SplitOf.ne {c : UInt8} {t : ByteArray} {ps : List ByteArray} (h : SplitOf c t ps) : ps ≠ [] := by
  rintro rfl
  have := h.1
  simp [flat] at this

/-- A slice of strings, known whole. -/
def StrSl (w : World) (v : Value) (l : List ByteArray) : Prop := ∃ b c, v = .slice (some ⟨b, 0, none⟩) l.length c ∧ b < w.heap.size ∧ ∀ k, k < l.length → w.cell? ⟨b, k, none⟩ = some (.string (l.getD k default))
theorem StrSl.mono {w w' : World} {v : Value} {l : List ByteArray} (h : StrSl w v l) (hB : Below w.heap.size w w') : StrSl w' v l := by
  obtain ⟨b, c, h1, h2, h3⟩ := h
  exact ⟨b, c, h1, Nat.lt_of_lt_of_le h2 hB.size, fun k hk => (hB.cell (p := ⟨b, k, none⟩) h2).trans (h3 k hk)⟩

theorem strSl_of_own {w : World} {B : Nat} {v : Value} {l : List ByteArray} (h : w.ownsRow B 9 1 v l.length (l.map Value.string)) (hne : l ≠ []) : StrSl w v l := by
  have hc := fun g hg => World.ownsRow.cells h (g := g) hg
  rcases h.2 with ⟨_, h0⟩ | ⟨g, cap, cur, hv, hb, hg, _⟩
  · exact absurd (by simpa using h0) hne
  · refine ⟨g, cap, hv, (Array.getElem?_eq_some_iff.1 hg).1, fun k hk => ?_⟩
    have := hc g (by rw [hv]; rfl) k (.string (l.getD k default)) (by simp [List.getD, hk])
    rw [← this]
    congr 1
    unfold Addr.add
    split <;> simp_all

theorem infoStr : (Tryz.prog.info? 9).map (fun i => (i.zero, i.size, i.bytes)) = some (some (.string ByteArray.empty), 1, 16) := by kernel_rfl

/-- What holds behind k bytes: the pieces done reach f, and no byte c lies between. -/
def SplitAt (c : UInt8) (t : ByteArray) (D : List ByteArray) (f k : Nat) : Prop :=
  flat c D = t.data.toList.take f ∧ (∀ p ∈ D, c ∉ p.data.toList) ∧ c ∉ (t.data.toList.take k).drop f ∧ f ≤ k ∧ D.length ≤ f

theorem SplitAt.next {c : UInt8} {t : ByteArray} {D : List ByteArray} {f k : Nat} (h : SplitAt c t D f k) (hk : k < t.size) (hx : t[k] ≠ c) : SplitAt c t D f (k + 1) := by
  obtain ⟨h1, h2, h3, h4, h5⟩ := h
  refine ⟨h1, h2, ?_, by omega, h5⟩
  have hk' : k < t.data.toList.length := by simpa using hk
  rw [List.take_succ_eq_append_getElem hk', List.drop_append_of_le_length (by simp; omega)]
  simp only [List.mem_append, List.mem_singleton, not_or]
  exact ⟨h3, fun e => hx e.symm⟩

theorem extract_list (t : ByteArray) (f k : Nat) : (t.extract f k).data.toList = (t.data.toList.take k).drop f := by
  have := Lib.extract_data t f k
  rw [this, List.drop_take]

theorem SplitAt.hit {c : UInt8} {t : ByteArray} {D : List ByteArray} {f k : Nat} (h : SplitAt c t D f k) (hk : k < t.size) (hx : t[k] = c) : SplitAt c t (D ++ [t.extract f k]) (k + 1) (k + 1) := by
  obtain ⟨h1, h2, h3, h4, h5⟩ := h
  have hk' : k < t.data.toList.length := by simpa using hk
  refine ⟨?_, ?_, by simp, by omega, by simp; omega⟩
  · rw [flat_snoc, h1, extract_list, List.take_succ_eq_append_getElem hk', ← List.append_assoc]
    congr 1
    · have := List.take_append_drop f (t.data.toList.take k)
      rw [List.take_take, Nat.min_eq_left h4] at this
      exact this
    · exact congrArg (fun x => [x]) hx.symm
  · intro p hp
    rcases List.mem_append.1 hp with hp | hp
    · exact h2 p hp
    · obtain rfl := List.mem_singleton.1 hp
      rw [extract_list]; exact h3

theorem SplitAt.last {c : UInt8} {t : ByteArray} {D : List ByteArray} {f : Nat} (h : SplitAt c t D f t.size) : SplitOf c t (D ++ [t.extract f t.size]) := by
  obtain ⟨h1, h2, h3, h4, h5⟩ := h
  constructor
  · rw [flat_snoc, h1, extract_list, ← List.append_assoc]
    congr 1
    have := List.take_append_drop f (t.data.toList.take t.size)
    rw [List.take_take, Nat.min_eq_left h4] at this
    rw [this]
    exact List.take_of_length_le (by simp)
  · intro p hp
    rcases List.mem_append.1 hp with hp | hp
    · exact h2 p hp
    · obtain rfl := List.mem_singleton.1 hp
      rw [extract_list]; exact h3

set_option maxHeartbeats 2000000 in
set_option maxRecDepth 100000 in
theorem l01Split_any (t : ByteArray) (c : UInt8) (w : World) (hs : t.size ≤ 1048576) : Calls Tryz.prog 13 #[.string t, .int .u8 c.toNat] w
    fun e w' => ∃ v ps, e = .returned v ∧ SplitOf c t ps ∧ StrSl w' v ps ∧ ps.length ≤ t.size + 1 ∧ Below w.heap.size w w' := by
  obtain ⟨i0, hi, hz0, hz1, hz2⟩ := info_parts infoStr
  go_enter Tryz.func13, Tryz.ntmps13
  go_wp2
  have hown0 : (w.alloc (.cells #[] 9)).ownsRow w.heap.size 9 1 (.slice (some ⟨w.heap.size, 0, none⟩) 0 0) ([] : List ByteArray).length (([] : List ByteArray).map Value.string) :=
    ⟨rfl, .inr ⟨_, 0, #[], rfl, Nat.le_refl _, heap_alloc_new w _, Nat.le_refl _, by simp [maxLen], rfl, rfl⟩⟩
  go_loopw [5, 6, 7] (fun v f i wr => ∃ (D : List ByteArray) (fn k : Nat), k ≤ t.size ∧ f = .int .i64 fn ∧ i = .int .i64 k ∧ Hid (SplitAt c t D fn k) ∧ D.length ≤ k ∧ fn ≤ k ∧
      Hid (wr.ownsRow w.heap.size 9 1 v D.length (D.map Value.string)) ∧ Below w.heap.size w wr) (fun _ _ i _ => t.size - (intOf i).toNat)
  case atStart => exact ⟨[], 0, 0, by omega, rfl, rfl, ⟨rfl, by simp, by simp, by omega, by simp⟩, by simp, by omega, hown0, (Below.refl _ _).alloc (Nat.le_refl _) _⟩
  case round =>
    obtain ⟨D, f, k, hk, rfl, rfl, HS, hDk, hfk, HO, hB⟩ := hrel
    clear hown0
    by_cases hlt : k < t.size
    · by_cases hx : t[k] = c
      · have hxi : (t[k].toNat : Int) = c.toNat := by rw [hx]
        have HS2 := Lib.hid (HS.out.hit hlt hx)
        have hxs := Lib.hid hx; clear hx
        go_wp2_with (at_builtin; refine wpList_append_own _ rfl _ _ 38 rfl w.heap.size 9 i0 (.string ByteArray.empty) 1 16 Tryz.underlying38 hi hz0 hz1 hz2 rfl (by decide) _ _ _ rfl (HO.out.alloc _) ⟨wr.heap.size, 0, none⟩ 1 1 [.string (t.extract f k)] rfl rfl ?c1 ?c2 ?c3 ?c4 ?c5 ?_)
        case c1 =>
          intro j u hj
          match j, hj with
          | 0, hj => simp at hj; subst hj; simp [Addr.add]
        case c2 => intro u hu; simp at hu; subst hu; rfl
        case c3 => unfold maxLen; omega
        case c4 => omega
        case c5 => have := hB.size; simp; omega
        intro v' w1 hown' hgrow _
        have hO2 : w1.ownsRow w.heap.size 9 1 v' (D ++ [t.extract f k]).length ((D ++ [t.extract f k]).map Value.string) := by
          simpa using hown'
        have hB2 : Below w.heap.size w w1 := (hB.alloc hB.size _).grown hgrow (by have := hB.size; simp; omega) (fun j hj => (HO.out.lt j hj).1)
        have HO2 := Lib.hid hO2; clear hO2 hown' hgrow HO HS
        go_wp2
        go_roundw
        case rel => exact ⟨D ++ [t.extract f k], k + 1, k + 1, by omega, by go_num, by go_num, HS2, by simp; omega, by omega, HO2, hB2⟩
        case measure => simp [intOf]; omega
      · have hxi : ¬ (t[k].toNat : Int) = c.toNat := fun e => hx (UInt8.toNat_inj.1 (by omega))
        have HS2 := Lib.hid (HS.out.next hlt hx)
        clear hx
        go_wp2_with fail
        go_roundw
        case rel => exact ⟨D, f, k + 1, by omega, rfl, by go_num, HS2, by omega, by omega, HO, hB⟩
        case measure => simp [intOf]; omega
    · have hkt : k = t.size := by omega
      have hS3 := HS.out
      rw [hkt] at hS3
      have HS3 := Lib.hid hS3.last
      clear hS3 hkt
      go_wp2_with (at_builtin; refine wpList_append_own _ rfl _ _ 38 rfl w.heap.size 9 i0 (.string ByteArray.empty) 1 16 Tryz.underlying38 hi hz0 hz1 hz2 rfl (by decide) _ _ _ rfl (HO.out.alloc _) ⟨wr.heap.size, 0, none⟩ 1 1 [.string (t.extract f t.size)] rfl rfl ?c1 ?c2 ?c3 ?c4 ?c5 ?_)
      case c1 =>
        intro j u hj
        match j, hj with
        | 0, hj => simp at hj; subst hj; simp [Addr.add]
      case c2 => intro u hu; simp at hu; subst hu; rfl
      case c3 => unfold maxLen; omega
      case c4 => omega
      case c5 => have := hB.size; simp; omega
      intro v' w1 hown' hgrow _
      have hO2 : w1.ownsRow w.heap.size 9 1 v' (D ++ [t.extract f t.size]).length ((D ++ [t.extract f t.size]).map Value.string) := by
        simpa using hown'
      have hB2 : Below w.heap.size w w1 := (hB.alloc hB.size _).grown hgrow (by have := hB.size; simp; omega) (fun j hj => (HO.out.lt j hj).1)
      have hst := strSl_of_own hO2 (by simp)
      clear hO2 hown' hgrow HO HS
      obtain ⟨b, cc, rfl, hst2⟩ := id hst
      go_wp2
      go_ret
      exact ⟨_, _, rfl, HS3.out, hst, by simp; omega, hB2⟩
end Go.Proofs.YtgiimcdjojjbmaaGreatDoor
