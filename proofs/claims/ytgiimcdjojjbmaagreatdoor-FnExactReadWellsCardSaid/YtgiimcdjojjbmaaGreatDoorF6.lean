/- What ReadPermits returns: over the pieces of the text; spec.ReadPermits. -/
import Derived.Test.YtgiimcdjojjbmaaGreatDoorF5
import Derived.Test.YtgiimcdjojjbmaaGreatDoorB1
import Derived.Test.YtgiimcdjojjbmaaGreatDoorA4
import Derived.Maps.AppendAt
namespace Go.Proofs.YtgiimcdjojjbmaaGreatDoor
open Go Go.RowKit

/-- A text's pieces. -/
def piecesL (c : UInt8) : List UInt8 → List (List UInt8)
  | [] => [[]]
  | x :: r => if x = c then [] :: piecesL c r else match piecesL c r with
    | [] => [[x]]
    | p :: q => (x :: p) :: q
def pieces (c : UInt8) (t : ByteArray) : List ByteArray := (piecesL c t.data.toList).map fun l => ⟨l.toArray⟩

theorem piecesL_ne (c : UInt8) : ∀ l, piecesL c l ≠ []
  | [] => by simp [piecesL]
  | x :: r => by
    unfold piecesL
    split
    · simp
    · split <;> simp
theorem piecesL_flat (c : UInt8) : ∀ l, ((piecesL c l).map fun p => p ++ [c]).flatten = l ++ [c]
  | [] => by simp [piecesL]
  | x :: r => by
    have ih := piecesL_flat c r
    unfold piecesL
    split
    · rename_i h
      simp only [List.map_cons, List.flatten_cons, ih, List.nil_append, List.cons_append]
      rw [h]
    · cases hp : piecesL c r with
      | nil => exact absurd hp (piecesL_ne c r)
      | cons p q =>
        rw [hp] at ih
        simp only [List.map_cons, List.flatten_cons, List.cons_append] at ih ⊢
        rw [ih]
theorem piecesL_free (c : UInt8) : ∀ l, ∀ p ∈ piecesL c l, c ∉ p
  | [] => by simp [piecesL]
  | x :: r => by
    have ih := piecesL_free c r
    unfold piecesL
    split
    · intro p hp
      rcases List.mem_cons.1 hp with rfl | hp
      · simp
      · exact ih p hp
    · rename_i h
      cases hq : piecesL c r with
      | nil => exact absurd hq (piecesL_ne c r)
      | cons p q =>
        rw [hq] at ih
        intro y hy
        rcases List.mem_cons.1 hy with rfl | hy
        · simp only [List.mem_cons, not_or]
          exact ⟨fun e => h e.symm, ih p (by simp)⟩
        · exact ih y (by simp [hy])

theorem pieces_split (c : UInt8) (t : ByteArray) : SplitOf c t (pieces c t) := by
  constructor
  · have := piecesL_flat c t.data.toList
    unfold flat pieces
    rw [List.map_map]
    exact this
  · intro p hp
    obtain ⟨l, hl, rfl⟩ := List.mem_map.1 hp
    exact piecesL_free c _ l hl
theorem pieces_of {c : UInt8} {t : ByteArray} {ps : List ByteArray} (h : SplitOf c t ps) : pieces c t = ps := (pieces_split c t).unique h
theorem pieces_ne (c : UInt8) (t : ByteArray) : pieces c t ≠ [] := (pieces_split c t).ne

theorem split_pieces (t : ByteArray) (c : UInt8) (w : World) (hs : t.size ≤ 1048576) : Calls Tryz.prog 13 #[.string t, .int .u8 c.toNat] w
    fun e w' => ∃ v, e = .returned v ∧ StrSl w' v (pieces c t) ∧ (pieces c t).length ≤ t.size + 1 ∧ Below w.heap.size w w' := by
  refine (l01Split_any t c w hs).mono ?_
  rintro e w' ⟨v, ps, rfl, h1, h2, h3, h4⟩
  rw [pieces_of h1]
  exact ⟨v, rfl, h2, h3, h4⟩

theorem flat_part {c : UInt8} : ∀ {ps : List ByteArray} {p : ByteArray}, p ∈ ps → p.data.toList.length < (flat c ps).length
  | q :: ps, p, h => by
    rw [flat_cons]
    rcases List.mem_cons.1 h with rfl | h
    · simp
    · have := flat_part (c := c) h
      rw [List.length_append, List.length_cons]; omega
theorem pieces_size {c : UInt8} {t p : ByteArray} (h : p ∈ pieces c t) : p.size ≤ t.size := by
  have h1 := flat_part (c := c) h
  rw [(pieces_split c t).1] at h1
  simp at h1
  omega

def pmOf (a b c : Option Nat) : Option Pm := match a, b, c with
  | some o, some c, some r => if o ≤ 7 ∧ c ≤ 63 ∧ r ≤ 400 then some ⟨o, c, r⟩ else none
  | _, _, _ => none
/-- A permit's line. -/
def parsePm (l : ByteArray) : Option Pm := if (pieces 32 l).length = 3 then pmOf (decRead ((pieces 32 l).getD 0 default)) (decRead ((pieces 32 l).getD 1 default)) (decRead ((pieces 32 l).getD 2 default)) else none
def parsePre (ls : List ByteArray) : Option (List Pm) := ls.foldl (fun acc l => acc.bind fun D => (parsePm l).map fun p => D ++ [p]) (some [])
theorem parsePre_snoc (ls : List ByteArray) (l : ByteArray) : parsePre (ls ++ [l]) = (parsePre ls).bind fun D => (parsePm l).map fun p => D ++ [p] := by
  unfold parsePre; rw [List.foldl_append]; rfl
theorem parse_stays (ls : List ByteArray) : ls.foldl (fun (acc : Option (List Pm)) l => acc.bind fun D => (parsePm l).map fun p => D ++ [p]) none = none := by
  induction ls with
  | nil => rfl
  | cons l r ih => exact ih
theorem parsePre_none {ls : List ByteArray} {k : Nat} (h : parsePre (ls.take k) = none) : parsePre ls = none := by
  unfold parsePre at h ⊢
  rw [← List.take_append_drop k ls, List.foldl_append, h]
  exact parse_stays _
/-- The permits with a text. -/
def permRead (t : ByteArray) : Option (List Pm) :=
  if ((pieces 10 t).getLastD default).size = 0 then (parsePre (pieces 10 t).dropLast).bind fun L => if L.length ≤ 6 then some L else none else none

/-- A permit as told. -/
def Pm.fine (p : Pm) : Prop := 0 ≤ p.o ∧ p.o ≤ 7 ∧ 0 ≤ p.c ∧ p.c ≤ 63 ∧ 0 ≤ p.r ∧ p.r ≤ 400
theorem Pm.fine.good {p : Pm} (h : p.fine) : p.good := by unfold Pm.fine at h; unfold Pm.good; omega
theorem Pm.fine.ok {p : Pm} (h : p.fine) : p.ok := by unfold Pm.fine at h; unfold Pm.ok; omega
theorem fine_of {p : Pm} (h : badP p = false) : p.fine := by
  unfold badP inB at h
  simp at h
  unfold Pm.fine
  omega
theorem Pm.fine.notBad {p : Pm} (h : p.fine) : badP p = false := by
  unfold Pm.fine at h
  unfold badP inB
  simp
  omega

theorem pmOf_fine {a b c : Option Nat} {p : Pm} (h : pmOf a b c = some p) : p.fine := by
  unfold pmOf at h
  split at h
  · split at h
    · cases h
      unfold Pm.fine
      simp only
      omega
    · cases h
  · cases h
theorem parsePm_fine {l : ByteArray} {p : Pm} (h : parsePm l = some p) : p.fine := by
  unfold parsePm at h
  split at h
  · exact pmOf_fine h
  · cases h
theorem parse_from : ∀ (ls : List ByteArray) (D0 D : List Pm), ls.foldl (fun (acc : Option (List Pm)) l => acc.bind fun D => (parsePm l).map fun p => D ++ [p]) (some D0) = some D →
    ∃ E, D = D0 ++ E ∧ ls.map parsePm = E.map some
  | [], D0, D, h => by
    simp only [List.foldl_nil, Option.some.injEq] at h
    exact ⟨[], by rw [h]; simp, rfl⟩
  | l :: r, D0, D, h => by
    simp only [List.foldl_cons, Option.bind_some] at h
    cases hp : parsePm l with
    | none =>
      rw [hp] at h
      have := parse_stays r
      simp only [Option.map_none] at h
      rw [this] at h
      cases h
    | some p =>
      rw [hp] at h
      obtain ⟨E, h1, h2⟩ := parse_from r (D0 ++ [p]) D h
      exact ⟨p :: E, by rw [h1]; simp, by simp [hp, h2]⟩
theorem parsePre_iff {ls : List ByteArray} {D : List Pm} : parsePre ls = some D ↔ ls.map parsePm = D.map some := by
  constructor
  · intro h
    obtain ⟨E, h1, h2⟩ := parse_from ls [] D h
    rw [h1]; exact h2
  · have back : ∀ (ls : List ByteArray) (D0 E : List Pm), ls.map parsePm = E.map some → ls.foldl (fun (acc : Option (List Pm)) l => acc.bind fun D => (parsePm l).map fun p => D ++ [p]) (some D0) = some (D0 ++ E) := by
      intro ls
      induction ls with
      | nil =>
        intro D0 E h
        have : E = [] := by simpa using h.symm
        rw [this]; simp
      | cons l r ih =>
        intro D0 E h
        cases E with
        | nil => simp at h
        | cons p q =>
          simp only [List.map_cons, List.cons.injEq] at h
          simp only [List.foldl_cons, Option.bind_some, h.1, Option.map_some]
          rw [ih (D0 ++ [p]) q h.2]; simp
    intro h
    exact back ls [] D h
theorem parsePre_length {ls : List ByteArray} {D : List Pm} (h : parsePre ls = some D) : D.length = ls.length := by
  have := congrArg List.length (parsePre_iff.1 h)
  simpa using this.symm
theorem parsePre_fine {ls : List ByteArray} {D : List Pm} (h : parsePre ls = some D) : ∀ p ∈ D, p.fine := by
  intro p hp
  have h1 := parsePre_iff.1 h
  have : some p ∈ ls.map parsePm := by rw [h1]; exact List.mem_map_of_mem hp
  obtain ⟨l, _, hl⟩ := List.mem_map.1 this
  exact parsePm_fine hl
end Go.Proofs.YtgiimcdjojjbmaaGreatDoor
