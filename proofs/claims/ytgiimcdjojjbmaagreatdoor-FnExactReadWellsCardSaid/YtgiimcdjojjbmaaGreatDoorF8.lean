/- The plain law of ReadPermits: what is read is what has this text. -/
import Derived.Test.YtgiimcdjojjbmaaGreatDoorF7
import Derived.Test.YtgiimcdjojjbmaaGreatDoorF3
namespace Go.Proofs.YtgiimcdjojjbmaaGreatDoor
open Go Go.RowKit

theorem decVal_digit : ∀ (l : List UInt8) (n v : Nat), decVal l n = some v → ∀ c ∈ l, 48 ≤ c.toNat ∧ c.toNat ≤ 57
  | [], _, _, _, c, hc => by cases hc
  | d :: r, n, v, h, c, hc => by
    simp only [decVal] at h
    split at h
    · rename_i hd
      rcases List.mem_cons.1 hc with rfl | hc
      · exact hd
      · exact decVal_digit r _ v h c hc
    · cases h
theorem decStr_list (n : Nat) : (decStr n).data.toList = Lib.decDigits n := rfl
theorem decStr_free (n : Nat) (c : UInt8) (h : c.toNat < 48) : c ∉ (decStr n).data.toList := fun hc => by
  have := decVal_digit _ _ _ (decVal_digits n) c hc
  omega

/-- A permit's line without its end. -/
def pmBody (p : Pm) : ByteArray := (((decStr p.o.toNat ++ spB) ++ decStr p.c.toNat) ++ spB) ++ decStr p.r.toNat
def pmWords (p : Pm) : List ByteArray := [decStr p.o.toNat, decStr p.c.toNat, decStr p.r.toNat]
theorem pmBody_list (p : Pm) : (pmBody p).data.toList = (decStr p.o.toNat).data.toList ++ 32 :: ((decStr p.c.toNat).data.toList ++ 32 :: (decStr p.r.toNat).data.toList) := by
  unfold pmBody spB
  simp
theorem pmBody_split (p : Pm) : SplitOf 32 (pmBody p) (pmWords p) := by
  constructor
  · unfold pmWords
    rw [flat_cons, flat_cons, flat_cons, pmBody_list]
    simp [flat]
  · intro q hq
    unfold pmWords at hq
    simp at hq
    rcases hq with rfl | rfl | rfl <;> exact decStr_free _ _ (by decide)
theorem pmBody_free (p : Pm) : (10 : UInt8) ∉ (pmBody p).data.toList := by
  rw [pmBody_list]
  have h1 := decStr_free p.o.toNat 10 (by decide)
  have h2 := decStr_free p.c.toNat 10 (by decide)
  have h3 := decStr_free p.r.toNat 10 (by decide)
  simp only [List.mem_append, List.mem_cons, not_or]
  exact ⟨h1, by decide, h2, by decide, h3⟩

theorem pmText_list (L : List Pm) : (pmText L).data.toList = flat 10 (L.map pmBody) := by
  have key : ∀ (L : List Pm) (s : ByteArray), (L.foldl (fun s p => s ++ pmLine p) s).data.toList = s.data.toList ++ flat 10 (L.map pmBody) := by
    intro L
    induction L with
    | nil => intro s; simp [flat]
    | cons p r ih =>
      intro s
      rw [List.foldl_cons, ih, List.map_cons, flat_cons]
      have : (s ++ pmLine p).data.toList = s.data.toList ++ ((pmBody p).data.toList ++ [10]) := by
        unfold pmLine pmBody nlB
        simp
      rw [this]
      simp
  have := key L ⟨#[]⟩
  simpa [pmText] using this

theorem pmText_split (L : List Pm) : SplitOf 10 (pmText L) (L.map pmBody ++ [⟨#[]⟩]) := by
  constructor
  · rw [flat_snoc, pmText_list]; rfl
  · intro q hq
    rcases List.mem_append.1 hq with hq | hq
    · obtain ⟨p, _, rfl⟩ := List.mem_map.1 hq
      exact pmBody_free p
    · obtain rfl := List.mem_singleton.1 hq
      simp

theorem parsePm_body {p : Pm} (h : p.fine) : parsePm (pmBody p) = some p := by
  unfold parsePm
  rw [pieces_of (pmBody_split p)]
  unfold Pm.fine at h
  have e1 := decRead_str (n := p.o.toNat) (by omega)
  have e2 := decRead_str (n := p.c.toNat) (by omega)
  have e3 := decRead_str (n := p.r.toNat) (by omega)
  unfold pmWords
  simp only [List.length_cons, List.length_nil, List.getD_cons_zero, List.getD_cons_succ]
  rw [if_pos trivial, e1, e2, e3]
  unfold pmOf
  simp only
  rw [if_pos (by omega)]
  congr 1
  cases p
  simp only [Pm.mk.injEq] at *
  omega

theorem permRead_text {L : List Pm} (hf : ∀ p ∈ L, p.fine) (h6 : L.length ≤ 6) : permRead (pmText L) = some L := by
  unfold permRead
  rw [pieces_of (pmText_split L)]
  rw [if_pos (by simp [ByteArray.size]), List.dropLast_concat]
  have : parsePre (L.map pmBody) = some L := by
    rw [parsePre_iff, List.map_map]
    apply List.map_congr_left
    intro p hp
    exact parsePm_body (hf p hp)
  rw [this]
  simp only [Option.bind_some]
  rw [if_pos h6]

theorem body_of_parse {l : ByteArray} {p : Pm} (h : parsePm l = some p) : l = pmBody p := by
  unfold parsePm at h
  split at h
  · rename_i h3
    obtain ⟨a, b, c, habc⟩ := len_three h3
    rw [habc] at h
    simp only [List.getD_cons_zero, List.getD_cons_succ] at h
    have hs := pieces_split 32 l
    rw [habc] at hs
    unfold pmOf at h
    split at h
    · rename_i x y z ea eb ec
      split at h
      · cases h
        obtain ⟨_, rfl⟩ := decRead_iff.1 ea
        obtain ⟨_, rfl⟩ := decRead_iff.1 eb
        obtain ⟨_, rfl⟩ := decRead_iff.1 ec
        apply bytes_ext
        have h1 := hs.1
        rw [flat_cons, flat_cons, flat_cons] at h1
        rw [pmBody_list]
        have h2 : ((decStr x).data.toList ++ 32 :: ((decStr y).data.toList ++ 32 :: (decStr z).data.toList)) ++ [32] = l.data.toList ++ [32] := by rw [← h1]; simp [flat]
        have h4 := List.append_cancel_right h2
        simpa using h4.symm
      · cases h
    · cases h
  · cases h

theorem text_of_read {t : ByteArray} {L : List Pm} (h : permRead t = some L) : t = pmText L ∧ (∀ p ∈ L, p.fine) ∧ L.length ≤ 6 := by
  unfold permRead at h
  split at h
  · rename_i hl
    cases hp : parsePre (pieces 10 t).dropLast with
    | none => rw [hp] at h; cases h
    | some D =>
      rw [hp] at h
      simp only [Option.bind_some] at h
      split at h
      · rename_i h6
        cases h
        refine ⟨?_, parsePre_fine hp, h6⟩
        have hm := parsePre_iff.1 hp
        have hb : (pieces 10 t).dropLast = L.map pmBody := by
          have key : ∀ (ls : List ByteArray) (E : List Pm), ls.map parsePm = E.map some → ls = E.map pmBody := by
            intro ls
            induction ls with
            | nil => intro E h; cases E with
              | nil => rfl
              | cons p q => simp at h
            | cons l r ih => intro E h; cases E with
              | nil => simp at h
              | cons p q =>
                simp only [List.map_cons, List.cons.injEq] at h
                rw [body_of_parse h.1, ih q h.2]; rfl
          exact key _ _ hm
        have hne := pieces_ne 10 t
        have hlast : (pieces 10 t).getLastD default = ⟨#[]⟩ := by
          apply bytes_ext
          have : ((pieces 10 t).getLastD default).data.toList.length = 0 := by rw [size_toList]; exact hl
          exact List.length_eq_zero_iff.1 this
        have hall : pieces 10 t = L.map pmBody ++ [⟨#[]⟩] := by
          rw [← hb]
          have h1 := (List.dropLast_concat_getLast hne).symm
          have h2 : (pieces 10 t).getLast hne = ⟨#[]⟩ := by
            rw [← hlast, List.getLastD_eq_getLast?, List.getLast?_eq_some_getLast hne]; rfl
          rw [h2] at h1
          exact h1
        have hs := (pieces_split 10 t).1
        rw [hall, flat_snoc] at hs
        apply bytes_ext
        rw [pmText_list]
        have h5 : flat 10 (L.map pmBody) ++ [10] = t.data.toList ++ [10] := by rw [← hs]; rfl
        exact (List.append_cancel_right h5).symm
      · cases h
  · cases h
end Go.Proofs.YtgiimcdjojjbmaaGreatDoor
