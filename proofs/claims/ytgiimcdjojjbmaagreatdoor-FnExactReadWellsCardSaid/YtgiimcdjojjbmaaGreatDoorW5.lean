/- The plain law of ReadWells: what is read is what has this text; the law of the words. -/
import Derived.Test.YtgiimcdjojjbmaaGreatDoorW4
import Derived.Test.YtgiimcdjojjbmaaGreatDoorW2
import Derived.Test.YtgiimcdjojjbmaaGreatDoorF9
import Derived.Test.YtgiimcdjojjbmaaGreatDoorG2
import Derived.Test.YtgiimcdjojjbmaaGreatDoorE4
namespace Go.Proofs.YtgiimcdjojjbmaaGreatDoor
open Go Go.RowKit

/-- A well's line without its end. -/
def wlBody (p : Wl) : ByteArray := (((sgStr p.x ++ spB) ++ sgStr p.y) ++ spB) ++ hexText (canon p.r)
def wlWords (p : Wl) : List ByteArray := [sgStr p.x, sgStr p.y, hexText (canon p.r)]
theorem wlBody_list (p : Wl) : (wlBody p).data.toList = (sgStr p.x).data.toList ++ 32 :: ((sgStr p.y).data.toList ++ 32 :: (hexText (canon p.r)).data.toList) := by
  unfold wlBody spB
  simp

theorem hexVal_low : ∀ (l : List UInt8) (n v : Nat), hexVal l n = some v → ∀ c ∈ l, 48 ≤ c.toNat
  | [], _, _, _, c, hc => by cases hc
  | d :: r, n, v, h, c, hc => by
    simp only [hexVal] at h
    cases hd : hexD d with
    | none => rw [hd] at h; cases h
    | some x =>
      rw [hd] at h
      rcases List.mem_cons.1 hc with rfl | hc
      · unfold hexD at hd
        split at hd
        · omega
        · split at hd
          · omega
          · cases hd
      · exact hexVal_low r _ v h c hc
theorem hexText_free (b : Nat) (h : b < 4294967296) (c : UInt8) (hc : c.toNat < 48) : c ∉ (hexText b).data.toList := fun hm => by
  have h1 := hexText_read h
  unfold hexRead at h1
  split at h1
  · have := hexVal_low _ _ _ h1 c hm
    omega
  · cases h1

theorem wlBody_split (p : Wl) (h : p.r < 4294967296) : SplitOf 32 (wlBody p) (wlWords p) := by
  constructor
  · unfold wlWords
    rw [flat_cons, flat_cons, flat_cons, wlBody_list]
    simp [flat]
  · intro q hq
    unfold wlWords at hq
    simp at hq
    rcases hq with rfl | rfl | rfl
    · exact sgStr_free _ _ (by decide)
    · exact sgStr_free _ _ (by decide)
    · exact hexText_free _ (canon_lt _ h) _ (by decide)
theorem wlBody_free (p : Wl) (h : p.r < 4294967296) : (10 : UInt8) ∉ (wlBody p).data.toList := by
  rw [wlBody_list]
  have h1 := sgStr_free p.x 10 (by decide)
  have h2 := sgStr_free p.y 10 (by decide)
  have h3 := hexText_free _ (canon_lt _ h) 10 (by decide)
  simp only [List.mem_append, List.mem_cons, not_or]
  exact ⟨h1, by decide, h2, by decide, h3⟩

theorem wlText_list (L : List Wl) : (wlText L).data.toList = flat 10 (L.map wlBody) := by
  have key : ∀ (L : List Wl) (s : ByteArray), (L.foldl (fun s p => s ++ wlLine p) s).data.toList = s.data.toList ++ flat 10 (L.map wlBody) := by
    intro L
    induction L with
    | nil => intro s; simp [flat]
    | cons p r ih =>
      intro s
      rw [List.foldl_cons, ih, List.map_cons, flat_cons]
      have : (s ++ wlLine p).data.toList = s.data.toList ++ ((wlBody p).data.toList ++ [10]) := by
        unfold wlLine wlBody nlB
        simp
      rw [this]
      simp
  have := key L ⟨#[]⟩
  simpa [wlText] using this

theorem wlText_split (L : List Wl) (h : ∀ p ∈ L, p.r < 4294967296) : SplitOf 10 (wlText L) (L.map wlBody ++ [⟨#[]⟩]) := by
  constructor
  · rw [flat_snoc, wlText_list]; rfl
  · intro q hq
    rcases List.mem_append.1 hq with hq | hq
    · obtain ⟨p, hp, rfl⟩ := List.mem_map.1 hq
      exact wlBody_free p (h p hp)
    · obtain rfl := List.mem_singleton.1 hq
      simp

theorem wlB_parts {p : Wl} (h : wlB p = true) : (-100 ≤ p.x ∧ p.x ≤ 100) ∧ (-100 ≤ p.y ∧ p.y ≤ 100) ∧ plainB p.r = true := by
  unfold wlB at h
  simp only [Bool.and_eq_true] at h
  exact ⟨place_true h.1.1, place_true h.1.2, h.2⟩

theorem parseWl_body {p : Wl} (h : wlB p = true) (hr : p.r < 4294967296) : parseWl (wlBody p) = some p := by
  unfold parseWl
  rw [pieces_of (wlBody_split p hr)]
  obtain ⟨⟨a1, a2⟩, ⟨b1, b2⟩, c1⟩ := wlB_parts h
  have e1 := sgRead_str (z := p.x) (by omega) (by omega)
  have e2 := sgRead_str (z := p.y) (by omega) (by omega)
  have e3 : numRead (hexText (canon p.r)) = some p.r := by rw [canon_plain c1]; exact numRead_iff.2 ⟨hr, canon_plain c1, rfl⟩
  unfold wlWords
  simp only [List.length_cons, List.length_nil, List.getD_cons_zero, List.getD_cons_succ]
  rw [if_pos trivial, e1, e2, e3]
  unfold wlOf
  simp only
  rw [if_pos h]

theorem wlRead_text {L : List Wl} (hf : ∀ p ∈ L, wlB p = true ∧ p.r < 4294967296) (h6 : L.length ≤ 12) : wlRead (wlText L) = some L := by
  unfold wlRead
  rw [pieces_of (wlText_split L fun p hp => (hf p hp).2)]
  rw [if_pos ⟨by simp [ByteArray.size], by simp; omega⟩, List.dropLast_concat]
  rw [parseAll_iff, List.map_map]
  apply List.map_congr_left
  intro p hp
  exact parseWl_body (hf p hp).1 (hf p hp).2

theorem parseWl_told {l : ByteArray} {p : Wl} (h : parseWl l = some p) : l = wlBody p ∧ wlB p = true ∧ p.r < 4294967296 := by
  unfold parseWl at h
  split at h
  · rename_i h3
    obtain ⟨a, b, c, habc⟩ := len_three h3
    rw [habc] at h
    simp only [List.getD_cons_zero, List.getD_cons_succ] at h
    have hs := pieces_split 32 l
    rw [habc] at hs
    unfold wlOf at h
    split at h
    · rename_i x y r ea eb ec
      split at h
      · rename_i hw
        cases h
        obtain ⟨_, rfl⟩ := sgRead_iff.1 ea
        obtain ⟨_, rfl⟩ := sgRead_iff.1 eb
        obtain ⟨hr, hcn, rfl⟩ := numRead_iff.1 ec
        refine ⟨?_, hw, hr⟩
        apply bytes_ext
        have h1 := hs.1
        rw [flat_cons, flat_cons, flat_cons] at h1
        rw [wlBody_list]
        simp only
        rw [hcn]
        have h2 : ((sgStr x).data.toList ++ 32 :: ((sgStr y).data.toList ++ 32 :: (hexText r).data.toList)) ++ [32] = l.data.toList ++ [32] := by rw [← h1]; simp [flat]
        have h4 := List.append_cancel_right h2
        simpa using h4.symm
      · cases h
    · cases h
  · cases h

theorem text_of_wlRead {t : ByteArray} {L : List Wl} (h : wlRead t = some L) : t = wlText L ∧ (∀ p ∈ L, wlB p = true ∧ p.r < 4294967296) ∧ L.length ≤ 12 := by
  unfold wlRead at h
  split at h
  · rename_i hl
    obtain ⟨hl, h40⟩ := hl
    have hlen := parseAll_length parseWl h
    refine ⟨?_, ?_, by rw [hlen]; simpa using h40⟩
    · have hm := (parseAll_iff parseWl).1 h
      have hb : (pieces 10 t).dropLast = L.map wlBody := by
        have key : ∀ (ls : List ByteArray) (E : List Wl), ls.map parseWl = E.map some → ls = E.map wlBody := by
          intro ls
          induction ls with
          | nil => intro E h; cases E with
            | nil => rfl
            | cons p q => simp at h
          | cons l r ih => intro E h; cases E with
            | nil => simp at h
            | cons p q =>
              simp only [List.map_cons, List.cons.injEq] at h
              rw [(parseWl_told h.1).1, ih q h.2]; rfl
        exact key _ _ hm
      have hne := pieces_ne 10 t
      have hlast : (pieces 10 t).getLastD default = ⟨#[]⟩ := by
        apply bytes_ext
        have : ((pieces 10 t).getLastD default).data.toList.length = 0 := by rw [size_toList]; exact hl
        exact List.length_eq_zero_iff.1 this
      have hall : pieces 10 t = L.map wlBody ++ [⟨#[]⟩] := by
        rw [← hb]
        have h1 := (List.dropLast_concat_getLast hne).symm
        have h2 : (pieces 10 t).getLast hne = ⟨#[]⟩ := by
          rw [← hlast, List.getLastD_eq_getLast?, List.getLast?_eq_some_getLast hne]; rfl
        rw [h2] at h1
        exact h1
      have hs := (pieces_split 10 t).1
      rw [hall, flat_snoc] at hs
      apply bytes_ext
      rw [wlText_list]
      have h5 : flat 10 (L.map wlBody) ++ [10] = t.data.toList ++ [10] := by rw [← hs]; rfl
      exact (List.append_cancel_right h5).symm
    · intro p hp'
      obtain ⟨l, _, e⟩ := parseAll_each parseWl h p hp'
      exact (parseWl_told e).2
  · cases h

theorem lw_wlText {L : List Wl} (hr : ∀ p ∈ L, p.r < 4294967296) (h6 : L.length ≤ 12) : lw 3 12 (wlText L) [] = some (L.map wlWords) := by
  have := lw_lines wlBody wlWords 3 12 L (wlText L) [] (wlText_list L) (fun p hp => ⟨wlBody_free p (hr p hp), wlBody_split p (hr p hp), rfl⟩) (by simpa using h6)
  simpa using this

/-- The well that words spell, whatever they are. -/
def wlOfWords (ws : List ByteArray) : Wl := ⟨numVal (ws.getD 0 default) (-100) 100, numVal (ws.getD 1 default) (-100) 100, (numOut (ws.getD 2 default)).1⟩

theorem numOut_lt (t : ByteArray) : (numOut t).1 < 4294967296 := by
  rcases numOut_code t with ⟨_, h⟩ | ⟨x, hx, h⟩
  · rw [h]; decide
  · rw [h]; exact (numRead_iff.1 hx).1

theorem wlOfWords_ok (ws : List ByteArray) : (wlOfWords ws).ok := by
  have h1 := numVal_range (ws.getD 0 default) (-100) 100 (by omega) (by omega)
  have h2 := numVal_range (ws.getD 1 default) (-100) 100 (by omega) (by omega)
  have h3 := numOut_lt (ws.getD 2 default)
  unfold Wl.ok wlOfWords
  simp only
  omega

theorem wlOfWords_words {p : Wl} (h : wlB p = true) (hr : p.r < 4294967296) : wlOfWords (wlWords p) = p := by
  obtain ⟨⟨a1, a2⟩, ⟨b1, b2⟩, c1⟩ := wlB_parts h
  have e3 : numRead (hexText (canon p.r)) = some p.r := by rw [canon_plain c1]; exact numRead_iff.2 ⟨hr, canon_plain c1, rfl⟩
  unfold wlOfWords wlWords
  simp only [List.getD_cons_zero, List.getD_cons_succ]
  rw [numVal_sg (by omega) (by omega) (by omega) (by omega), numVal_sg (by omega) (by omega) (by omega) (by omega)]
  unfold numOut
  rw [e3]

/-- What impl.ReadWells returns, by the words: it is what the reference returns. -/
theorem wlOut_words (t : ByteArray) : wlOut t = match lw 3 12 t [] with
    | none => ([], 5)
    | some L => if L.length ≤ 12 ∧ (L.map wlOfWords).all wlB = true ∧ wlText (L.map wlOfWords) = t then (L.map wlOfWords, 0) else ([], 5) := by
  unfold wlOut
  cases hr : wlRead t with
  | some D =>
    obtain ⟨ht, hf, h6⟩ := text_of_wlRead hr
    have hl := lw_wlText (fun p hp => (hf p hp).2) h6
    rw [← ht] at hl
    rw [hl]
    have hm : (D.map wlWords).map wlOfWords = D := by
      rw [List.map_map]
      conv => rhs; rw [← List.map_id D]
      apply List.map_congr_left
      intro p hp
      exact wlOfWords_words (hf p hp).1 (hf p hp).2
    simp only
    rw [hm, if_pos ⟨by simpa using h6, List.all_eq_true.2 fun p hp => (hf p hp).1, ht.symm⟩]
  | none =>
    cases hl : lw 3 12 t [] with
    | none => rfl
    | some L =>
      simp only
      rw [if_neg]
      rintro ⟨h6, hb, ht⟩
      have := wlRead_text (L := L.map wlOfWords) (fun p hp => by
        refine ⟨List.all_eq_true.1 hb p hp, ?_⟩
        obtain ⟨ws, _, rfl⟩ := List.mem_map.1 hp
        exact (wlOfWords_ok ws).2.2.2.2) (by simpa using h6)
      rw [ht, hr] at this
      cases this
end Go.Proofs.YtgiimcdjojjbmaaGreatDoor
