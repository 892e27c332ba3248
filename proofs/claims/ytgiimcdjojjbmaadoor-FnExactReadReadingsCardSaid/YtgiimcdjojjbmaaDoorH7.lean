/- The plain law of ReadReadings: what is read is what has this text; the law of the words. -/
import Derived.Test.YtgiimcdjojjbmaaDoorH6
import Derived.Test.YtgiimcdjojjbmaaDoorG2
namespace Go.Proofs.YtgiimcdjojjbmaaDoor
open Go Go.RowKit

/-- A reading's line without its end. -/
def rdBody (p : Rd) : ByteArray := (sgStr p.t ++ spB) ++ sgStr p.l
def rdWords (p : Rd) : List ByteArray := [sgStr p.t, sgStr p.l]
theorem rdBody_list (p : Rd) : (rdBody p).data.toList = (sgStr p.t).data.toList ++ 32 :: (sgStr p.l).data.toList := by
  unfold rdBody spB
  simp
theorem rdBody_split (p : Rd) : SplitOf 32 (rdBody p) (rdWords p) := by
  constructor
  · unfold rdWords
    rw [flat_cons, flat_cons, rdBody_list]
    simp [flat]
  · intro q hq
    unfold rdWords at hq
    simp at hq
    rcases hq with rfl | rfl <;> exact sgStr_free _ _ (by decide)
theorem rdBody_free (p : Rd) : (10 : UInt8) ∉ (rdBody p).data.toList := by
  rw [rdBody_list]
  have h1 := sgStr_free p.t 10 (by decide)
  have h2 := sgStr_free p.l 10 (by decide)
  simp only [List.mem_append, List.mem_cons, not_or]
  exact ⟨h1, by decide, h2⟩

theorem rdText_list (L : List Rd) : (rdText L).data.toList = flat 10 (L.map rdBody) := by
  have key : ∀ (L : List Rd) (s : ByteArray), (L.foldl (fun s p => s ++ rdLine p) s).data.toList = s.data.toList ++ flat 10 (L.map rdBody) := by
    intro L
    induction L with
    | nil => intro s; simp [flat]
    | cons p r ih =>
      intro s
      rw [List.foldl_cons, ih, List.map_cons, flat_cons]
      have : (s ++ rdLine p).data.toList = s.data.toList ++ ((rdBody p).data.toList ++ [10]) := by
        unfold rdLine rdBody nlB
        simp
      rw [this]
      simp
  have := key L ⟨#[]⟩
  simpa [rdText] using this

theorem rdText_split (L : List Rd) : SplitOf 10 (rdText L) (L.map rdBody ++ [⟨#[]⟩]) := by
  constructor
  · rw [flat_snoc, rdText_list]; rfl
  · intro q hq
    rcases List.mem_append.1 hq with hq | hq
    · obtain ⟨p, _, rfl⟩ := List.mem_map.1 hq
      exact rdBody_free p
    · obtain rfl := List.mem_singleton.1 hq
      simp

theorem sgStr_nat {z : Int} (h : 0 ≤ z) : sgStr z = decStr z.toNat := by
  rcases itoa_cases z with ⟨_, e⟩ | ⟨h', _⟩
  · unfold sgStr; rw [e]; rfl
  · omega

theorem parseRd_body {p : Rd} (h : p.told) : parseRd (rdBody p) = some p := by
  unfold parseRd
  rw [pieces_of (rdBody_split p)]
  unfold Rd.told at h
  have e1 := decRead_str (n := p.t.toNat) (by omega)
  have e2 := sgRead_str (z := p.l) (by omega) (by omega)
  rw [← sgStr_nat h.1] at e1
  unfold rdWords
  simp only [List.length_cons, List.length_nil, List.getD_cons_zero, List.getD_cons_succ]
  rw [if_pos trivial, e1, e2]
  unfold rdOf
  simp only
  rw [if_pos (by omega)]
  congr 1
  cases p
  simp only [Rd.mk.injEq, and_true] at *
  omega

theorem rdRead_text {L : List Rd} (hf : ∀ p ∈ L, p.told) (h6 : L.length ≤ 40) (hb : rdsB L = true) : rdRead (rdText L) = some L := by
  unfold rdRead
  rw [pieces_of (rdText_split L)]
  rw [if_pos ⟨by simp [ByteArray.size], by simp; omega⟩, List.dropLast_concat]
  have : parseAll parseRd (L.map rdBody) = some L := by
    rw [parseAll_iff, List.map_map]
    apply List.map_congr_left
    intro p hp
    exact parseRd_body (hf p hp)
  rw [this]
  simp only [Option.bind_some]
  rw [if_pos hb]

theorem body_of_parseRd {l : ByteArray} {p : Rd} (h : parseRd l = some p) : l = rdBody p := by
  unfold parseRd at h
  split at h
  · rename_i h3
    obtain ⟨a, b, habc⟩ := len_two h3
    rw [habc] at h
    simp only [List.getD_cons_zero, List.getD_cons_succ] at h
    have hs := pieces_split 32 l
    rw [habc] at hs
    unfold rdOf at h
    split at h
    · rename_i x y ea eb
      split at h
      · cases h
        obtain ⟨_, rfl⟩ := decRead_iff.1 ea
        obtain ⟨_, rfl⟩ := sgRead_iff.1 eb
        apply bytes_ext
        have h1 := hs.1
        rw [flat_cons, flat_cons] at h1
        rw [rdBody_list]
        simp only
        rw [sgStr_nat (show 0 ≤ (x : Int) by omega), Int.toNat_natCast]
        have h2 : ((decStr x).data.toList ++ 32 :: (sgStr y).data.toList) ++ [32] = l.data.toList ++ [32] := by rw [← h1]; simp [flat]
        exact (List.append_cancel_right h2).symm
      · cases h
    · cases h
  · cases h

theorem text_of_rdRead {t : ByteArray} {L : List Rd} (h : rdRead t = some L) : t = rdText L ∧ (∀ p ∈ L, p.told) ∧ L.length ≤ 40 ∧ rdsB L = true := by
  unfold rdRead at h
  split at h
  · rename_i hl
    obtain ⟨hl, h40⟩ := hl
    cases hp : parseAll parseRd (pieces 10 t).dropLast with
    | none => rw [hp] at h; cases h
    | some D =>
      rw [hp] at h
      simp only [Option.bind_some] at h
      split at h
      · rename_i h6
        cases h
        have hlen := parseAll_length parseRd hp
        refine ⟨?_, ?_, by rw [hlen]; simpa using h40, h6⟩
        · have hm := (parseAll_iff parseRd).1 hp
          have hb : (pieces 10 t).dropLast = L.map rdBody := by
            have key : ∀ (ls : List ByteArray) (E : List Rd), ls.map parseRd = E.map some → ls = E.map rdBody := by
              intro ls
              induction ls with
              | nil => intro E h; cases E with
                | nil => rfl
                | cons p q => simp at h
              | cons l r ih => intro E h; cases E with
                | nil => simp at h
                | cons p q =>
                  simp only [List.map_cons, List.cons.injEq] at h
                  rw [body_of_parseRd h.1, ih q h.2]; rfl
            exact key _ _ hm
          have hne := pieces_ne 10 t
          have hlast : (pieces 10 t).getLastD default = ⟨#[]⟩ := by
            apply bytes_ext
            have : ((pieces 10 t).getLastD default).data.toList.length = 0 := by rw [size_toList]; exact hl
            exact List.length_eq_zero_iff.1 this
          have hall : pieces 10 t = L.map rdBody ++ [⟨#[]⟩] := by
            rw [← hb]
            have h1 := (List.dropLast_concat_getLast hne).symm
            have h2 : (pieces 10 t).getLast hne = ⟨#[]⟩ := by
              rw [← hlast, List.getLastD_eq_getLast?, List.getLast?_eq_some_getLast hne]; rfl
            rw [h2] at h1
            exact h1
          have hs := (pieces_split 10 t).1
          rw [hall, flat_snoc] at hs
          apply bytes_ext
          rw [rdText_list]
          have h5 : flat 10 (L.map rdBody) ++ [10] = t.data.toList ++ [10] := by rw [← hs]; rfl
          exact (List.append_cancel_right h5).symm
        · intro p hp'
          obtain ⟨l, _, e⟩ := parseAll_each parseRd hp p hp'
          exact parseRd_told e
      · cases h
  · cases h

theorem rdsB_range {L : List Rd} (h : rdsB L = true) : ∀ p ∈ L, 1 ≤ p.t ∧ p.t ≤ 100000 := by
  intro p hp
  obtain ⟨k, hk, rfl⟩ := List.mem_iff_getElem.1 hp
  have hg : L.getD k default = L[k] := by simp [List.getD, hk]
  have h1 := okAt_lows (k := L.length) (fun j hj => rdsB_at h hj) k hk
  have h2 := rdsB_at h hk
  unfold okAt inB at h2
  simp only [Bool.and_eq_true, decide_eq_true_eq] at h2
  rw [hg] at h1 h2
  omega

theorem lw_rdText {L : List Rd} (h6 : L.length ≤ 40) : lw 2 40 (rdText L) [] = some (L.map rdWords) := by
  have := lw_lines rdBody rdWords 2 40 L (rdText L) [] (rdText_list L) (fun p _ => ⟨rdBody_free p, rdBody_split p, rfl⟩) (by simpa using h6)
  simpa using this

/-- The reading that words spell, whatever they are. -/
def rdOfWords (ws : List ByteArray) : Rd := ⟨numVal (ws.getD 0 default) 1 100000, numVal (ws.getD 1 default) (-32768) 32767⟩

theorem numVal_low (s : ByteArray) (hi : Int) (h : 0 ≤ hi) : 0 ≤ numVal s 1 hi ∧ numVal s 1 hi ≤ hi := by
  unfold numVal
  split
  · split
    · rename_i h; unfold inB at h; simp at h; omega
    · omega
  · omega

theorem rdOfWords_told (ws : List ByteArray) : (rdOfWords ws).told := by
  have h1 := numVal_low (ws.getD 0 default) 100000 (by omega)
  have h2 := numVal_range (ws.getD 1 default) (-32768) 32767 (by omega) (by omega)
  unfold Rd.told rdOfWords
  simp only
  omega

theorem rdOfWords_words {p : Rd} (h : p.told) (h1 : 1 ≤ p.t) (h2 : p.t ≤ 100000) : rdOfWords (rdWords p) = p := by
  unfold Rd.told at h
  unfold rdOfWords rdWords
  simp only [List.getD_cons_zero, List.getD_cons_succ]
  rw [numVal_sg (by omega) (by omega) (by omega) (by omega), numVal_sg (by omega) (by omega) (by omega) (by omega)]

/-- What impl.ReadReadings returns, by the words: it is what the reference returns. -/
theorem rdOut_words (t : ByteArray) : rdOut t = match lw 2 40 t [] with
    | none => ([], 5)
    | some L => if L.length ≤ 40 ∧ rdsB (L.map rdOfWords) = true ∧ rdText (L.map rdOfWords) = t then (L.map rdOfWords, 0) else ([], 5) := by
  unfold rdOut
  cases hr : rdRead t with
  | some D =>
    obtain ⟨ht, hf, h6, hb⟩ := text_of_rdRead hr
    have hl := lw_rdText h6
    rw [← ht] at hl
    rw [hl]
    have hm : (D.map rdWords).map rdOfWords = D := by
      rw [List.map_map]
      conv => rhs; rw [← List.map_id D]
      apply List.map_congr_left
      intro p hp
      obtain ⟨g1, g2⟩ := rdsB_range hb p hp
      exact rdOfWords_words (hf p hp) g1 g2
    simp only
    rw [hm, if_pos ⟨by simpa using h6, hb, ht.symm⟩]
  | none =>
    cases hl : lw 2 40 t [] with
    | none => rfl
    | some L =>
      simp only
      rw [if_neg]
      rintro ⟨h6, hb, ht⟩
      have := rdRead_text (L := L.map rdOfWords) (fun p hp => by
        obtain ⟨ws, _, rfl⟩ := List.mem_map.1 hp
        exact rdOfWords_told ws) (by simpa using h6) hb
      rw [ht, hr] at this
      cases this
end Go.Proofs.YtgiimcdjojjbmaaDoor
