/- What ReadReadings returns: over the pieces of the text; spec.ReadReadings. -/
import Derived.Test.YtgiimcdjojjbmaaDoorH5
import Derived.Test.YtgiimcdjojjbmaaDoorH3
namespace Go.Proofs.YtgiimcdjojjbmaaDoor
open Go Go.RowKit

section
variable {α : Type} (f : ByteArray → Option α)
/-- All lines, each read by f. -/
def parseAll (ls : List ByteArray) : Option (List α) := ls.foldl (fun acc l => acc.bind fun D => (f l).map fun p => D ++ [p]) (some [])
theorem parseAll_snoc (ls : List ByteArray) (l : ByteArray) : parseAll f (ls ++ [l]) = (parseAll f ls).bind fun D => (f l).map fun p => D ++ [p] := by
  unfold parseAll; rw [List.foldl_append]; rfl
theorem parseAll_stays (ls : List ByteArray) : ls.foldl (fun (acc : Option (List α)) l => acc.bind fun D => (f l).map fun p => D ++ [p]) none = none := by
  induction ls with
  | nil => rfl
  | cons l r ih => exact ih
theorem parseAll_none {ls : List ByteArray} {k : Nat} (h : parseAll f (ls.take k) = none) : parseAll f ls = none := by
  unfold parseAll at h ⊢
  rw [← List.take_append_drop k ls, List.foldl_append, h]
  exact parseAll_stays f _
theorem parseAll_from : ∀ (ls : List ByteArray) (D0 D : List α), ls.foldl (fun (acc : Option (List α)) l => acc.bind fun D => (f l).map fun p => D ++ [p]) (some D0) = some D →
    ∃ E, D = D0 ++ E ∧ ls.map f = E.map some
  | [], D0, D, h => by
    simp only [List.foldl_nil, Option.some.injEq] at h
    exact ⟨[], by rw [h]; simp, rfl⟩
  | l :: r, D0, D, h => by
    simp only [List.foldl_cons, Option.bind_some] at h
    cases hp : f l with
    | none =>
      rw [hp] at h
      have := parseAll_stays f r
      simp only [Option.map_none] at h
      rw [this] at h
      cases h
    | some p =>
      rw [hp] at h
      obtain ⟨E, h1, h2⟩ := parseAll_from r (D0 ++ [p]) D h
      exact ⟨p :: E, by rw [h1]; simp, by simp [hp, h2]⟩
theorem parseAll_iff {ls : List ByteArray} {D : List α} : parseAll f ls = some D ↔ ls.map f = D.map some := by
  constructor
  · intro h
    obtain ⟨E, h1, h2⟩ := parseAll_from f ls [] D h
    rw [h1]; exact h2
  · have back : ∀ (ls : List ByteArray) (D0 E : List α), ls.map f = E.map some → ls.foldl (fun (acc : Option (List α)) l => acc.bind fun D => (f l).map fun p => D ++ [p]) (some D0) = some (D0 ++ E) := by
      intro ls
      induction ls with
      | nil =>
        intro D0 E h
        have : E = [] := by simpa using h.symm
        rw [this]; simp
      | cons l r ih =>
        intro D0 E h
        cases E with
        | nil => simp at h
        | cons p q =>
          simp only [List.map_cons, List.cons.injEq] at h
          simp only [List.foldl_cons, Option.bind_some, h.1, Option.map_some]
          rw [ih (D0 ++ [p]) q h.2]; simp
    intro h
    exact back ls [] D h
theorem parseAll_length {ls : List ByteArray} {D : List α} (h : parseAll f ls = some D) : D.length = ls.length := by
  have := congrArg List.length ((parseAll_iff f).1 h)
  simpa using this.symm
theorem parseAll_each {ls : List ByteArray} {D : List α} (h : parseAll f ls = some D) : ∀ p ∈ D, ∃ l ∈ ls, f l = some p := by
  intro p hp
  have h1 := (parseAll_iff f).1 h
  have : some p ∈ ls.map f := by rw [h1]; exact List.mem_map_of_mem hp
  obtain ⟨l, hl, e⟩ := List.mem_map.1 this
  exact ⟨l, hl, e⟩
end

def rdOf (a : Option Nat) (b : Option Int) : Option Rd := match a, b with
  | some x, some y => if -32768 ≤ y ∧ y ≤ 32767 then some ⟨x, y⟩ else none
  | _, _ => none
/-- A reading's line. -/
def parseRd (l : ByteArray) : Option Rd := if (pieces 32 l).length = 2 then rdOf (decRead ((pieces 32 l).getD 0 default)) (sgRead ((pieces 32 l).getD 1 default)) else none
/-- The readings with a text. -/
def rdRead (t : ByteArray) : Option (List Rd) :=
  if ((pieces 10 t).getLastD default).size = 0 ∧ (pieces 10 t).length - 1 ≤ 40 then (parseAll parseRd (pieces 10 t).dropLast).bind fun L => if rdsB L = true then some L else none else none
def rdOut (t : ByteArray) : List Rd × Int := match rdRead t with
  | some L => (L, 0)
  | none => ([], 5)

/-- A reading as a line may tell it. -/
def Rd.told (p : Rd) : Prop := 0 ≤ p.t ∧ p.t < 1000000000 ∧ -32768 ≤ p.l ∧ p.l ≤ 32767
theorem Rd.told.good {p : Rd} (h : p.told) : p.good := by unfold Rd.told at h; unfold Rd.good; omega
theorem parseRd_told {l : ByteArray} {p : Rd} (h : parseRd l = some p) : p.told := by
  unfold parseRd at h
  split at h
  · unfold rdOf at h
    split at h
    · rename_i x y ex ey
      split at h
      · cases h
        have := decRead_lt ex
        unfold Rd.told
        simp only
        omega
      · cases h
    · cases h
  · cases h

theorem row_emptyN (w : World) (T s : Nat) : (w.alloc (.cells #[] T)).ownsRow w.heap.size T s (.slice (some ⟨w.heap.size, 0, none⟩) 0 0) 0 [] :=
  ⟨by simp, .inr ⟨_, 0, #[], rfl, Nat.le_refl _, heap_alloc_new w _, Nat.le_refl _, by simp [maxLen], by simp, by simp⟩⟩
theorem slice_of_rowN {W : World} {B T e n : Nat} {v : Value} {xs : List Value} (h : W.ownsRow B T e v n xs) : ∃ a c, v = .slice a n c := by
  rcases h.2 with ⟨rfl, h0⟩ | ⟨g, cap, cur, rfl, _⟩
  · exact ⟨none, 0, by rw [h0]⟩
  · exact ⟨_, _, rfl⟩

theorem rdSl_of_row {W : World} {B : Nat} {v : Value} {D : List Rd} (h : W.ownsRow B 76 2 v D.length (rdCells D)) : RdSl W v D := by
  rcases h.2 with ⟨rfl, h0⟩ | ⟨g, cap, cur, rfl, hb, hg, _⟩
  · refine .inl ⟨_, _, rfl, ?_⟩
    cases D with
    | nil => rfl
    | cons p r => simp at h0
  · refine .inr ⟨g, 0, cap, rfl, (Array.getElem?_eq_some_iff.1 hg).1, fun k hk => ?_⟩
    obtain ⟨g1, g2⟩ := rdCells_get D k hk
    simp only [Nat.zero_add]
    exact ⟨(World.ownsRow.cellAt h (k * 2) (by omega)).trans g1, (World.ownsRow.cellAt h (k * 2 + 1) (by omega)).trans g2⟩

theorem rdRead_bad {t : ByteArray} (h : parseAll parseRd (pieces 10 t).dropLast = none ∨ ((pieces 10 t).getLastD default).size ≠ 0 ∨ 40 < (pieces 10 t).length - 1) : rdOut t = ([], 5) := by
  have hn : rdRead t = none := by
    unfold rdRead
    rcases h with h | h | h
    · rw [h]; split <;> rfl
    · rw [if_neg (fun x => h x.1)]
    · rw [if_neg (fun x => absurd x.2 (by omega))]
  unfold rdOut
  rw [hn]

set_option maxHeartbeats 4000000 in
set_option maxRecDepth 100000 in
theorem specReadReadings_any (t : ByteArray) (w : World) (hs : t.size ≤ 1048576) : Calls Tryd.prog 15 #[.string t] w
    fun e w' => (∃ v, e = .returned (.tuple #[v, .int .i64 (rdOut t).2]) ∧ w'.ownsRow w.heap.size 76 2 v (rdOut t).1.length (rdCells (rdOut t).1)) ∧ Below w.heap.size w w' := by
  obtain ⟨i0, hi, hz0, hz1, hz2⟩ := info_parts infoR
  obtain ⟨ls, hls⟩ : ∃ ls, ls = pieces 10 t := ⟨_, rfl⟩
  obtain ⟨R, hR⟩ : ∃ R, R = rdOut t := ⟨_, rfl⟩
  rw [← hR]
  have hne : ls ≠ [] := by rw [hls]; exact pieces_ne _ _
  have hsz : ∀ p ∈ ls, p.size ≤ 1048576 := fun p hp => Nat.le_trans (pieces_size (c := 10) (t := t) (by rw [← hls]; exact hp)) hs
  have hRn : parseAll parseRd ls.dropLast = none ∨ (ls.getLastD default).size ≠ 0 ∨ 40 < ls.length - 1 → R = ([], 5) := by rw [hls, hR]; exact rdRead_bad
  have hRs : ∀ D, parseAll parseRd ls.dropLast = some D → (ls.getLastD default).size = 0 → ls.length - 1 ≤ 40 → R = if rdsB D = true then (D, 0) else ([], 5) := by
    intro D hD hl h40
    rw [hR]
    unfold rdOut rdRead
    rw [hls] at hD hl h40
    rw [if_pos ⟨hl, h40⟩, hD]
    simp only [Option.bind_some]
    by_cases h6 : rdsB D = true
    · rw [if_pos h6, if_pos h6]
    · rw [if_neg h6, if_neg h6]
  have hlen1 : 1 ≤ ls.length := List.length_pos_iff.2 hne
  have hSP := split_pieces t 10
  rw [← hls] at hSP
  have HSP := Lib.hid (fun w => hSP w hs)
  have HRN := Lib.hid hRn
  have HRS := Lib.hid hRs
  have HSZ := Lib.hid hsz
  have HLAST := Lib.hid (getLastD_at hne)
  clear hSP hR hls hRn hRs hsz hne
  go_enter Tryd.func15, Tryd.ntmps15
  go_wp2_with fail
  refine (HSP.out _).mono ?_
  rintro e w1 ⟨v4, rfl, hst, hl2, hB1⟩
  obtain ⟨b4, c4, rfl, hb4, hcl⟩ := hst
  have hcLast := hcl (ls.length - 1) (by omega)
  have hidx : ((ls.length : Int) - 1).toNat = ls.length - 1 := by omega
  have HCL := Lib.hid hcl
  clear hcl
  obtain ⟨x, hx⟩ : ∃ x, x = ls.getD (ls.length - 1) default := ⟨_, rfl⟩
  rw [← hx] at hcLast
  have HX := Lib.hid hx; clear hx
  have hsw := hB1.size
  obtain ⟨ok0, hok0⟩ : ∃ ok0, ok0 = x.toList.isEmpty := ⟨_, rfl⟩
  have hx1 : ok0 = true → (ls.getLastD default).size = 0 := fun h => by
    rw [HLAST.out, ← HX.out]
    rw [h, ByteArray.toList_eq] at hok0
    rw [← size_toList]
    have : x.data.toList = [] := by simpa using hok0.symm
    rw [this]; rfl
  have hx2 : ok0 = false → R = ([], 5) := fun h => by
    refine HRN.out (.inr (.inl ?_))
    rw [HLAST.out, ← HX.out]
    intro h0
    rw [h, ByteArray.toList_eq] at hok0
    rw [← size_toList] at h0
    rw [List.length_eq_zero_iff.1 h0] at hok0
    cases hok0
  have HX1 := Lib.hid hx1
  have HX2 := Lib.hid hx2
  clear hx1 hx2
  cases ok0 with
  | false =>
    obtain rfl := HX2.out rfl
    have hemp := hok0.symm
    clear HX1 HX2 hok0
    go_wp2_with fail
    go_ret2
    exact ⟨⟨_, rfl, row_lower (row_emptyN w1 76 2) (by omega)⟩, hB1.alloc (by omega) _⟩
  | true =>
    have hlast := HX1.out rfl
    have HEMP := Lib.hid hok0.symm
    have HLAST2 := Lib.hid hlast
    clear HX1 HX2 hok0 hlast
    by_cases h40 : ls.length - 1 ≤ 40
    · have h41 : ¬ (40 : Int) < (ls.length : Int) - 1 := by omega
      have hrow0 := row_emptyN w1 76 2
      have HROW0 := Lib.hid hrow0; clear hrow0
      have hemp := HEMP.out
      go_wp2_with fail
      clear hemp hcLast hidx
      go_loopw [6, 7] (fun vx i wr => ∃ (v : Value) (D : List Rd) (k : Nat), v = vx ∧ k ≤ ls.length - 1 ∧ i = .int .i64 k ∧ Hid (wr.ownsRow w1.heap.size 76 2 v D.length (rdCells D)) ∧ Hid (D.length = k) ∧
          Hid (parseAll parseRd (ls.dropLast.take k) = some D) ∧ Below w1.heap.size w1 wr) (fun _ i _ => ls.length - (intOf i).toNat)
      case atStart => exact ⟨_, [], 0, rfl, by omega, rfl, HROW0, by simp [Hid], by simp [Hid, parseAll], (Below.refl _ _).alloc (Nat.le_refl _) _⟩
      case round =>
        obtain ⟨v, D, k, rfl, hk, rfl, HROW, hDk, HT, hB⟩ := hrel
        have hBw : Below w.heap.size w wr := hB1.trans (hB.mono hB1.size)
        have hsr := hB.size
        have hDle : D.length ≤ 40 := by have := hDk.out; omega
        clear HROW0
        by_cases hlt : k < ls.length - 1
        · obtain ⟨l, hl⟩ : ∃ l, l = ls.getD k default := ⟨_, rfl⟩
          have hcell := (hB.cell (p := ⟨b4, k, none⟩) hb4).trans (HCL.out k (by omega))
          rw [← hl] at hcell
          have hlsz : l.size ≤ 1048576 := by rw [hl]; exact HSZ.out _ (getD_mem _ _ _ (by omega))
          have hstep : parseAll parseRd (ls.dropLast.take (k + 1)) = (parseRd l).map fun p => D ++ [p] := by
            rw [dropLast_take_snoc (by omega), ← hl, parseAll_snoc, HT.out]; rfl
          have HSTEP := Lib.hid hstep
          have HSPL := Lib.hid (split_pieces l 32 wr hlsz)
          have hbad : parseRd l = none → R = ([], 5) := fun h => HRN.out (.inl (parseAll_none parseRd (k := k + 1) (by rw [HSTEP.out, h]; rfl)))
          have HBAD := Lib.hid hbad
          have hlt2 : (k : Int) < (ls.length : Int) - 1 := by omega
          clear hstep hl hbad HT
          go_wp2_with fail
          refine HSPL.out.mono ?_
          rintro e w2 ⟨v8, rfl, hst8, hl8, hB8⟩
          obtain ⟨b8, c8, rfl, hb8, hcl8⟩ := hst8
          have hs2 := hB8.size
          have HCL8 := Lib.hid hcl8
          clear hcl8 hcell
          by_cases h3 : (pieces 32 l).length = 2
          · obtain ⟨a, ha⟩ : ∃ a, a = (pieces 32 l).getD 0 default := ⟨_, rfl⟩
            obtain ⟨b, hb⟩ : ∃ b, b = (pieces 32 l).getD 1 default := ⟨_, rfl⟩
            have c0 := HCL8.out 0 (by omega)
            have c1 := HCL8.out 1 (by omega)
            rw [← ha] at c0
            rw [← hb] at c1
            have za : a.size ≤ 1048576 := Nat.le_trans (pieces_size (c := 32) (t := l) (by rw [ha]; exact getD_mem _ _ _ (by omega))) hlsz
            have zb : b.size ≤ 1048576 := Nat.le_trans (pieces_size (c := 32) (t := l) (by rw [hb]; exact getD_mem _ _ _ (by omega))) hlsz
            have hpm : parseRd l = rdOf (decRead a) (sgRead b) := by unfold parseRd; rw [if_pos h3, ha, hb]
            have N1 := l01Number_any a w2 za
            have N2 := l03ReadSigned_any b w2 zb
            have HROW2 := Lib.hid (HROW.out.kept ⟨hB8.os, hB8.tape, hB8.output, hB8.size, fun j hj _ => hB8.block j hj⟩ (row := none) (Classical.em _))
            have hB2 : Below w1.heap.size w1 w2 := hB.trans (hB8.mono hsr)
            have hBw2 : Below w.heap.size w w2 := hB1.trans (hB2.mono hB1.size)
            generalize (pieces 32 l).length = n8 at *
            subst h3
            clear HSPL HCL8 ha hb za zb hB8 HROW
            rcases ra : decRead a with _ | nx
            · rw [ra] at N1 hpm
              simp only [Option.getD_none, Option.isSome_none] at N1
              have M1 := Lib.hid N1
              have M2 := Lib.hid N2
              clear N1 N2 ra
              obtain rfl : R = ([], 5) := HBAD.out (by rw [hpm]; rfl)
              clear hpm
              go_wp2_with fail
              refine M1.out.mono ?_
              clear M1
              rintro e w3 ⟨rfl, rfl⟩
              go_wp2_with fail
              refine M2.out.mono ?_
              clear M2
              rintro e w3 ⟨rfl, rfl⟩
              go_wp2_with fail
              go_ret2
              exact ⟨⟨_, rfl, row_lower (row_emptyN w2 76 2) (by omega)⟩, hBw2.alloc (by omega) _⟩
            · have hnx := decRead_lt ra
              rcases rb : sgRead b with _ | y
              · rw [ra] at N1 hpm
                rw [rb] at N2 hpm
                simp only [Option.getD_none, Option.getD_some, Option.isSome_none, Option.isSome_some] at N1 N2
                have M1 := Lib.hid N1
                have M2 := Lib.hid N2
                clear N1 N2 ra rb
                obtain rfl : R = ([], 5) := HBAD.out (by rw [hpm]; rfl)
                clear hpm
                go_wp2_with fail
                refine M1.out.mono ?_
                clear M1
                rintro e w3 ⟨rfl, rfl⟩
                go_wp2_with fail
                refine M2.out.mono ?_
                clear M2
                rintro e w3 ⟨rfl, rfl⟩
                go_wp2_with fail
                go_ret2
                exact ⟨⟨_, rfl, row_lower (row_emptyN w2 76 2) (by omega)⟩, hBw2.alloc (by omega) _⟩
              · obtain ⟨hy1, hy2⟩ := (sgRead_iff.1 rb).1
                rw [ra] at N1 hpm
                rw [rb] at N2 hpm
                simp only [Option.getD_some, Option.isSome_some] at N1 N2
                have M1 := Lib.hid N1
                have M2 := Lib.hid N2
                have HPM := Lib.hid hpm
                clear N1 N2 ra rb hpm
                have I0 := l00In_any y (-32768) 32767 w2
                by_cases hin : inB y (-32768) 32767 = true
                · rw [hin] at I0
                  have hyy : -32768 ≤ y ∧ y ≤ 32767 := by unfold inB at hin; simpa using hin
                  obtain ⟨hya, hyb⟩ := hyy
                  have M3 := Lib.hid I0
                  clear I0 hin
                  have hpp : parseRd l = some ⟨nx, y⟩ := by rw [HPM.out]; unfold rdOf; simp only; rw [if_pos ⟨hya, hyb⟩]
                  have hnext : parseAll parseRd (ls.dropLast.take (k + 1)) = some (D ++ [⟨nx, y⟩]) := by rw [HSTEP.out, hpp]; rfl
                  have HNEXT := Lib.hid hnext
                  have xw : IntKind.i16.wrap y = y := by simp only [IntKind.wrap]; simp [IntKind.signed, IntKind.bits]; omega
                  clear hpp hnext
                  go_wp2_with fail
                  refine M1.out.mono ?_
                  clear M1
                  rintro e w3 ⟨rfl, rfl⟩
                  go_wp2_with fail
                  refine M2.out.mono ?_
                  clear M2
                  rintro e w3 ⟨rfl, rfl⟩
                  go_wp2_with fail
                  refine M3.out.mono ?_
                  clear M3
                  rintro e w3 ⟨rfl, rfl⟩
                  go_wp2_with (at_builtin; refine wpList_append_own _ rfl _ _ 36 rfl w1.heap.size 76 i0 (.agg #[.int .i64 0, .int .i16 0]) 2 16 Tryd.underlying36 hi hz0 hz1 hz2 rfl (by decide) _ _ _ rfl (HROW2.out.alloc _) ⟨w2.heap.size, 0, none⟩ 1 1 [.int .i64 nx, .int .i16 y] rfl rfl ?c1 ?c2 ?c3 ?c4 ?c5 ?_)
                  case c1 =>
                    intro j u hj
                    match j, hj with
                    | 0, hj => simp at hj; subst hj; simp [Addr.add]
                    | 1, hj => simp at hj; subst hj; simp [Addr.add]
                  case c2 => intro u hu; simp at hu; rcases hu with rfl | rfl <;> rfl
                  case c3 => unfold maxLen; omega
                  case c4 => omega
                  case c5 => simp; omega
                  intro v' w4 hown' hgrow _
                  have hO2 : w4.ownsRow w1.heap.size 76 2 v' (D ++ [(⟨nx, y⟩ : Rd)]).length (rdCells (D ++ [⟨nx, y⟩])) := by
                    rw [rdCells_append, List.length_append]; exact hown'
                  have hB4 : Below w1.heap.size w1 w4 := (hB2.alloc (by omega) _).grown hgrow (by simp; omega) (fun j hj => (HROW2.out.lt j hj).1)
                  have HO2 := Lib.hid hO2
                  clear hO2 hown' hgrow
                  go_wp2_with fail
                  go_roundw
                  case rel => exact ⟨_, D ++ [⟨nx, y⟩], k + 1, rfl, by omega, by go_num, HO2, (by have := hDk.out; show (D ++ [(⟨nx, y⟩ : Rd)]).length = k + 1; simp; omega), HNEXT, hB4⟩
                  case measure => simp [intOf]; omega
                · have hin2 : inB y (-32768) 32767 = false := by cases h : inB y (-32768) 32767 <;> simp_all
                  rw [hin2] at I0
                  have hyy : ¬ (-32768 ≤ y ∧ y ≤ 32767) := fun h => by
                    unfold inB at hin2
                    simp at hin2
                    omega
                  obtain rfl : R = ([], 5) := HBAD.out (by rw [HPM.out]; unfold rdOf; simp only; rw [if_neg hyy])
                  have M3 := Lib.hid I0
                  clear I0 hin hin2 hyy HPM
                  go_wp2_with fail
                  refine M1.out.mono ?_
                  clear M1
                  rintro e w3 ⟨rfl, rfl⟩
                  go_wp2_with fail
                  refine M2.out.mono ?_
                  clear M2
                  rintro e w3 ⟨rfl, rfl⟩
                  go_wp2_with fail
                  refine M3.out.mono ?_
                  clear M3
                  rintro e w3 ⟨rfl, rfl⟩
                  go_wp2_with fail
                  go_ret2
                  exact ⟨⟨_, rfl, row_lower (row_emptyN w2 76 2) (by omega)⟩, hBw2.alloc (by omega) _⟩
          · obtain rfl : R = ([], 5) := HBAD.out (by unfold parseRd; rw [if_neg h3])
            have h3i : ¬ ((pieces 32 l).length : Int) = 2 := by omega
            go_wp2_with fail
            go_ret2
            exact ⟨⟨_, rfl, row_lower (row_emptyN w2 76 2) (by omega)⟩, (hBw.trans (hB8.mono (by omega))).alloc (by omega) _⟩
        · have hkl : k = ls.length - 1 := by omega
          have hpre := HT.out
          rw [List.take_of_length_le (by simp; omega)] at hpre
          have hRD := HRS.out D hpre HLAST2.out h40
          have h4 := l04Ok_any D v wr (rdSl_of_row HROW.out) (by omega)
          rw [decide_eq_true (show D.length ≤ 40 by omega), Bool.true_and] at h4
          have hge2 : ¬ (k : Int) < (ls.length : Int) - 1 := by omega
          obtain ⟨va, vc, rfl⟩ := slice_of_rowN HROW.out
          clear hpre HT hkl
          by_cases h6 : rdsB D = true
          · rw [if_pos h6] at hRD
            subst hRD
            rw [h6] at h4
            have H4 := Lib.hid h4; clear h4 h6
            go_wp2_with fail
            refine H4.out.mono ?_
            rintro e w3 ⟨rfl, rfl⟩
            go_wp2_with fail
            go_ret2
            exact ⟨⟨_, rfl, row_lower HROW.out hsw⟩, hBw⟩
          · rw [if_neg h6] at hRD
            subst hRD
            rw [show rdsB D = false from by cases h : rdsB D <;> simp_all] at h4
            have H4 := Lib.hid h4; clear h4 h6
            go_wp2_with fail
            refine H4.out.mono ?_
            rintro e w3 ⟨rfl, rfl⟩
            go_wp2_with fail
            go_ret2
            exact ⟨⟨_, rfl, row_lower (row_emptyN wr 76 2) (by omega)⟩, hBw.alloc (by omega) _⟩
    · obtain rfl := HRN.out (.inr (.inr (by omega)))
      have h41 : (40 : Int) < (ls.length : Int) - 1 := by omega
      have hemp := HEMP.out
      go_wp2_with fail
      go_ret2
      exact ⟨⟨_, rfl, row_lower (row_emptyN w1 76 2) (by omega)⟩, hB1.alloc (by omega) _⟩
end Go.Proofs.YtgiimcdjojjbmaaDoor
