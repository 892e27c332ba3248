/- spec.ReadPermits. -/
import Derived.Test.YtgiimcdjojjbmaaDoorF6
namespace Go.Proofs.YtgiimcdjojjbmaaDoor
open Go Go.RowKit

def permOut (t : ByteArray) : List Pm × Int := match permRead t with
  | some L => (L, 0)
  | none => ([], 5)

theorem row_lower {W : World} {B B' e s n : Nat} {v : Value} {xs : List Value} (h : W.ownsRow B e s v n xs) (hB : B' ≤ B) : W.ownsRow B' e s v n xs := by
  refine ⟨h.1, ?_⟩
  rcases h.2 with h | ⟨g, cap, cur, rfl, hb, rest⟩
  · exact .inl h
  · exact .inr ⟨g, cap, cur, rfl, Nat.le_trans hB hb, rest⟩

theorem pmSl_of_row {W : World} {B : Nat} {v : Value} {D : List Pm} (h : W.ownsRow B 48 3 v D.length (pmCells D)) : PmSl W v D := by
  have hc := fun g hg => World.ownsRow.cells h (g := g) hg
  rcases h.2 with ⟨rfl, h0⟩ | ⟨g, cap, cur, hv, hb, hg, _⟩
  · refine .inl ⟨_, _, rfl, ?_⟩
    cases D with
    | nil => rfl
    | cons p r => simp at h0
  · refine .inr ⟨g, 0, cap, hv, (Array.getElem?_eq_some_iff.1 hg).1, fun k hk => ?_⟩
    obtain ⟨g1, g2, g3⟩ := pmCells_get D k hk
    have hadd : ∀ j, (⟨g, 0, none⟩ : Addr).add j = ⟨g, j, none⟩ := fun j => by unfold Addr.add; split <;> simp_all
    have k1 := hc g (by rw [hv]; rfl) (k * 3) _ g1
    have k2 := hc g (by rw [hv]; rfl) (k * 3 + 1) _ g2
    have k3 := hc g (by rw [hv]; rfl) (k * 3 + 2) _ g3
    rw [hadd] at k1 k2 k3
    simp only [Nat.zero_add]
    exact ⟨k1, k2, k3⟩

theorem row_empty (w : World) (T : Nat) : (w.alloc (.cells #[] T)).ownsRow w.heap.size T 3 (.slice (some ⟨w.heap.size, 0, none⟩) 0 0) 0 [] :=
  ⟨rfl, .inr ⟨_, 0, #[], rfl, Nat.le_refl _, heap_alloc_new w _, Nat.le_refl _, by simp [maxLen], rfl, rfl⟩⟩

theorem slice_of_row3 {W : World} {B e n : Nat} {v : Value} {xs : List Value} (h : W.ownsRow B e 3 v n xs) : ∃ a c, v = .slice a n c := by
  rcases h.2 with ⟨rfl, h0⟩ | ⟨g, cap, cur, rfl, _⟩
  · have h1 := h.1
    rw [h0] at h1
    have : n = 0 := by simp at h1; omega
    exact ⟨none, 0, by rw [this]⟩
  · exact ⟨_, _, rfl⟩

theorem permRead_none {t : ByteArray} (h : parsePre (pieces 10 t).dropLast = none ∨ ((pieces 10 t).getLastD default).size ≠ 0) : permOut t = ([], 5) := by
  have hn : permRead t = none := by
    unfold permRead
    rcases h with h | h
    · rw [h]; split <;> rfl
    · rw [if_neg h]
  unfold permOut
  rw [hn]

theorem take_last {α : Type} (l : List α) (k : Nat) (h : k + 1 = l.length) : l.take k = l.dropLast := by
  rw [List.dropLast_eq_take]; congr 1; omega
theorem take_pre {α : Type} (l : List α) (k : Nat) (h : k ≤ l.length - 1) : l.take k = l.dropLast.take k := by
  rw [List.dropLast_eq_take, List.take_take, Nat.min_eq_left h]
theorem dropLast_take_snoc {l : List ByteArray} {k : Nat} (h : k + 1 < l.length) : l.dropLast.take (k + 1) = l.dropLast.take k ++ [l.getD k default] := by
  rw [take_snocD default _ k (by simp; omega)]
  congr 2
  simp only [List.getD]
  rw [List.dropLast_eq_take, List.getElem?_take, if_pos (by omega)]
theorem len_three {α : Type} {l : List α} (h : l.length = 3) : ∃ a b c, l = [a, b, c] := by
  match l, h with
  | [a, b, c], _ => exact ⟨a, b, c, rfl⟩

theorem getLastD_at {l : List ByteArray} (h : l ≠ []) : l.getLastD default = l.getD (l.length - 1) default := by
  cases l with
  | nil => exact absurd rfl h
  | cons a r => rw [List.getLastD_eq_getLast?, List.getLast?_eq_getElem?]; rfl

set_option maxHeartbeats 4000000 in
set_option maxRecDepth 100000 in
theorem specReadPermits_any (t : ByteArray) (w : World) (hs : t.size ≤ 1048576) : Calls Tryd.prog 20 #[.string t] w
    fun e w' => (∃ v, e = .returned (.tuple #[v, .int .i64 (permOut t).2]) ∧ w'.ownsRow w.heap.size 48 3 v (permOut t).1.length (pmCells (permOut t).1)) ∧ Below w.heap.size w w' := by
  obtain ⟨i0, hi, hz0, hz1, hz2⟩ := info_parts infoP
  obtain ⟨ls, hls⟩ : ∃ ls, ls = pieces 10 t := ⟨_, rfl⟩
  obtain ⟨R, hR⟩ : ∃ R, R = permOut t := ⟨_, rfl⟩
  rw [← hR]
  have hne : ls ≠ [] := by rw [hls]; exact pieces_ne _ _
  have hsz : ∀ p ∈ ls, p.size ≤ 1048576 := fun p hp => Nat.le_trans (pieces_size (c := 10) (t := t) (by rw [← hls]; exact hp)) hs
  have hRn : parsePre ls.dropLast = none ∨ (ls.getLastD default).size ≠ 0 → R = ([], 5) := by rw [hls, hR]; exact permRead_none
  have hRs : ∀ D, parsePre ls.dropLast = some D → (ls.getLastD default).size = 0 → R = if D.length ≤ 6 then (D, 0) else ([], 5) := by
    intro D hD hl
    rw [hR]
    unfold permOut permRead
    rw [hls] at hD hl
    rw [if_pos hl, hD]
    simp only [Option.bind_some]
    by_cases h6 : D.length ≤ 6
    · rw [if_pos h6, if_pos h6]
    · rw [if_neg h6, if_neg h6]
  have hlen1 : 1 ≤ ls.length := List.length_pos_iff.2 hne
  have hSP := split_pieces t 10
  rw [← hls] at hSP
  have HSP := Lib.hid (fun w => hSP w hs)
  have HRN := Lib.hid hRn
  have HRS := Lib.hid hRs
  have HSZ := Lib.hid hsz
  have HLAST := Lib.hid (getLastD_at hne)
  clear hSP hR hls hRn hRs hsz hne
  go_enter Tryd.func20, Tryd.ntmps20
  go_wp2_with fail
  refine (HSP.out _).mono ?_
  rintro e w1 ⟨v4, rfl, hst, hl2, hB1⟩
  obtain ⟨b4, c4, rfl, hb4, hcl⟩ := hst
  have hcLast := hcl (ls.length - 1) (by omega)
  have hidx : ((ls.length : Int) - 1).toNat = ls.length - 1 := by omega
  have HCL := Lib.hid hcl
  clear hcl
  obtain ⟨x, hx⟩ : ∃ x, x = ls.getD (ls.length - 1) default := ⟨_, rfl⟩
  rw [← hx] at hcLast
  have HX := Lib.hid hx; clear hx
  have hrow0 := row_empty w1 48
  have HROW0 := Lib.hid hrow0; clear hrow0
  have hcL2 : (w1.alloc (.cells #[] 48)).cell? ⟨b4, ls.length - 1, none⟩ = some (.string x) := ((((Below.refl _ w1).alloc (Nat.le_refl _) _).cell (p := ⟨b4, ls.length - 1, none⟩) hb4)).trans hcLast
  go_wp2_with fail
  obtain ⟨ok0, hok0⟩ : ∃ ok0, ok0 = x.toList.isEmpty := ⟨_, rfl⟩
  rw [← hok0]
  have hx1 : ok0 = true → (ls.getLastD default).size = 0 := fun h => by
    rw [HLAST.out, ← HX.out]
    rw [h, ByteArray.toList_eq] at hok0
    rw [← size_toList]
    have : x.data.toList = [] := by simpa using hok0.symm
    rw [this]; rfl
  have hx2 : ok0 = false → R = ([], 5) := fun h => by
    refine HRN.out (.inr ?_)
    rw [HLAST.out, ← HX.out]
    intro h0
    rw [h, ByteArray.toList_eq] at hok0
    rw [← size_toList] at h0
    rw [List.length_eq_zero_iff.1 h0] at hok0
    cases hok0
  have HX1 := Lib.hid hx1
  have HX2 := Lib.hid hx2
  clear hx1 hx2 hok0 hcL2 hcLast hidx
  go_loopw [5, 6, 7] (fun v okv i wr => ∃ (D : List Pm) (k : Nat) (okb : Bool), k ≤ ls.length - 1 ∧ okv = .bool okb ∧ i = .int .i64 k ∧ Hid (wr.ownsRow w1.heap.size 48 3 v D.length (pmCells D)) ∧ D.length ≤ k ∧
      Hid (okb = true → parsePre (ls.dropLast.take k) = some D ∧ (ls.getLastD default).size = 0) ∧ Hid (okb = false → R = ([], 5)) ∧ Below w1.heap.size w1 wr) (fun _ _ i _ => ls.length - (intOf i).toNat)
  case atStart => exact ⟨[], 0, ok0, by omega, rfl, rfl, HROW0, by simp, fun h => ⟨by simp [parsePre], HX1.out h⟩, HX2, (Below.refl _ _).alloc (Nat.le_refl _) _⟩
  case round =>
    obtain ⟨D, k, okb, hk, rfl, rfl, HROW, hDk, HT, HF, hB⟩ := hrel
    have hBw : Below w.heap.size w wr := hB1.trans (hB.mono hB1.size)
    have hsw := hB1.size
    have hsr := hB.size
    clear HROW0
    cases okb with
    | false =>
      obtain rfl : R = ([], 5) := HF.out rfl
      by_cases hlt : k + 1 < ls.length
      all_goals
        go_wp2_with fail
        go_ret2
        exact ⟨⟨_, rfl, row_lower (row_empty wr 48) (by omega)⟩, hBw.alloc (by omega) _⟩
    | true =>
      obtain ⟨hpre, hlast⟩ := HT.out rfl
      by_cases hlt : k + 1 < ls.length
      · obtain ⟨l, hl⟩ : ∃ l, l = ls.getD k default := ⟨_, rfl⟩
        have hcell := (hB.cell (p := ⟨b4, k, none⟩) hb4).trans (HCL.out k (by omega))
        rw [← hl] at hcell
        have hlsz : l.size ≤ 1048576 := by rw [hl]; exact HSZ.out _ (getD_mem _ _ _ (by omega))
        have hstep : parsePre (ls.dropLast.take (k + 1)) = (parsePm l).map fun p => D ++ [p] := by
          rw [dropLast_take_snoc hlt, ← hl, parsePre_snoc, hpre]; rfl
        have hfineD : D.length ≤ ls.length := by omega
        have HSTEP := Lib.hid hstep
        have HL := Lib.hid hl
        have HLAST2 := Lib.hid hlast
        have HSPL := Lib.hid (split_pieces l 32 wr hlsz)
        have hbad : parsePm l = none → R = ([], 5) := fun h => HRN.out (.inl (parsePre_none (k := k + 1) (by rw [HSTEP.out, h]; rfl)))
        have HBAD := Lib.hid hbad
        clear hstep hl hlast hpre hbad HT HF
        go_wp2_with fail
        refine HSPL.out.mono ?_
        rintro e w2 ⟨v8, rfl, hst8, hl8, hB8⟩
        obtain ⟨b8, c8, rfl, hb8, hcl8⟩ := hst8
        have hs2 := hB8.size
        have HCL8 := Lib.hid hcl8
        clear hcl8 hcell
        by_cases h3 : (pieces 32 l).length = 3
        · obtain ⟨a, ha⟩ : ∃ a, a = (pieces 32 l).getD 0 default := ⟨_, rfl⟩
          obtain ⟨b, hb⟩ : ∃ b, b = (pieces 32 l).getD 1 default := ⟨_, rfl⟩
          obtain ⟨c, hc⟩ : ∃ c, c = (pieces 32 l).getD 2 default := ⟨_, rfl⟩
          have c0 := HCL8.out 0 (by omega)
          have c1 := HCL8.out 1 (by omega)
          have c2 := HCL8.out 2 (by omega)
          rw [← ha] at c0
          rw [← hb] at c1
          rw [← hc] at c2
          have za : a.size ≤ 1048576 := Nat.le_trans (pieces_size (c := 32) (t := l) (by rw [ha]; exact getD_mem _ _ _ (by omega))) hlsz
          have zb : b.size ≤ 1048576 := Nat.le_trans (pieces_size (c := 32) (t := l) (by rw [hb]; exact getD_mem _ _ _ (by omega))) hlsz
          have zc : c.size ≤ 1048576 := Nat.le_trans (pieces_size (c := 32) (t := l) (by rw [hc]; exact getD_mem _ _ _ (by omega))) hlsz
          have hpm : parsePm l = pmOf (decRead a) (decRead b) (decRead c) := by unfold parsePm; rw [if_pos h3, ha, hb, hc]
          have N1 := l01Number_any a w2 za
          have N2 := l01Number_any b w2 zb
          have N3 := l01Number_any c w2 zc
          have h3i : ((pieces 32 l).length : Int) = 3 := by omega
          have HROW2 := Lib.hid (HROW.out.kept ⟨hB8.os, hB8.tape, hB8.output, hB8.size, fun j hj _ => hB8.block j hj⟩ (row := none) (Classical.em _))
          have hB2 : Below w1.heap.size w1 w2 := hB.trans (hB8.mono hsr)
          generalize (pieces 32 l).length = n8 at *
          subst h3
          clear HSPL HCL8 ha hb hc za zb zc h3i hB8 HROW
          rcases ra : decRead a with _ | nx <;> rcases rb : decRead b with _ | ny <;> rcases rc : decRead c with _ | nz
          all_goals
            rw [ra] at N1 hpm
            rw [rb] at N2 hpm
            rw [rc] at N3 hpm
            simp only [Option.getD_none, Option.getD_some, Option.isSome_none, Option.isSome_some] at N1 N2 N3
            have M1 := Lib.hid N1
            have M2 := Lib.hid N2
            have M3 := Lib.hid N3
            clear N1 N2 N3 ra rb rc
            first
              | (obtain rfl : R = ([], 5) := HBAD.out (by rw [hpm]; rfl)
                 clear hpm
                 go_wp2_with fail
                 refine M1.out.mono ?_
                 clear M1
                 rintro e w3 ⟨rfl, rfl⟩
                 go_wp2_with fail
                 refine M2.out.mono ?_
                 clear M2
                 rintro e w3 ⟨rfl, rfl⟩
                 go_wp2_with fail
                 refine M3.out.mono ?_
                 clear M3
                 rintro e w3 ⟨rfl, rfl⟩
                 go_wp2_with fail
                 go_roundw
                 case rel => exact ⟨D, k + 1, false, by omega, rfl, by go_num, HROW2, by omega, (fun h => by cases h), fun _ => by first | rfl | trivial, hB2⟩
                 case measure => simp [intOf]; omega)
              | (by_cases hr : nx ≤ 7 ∧ ny ≤ 63 ∧ nz ≤ 400
                 · obtain ⟨ix, iy, iz⟩ := hr
                   have jx : (nx : Int) ≤ 7 := by omega
                   have jy : (ny : Int) ≤ 63 := by omega
                   have jz : (nz : Int) ≤ 400 := by omega
                   have hpp : parsePm l = some ⟨nx, ny, nz⟩ := by rw [hpm]; unfold pmOf; simp only; rw [if_pos ⟨ix, iy, iz⟩]
                   have hnext : parsePre (ls.dropLast.take (k + 1)) = some (D ++ [⟨nx, ny, nz⟩]) := by rw [HSTEP.out, hpp]; rfl
                   have HNEXT := Lib.hid hnext
                   clear hpp hnext hpm
                   go_wp2_with fail
                   refine M1.out.mono ?_
                   clear M1
                   rintro e w3 ⟨rfl, rfl⟩
                   go_wp2_with fail
                   refine M2.out.mono ?_
                   clear M2
                   rintro e w3 ⟨rfl, rfl⟩
                   go_wp2_with fail
                   refine M3.out.mono ?_
                   clear M3
                   rintro e w3 ⟨rfl, rfl⟩
                   go_wp2_with (at_builtin; refine wpList_append_own _ rfl _ _ 25 rfl w1.heap.size 48 i0 (.agg #[.int .i8 0, .int .i8 0, .int .i16 0]) 3 4 Tryd.underlying25 hi hz0 hz1 hz2 rfl (by decide) _ _ _ rfl (HROW2.out.alloc _) ⟨w2.heap.size, 0, none⟩ 1 1 [.int .i8 nx, .int .i8 ny, .int .i16 nz] rfl rfl ?c1 ?c2 ?c3 ?c4 ?c5 ?_)
                   case c1 =>
                     intro j u hj
                     match j, hj with
                     | 0, hj => simp at hj; subst hj; simp [Addr.add]
                     | 1, hj => simp at hj; subst hj; simp [Addr.add]
                     | 2, hj => simp at hj; subst hj; simp [Addr.add]
                   case c2 => intro u hu; simp at hu; rcases hu with rfl | rfl | rfl <;> rfl
                   case c3 => unfold maxLen; omega
                   case c4 => omega
                   case c5 => simp; omega
                   intro v' w4 hown' hgrow _
                   have hO2 : w4.ownsRow w1.heap.size 48 3 v' (D ++ [(⟨nx, ny, nz⟩ : Pm)]).length (pmCells (D ++ [⟨nx, ny, nz⟩])) := by
                     rw [pmCells_append, List.length_append]; exact hown'
                   have hB4 : Below w1.heap.size w1 w4 := (hB2.alloc (by omega) _).grown hgrow (by simp; omega) (fun j hj => (HROW2.out.lt j hj).1)
                   have HO2 := Lib.hid hO2
                   clear hO2 hown' hgrow
                   go_wp2_with fail
                   go_roundw
                   case rel => exact ⟨D ++ [⟨nx, ny, nz⟩], k + 1, true, by omega, rfl, by go_num, HO2, by simp; omega, (fun _ => ⟨HNEXT.out, HLAST2.out⟩), (fun h => by cases h), hB4⟩
                   case measure => simp [intOf]; omega
                 · obtain rfl : R = ([], 5) := HBAD.out (by rw [hpm]; unfold pmOf; simp only; rw [if_neg hr])
                   clear hpm
                   by_cases ix : (nx : Int) ≤ 7 <;> by_cases iy : (ny : Int) ≤ 63 <;> by_cases iz : (nz : Int) ≤ 400
                   all_goals first
                     | exact absurd ⟨by omega, by omega, by omega⟩ hr
                     | (clear hr
                        go_wp2_with fail
                        refine M1.out.mono ?_
                        clear M1
                        rintro e w3 ⟨rfl, rfl⟩
                        go_wp2_with fail
                        refine M2.out.mono ?_
                        clear M2
                        rintro e w3 ⟨rfl, rfl⟩
                        go_wp2_with fail
                        refine M3.out.mono ?_
                        clear M3
                        rintro e w3 ⟨rfl, rfl⟩
                        go_wp2_with fail
                        go_roundw
                        case rel => exact ⟨D, k + 1, false, by omega, by first | rfl | (simp; omega) | simp [iz] | simp [ix, iy, iz], by go_num, HROW2, by omega, (fun h => by cases h), fun _ => by first | rfl | trivial, hB2⟩
                        case measure => simp [intOf]; omega))
        · obtain rfl : R = ([], 5) := HBAD.out (by unfold parsePm; rw [if_neg h3])
          go_wp2_with fail
          go_ret2
          exact ⟨⟨_, rfl, row_lower (row_empty w2 48) (by omega)⟩, (hBw.trans (hB8.mono (by omega))).alloc (by omega) _⟩
      · have hkl : k = ls.length - 1 := by omega
        rw [List.take_of_length_le (by simp; omega)] at hpre
        have hRD := HRS.out D hpre hlast
        have hfine := parsePre_fine hpre
        have hnb : anyPm badP D = false := by
          simp only [anyPm, List.any_eq_false]
          intro p hp
          rw [(hfine p hp).notBad]; simp
        have hpl := l07Plain_any D (fun p hp => (hfine p hp).ok) _ wr (pmSl_of_row HROW.out) (by omega)
        rw [hnb, Bool.not_false, Bool.and_true] at hpl
        obtain ⟨va, vc, rfl⟩ := slice_of_row3 HROW.out
        clear hpre hlast hfine hnb
        by_cases h6 : D.length ≤ 6
        · rw [if_pos h6] at hRD
          subst hRD
          rw [decide_eq_true h6] at hpl
          have HPL := Lib.hid hpl; clear hpl
          go_wp2_with fail
          refine HPL.out.mono ?_
          rintro e w3 ⟨rfl, hB3⟩
          go_wp2_with fail
          go_ret2
          exact ⟨⟨_, rfl, row_lower (HROW.out.kept ⟨hB3.os, hB3.tape, hB3.output, hB3.size, fun j hj _ => hB3.block j hj⟩ (row := none) (Classical.em _)) hsw⟩, hBw.trans (hB3.mono (by omega))⟩
        · rw [if_neg h6] at hRD
          subst hRD
          rw [decide_eq_false h6] at hpl
          have HPL := Lib.hid hpl; clear hpl
          go_wp2_with fail
          refine HPL.out.mono ?_
          rintro e w3 ⟨rfl, hB3⟩
          have hs3 := hB3.size
          go_wp2_with fail
          go_ret2
          exact ⟨⟨_, rfl, row_lower (row_empty w3 48) (by omega)⟩, (hBw.trans (hB3.mono (by omega))).alloc (by omega) _⟩
end Go.Proofs.YtgiimcdjojjbmaaDoor
