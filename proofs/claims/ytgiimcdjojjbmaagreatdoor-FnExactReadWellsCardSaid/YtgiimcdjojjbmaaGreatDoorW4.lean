/- What ReadWells returns: over the pieces of the text; spec.ReadWells. -/
import Derived.Test.YtgiimcdjojjbmaaGreatDoorW3
import Derived.Test.YtgiimcdjojjbmaaGreatDoorPA
import Derived.Test.YtgiimcdjojjbmaaGreatDoorF7
namespace Go.Proofs.YtgiimcdjojjbmaaGreatDoor
open Go Go.RowKit

/-- The wells with a text. -/
def wlRead (t : ByteArray) : Option (List Wl) :=
  if ((pieces 10 t).getLastD default).size = 0 ∧ (pieces 10 t).length - 1 ≤ 12 then parseAll parseWl (pieces 10 t).dropLast else none
def wlOut (t : ByteArray) : List Wl × Int := match wlRead t with
  | some L => (L, 0)
  | none => ([], 5)

theorem wlSl_of_row {W : World} {B : Nat} {v : Value} {D : List Wl} (h : W.ownsRow B 41 3 v D.length (wlCells D)) : WlSl W v D := by
  rcases h.2 with ⟨rfl, h0⟩ | ⟨g, cap, cur, rfl, hb, hg, _⟩
  · refine .inl ⟨_, _, rfl, ?_⟩
    cases D with
    | nil => rfl
    | cons p r => simp at h0
  · refine .inr ⟨g, 0, cap, rfl, (Array.getElem?_eq_some_iff.1 hg).1, fun k hk => ?_⟩
    obtain ⟨g1, g2, g3⟩ := wlCells_get D k hk
    simp only [Nat.zero_add]
    exact ⟨(World.ownsRow.cellAt h (k * 3) (by omega)).trans g1, (World.ownsRow.cellAt h (k * 3 + 1) (by omega)).trans g2, (World.ownsRow.cellAt h (k * 3 + 2) (by omega)).trans g3⟩

theorem wlRead_bad {t : ByteArray} (h : parseAll parseWl (pieces 10 t).dropLast = none ∨ ((pieces 10 t).getLastD default).size ≠ 0 ∨ 12 < (pieces 10 t).length - 1) : wlOut t = ([], 5) := by
  have hn : wlRead t = none := by
    unfold wlRead
    rcases h with h | h | h
    · rw [h]; split <;> rfl
    · rw [if_neg (fun x => h x.1)]
    · rw [if_neg (fun x => absurd x.2 (by omega))]
  unfold wlOut
  rw [hn]

attribute [local go_sem] run_store_float

set_option maxHeartbeats 4000000 in
set_option maxRecDepth 100000 in
theorem specReadWells_any (t : ByteArray) (w : World) (hs : t.size ≤ 1048576) : Calls Tryz.prog 5 #[.string t] w
    fun e w' => (∃ v, e = .returned (.tuple #[v, .int .i64 (wlOut t).2]) ∧ w'.ownsRow w.heap.size 41 3 v (wlOut t).1.length (wlCells (wlOut t).1)) ∧ Below w.heap.size w w' := by
  obtain ⟨i0, hi, hz0, hz1, hz2⟩ := info_parts infoW
  obtain ⟨ls, hls⟩ : ∃ ls, ls = pieces 10 t := ⟨_, rfl⟩
  obtain ⟨R, hR⟩ : ∃ R, R = wlOut t := ⟨_, rfl⟩
  rw [← hR]
  have hne : ls ≠ [] := by rw [hls]; exact pieces_ne _ _
  have hsz : ∀ p ∈ ls, p.size ≤ 1048576 := fun p hp => Nat.le_trans (pieces_size (c := 10) (t := t) (by rw [← hls]; exact hp)) hs
  have hRn : parseAll parseWl ls.dropLast = none ∨ (ls.getLastD default).size ≠ 0 ∨ 12 < ls.length - 1 → R = ([], 5) := by rw [hls, hR]; exact wlRead_bad
  have hRs : ∀ D, parseAll parseWl ls.dropLast = some D → (ls.getLastD default).size = 0 → ls.length - 1 ≤ 12 → R = (D, 0) := by
    intro D hD hl h40
    rw [hR]
    unfold wlOut wlRead
    rw [hls] at hD hl h40
    rw [if_pos ⟨hl, h40⟩, hD]
  have hlen1 : 1 ≤ ls.length := List.length_pos_iff.2 hne
  have hSP := split_pieces t 10
  rw [← hls] at hSP
  have HSP := Lib.hid (fun w => hSP w hs)
  have HRN := Lib.hid hRn
  have HRS := Lib.hid hRs
  have HSZ := Lib.hid hsz
  have HLAST := Lib.hid (getLastD_at hne)
  clear hSP hR hls hRn hRs hsz hne
  go_enter Tryz.func5, Tryz.ntmps5
  go_wp2_with fail
  refine (HSP.out _).mono ?_
  rintro e w1 ⟨v4, rfl, hst, hl2, hB1⟩
  obtain ⟨b4, c4, rfl, hb4, hcl⟩ := hst
  have hcLast := hcl (ls.length - 1) (by omega)
  have hidx : ((ls.length : Int) - 1).toNat = ls.length - 1 := by omega
  have HCL := Lib.hid hcl
  clear hcl
  obtain ⟨x, hx⟩ : ∃ x, x = ls.getD (ls.length - 1) default := ⟨_, rfl⟩
  rw [← hx] at hcLast
  have HX := Lib.hid hx; clear hx
  have hsw := hB1.size
  obtain ⟨ok0, hok0⟩ : ∃ ok0, ok0 = x.toList.isEmpty := ⟨_, rfl⟩
  have hx1 : ok0 = true → (ls.getLastD default).size = 0 := fun h => by
    rw [HLAST.out, ← HX.out]
    rw [h, ByteArray.toList_eq] at hok0
    rw [← size_toList]
    have : x.data.toList = [] := by simpa using hok0.symm
    rw [this]; rfl
  have hx2 : ok0 = false → R = ([], 5) := fun h => by
    refine HRN.out (.inr (.inl ?_))
    rw [HLAST.out, ← HX.out]
    intro h0
    rw [h, ByteArray.toList_eq] at hok0
    rw [← size_toList] at h0
    rw [List.length_eq_zero_iff.1 h0] at hok0
    cases hok0
  have HX1 := Lib.hid hx1
  have HX2 := Lib.hid hx2
  clear hx1 hx2
  cases ok0 with
  | false =>
    obtain rfl := HX2.out rfl
    have hemp := hok0.symm
    clear HX1 HX2 hok0
    go_wp2_with fail
    go_ret2
    exact ⟨⟨_, rfl, row_lowerN (row_emptyN w1 41 3) (by omega)⟩, hB1.alloc (by omega) _⟩
  | true =>
    have hlast := HX1.out rfl
    have HEMP := Lib.hid hok0.symm
    have HLAST2 := Lib.hid hlast
    clear HX1 HX2 hok0 hlast
    by_cases h40 : ls.length - 1 ≤ 12
    · have h41 : ¬ (12 : Int) < (ls.length : Int) - 1 := by omega
      have hrow0 := row_emptyN w1 41 3
      have HROW0 := Lib.hid hrow0; clear hrow0
      have hemp := HEMP.out
      go_wp2_with fail
      clear hemp hcLast hidx
      go_loopw [6, 7] (fun vx i wr => ∃ (v : Value) (D : List Wl) (k : Nat), v = vx ∧ k ≤ ls.length - 1 ∧ i = .int .i64 k ∧ Hid (wr.ownsRow w1.heap.size 41 3 v D.length (wlCells D)) ∧ Hid (D.length = k) ∧
          Hid (parseAll parseWl (ls.dropLast.take k) = some D) ∧ Below w1.heap.size w1 wr) (fun _ i _ => ls.length - (intOf i).toNat)
      case atStart => exact ⟨_, [], 0, rfl, by omega, rfl, HROW0, by simp [Hid], by simp [Hid, parseAll], (Below.refl _ _).alloc (Nat.le_refl _) _⟩
      case round =>
        obtain ⟨v, D, k, rfl, hk, rfl, HROW, hDk, HT, hB⟩ := hrel
        have hBw : Below w.heap.size w wr := hB1.trans (hB.mono hB1.size)
        have hsr := hB.size
        have hDle : D.length ≤ 12 := by have := hDk.out; omega
        clear HROW0
        by_cases hlt : k < ls.length - 1
        · obtain ⟨l, hl⟩ : ∃ l, l = ls.getD k default := ⟨_, rfl⟩
          have hcell := (hB.cell (p := ⟨b4, k, none⟩) hb4).trans (HCL.out k (by omega))
          rw [← hl] at hcell
          have hlsz : l.size ≤ 1048576 := by rw [hl]; exact HSZ.out _ (getD_mem _ _ _ (by omega))
          have hstep : parseAll parseWl (ls.dropLast.take (k + 1)) = (parseWl l).map fun p => D ++ [p] := by
            rw [dropLast_take_snoc (by omega), ← hl, parseAll_snoc, HT.out]; rfl
          have HSTEP := Lib.hid hstep
          have hrd := l03Read_any l wr hlsz
          have hlt2 : (k : Int) < (ls.length : Int) - 1 := by omega
          clear hl HT
          rcases hp : parseWl l with _ | q
          · rw [hp] at hstep hrd
            obtain rfl : R = ([], 5) := HRN.out (.inl (parseAll_none parseWl (k := k + 1) hstep))
            have HRD := Lib.hid hrd
            clear hstep hrd hp
            go_wp2_with fail
            refine HRD.out.mono ?_
            rintro e w2 ⟨⟨p, rfl, _⟩, hB2⟩
            have hs2 := hB2.size
            go_wp2_with fail
            go_ret2
            exact ⟨⟨_, rfl, row_lowerN (row_emptyA w2 _ 41 3) (by omega)⟩, (((hBw.trans (hB2.mono (by omega))).alloc (by omega) _).alloc (by simp; omega) _)⟩
          · rw [hp] at hstep hrd
            have hnext : parseAll parseWl (ls.dropLast.take (k + 1)) = some (D ++ [q]) := hstep
            have HNEXT := Lib.hid hnext
            have HRD := Lib.hid hrd
            clear hstep hrd hp hnext
            go_wp2_with fail
            refine HRD.out.mono ?_
            rintro e w2 ⟨⟨p, rfl, hpq⟩, hB2⟩
            obtain rfl : p = q := hpq q rfl
            have hs2 := hB2.size
            have HROW2 := Lib.hid (HROW.out.kept ⟨hB2.os, hB2.tape, hB2.output, hB2.size, fun j hj _ => hB2.block j hj⟩ (row := none) (Classical.em _))
            have hBx : Below w1.heap.size w1 w2 := hB.trans (hB2.mono hsr)
            clear hpq HROW HRD hcell
            go_wp2_with (at_builtin; refine wpList_append_own _ rfl _ _ 22 rfl w1.heap.size 41 i0 (.agg #[.int .i8 0, .int .i8 0, .float .f32 0]) 3 8 Tryz.underlying22 hi hz0 hz1 hz2 rfl (by decide) _ _ _ rfl ((HROW2.out.alloc _).alloc _) ⟨w2.heap.size + 1, 0, none⟩ 1 1 [.int .i8 p.x, .int .i8 p.y, .float .f32 p.r] rfl rfl ?c1 ?c2 ?c3 ?c4 ?c5 ?_)
            case c1 =>
              intro j u hj
              match j, hj with
              | 0, hj => simp at hj; subst hj; simp [Addr.add]
              | 1, hj => simp at hj; subst hj; simp [Addr.add]
              | 2, hj => simp at hj; subst hj; simp [Addr.add]
            case c2 => intro u hu; simp at hu; rcases hu with rfl | rfl | rfl <;> rfl
            case c3 => unfold maxLen; omega
            case c4 => omega
            case c5 => simp; omega
            intro v' w4 hown' hgrow _
            have hO2 : w4.ownsRow w1.heap.size 41 3 v' (D ++ [p]).length (wlCells (D ++ [p])) := by
              rw [wlCells_append, List.length_append]; exact hown'
            have hB4 : Below w1.heap.size w1 w4 := ((hBx.alloc (by omega) _).alloc (by simp; omega) _).grown hgrow (by simp; omega) (fun j hj => (HROW2.out.lt j hj).1)
            have HO2 := Lib.hid hO2
            clear hO2 hown' hgrow
            go_wp2_with fail
            go_roundw
            case rel => exact ⟨_, D ++ [p], k + 1, rfl, by omega, by go_num, HO2, (by have := hDk.out; show (D ++ [p]).length = k + 1; simp; omega), HNEXT, hB4⟩
            case measure => simp [intOf]; omega
        · have hkl : k = ls.length - 1 := by omega
          have hpre := HT.out
          rw [List.take_of_length_le (by simp; omega)] at hpre
          obtain rfl := HRS.out D hpre HLAST2.out h40
          have hge2 : ¬ (k : Int) < (ls.length : Int) - 1 := by omega
          clear hpre HT hkl
          go_wp2_with fail
          go_ret2
          exact ⟨⟨_, rfl, row_lowerN HROW.out hsw⟩, hBw⟩
    · obtain rfl := HRN.out (.inr (.inr (by omega)))
      have h41 : (12 : Int) < (ls.length : Int) - 1 := by omega
      have hemp := HEMP.out
      go_wp2_with fail
      go_ret2
      exact ⟨⟨_, rfl, row_lowerN (row_emptyN w1 41 3) (by omega)⟩, hB1.alloc (by omega) _⟩
end Go.Proofs.YtgiimcdjojjbmaaGreatDoor
