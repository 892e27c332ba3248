/- impl.ReadWells: the walk. -/
import Derived.Test.YtgiimcdjojjbmaaGreatDoorW5
import Derived.Test.YtgiimcdjojjbmaaGreatDoorW1
import Derived.Deep.RegionHeld3
import Derived.Deep.AppendLies
import Derived.Deep.DrawnRows
namespace Go.Proofs.YtgiimcdjojjbmaaGreatDoor
open Go Go.RowKit

theorem row_nilN (W : World) (B T s : Nat) : W.ownsRow B T s (.slice none 0 0) 0 [] := World.ownsRow_nil _ _ _ _

set_option maxHeartbeats 4000000 in
set_option maxRecDepth 100000 in
theorem implReadWells_none (t : ByteArray) (w : World) (hs : t.size ≤ 1048576) (hM : MaxAt w) (hn : lw 3 12 t [] = none) : Calls Tryz.prog 6 #[.string t] w
    fun e w' => e = .returned (.tuple #[.slice none 0 0, .int .i64 5]) ∧ Below w.heap.size w w' := by
  have HLW := Lib.hid (lineWords_any t 3 12 w hs (by omega) (by omega) hM)
  have HN := Lib.hid hn
  clear hM hn
  go_enter Tryz.func6, Tryz.ntmps6
  go_wp2_with fail
  refine HLW.out.mono ?_
  rintro e w1 ⟨(⟨_, rfl⟩ | ⟨L, v, vals, hl, _⟩), hB1⟩
  · go_wp2_with fail
    refine wp_loop_rounds 1 ?_
    rw [rounds_succ]
    go_wp2_with fail
    go_ret2
    exact ⟨rfl, hB1.alloc hB1.size _⟩
  · rw [HN.out] at hl; cases hl

attribute [local go_sem ↓] Go.wp_at_zero Go.wp_at_succ

set_option maxHeartbeats 8000000 in
set_option maxRecDepth 100000 in
theorem implReadWells_some (t : ByteArray) (w : World) (hs : t.size ≤ 1048576) (hM : MaxAt w) (hE : Errs w) (hT : Tab10 w) (hD : Deb w) (L : List (List ByteArray)) (hn : lw 3 12 t [] = some L) : Calls Tryz.prog 6 #[.string t] w
    fun e w' => (∃ v, e = .returned (.tuple #[v, .int .i64 (wlOut t).2]) ∧ w'.ownsRow w.heap.size 41 3 v (wlOut t).1.length (wlCells (wlOut t).1)) ∧ Below w.heap.size w w' := by
  obtain ⟨i0, hi, hz0, hz1, hz2⟩ := info_parts infoW
  obtain ⟨hL6, hLw⟩ := lw_props 3 12 t [] L hn hs (by simp) (by simp)
  have hR0 := wlOut_words t
  rw [hn] at hR0
  obtain ⟨R, hR⟩ : ∃ R, R = wlOut t := ⟨_, rfl⟩
  rw [← hR] at hR0 ⊢
  have HR := Lib.hid hR0
  have HLW := Lib.hid (lineWords_any t 3 12 w hs (by omega) (by omega) hM)
  have HN := Lib.hid hn
  have HLW2 := Lib.hid hLw
  have HE := Lib.hid hE
  have HT := Lib.hid hT
  have HD := Lib.hid hD
  clear hM hn hR hR0 hLw hE hT hD
  go_enter Tryz.func6, Tryz.ntmps6
  go_wp2_with fail
  refine HLW.out.mono ?_
  rintro e w1 ⟨(⟨hno, rfl⟩ | ⟨L', v0, vals, hl, rfl, hrow, hel⟩), hB1⟩
  · rw [HN.out] at hno; cases hno
  obtain rfl : L = L' := by have := HN.out; rw [hl] at this; exact (Option.some.inj this).symm
  obtain ⟨va, vc, rfl⟩ := slice_of_row hrow
  have HROWS := Lib.hid hrow
  have HEL := Lib.hid hel
  have hrow0 := row_emptyN w1 41 3
  have HROW0 := Lib.hid hrow0
  have hsw := hB1.size
  clear hrow hel hrow0 hl HLW
  go_wp2_with fail
  go_loopw [6, 19] (fun vx i wr => ∃ (v : Value) (k : Nat), v = vx ∧ k ≤ L.length ∧ i = .int .i64 k ∧ Hid (wr.ownsRow w1.heap.size 41 3 v k (wlCells ((L.take k).map wlOfWords))) ∧ Below w1.heap.size w1 wr) (fun _ i _ => L.length - (intOf i).toNat)
  case atStart => exact ⟨_, 0, rfl, Nat.zero_le _, rfl, HROW0, (Below.refl _ _).alloc (Nat.le_refl _) _⟩
  case round =>
    obtain ⟨v, k, rfl, hk, rfl, HROW, hB⟩ := hrel
    clear HROW0
    by_cases hlt : k < L.length
    · obtain ⟨ge, ce, hve, _, _, hge, hce⟩ := HEL.out k hlt
      obtain ⟨ws, hws⟩ : ∃ ws, ws = L.getD k [] := ⟨_, rfl⟩
      rw [← hws] at hve hce
      have hwL : ws ∈ L := by rw [hws]; simp only [List.getD]; rw [List.getElem?_eq_getElem hlt]; exact List.getElem_mem hlt
      obtain ⟨hw3, hwz⟩ := HLW2.out ws hwL
      obtain ⟨g, hva, hcg⟩ : ∃ g, va = some ⟨g, 0, none⟩ ∧ w1.cell? ⟨g, k, none⟩ = some (.slice (some ⟨ge, 0, none⟩) ws.length ce) ∧ g < w1.heap.size := by
        have hvk : vals[k]? = some (.slice (some ⟨ge, 0, none⟩) ws.length ce) := by
          have hvl : k < vals.length := by have := HROWS.out.1; omega
          rw [List.getElem?_eq_getElem hvl, ← hve]
          simp [List.getD, hvl]
        rcases HROWS.out.2 with ⟨_, hz⟩ | ⟨g, cap, cur, hvv, _, hgg, _⟩
        · omega
        · have hva : va = some ⟨g, 0, none⟩ := by simpa using (Value.slice.inj hvv).1
          refine ⟨g, hva, ?_, (Array.getElem?_eq_some_iff.1 hgg).1⟩
          subst hva
          rw [World.ownsRow.cellAt (by have := HROWS.out; simp only [Value.slice.injEq] at hvv; exact this) k (by omega)]
          exact hvk
      subst hva
      obtain ⟨a, b, c, rfl⟩ := len_three hw3
      have hgr : wr.cell? ⟨g, k, none⟩ = some (.slice (some ⟨ge, 0, none⟩) 3 ce) := (hB.cell (p := ⟨g, k, none⟩) hcg.2).trans hcg.1
      have e0 : wr.cell? ⟨ge, 0, none⟩ = some (.string a) := (hB.cell (p := ⟨ge, 0, none⟩) hge).trans (hce 0 (by simp))
      have e1 : wr.cell? ⟨ge, 1, none⟩ = some (.string b) := (hB.cell (p := ⟨ge, 1, none⟩) hge).trans (hce 1 (by simp))
      have e2 : wr.cell? ⟨ge, 2, none⟩ = some (.string c) := (hB.cell (p := ⟨ge, 2, none⟩) hge).trans (hce 2 (by simp))
      clear hce hcg hve hw3
      have hgx : ge < wr.heap.size := Nat.lt_of_lt_of_le hge hB.size
      have hbw : Below w.heap.size w wr := hB1.trans (hB.mono hB1.size)
      have za := hwz a (by simp)
      have zb := hwz b (by simp)
      have zc := hwz c (by simp)
      have r1 := numVal_range a (-100) 100 (by omega) (by omega)
      have r2 := numVal_range b (-100) 100 (by omega) (by omega)
      have hpm : wlOfWords [a, b, c] = ⟨numVal a (-100) 100, numVal b (-100) 100, (numOut c).1⟩ := rfl
      have HWS := Lib.hid hws
      have HPM := Lib.hid hpm
      clear hws hwL hpm hwz
      have HN1 := Lib.hid (fun w' (hE : Errs w') => numberOf_any a (-100) 100 w' za hE)
      have HN2 := Lib.hid (fun w' (hE : Errs w') => numberOf_any b (-100) 100 w' zb hE)
      have hrn := readNumber_any c wr zc (HE.out.below hbw) (HD.out.below hbw)
      have HE2 := Lib.hid (HE.out.below hbw)
      clear za zb zc
      obtain ⟨x, hx⟩ : ∃ x, x = numVal a (-100) 100 := ⟨_, rfl⟩
      obtain ⟨y, hy⟩ : ∃ y, y = numVal b (-100) 100 := ⟨_, rfl⟩
      obtain ⟨N, hN⟩ : ∃ N, N = numOut c := ⟨_, rfl⟩
      rw [← hx] at r1 HPM HN1
      rw [← hy] at r2 HPM HN2
      rw [← hN] at HPM hrn
      clear hx hy hN
      obtain ⟨r, cd⟩ := N
      simp only at hrn HPM
      have HRN := Lib.hid hrn
      have x1 : IntKind.i8.wrap x = x := w8any x (by omega) (by omega)
      have x2 : IntKind.i8.wrap y = y := w8any y (by omega) (by omega)
      have hne : v.ownBlock ≠ some ge := fun h => by have := (HROW.out.lt ge h).1; omega
      have HGE := Lib.hid hge
      have HNE := Lib.hid hne
      have HB := Lib.hid hB
      have HBW := Lib.hid hbw
      have hsr := hB.size
      clear hge hne hB hbw hrn
      go_wp2_with fail
      refine HRN.out.mono ?_
      rintro e w2 ⟨rfl, hB2⟩
      have k0 := (hB2.cell (p := ⟨ge, 0, none⟩) hgx).trans e0
      have k1 := (hB2.cell (p := ⟨ge, 1, none⟩) hgx).trans e1
      have HB2 := Lib.hid hB2
      have hs2 := hB2.size
      have HE3 := Lib.hid (HE2.out.below hB2)
      have HROW2 := Lib.hid (HROW.out.kept ⟨hB2.os, hB2.tape, hB2.output, hB2.size, fun j hj _ => hB2.block j hj⟩ (row := none) (Classical.em _))
      have hgx2 : ge < w2.heap.size := by omega
      have hX0 := Lib.hid (show Below w2.heap.size w2 w2.drew from (Below.refl _ _).drew)
      clear hB2 e0 e1 e2 HRN hgr
      go_wp2_with fail
      go_region_held3 (fun w' => w'.cell? ⟨ge, 0, none⟩ = some (.string a) ∧ w'.cell? ⟨ge, 1, none⟩ = some (.string b))
        (first
          | go_keep
          | (go_split_ands
             refine ⟨?_, ?_⟩
             · (rw [hgrow.cell_far _ (by simp; omega) (Ne.symm HNE.out)]; assumption)
             · (rw [hgrow.cell_far _ (by simp; omega) (Ne.symm HNE.out)]; assumption)))
        ((first
          | (go_at_call 17; (with_reducible refine (HN1.out _ (HE3.out.below hX0.out)).mono ?_); rintro e w3 ⟨rfl, hB3⟩; have hX2 := Lib.hid (hX0.out.trans (hB3.mono (Nat.le_refl _))); have f0 := (hX2.out.cell (p := ⟨ge, 0, none⟩) hgx2).trans k0; have f1 := (hX2.out.cell (p := ⟨ge, 1, none⟩) hgx2).trans k1; clear hB3)
          | (go_at_call 17; (with_reducible refine (HN2.out _ (HE3.out.below hX2.out)).mono ?_); rintro e w4 ⟨rfl, hB4⟩; have hX4 := Lib.hid (hX2.out.trans (hB4.mono hX2.out.size)); have i0' := (hX4.out.cell (p := ⟨ge, 0, none⟩) hgx2).trans k0; have i1' := (hX4.out.cell (p := ⟨ge, 1, none⟩) hgx2).trans k1; have hsz4 := hX4.out.size; clear hB4)
          | (refine step_append_lies _ (by rfl) _ _ _ (by rfl) w1.heap.size 41 i0 _ 3 8 Tryz.underlying22 hi hz0 hz1 hz2 rfl (by omega) v k _ (by rfl) ((HROW2.out.kept ⟨hX4.out.os, hX4.out.tape, hX4.out.output, hX4.out.size, fun j hj _ => hX4.out.block j hj⟩ (row := none) (Classical.em _)).alloc _)
              ⟨w4.heap.size, 0, none⟩ 1 1 [.int .i8 x, .int .i8 y, .float .f32 r] (by rfl) (by rfl) (World.news_of_block (cs := #[.int .i8 x, .int .i8 y, .float .f32 r]) (t := 41) (fr := (0, 0)) (heap_alloc_new w4 _)) (by simp [Value.oneCell'])
              (by omega) (by unfold maxLen; omega) (by omega) (by simp; omega) (w4.heap.size + 1) (by simp) ?_; intro gg cap w5 hown5 hgrow hat hlt5)))
      have hO5 : w5.ownsRow w1.heap.size 41 3 (.slice (some ⟨gg, 0, none⟩) (k + 1) cap) (k + 1) (wlCells ((L.take (k + 1)).map wlOfWords)) := by
        rw [take_snocD [] L k hlt, List.map_append, wlCells_append, ← HWS.out, List.map_cons, List.map_nil, HPM.out]; exact hown5
      have hB5 : Below w1.heap.size w1 w5 := (((HB.out.trans (HB2.out.mono hsr)).trans (hX4.out.mono (by omega))).alloc (by omega) _).grown hgrow (by simp; omega) (fun j hj => (HROW.out.lt j hj).1)
      have HO5 := Lib.hid hO5
      clear hO5 hown5 hgrow k0 k1 x1 x2
      go_wp2_with fail
      go_roundw
      case rel => exact ⟨_, k + 1, rfl, by omega, by go_num, HO5, hB5⟩
      case measure => simp [intOf]; omega
    · have hkl : k = L.length := by omega
      subst hkl
      obtain ⟨D, hDD⟩ : ∃ D, D = L.map wlOfWords := ⟨_, rfl⟩
      have hrow1 := HROW.out
      rw [List.take_length, ← hDD] at hrow1
      have hDl : D.length = L.length := by rw [hDD]; simp
      have hgood : ∀ p ∈ D, p.ok := fun p hp => by
        rw [hDD] at hp
        obtain ⟨ws, _, rfl⟩ := List.mem_map.1 hp
        exact wlOfWords_ok ws
      have hrD : R = if L.length ≤ 12 ∧ D.all wlB = true ∧ wlText D = t then (D, 0) else ([], 5) := by rw [HR.out, hDD]
      rw [← hDl] at hrow1
      have hbw : Below w.heap.size w wr := hB1.trans (hB.mono hB1.size)
      have hVR := containsBad_any D hgood _ wr (wlSl_of_row hrow1) (by omega)
      have hIT := fun w3 (hB3 : Below wr.heap.size wr w3) => wellsText_any D _ w3 ((HT.out.below hbw).below hB3) ((HD.out.below hbw).below hB3) hgood ((wlSl_of_row hrow1).mono hB3) (by omega)
      rw [hDl] at hrow1
      obtain ⟨vb, vd, rfl⟩ := slice_of_rowN hrow1
      have HIT := Lib.hid hIT
      have HROW1 := Lib.hid hrow1
      have hsr := hB.size
      clear hIT hrow1 HROW hDD hgood
      cases hbb : D.all wlB with
      | false =>
        rw [hbb] at hVR
        rw [if_neg (fun h => by rw [h.2.1] at hbb; cases hbb)] at hrD
        subst hrD
        have HV := Lib.hid hVR; clear hVR hbb
        go_wp2_with fail
        refine HV.out.mono ?_
        rintro e w3 ⟨rfl, hB3⟩
        go_wp2_with fail
        go_ret2
        exact ⟨⟨_, rfl, row_nilN _ _ _ _⟩, hbw.trans (hB3.mono hbw.size)⟩
      | true =>
        rw [hbb] at hVR
        have HV := Lib.hid hVR; clear hVR
        have HBB := Lib.hid hbb; clear hbb
        by_cases ht : wlText D = t
        · rw [if_pos ⟨hL6, HBB.out, ht⟩] at hrD
          subst hrD
          go_wp2_with fail
          refine HV.out.mono ?_
          rintro e w2 ⟨rfl, hB2⟩
          have hb2 := hbw.trans (hB2.mono hbw.size)
          go_wp2_with fail
          refine (HIT.out _ hB2).mono ?_
          rintro e w3 ⟨rfl, hB3⟩
          have htt : wlText D = t := ht
          go_wp2_with fail
          go_ret2
          have hB23 : Below wr.heap.size wr w3 := hB2.trans (hB3.mono hB2.size)
          refine ⟨⟨.slice vb L.length vd, rfl, ?_⟩, hbw.trans (hB23.mono hbw.size)⟩
          have hfin := row_lowerN (B' := w.heap.size) (HROW1.out.kept ⟨hB23.os, hB23.tape, hB23.output, hB23.size, fun j hj _ => hB23.block j hj⟩ (row := none) (Classical.em _)) hsw
          first | exact hfin | (rw [hDl]; exact hfin) | (rw [← hDl] at hfin; exact hfin)
        · rw [if_neg (fun h => ht h.2.2)] at hrD
          subst hrD
          have hxl : ((wlText D).toList == t.toList) = false := by
            rw [ByteArray.toList_eq, ByteArray.toList_eq]
            exact beq_eq_false_iff_ne.2 fun e => ht (bytes_ext e)
          go_wp2_with fail
          refine HV.out.mono ?_
          rintro e w2 ⟨rfl, hB2⟩
          have hb2 := hbw.trans (hB2.mono hbw.size)
          go_wp2_with fail
          refine (HIT.out _ hB2).mono ?_
          rintro e w3 ⟨rfl, hB3⟩
          go_wp2_with fail
          go_ret2
          exact ⟨⟨_, rfl, row_nilN _ _ _ _⟩, hb2.trans (hB3.mono hb2.size)⟩

theorem implReadWells_any (t : ByteArray) (w : World) (hs : t.size ≤ 1048576) (hM : MaxAt w) (hE : Errs w) (hT : Tab10 w) (hD : Deb w) : Calls Tryz.prog 6 #[.string t] w
    fun e w' => (∃ v, e = .returned (.tuple #[v, .int .i64 (wlOut t).2]) ∧ w'.ownsRow w.heap.size 41 3 v (wlOut t).1.length (wlCells (wlOut t).1)) ∧ Below w.heap.size w w' := by
  cases hn : lw 3 12 t [] with
  | some L => exact implReadWells_some t w hs hM hE hT hD L hn
  | none =>
    refine (implReadWells_none t w hs hM hn).mono ?_
    rintro e w' ⟨rfl, hB⟩
    have hR := wlOut_words t
    rw [hn] at hR
    rw [hR]
    exact ⟨⟨_, rfl, row_nilN _ _ _ _⟩, hB⟩
end Go.Proofs.YtgiimcdjojjbmaaGreatDoor
