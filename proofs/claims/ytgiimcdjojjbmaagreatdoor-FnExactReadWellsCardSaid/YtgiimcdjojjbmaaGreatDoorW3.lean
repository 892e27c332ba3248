/- spec.l03Read: a well's line. -/
import Derived.Test.YtgiimcdjojjbmaaGreatDoorW0
import Derived.Test.YtgiimcdjojjbmaaGreatDoorH5
import Derived.Test.YtgiimcdjojjbmaaGreatDoorF6
import Derived.Test.YtgiimcdjojjbmaaGreatDoorD3
import Derived.Test.YtgiimcdjojjbmaaGreatDoorLoose
namespace Go.Proofs.YtgiimcdjojjbmaaGreatDoor
open Go Go.RowKit

def wlOf (a b : Option Int) (c : Option Nat) : Option Wl := match a, b, c with
  | some x, some y, some r => if wlB ⟨x, y, r⟩ = true then some ⟨x, y, r⟩ else none
  | _, _, _ => none
/-- A well's line. -/
def parseWl (l : ByteArray) : Option Wl := if (pieces 32 l).length = 3 then wlOf (sgRead ((pieces 32 l).getD 0 default)) (sgRead ((pieces 32 l).getD 1 default)) (numRead ((pieces 32 l).getD 2 default)) else none

/-- What l03Read hands back. -/
def ReadPost (o : Option Wl) (w : World) (e : Ending) (w' : World) : Prop :=
  (∃ p : Wl, e = .returned (.tuple #[.agg #[.int .i8 p.x, .int .i8 p.y, .float .f32 p.r], .bool o.isSome]) ∧ ∀ q, o = some q → p = q) ∧ Below w.heap.size w w'

theorem place_true {x : Int} (h : inB x (-100) 100 = true) : -100 ≤ x ∧ x ≤ 100 := by unfold inB at h; simpa using h
theorem w8any (q : Int) (h0 : -128 ≤ q) (h1 : q ≤ 127) : IntKind.i8.wrap q = q := by simp only [IntKind.wrap]; simp [IntKind.signed, IntKind.bits]; omega

attribute [local go_sem] run_store_float Plain plainUpon

theorem rowIs_three {w : World} {g T : Nat} {a b c : Value} (h : RowIs w g T [a, b, c]) :
    (w.cell? ⟨g, 0, none⟩ = some a ∧ w.cell? ⟨g, 1, none⟩ = some b ∧ w.cell? ⟨g, 2, none⟩ = some c) ∧ (w.frozen? ⟨g, 0, none⟩ = false ∧ w.frozen? ⟨g, 1, none⟩ = false ∧ w.frozen? ⟨g, 2, none⟩ = false) :=
  ⟨⟨h.cell 0, h.cell 1, h.cell 2⟩, h.frozen 0, h.frozen 1, h.frozen 2⟩

set_option maxHeartbeats 4000000 in
set_option maxRecDepth 100000 in
theorem l03Read_any (l : ByteArray) (w : World) (hs : l.size ≤ 1048576) : Calls Tryz.prog 14 #[.string l] w (ReadPost (parseWl l) w) := by
  obtain ⟨o, ho⟩ : ∃ o, o = parseWl l := ⟨_, rfl⟩
  rw [← ho]
  have HO := Lib.hid ho
  have HSP := Lib.hid (split_pieces l 32 (w.alloc (.cells #[.int .i8 0, .int .i8 0, .float .f32 0] 41)) hs)
  have h0 : RowIs (w.alloc (.cells #[.int .i8 0, .int .i8 0, .float .f32 0] 41)) w.heap.size 41 [.int .i8 0, .int .i8 0, .float .f32 0] := heap_alloc_new w _
  have H0 := Lib.hid h0
  clear ho h0
  go_enter Tryz.func14, Tryz.ntmps14
  go_wp2_with fail
  refine HSP.out.mono ?_
  rintro e w1 ⟨v4, rfl, hst, hl, hB1⟩
  obtain ⟨b4, c4, rfl, hb4, hcl⟩ := hst
  have hr1 := H0.out.below hB1 (by simp)
  have hz1 : w.heap.size < w1.heap.size := by have := hB1.size; simp at this; omega
  have hBw : Below w.heap.size w w1 := ((Below.refl _ _).alloc (Nat.le_refl _) _).trans (hB1.mono (by simp))
  have HCL := Lib.hid hcl
  have HBW := Lib.hid hBw
  obtain ⟨⟨z0, z1, z2⟩, f0, f1, f2⟩ := rowIs_three hr1
  clear hcl HSP H0 hr1 hB1 hBw
  by_cases h3 : (pieces 32 l).length = 3
  · obtain ⟨a, ha⟩ : ∃ a, a = (pieces 32 l).getD 0 default := ⟨_, rfl⟩
    obtain ⟨b, hb⟩ : ∃ b, b = (pieces 32 l).getD 1 default := ⟨_, rfl⟩
    obtain ⟨c, hc⟩ : ∃ c, c = (pieces 32 l).getD 2 default := ⟨_, rfl⟩
    have c0 := HCL.out 0 (by omega)
    have c1 := HCL.out 1 (by omega)
    have c2 := HCL.out 2 (by omega)
    rw [← ha] at c0
    rw [← hb] at c1
    rw [← hc] at c2
    have za : a.size ≤ 1048576 := Nat.le_trans (pieces_size (c := 32) (t := l) (by rw [ha]; exact getD_mem _ _ _ (by omega))) hs
    have zb : b.size ≤ 1048576 := Nat.le_trans (pieces_size (c := 32) (t := l) (by rw [hb]; exact getD_mem _ _ _ (by omega))) hs
    have zc : c.size ≤ 1048576 := Nat.le_trans (pieces_size (c := 32) (t := l) (by rw [hc]; exact getD_mem _ _ _ (by omega))) hs
    have hpm : o = wlOf (sgRead a) (sgRead b) (numRead c) := by rw [HO.out]; unfold parseWl; rw [if_pos h3, ha, hb, hc]
    have HPM := Lib.hid hpm
    have N1 := l03ReadSigned_any a w1 za
    have N2 := l03ReadSigned_any b w1 zb
    have N3 := specReadNumber_any c w1 zc
    generalize (pieces 32 l).length = n8 at *
    subst h3
    clear HCL ha hb hc za zb zc HO hpm
    rcases ra : sgRead a with _ | x
    · have RA := Lib.hid ra
      rw [ra] at N1
      simp only [Option.getD_none, Option.isSome_none] at N1
      have M1 := Lib.hid N1
      have M2 := Lib.hid N2
      have M3 := Lib.hid N3
      clear N1 N2 N3 ra
      obtain rfl : o = none := by rw [HPM.out, RA.out]; rfl
      go_wp2_with fail
      refine M1.out.mono ?_
      clear M1
      rintro e w3 ⟨rfl, rfl⟩
      go_wp2_with fail
      refine M2.out.mono ?_
      clear M2
      rintro e w3 ⟨rfl, rfl⟩
      go_wp2_with fail
      refine M3.out.mono ?_
      clear M3
      rintro e w3 ⟨rfl, rfl⟩
      go_wp2_with fail
      exact bodyPost_ret (v := .tuple #[.agg #[.int .i8 0, .int .i8 0, .float .f32 0], .bool false]) (by simp [results, Tryz.results14, go_sem, z0, z1, z2]) rfl ⟨⟨⟨0, 0, 0⟩, rfl, fun q h => by cases h⟩, (((HBW.out.setCell (p := ⟨w.heap.size, 0, none⟩) (Nat.le_refl _) _).setCell (p := ⟨w.heap.size, 1, none⟩) (Nat.le_refl _) _).setCell (p := ⟨w.heap.size, 2, none⟩) (Nat.le_refl _) _)⟩
    · have hx := (sgRead_iff.1 ra).1
      obtain ⟨hx1, hx2⟩ := hx
      have RA := Lib.hid ra
      rw [ra] at N1
      simp only [Option.getD_some, Option.isSome_some] at N1
      have M1 := Lib.hid N1
      clear N1 ra
      rcases rb : sgRead b with _ | y
      · have RB := Lib.hid rb
        rw [rb] at N2
        simp only [Option.getD_none, Option.isSome_none] at N2
        have M2 := Lib.hid N2
        have M3 := Lib.hid N3
        clear N2 N3 rb
        obtain rfl : o = none := by rw [HPM.out, RA.out, RB.out]; rfl
        go_wp2_with fail
        refine M1.out.mono ?_
        clear M1
        rintro e w3 ⟨rfl, rfl⟩
        go_wp2_with fail
        refine M2.out.mono ?_
        clear M2
        rintro e w3 ⟨rfl, rfl⟩
        go_wp2_with fail
        refine M3.out.mono ?_
        clear M3
        rintro e w3 ⟨rfl, rfl⟩
        go_wp2_with fail
        exact bodyPost_ret (v := .tuple #[.agg #[.int .i8 0, .int .i8 0, .float .f32 0], .bool false]) (by simp [results, Tryz.results14, go_sem, z0, z1, z2]) rfl ⟨⟨⟨0, 0, 0⟩, rfl, fun q h => by cases h⟩, (((HBW.out.setCell (p := ⟨w.heap.size, 0, none⟩) (Nat.le_refl _) _).setCell (p := ⟨w.heap.size, 1, none⟩) (Nat.le_refl _) _).setCell (p := ⟨w.heap.size, 2, none⟩) (Nat.le_refl _) _)⟩
      · have hy := (sgRead_iff.1 rb).1
        obtain ⟨hy1, hy2⟩ := hy
        have RB := Lib.hid rb
        rw [rb] at N2
        simp only [Option.getD_some, Option.isSome_some] at N2
        have M2 := Lib.hid N2
        clear N2 rb
        have P1 := l03Place_any x w1
        have P2 := l03Place_any y w1
        rcases px : inB x (-100) 100 with _ | _
        · have PX := Lib.hid px
          rw [px] at P1
          have M3 := Lib.hid N3
          have M4 := Lib.hid P1
          clear N3 px P1 P2
          obtain rfl : o = none := by
            rw [HPM.out, RA.out, RB.out]
            cases numRead c with
            | none => rfl
            | some r => unfold wlOf wlB; simp only; rw [PX.out]; rfl
          go_wp2_with fail
          refine M1.out.mono ?_
          clear M1
          rintro e w3 ⟨rfl, rfl⟩
          go_wp2_with fail
          refine M2.out.mono ?_
          clear M2
          rintro e w3 ⟨rfl, rfl⟩
          go_wp2_with fail
          refine M3.out.mono ?_
          clear M3
          rintro e w3 ⟨rfl, rfl⟩
          go_wp2_with fail
          refine M4.out.mono ?_
          clear M4
          rintro e w3 ⟨rfl, rfl⟩
          go_wp2_with fail
          exact bodyPost_ret (v := .tuple #[.agg #[.int .i8 0, .int .i8 0, .float .f32 0], .bool false]) (by simp [results, Tryz.results14, go_sem, z0, z1, z2]) rfl ⟨⟨⟨0, 0, 0⟩, rfl, fun q h => by cases h⟩, (((HBW.out.setCell (p := ⟨w.heap.size, 0, none⟩) (Nat.le_refl _) _).setCell (p := ⟨w.heap.size, 1, none⟩) (Nat.le_refl _) _).setCell (p := ⟨w.heap.size, 2, none⟩) (Nat.le_refl _) _)⟩
        · rcases py : inB y (-100) 100 with _ | _
          · have PX := Lib.hid px
            have PY := Lib.hid py
            rw [px] at P1
            rw [py] at P2
            have M3 := Lib.hid N3
            have M4 := Lib.hid P1
            have M5 := Lib.hid P2
            clear N3 px py P1 P2
            obtain rfl : o = none := by
              rw [HPM.out, RA.out, RB.out]
              cases numRead c with
              | none => rfl
              | some r => unfold wlOf wlB; simp only; rw [PX.out, PY.out]; rfl
            go_wp2_with fail
            refine M1.out.mono ?_
            clear M1
            rintro e w3 ⟨rfl, rfl⟩
            go_wp2_with fail
            refine M2.out.mono ?_
            clear M2
            rintro e w3 ⟨rfl, rfl⟩
            go_wp2_with fail
            refine M3.out.mono ?_
            clear M3
            rintro e w3 ⟨rfl, rfl⟩
            go_wp2_with fail
            refine M4.out.mono ?_
            clear M4
            rintro e w3 ⟨rfl, rfl⟩
            go_wp2_with fail
            refine M5.out.mono ?_
            clear M5
            rintro e w3 ⟨rfl, rfl⟩
            go_wp2_with fail
            exact bodyPost_ret (v := .tuple #[.agg #[.int .i8 0, .int .i8 0, .float .f32 0], .bool false]) (by simp [results, Tryz.results14, go_sem, z0, z1, z2]) rfl ⟨⟨⟨0, 0, 0⟩, rfl, fun q h => by cases h⟩, (((HBW.out.setCell (p := ⟨w.heap.size, 0, none⟩) (Nat.le_refl _) _).setCell (p := ⟨w.heap.size, 1, none⟩) (Nat.le_refl _) _).setCell (p := ⟨w.heap.size, 2, none⟩) (Nat.le_refl _) _)⟩
          · have PX := Lib.hid px
            have PY := Lib.hid py
            have hx := place_true px
            have hy := place_true py
            rw [px] at P1
            rw [py] at P2
            have M4 := Lib.hid P1
            have M5 := Lib.hid P2
            clear px py P1 P2
            rcases numOut_code c with ⟨n1, o1⟩ | ⟨r, n1, o1⟩
            · have RC := Lib.hid n1
              rw [o1] at N3
              have M3 := Lib.hid N3
              clear n1 o1 N3
              obtain rfl : o = none := by rw [HPM.out, RA.out, RB.out, RC.out]; rfl
              go_wp2_with fail
              refine M1.out.mono ?_
              clear M1
              rintro e w3 ⟨rfl, rfl⟩
              go_wp2_with fail
              refine M2.out.mono ?_
              clear M2
              rintro e w3 ⟨rfl, rfl⟩
              go_wp2_with fail
              refine M3.out.mono ?_
              clear M3
              rintro e w3 ⟨rfl, rfl⟩
              go_wp2_with fail
              refine M4.out.mono ?_
              clear M4
              rintro e w3 ⟨rfl, rfl⟩
              go_wp2_with fail
              refine M5.out.mono ?_
              clear M5
              rintro e w3 ⟨rfl, rfl⟩
              go_wp2_with fail
              exact bodyPost_ret (v := .tuple #[.agg #[.int .i8 0, .int .i8 0, .float .f32 0], .bool false]) (by simp [results, Tryz.results14, go_sem, z0, z1, z2]) rfl ⟨⟨⟨0, 0, 0⟩, rfl, fun q h => by cases h⟩, (((HBW.out.setCell (p := ⟨w.heap.size, 0, none⟩) (Nat.le_refl _) _).setCell (p := ⟨w.heap.size, 1, none⟩) (Nat.le_refl _) _).setCell (p := ⟨w.heap.size, 2, none⟩) (Nat.le_refl _) _)⟩
            · have RC := Lib.hid n1
              rw [o1] at N3
              have hr := hexRead_lt (numRead_hex n1).1
              have M3 := Lib.hid N3
              clear n1 o1 N3
              have hw : wlOf (some x) (some y) (some r) = if wlB ⟨x, y, r⟩ = true then some ⟨x, y, r⟩ else none := rfl
              have ho : o = if wlB ⟨x, y, r⟩ = true then some ⟨x, y, r⟩ else none := by rw [HPM.out, RA.out, RB.out, RC.out, hw]
              have hsome : o.isSome = wlB ⟨x, y, r⟩ := by rw [ho]; cases wlB ⟨x, y, r⟩ <;> rfl
              have HSM := Lib.hid hsome
              have HOO := Lib.hid ho
              have wx := w8any x (by omega) (by omega)
              have wy := w8any y (by omega) (by omega)
              have HOK := Lib.hid (fun w => l03Ok_any ⟨x, y, r⟩ w ⟨by simp only; omega, by simp only; omega, by simp only; omega, by simp only; omega, hr⟩)
              clear hw ho hsome
              go_wp2_with fail
              refine M1.out.mono ?_
              clear M1
              rintro e w3 ⟨rfl, rfl⟩
              go_wp2_with fail
              refine M2.out.mono ?_
              clear M2
              rintro e w3 ⟨rfl, rfl⟩
              go_wp2_with fail
              refine M3.out.mono ?_
              clear M3
              rintro e w3 ⟨rfl, rfl⟩
              go_wp2_with fail
              refine M4.out.mono ?_
              clear M4
              rintro e w3 ⟨rfl, rfl⟩
              go_wp2_with fail
              refine M5.out.mono ?_
              clear M5
              rintro e w3 ⟨rfl, rfl⟩
              go_wp2_with fail
              obtain ⟨W, hW⟩ : ∃ W, W = w1.alloc (.cells #[.int .i8 x, .int .i8 y, .float .f32 r] 41) := ⟨_, rfl⟩
              rw [← hW]
              have k0 : W.cell? ⟨w1.heap.size, 0, none⟩ = some (.int .i8 x) := by rw [hW]; go_simp
              have k1 : W.cell? ⟨w1.heap.size, 1, none⟩ = some (.int .i8 y) := by rw [hW]; go_simp
              have k2 : W.cell? ⟨w1.heap.size, 2, none⟩ = some (.float .f32 r) := by rw [hW]; go_simp
              have hlt2 : w1.heap.size < W.heap.size := by rw [hW]; simp
              have hA : Below w1.heap.size w1 W := by rw [hW]; exact (Below.refl _ _).alloc (Nat.le_refl _) _
              have HA := Lib.hid hA
              clear hW hA c0 c1 c2
              refine wp_region_loose_tail 3 (Below W.heap.size W) (fun f args u => u = .bool (wlB ⟨x, y, r⟩)) (by kernel_rfl) (by kernel_rfl) (Below.refl _ _).drew ?_
              simp only [List.take_succ_cons, List.take_zero, List.drop_succ_cons, List.drop_zero]
              repeat (first
                | (apply loose_plain (hw := rfl)
                   · (intro w' hw'; have d0 := (hw'.cell (p := ⟨w1.heap.size, 0, none⟩) hlt2).trans k0; have d1 := (hw'.cell (p := ⟨w1.heap.size, 1, none⟩) hlt2).trans k1; have d2 := (hw'.cell (p := ⟨w1.heap.size, 2, none⟩) hlt2).trans k2; go_simp; exact rfl)
                   simp only [Act.put, List.setIfInBounds_toArray, List.set_cons_zero, List.set_cons_succ]))
              refine loose_call (f := 37) (args := #[.agg #[.int .i8 x, .int .i8 y, .float .f32 r]]) rfl (fun w' => by go_simp) (fun w' hw' => (HOK.out w').mono fun e w2 he => ⟨_, he.1, rfl, hw'.trans (he.2.mono hw'.size)⟩) ?_
              rintro u rfl
              simp only [Act.put, List.setIfInBounds_toArray, List.set_cons_zero, List.set_cons_succ]
              apply wpLoose_nil
              intro w' hw'
              have hlt3 : w.heap.size < W.heap.size := by omega
              have y0 := ((hw'.cell (p := ⟨w.heap.size, 0, none⟩) hlt3).trans (HA.out.cell (p := ⟨w.heap.size, 0, none⟩) hz1)).trans z0
              have y1 := ((hw'.cell (p := ⟨w.heap.size, 1, none⟩) hlt3).trans (HA.out.cell (p := ⟨w.heap.size, 1, none⟩) hz1)).trans z1
              have y2 := ((hw'.cell (p := ⟨w.heap.size, 2, none⟩) hlt3).trans (HA.out.cell (p := ⟨w.heap.size, 2, none⟩) hz1)).trans z2
              have g0 := ((hw'.frozen (p := ⟨w.heap.size, 0, none⟩) hlt3).trans (HA.out.frozen (p := ⟨w.heap.size, 0, none⟩) hz1)).trans f0
              have g1 := ((hw'.frozen (p := ⟨w.heap.size, 1, none⟩) hlt3).trans (HA.out.frozen (p := ⟨w.heap.size, 1, none⟩) hz1)).trans f1
              have g2 := ((hw'.frozen (p := ⟨w.heap.size, 2, none⟩) hlt3).trans (HA.out.frozen (p := ⟨w.heap.size, 2, none⟩) hz1)).trans f2
              have hB3 := HBW.out.trans ((HA.out.trans (hw'.mono HA.out.size)).mono (by omega))
              go_wp2_with fail
              exact bodyPost_ret (v := .tuple #[.agg #[.int .i8 x, .int .i8 y, .float .f32 r], .bool (wlB ⟨x, y, r⟩)]) (by simp [results, Tryz.results14, go_sem, y0, y1, y2]) rfl ⟨⟨⟨x, y, r⟩, by rw [HSM.out], fun q h => by
                rw [HOO.out] at h
                split at h
                · exact Option.some.inj h
                · cases h⟩, (((hB3.setCell (p := ⟨w.heap.size, 0, none⟩) (Nat.le_refl _) _).setCell (p := ⟨w.heap.size, 1, none⟩) (Nat.le_refl _) _).setCell (p := ⟨w.heap.size, 2, none⟩) (Nat.le_refl _) _)⟩
  · obtain rfl : o = none := by rw [HO.out]; unfold parseWl; rw [if_neg h3]
    have h3i : ¬ ((pieces 32 l).length : Int) = 3 := by omega
    go_wp2_with fail
    exact bodyPost_ret (v := .tuple #[.agg #[.int .i8 0, .int .i8 0, .float .f32 0], .bool false]) (by simp [results, Tryz.results14, go_sem, z0, z1, z2]) rfl ⟨⟨⟨0, 0, 0⟩, rfl, fun q h => by cases h⟩, (((HBW.out.setCell (p := ⟨w.heap.size, 0, none⟩) (Nat.le_refl _) _).setCell (p := ⟨w.heap.size, 1, none⟩) (Nat.le_refl _) _).setCell (p := ⟨w.heap.size, 2, none⟩) (Nat.le_refl _) _)⟩
end Go.Proofs.YtgiimcdjojjbmaaGreatDoor
