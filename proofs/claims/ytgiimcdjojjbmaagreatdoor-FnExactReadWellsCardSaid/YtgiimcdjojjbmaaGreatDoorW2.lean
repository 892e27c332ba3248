/- impl.wellsText. -/
import Derived.Test.YtgiimcdjojjbmaaGreatDoorW0
import Derived.Test.YtgiimcdjojjbmaaGreatDoorH4
import Derived.Test.YtgiimcdjojjbmaaGreatDoorE2
namespace Go.Proofs.YtgiimcdjojjbmaaGreatDoor
open Go Go.RowKit

def wlLine (p : Wl) : ByteArray := ((((sgStr p.x ++ spB) ++ sgStr p.y) ++ spB) ++ hexText (canon p.r)) ++ nlB
def wlText (ps : List Wl) : ByteArray := ps.foldl (fun s p => s ++ wlLine p) ⟨#[]⟩
theorem wlText_snoc (ps : List Wl) (k : Nat) (h : k < ps.length) : wlText (ps.take (k + 1)) = wlText (ps.take k) ++ wlLine (ps.getD k default) := by
  rw [take_snocD default ps k h]; simp [wlText]
theorem hexText_size (b : Nat) (h : b < 4294967296) : (hexText b).size = 8 := by
  have hl8 := hexDigs_len 7 b (by simpa using h)
  unfold hexText
  simp [ByteArray.size]
  omega
theorem wlLine_size (p : Wl) (h : p.ok) : (wlLine p).size ≤ 53 := by
  obtain ⟨h1, h2, h3, h4, h5⟩ := h
  have a := sgStr_size p.x (by omega) (by omega)
  have b := sgStr_size p.y (by omega) (by omega)
  have c := hexText_size (canon p.r) (canon_lt _ h5)
  have d : spB.size = 1 := rfl
  have e : nlB.size = 1 := rfl
  simp only [wlLine, ByteArray.size_append]; omega
theorem wlText_size (ps : List Wl) (h : ∀ p ∈ ps, p.ok) : ∀ k, k ≤ ps.length → (wlText (ps.take k)).size ≤ 53 * k := by
  intro k
  induction k with
  | zero => intro _; simp [wlText, ByteArray.size]
  | succ k ih =>
    intro hk
    rw [wlText_snoc ps k (by omega), ByteArray.size_append]
    have := ih (by omega)
    have := wlLine_size _ (h _ (getD_mem default ps k (by omega)))
    omega

theorem wlLine_facts (p : Wl) (h : p.ok) : ∃ s1 s2 s3 s4 s5 : ByteArray, s5 = wlLine p ∧
    (∀ wx : World, (Op.stringOp .add (sgStr p.x) ⟨#[32]⟩).run Tryz.prog wx = .ok (.string s1) wx) ∧
    (∀ wx : World, (Op.stringOp .add s1 (sgStr p.y)).run Tryz.prog wx = .ok (.string s2) wx) ∧
    (∀ wx : World, (Op.stringOp .add s2 ⟨#[32]⟩).run Tryz.prog wx = .ok (.string s3) wx) ∧
    (∀ wx : World, (Op.stringOp .add s3 (hexText (canon p.r))).run Tryz.prog wx = .ok (.string s4) wx) ∧
    (∀ wx : World, (Op.stringOp .add s4 ⟨#[10]⟩).run Tryz.prog wx = .ok (.string s5) wx) := by
  obtain ⟨h1, h2, h3, h4, h5⟩ := h
  have a := sgStr_size p.x (by omega) (by omega)
  have b := sgStr_size p.y (by omega) (by omega)
  have c := hexText_size (canon p.r) (canon_lt _ h5)
  have d : (⟨#[32]⟩ : ByteArray).size = 1 := rfl
  have e : (⟨#[10]⟩ : ByteArray).size = 1 := rfl
  refine ⟨_, _, _, _, _, rfl, fun wx => run_string_add_sum wx _ _ (by omega), fun wx => run_string_add_sum wx _ _ ?_, fun wx => run_string_add_sum wx _ _ ?_, fun wx => run_string_add_sum wx _ _ ?_, fun wx => run_string_add_sum wx _ _ ?_⟩
  all_goals (simp only [ByteArray.size_append]; omega)

attribute [local go_sem] Plain plainUpon run_store_float

set_option maxHeartbeats 4000000 in
set_option maxRecDepth 100000 in
theorem wellsText_rows (ps : List Wl) (hok : ∀ p ∈ ps, p.ok) (b off c : Nat) (w : World) (hT : Tab10 w) (hD : Deb w)
    (hb : b < w.heap.size) (hat : WlAt w b off ps) (hlen : ps.length ≤ 1048576) : Calls Tryz.prog 20 #[.slice (some ⟨b, off, none⟩) ps.length c] w
    fun e w' => e = .returned (.string (wlText ps)) ∧ Below w.heap.size w w' := by
  have HOK := Lib.hid hok; clear hok
  have HAT := Lib.hid hat; clear hat
  have HT := Lib.hid hT; clear hT
  have HD := Lib.hid hD; clear hD
  go_enter Tryz.func20, Tryz.ntmps20
  go_wp2_with fail
  have hbu : Lib.IsBuilder 92 5 w.heap.size w.heap.size [] (w.alloc (.cells #[.pointer none, .slice none 0 0] 92)) := Lib.fresh_isBuilder _ _ _
  go_loopw [9] (fun i wr => ∃ k : Nat, k ≤ ps.length ∧ i = .int .i64 k ∧ Hid (Lib.IsBuilder 92 5 w.heap.size w.heap.size (Lib.strCells (wlText (ps.take k))) wr) ∧ Below w.heap.size w wr) (fun i _ => ps.length - (intOf i).toNat)
  case atStart => exact ⟨0, Nat.zero_le _, rfl, hbu, (Below.refl _ _).alloc (Nat.le_refl _) _⟩
  case round =>
    obtain ⟨k, hk, rfl, Hbu, hB⟩ := hrel
    by_cases hlt : k < ps.length
    · obtain ⟨h1, h2, h3⟩ := HAT.out.mono hb hB k hlt
      obtain ⟨p, hp⟩ : ∃ p, p = ps.getD k default := ⟨_, rfl⟩
      rw [← hp] at h1 h2 h3
      have HP := Lib.hid hp; clear hp
      have hTs : (wlText (ps.take k)).size ≤ 53 * k := wlText_size ps HOK.out k hk
      have hpo : p.ok := HOK.out p (by rw [HP.out]; exact getD_mem _ _ _ hlt)
      obtain ⟨s1, s2, s3, s4, s5, hs5, q1, q2, q3, q4, q5⟩ := wlLine_facts p hpo
      have h5s : s5.size ≤ 53 := by rw [hs5]; exact wlLine_size p hpo
      have HS5 := Lib.hid hs5; clear hs5
      obtain ⟨g1, g2, g3, g4, g5⟩ := hpo
      have wx : IntKind.i64.wrap p.x = p.x := by rw [IntKind.wrap_i64]; omega
      have wy : IntKind.i64.wrap p.y = p.y := by rw [IntKind.wrap_i64]; omega
      clear hbu
      go_wp2_with fail
      obtain ⟨W, hW⟩ : ∃ W, W = wr.alloc (.cells #[.int .i8 p.x, .int .i8 p.y, .float .f32 p.r] 41) := ⟨_, rfl⟩
      rw [← hW]
      have c0 : W.cell? ⟨wr.heap.size, 0, none⟩ = some (.int .i8 p.x) := by rw [hW]; go_simp
      have c1 : W.cell? ⟨wr.heap.size, 1, none⟩ = some (.int .i8 p.y) := by rw [hW]; go_simp
      have c2 : W.cell? ⟨wr.heap.size, 2, none⟩ = some (.float .f32 p.r) := by rw [hW]; go_simp
      have hlt2 : wr.heap.size < W.heap.size := by rw [hW]; simp
      have hA : Below wr.heap.size wr W := by rw [hW]; exact (Below.refl _ _).alloc (Nat.le_refl _) _
      have HBW := Lib.hid (isBuilder_below Hbu.out hA)
      have hBW : Below w.heap.size w W := hB.trans (hA.mono hB.size)
      have HTW := Lib.hid ((HT.out.below hB).below hA)
      have HDW := Lib.hid ((HD.out.below hB).below hA)
      clear hW h1 h2 h3
      refine wp_region_loose_tail 16 (Below W.heap.size W) (fun f args u => (∃ n : Int, f = 48 ∧ args = #[.int .i64 n] ∧ u = .string (sgStr n)) ∨ (∃ r : Nat, f = 42 ∧ args = #[.float .f32 r] ∧ u = .string (hexText (canon r)))) (by kernel_rfl) (by kernel_rfl) (Below.refl _ _).drew ?_
      simp only [List.take_succ_cons, List.take_zero, List.drop_succ_cons, List.drop_zero]
      repeat (first
        | (apply loose_plain (hw := rfl)
           · (intro w' hw'; have d0 := (hw'.cell (p := ⟨wr.heap.size, 0, none⟩) hlt2).trans c0; have d1 := (hw'.cell (p := ⟨wr.heap.size, 1, none⟩) hlt2).trans c1; have d2 := (hw'.cell (p := ⟨wr.heap.size, 2, none⟩) hlt2).trans c2; go_simp; exact rfl)
           simp only [Act.put, List.setIfInBounds_toArray, List.set_cons_zero, List.set_cons_succ]))
      refine loose_call (f := 48) (args := #[.int .i64 p.x]) rfl (fun w' => by go_simp) (fun w' hw' => (impl_decimal p.x w' (HTW.out.below hw') (by omega) (by omega)).mono fun e w2 he => ⟨_, he.1, .inl ⟨_, rfl, rfl, rfl⟩, hw'.trans (he.2.mono hw'.size)⟩) ?_
      rintro u hu
      obtain rfl : u = .string (sgStr p.x) := by
        rcases hu with ⟨n, _, hn, rfl⟩ | ⟨r, hf, _, _⟩
        · obtain rfl : n = p.x := by simpa using hn.symm
          rfl
        · exact absurd hf (by decide)
      simp only [Act.put, List.setIfInBounds_toArray, List.set_cons_zero, List.set_cons_succ]
      repeat (first
        | (apply loose_plain (hw := rfl)
           · (intro w' hw'; have d0 := (hw'.cell (p := ⟨wr.heap.size, 0, none⟩) hlt2).trans c0; have d1 := (hw'.cell (p := ⟨wr.heap.size, 1, none⟩) hlt2).trans c1; have d2 := (hw'.cell (p := ⟨wr.heap.size, 2, none⟩) hlt2).trans c2; go_simp; exact rfl)
           simp only [Act.put, List.setIfInBounds_toArray, List.set_cons_zero, List.set_cons_succ]))
      refine loose_call (f := 48) (args := #[.int .i64 p.y]) rfl (fun w' => by go_simp) (fun w' hw' => (impl_decimal p.y w' (HTW.out.below hw') (by omega) (by omega)).mono fun e w2 he => ⟨_, he.1, .inl ⟨_, rfl, rfl, rfl⟩, hw'.trans (he.2.mono hw'.size)⟩) ?_
      rintro u hu
      obtain rfl : u = .string (sgStr p.y) := by
        rcases hu with ⟨n, _, hn, rfl⟩ | ⟨r, hf, _, _⟩
        · obtain rfl : n = p.y := by simpa using hn.symm
          rfl
        · exact absurd hf (by decide)
      simp only [Act.put, List.setIfInBounds_toArray, List.set_cons_zero, List.set_cons_succ]
      repeat (first
        | (apply loose_plain (hw := rfl)
           · (intro w' hw'; have d0 := (hw'.cell (p := ⟨wr.heap.size, 0, none⟩) hlt2).trans c0; have d1 := (hw'.cell (p := ⟨wr.heap.size, 1, none⟩) hlt2).trans c1; have d2 := (hw'.cell (p := ⟨wr.heap.size, 2, none⟩) hlt2).trans c2; go_simp; exact rfl)
           simp only [Act.put, List.setIfInBounds_toArray, List.set_cons_zero, List.set_cons_succ]))
      refine loose_call (f := 42) (args := #[.float .f32 p.r]) rfl (fun w' => by go_simp) (fun w' hw' => (numberText_any p.r w' g5 (HDW.out.below hw')).mono fun e w2 he => ⟨_, he.1, .inr ⟨_, rfl, rfl, rfl⟩, hw'.trans (he.2.mono hw'.size)⟩) ?_
      rintro u hu
      obtain rfl : u = .string (hexText (canon p.r)) := by
        rcases hu with ⟨n, hf, _, _⟩ | ⟨r, _, hr, rfl⟩
        · exact absurd hf (by decide)
        · obtain rfl : r = p.r := by simpa using hr.symm
          rfl
      simp only [Act.put, List.setIfInBounds_toArray, List.set_cons_zero, List.set_cons_succ]
      repeat (first
        | (apply loose_plain (hw := rfl)
           · (intro w' hw'; have d0 := (hw'.cell (p := ⟨wr.heap.size, 0, none⟩) hlt2).trans c0; have d1 := (hw'.cell (p := ⟨wr.heap.size, 1, none⟩) hlt2).trans c1; have d2 := (hw'.cell (p := ⟨wr.heap.size, 2, none⟩) hlt2).trans c2; go_simp; exact rfl)
           simp only [Act.put, List.setIfInBounds_toArray, List.set_cons_zero, List.set_cons_succ]))
      apply wpLoose_nil
      intro w' hw'
      go_wp2_with (go_at_call 47; refine (writeString_any w.heap.size w.heap.size _ s5 w' (isBuilder_below HBW.out hw') (by simp [Lib.strCells_length]; omega) (Nat.le_trans hBW.size hw'.size)).mono ?_; rintro e w3 ⟨rfl, hb3, hB3⟩; have Hb3 := Lib.hid hb3; clear hb3)
      go_roundw
      case rel => exact ⟨k + 1, by omega, by go_num, .inr (by rw [wlText_snoc ps k hlt, ← HP.out, ← HS5.out, strCells_append]; exact Hb3.out), (hBW.trans (hw'.mono hBW.size)).trans hB3⟩
      case measure => simp [intOf]; omega
    · clear hbu
      go_wp2_with (go_at_call 49; refine (Tryz.Builder_String_any w.heap.size w.heap.size _ wr Hbu.out hB.size).mono ?_; rintro e w3 ⟨rfl, hB3⟩)
      go_ret
      exact ⟨by rw [List.take_of_length_le (by omega)]; rfl, hB.trans hB3⟩

set_option maxHeartbeats 1000000 in
set_option maxRecDepth 100000 in
theorem wellsText_any (ps : List Wl) (v : Value) (w : World) (hT : Tab10 w) (hD : Deb w) (hok : ∀ p ∈ ps, p.ok) (hv : WlSl w v ps) (hlen : ps.length ≤ 1048576) :
    Calls Tryz.prog 20 #[v] w fun e w' => e = .returned (.string (wlText ps)) ∧ Below w.heap.size w w' := by
  rcases hv with ⟨a, c, rfl, rfl⟩ | ⟨b, off, c, rfl, hb, hat⟩
  · clear hT hD
    go_enter Tryz.func20, Tryz.ntmps20
    go_wp2_with fail
    have hbu : Lib.IsBuilder 92 5 w.heap.size w.heap.size (Lib.byteCells []) (w.alloc (.cells #[.pointer none, .slice none 0 0] 92)) := Lib.fresh_isBuilder _ _ _
    refine wp_loop_rounds 1 ?_
    rw [rounds_succ]
    go_wp2_with (go_at_call 49; refine (Tryz.Builder_String_any w.heap.size w.heap.size [] _ hbu (by simp)).mono ?_; rintro e w3 ⟨rfl, hB3⟩)
    go_ret
    exact ⟨rfl, ((Below.refl _ _).alloc (Nat.le_refl _) _).trans hB3⟩
  · exact wellsText_rows ps hok b off c w hT hD hb hat hlen
end Go.Proofs.YtgiimcdjojjbmaaGreatDoor
