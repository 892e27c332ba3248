/- spec.l07Text: the text of permits. -/
import Derived.Test.YtgiimcdjojjbmaaDoorA4
import Derived.Test.YtgiimcdjojjbmaaDoorC1
import Derived.Test.YtgiimcdjojjbmaaDoorLoose
namespace Go.Proofs.YtgiimcdjojjbmaaDoor
open Go Go.RowKit

def spB : ByteArray := ⟨#[32]⟩
def nlB : ByteArray := ⟨#[10]⟩
def pmLine (p : Pm) : ByteArray := ((((decStr p.o.toNat ++ spB) ++ decStr p.c.toNat) ++ spB) ++ decStr p.r.toNat) ++ nlB
def pmText (ps : List Pm) : ByteArray := ps.foldl (fun s p => s ++ pmLine p) ⟨#[]⟩
theorem pmText_snoc (ps : List Pm) (k : Nat) (h : k < ps.length) : pmText (ps.take (k + 1)) = pmText (ps.take k) ++ pmLine (ps.getD k default) := by
  rw [take_snocD default ps k h]; simp [pmText]
def Pm.good (p : Pm) : Prop := 0 ≤ p.o ∧ p.o ≤ 127 ∧ 0 ≤ p.c ∧ p.c ≤ 127 ∧ 0 ≤ p.r ∧ p.r ≤ 32767
theorem pmLine_size (p : Pm) (h : p.good) : (pmLine p).size ≤ 66 := by
  obtain ⟨h1, h2, h3, h4, h5, h6⟩ := h
  have a := decStr_size p.o.toNat (by omega)
  have b := decStr_size p.c.toNat (by omega)
  have c := decStr_size p.r.toNat (by omega)
  have d : spB.size = 1 := rfl
  have e : nlB.size = 1 := rfl
  simp only [pmLine, ByteArray.size_append]; omega
theorem pmText_size (ps : List Pm) (h : ∀ p ∈ ps, p.good) : ∀ k, k ≤ ps.length → (pmText (ps.take k)).size ≤ 66 * k := by
  intro k
  induction k with
  | zero => intro _; simp [pmText, ByteArray.size]
  | succ k ih =>
    intro hk
    rw [pmText_snoc ps k (by omega), ByteArray.size_append]
    have := ih (by omega)
    have := pmLine_size _ (h _ (getD_mem default ps k (by omega)))
    omega

theorem line_facts (p : Pm) (h : p.good) : ∃ s1 s2 s3 s4 s5 : ByteArray, s5 = pmLine p ∧
    (∀ wx : World, (Op.stringOp .add (decStr p.o.toNat) ⟨#[32]⟩).run Tryd.prog wx = .ok (.string s1) wx) ∧
    (∀ wx : World, (Op.stringOp .add s1 (decStr p.c.toNat)).run Tryd.prog wx = .ok (.string s2) wx) ∧
    (∀ wx : World, (Op.stringOp .add s2 ⟨#[32]⟩).run Tryd.prog wx = .ok (.string s3) wx) ∧
    (∀ wx : World, (Op.stringOp .add s3 (decStr p.r.toNat)).run Tryd.prog wx = .ok (.string s4) wx) ∧
    (∀ wx : World, (Op.stringOp .add s4 ⟨#[10]⟩).run Tryd.prog wx = .ok (.string s5) wx) := by
  obtain ⟨h1, h2, h3, h4, h5, h6⟩ := h
  have a := decStr_size p.o.toNat (by omega)
  have b := decStr_size p.c.toNat (by omega)
  have c := decStr_size p.r.toNat (by omega)
  have d : (⟨#[32]⟩ : ByteArray).size = 1 := rfl
  have e : (⟨#[10]⟩ : ByteArray).size = 1 := rfl
  refine ⟨_, _, _, _, _, rfl, fun wx => run_string_add_sum wx _ _ (by omega), fun wx => run_string_add_sum wx _ _ ?_, fun wx => run_string_add_sum wx _ _ ?_, fun wx => run_string_add_sum wx _ _ ?_, fun wx => run_string_add_sum wx _ _ ?_⟩
  all_goals (simp only [ByteArray.size_append]; omega)

attribute [local go_sem] Plain plainUpon

set_option maxHeartbeats 1000000 in
set_option maxRecDepth 100000 in
theorem l07Text_rows (ps : List Pm) (hok : ∀ p ∈ ps, p.good) (b off c : Nat) (w : World)
    (hb : b < w.heap.size) (hat : PmAt w b off ps) (hlen : ps.length ≤ 1048576) : Calls Tryd.prog 25 #[.slice (some ⟨b, off, none⟩) ps.length c] w
    fun e w' => e = .returned (.string (pmText ps)) ∧ Below w.heap.size w w' := by
  have HOK := Lib.hid hok; clear hok
  have HAT := Lib.hid hat; clear hat
  go_enter Tryd.func25, Tryd.ntmps25
  go_wp2
  go_loopw [3, 4] (fun s i wr => ∃ k : Nat, k ≤ ps.length ∧ i = .int .i64 k ∧ s = .string (pmText (ps.take k)) ∧ Below w.heap.size w wr) (fun _ i _ => ps.length - (intOf i).toNat)
  case atStart => exact ⟨0, Nat.zero_le _, rfl, rfl, Below.refl _ _⟩
  case round =>
    obtain ⟨k, hk, rfl, rfl, hB⟩ := hrel
    by_cases hlt : k < ps.length
    · obtain ⟨h1, h2, h3⟩ := HAT.out.mono hb hB k hlt
      obtain ⟨p, hp⟩ : ∃ p, p = ps.getD k default := ⟨_, rfl⟩
      rw [← hp] at h1 h2 h3
      have HP := Lib.hid hp; clear hp
      obtain ⟨T, hT⟩ : ∃ T, T = pmText (ps.take k) := ⟨_, rfl⟩
      rw [← hT]
      have hTs : T.size ≤ 66 * k := by rw [hT]; exact pmText_size ps HOK.out k hk
      have HT := Lib.hid hT; clear hT
      have hpo : p.good := HOK.out p (by rw [HP.out]; exact getD_mem _ _ _ hlt)
      obtain ⟨s1, s2, s3, s4, s5, hs5, q1, q2, q3, q4, q5⟩ := line_facts p hpo
      have h5s : s5.size ≤ 66 := by rw [hs5]; exact pmLine_size p hpo
      have q6 : ∀ wx : World, (Op.stringOp .add T s5).run Tryd.prog wx = .ok (.string (T ++ s5)) wx := fun wx => run_string_add_sum wx _ _ (by omega)
      have HS5 := Lib.hid hs5; clear hs5
      obtain ⟨g1, g2, g3, g4, g5, g6⟩ := hpo
      have wo : IntKind.i64.wrap p.o = p.o := by rw [IntKind.wrap_i64]; omega
      have wc : IntKind.i64.wrap p.c = p.c := by rw [IntKind.wrap_i64]; omega
      have wrr : IntKind.i64.wrap p.r = p.r := by rw [IntKind.wrap_i64]; omega
      go_wp2_with fail
      obtain ⟨W, hW⟩ : ∃ W, W = wr.alloc (.cells #[.int .i8 p.o, .int .i8 p.c, .int .i16 p.r] 48) := ⟨_, rfl⟩
      rw [← hW]
      have c0 : W.cell? ⟨wr.heap.size, 0, none⟩ = some (.int .i8 p.o) := by rw [hW]; go_simp
      have c1 : W.cell? ⟨wr.heap.size, 1, none⟩ = some (.int .i8 p.c) := by rw [hW]; go_simp
      have c2 : W.cell? ⟨wr.heap.size, 2, none⟩ = some (.int .i16 p.r) := by rw [hW]; go_simp
      have hlt2 : wr.heap.size < W.heap.size := by rw [hW]; simp
      have hBW : Below w.heap.size w W := by rw [hW]; exact hB.alloc hB.size _
      clear hW h1 h2 h3
      refine wp_region_loose (Below W.heap.size W) (fun f args u => ∃ n : Int, args = #[.int .i64 n] ∧ u = .string (decStr n.toNat)) (by kernel_rfl) (by kernel_rfl) (Below.refl _ _).drew ?_
      repeat (first
        | (apply loose_plain (hw := rfl)
           · (intro w' hw'; have d0 := (hw'.cell (p := ⟨wr.heap.size, 0, none⟩) hlt2).trans c0; have d1 := (hw'.cell (p := ⟨wr.heap.size, 1, none⟩) hlt2).trans c1; have d2 := (hw'.cell (p := ⟨wr.heap.size, 2, none⟩) hlt2).trans c2; go_simp; exact rfl)
           simp only [Act.put, List.setIfInBounds_toArray, List.set_cons_zero, List.set_cons_succ]))
      refine loose_call (f := 47) (args := #[.int .i64 p.o]) rfl (fun w' => by go_simp) (fun w' hw' => (decimal_int p.o w' (by omega) (by omega)).mono fun e w2 he => ⟨_, he.1, ⟨_, rfl, rfl⟩, hw'.trans (he.2.mono hw'.size)⟩) ?_
      rintro u ⟨n, hn, rfl⟩
      obtain rfl : n = p.o := by simpa using hn.symm
      simp only [Act.put, List.setIfInBounds_toArray, List.set_cons_zero, List.set_cons_succ]
      repeat (first
        | (apply loose_plain (hw := rfl)
           · (intro w' hw'; have d0 := (hw'.cell (p := ⟨wr.heap.size, 0, none⟩) hlt2).trans c0; have d1 := (hw'.cell (p := ⟨wr.heap.size, 1, none⟩) hlt2).trans c1; have d2 := (hw'.cell (p := ⟨wr.heap.size, 2, none⟩) hlt2).trans c2; go_simp; exact rfl)
           simp only [Act.put, List.setIfInBounds_toArray, List.set_cons_zero, List.set_cons_succ]))
      refine loose_call (f := 47) (args := #[.int .i64 p.c]) rfl (fun w' => by go_simp) (fun w' hw' => (decimal_int p.c w' (by omega) (by omega)).mono fun e w2 he => ⟨_, he.1, ⟨_, rfl, rfl⟩, hw'.trans (he.2.mono hw'.size)⟩) ?_
      rintro u ⟨n, hn, rfl⟩
      obtain rfl : n = p.c := by simpa using hn.symm
      simp only [Act.put, List.setIfInBounds_toArray, List.set_cons_zero, List.set_cons_succ]
      repeat (first
        | (apply loose_plain (hw := rfl)
           · (intro w' hw'; have d0 := (hw'.cell (p := ⟨wr.heap.size, 0, none⟩) hlt2).trans c0; have d1 := (hw'.cell (p := ⟨wr.heap.size, 1, none⟩) hlt2).trans c1; have d2 := (hw'.cell (p := ⟨wr.heap.size, 2, none⟩) hlt2).trans c2; go_simp; exact rfl)
           simp only [Act.put, List.setIfInBounds_toArray, List.set_cons_zero, List.set_cons_succ]))
      refine loose_call (f := 47) (args := #[.int .i64 p.r]) rfl (fun w' => by go_simp) (fun w' hw' => (decimal_int p.r w' (by omega) (by omega)).mono fun e w2 he => ⟨_, he.1, ⟨_, rfl, rfl⟩, hw'.trans (he.2.mono hw'.size)⟩) ?_
      rintro u ⟨n, hn, rfl⟩
      obtain rfl : n = p.r := by simpa using hn.symm
      simp only [Act.put, List.setIfInBounds_toArray, List.set_cons_zero, List.set_cons_succ]
      repeat (first
        | (apply loose_plain (hw := rfl)
           · (intro w' hw'; have d0 := (hw'.cell (p := ⟨wr.heap.size, 0, none⟩) hlt2).trans c0; have d1 := (hw'.cell (p := ⟨wr.heap.size, 1, none⟩) hlt2).trans c1; have d2 := (hw'.cell (p := ⟨wr.heap.size, 2, none⟩) hlt2).trans c2; go_simp; exact rfl)
           simp only [Act.put, List.setIfInBounds_toArray, List.set_cons_zero, List.set_cons_succ]))
      apply wpLoose_nil
      intro w' hw'
      go_wp2
      go_roundw
      case rel => exact ⟨k + 1, by omega, by go_num, by rw [pmText_snoc ps k hlt, ← HP.out, ← HT.out, HS5.out], hBW.trans (hw'.mono hBW.size)⟩
      case measure => simp [intOf]; omega
    · go_wp2_with fail
      go_ret
      exact ⟨by show Ending.returned (.string (pmText (ps.take k))) = _; rw [List.take_of_length_le (by omega)], hB⟩

set_option maxRecDepth 100000 in
theorem l07Text_any (ps : List Pm) (hok : ∀ p ∈ ps, p.good) (v : Value) (w : World) (hv : PmSl w v ps) (hlen : ps.length ≤ 1048576) :
    Calls Tryd.prog 25 #[v] w fun e w' => e = .returned (.string (pmText ps)) ∧ Below w.heap.size w w' := by
  rcases hv with ⟨a, c, rfl, rfl⟩ | ⟨b, off, c, rfl, hb, hat⟩
  · clear hok
    go_enter Tryd.func25, Tryd.ntmps25
    go_wp2
    refine wp_loop_rounds 1 ?_
    rw [rounds_succ]
    go_wp2
    go_ret
    exact ⟨rfl, Below.refl _ _⟩
  · exact l07Text_rows ps hok b off c w hb hat hlen
end Go.Proofs.YtgiimcdjojjbmaaDoor
