/- impl.readingsText. -/
import Derived.Test.YtgiimcdjojjbmaaDoorH0
import Derived.Test.YtgiimcdjojjbmaaDoorC3
import Derived.Lib.ItoaLen
namespace Go.Proofs.YtgiimcdjojjbmaaDoor
open Go Go.RowKit

/-- A whole number's text. -/
def sgStr (z : Int) : ByteArray := ⟨(Lib.itoa z).toArray⟩
theorem sgStr_size (z : Int) (h0 : -9223372036854775808 ≤ z) (h1 : z ≤ 9223372036854775807) : (sgStr z).size ≤ 21 := by
  have := Lib.itoa_length_le z h0 h1
  unfold sgStr
  simpa [ByteArray.size] using this

def rdLine (p : Rd) : ByteArray := ((sgStr p.t ++ spB) ++ sgStr p.l) ++ nlB
def rdText (ps : List Rd) : ByteArray := ps.foldl (fun s p => s ++ rdLine p) ⟨#[]⟩
theorem rdText_snoc (ps : List Rd) (k : Nat) (h : k < ps.length) : rdText (ps.take (k + 1)) = rdText (ps.take k) ++ rdLine (ps.getD k default) := by
  rw [take_snocD default ps k h]; simp [rdText]
def Rd.good (p : Rd) : Prop := -9223372036854775808 ≤ p.t ∧ p.t ≤ 9223372036854775807 ∧ -32768 ≤ p.l ∧ p.l ≤ 32767
theorem rdLine_size (p : Rd) (h : p.good) : (rdLine p).size ≤ 44 := by
  obtain ⟨h1, h2, h3, h4⟩ := h
  have a := sgStr_size p.t (by omega) (by omega)
  have b := sgStr_size p.l (by omega) (by omega)
  have d : spB.size = 1 := rfl
  have e : nlB.size = 1 := rfl
  simp only [rdLine, ByteArray.size_append]; omega
theorem rdText_size (ps : List Rd) (h : ∀ p ∈ ps, p.good) : ∀ k, k ≤ ps.length → (rdText (ps.take k)).size ≤ 44 * k := by
  intro k
  induction k with
  | zero => intro _; simp [rdText, ByteArray.size]
  | succ k ih =>
    intro hk
    rw [rdText_snoc ps k (by omega), ByteArray.size_append]
    have := ih (by omega)
    have := rdLine_size _ (h _ (getD_mem default ps k (by omega)))
    omega

theorem rdLine_facts (p : Rd) (h : p.good) : ∃ s1 s2 s3 : ByteArray, s3 = rdLine p ∧
    (∀ wx : World, (Op.stringOp .add (sgStr p.t) ⟨#[32]⟩).run Tryd.prog wx = .ok (.string s1) wx) ∧
    (∀ wx : World, (Op.stringOp .add s1 (sgStr p.l)).run Tryd.prog wx = .ok (.string s2) wx) ∧
    (∀ wx : World, (Op.stringOp .add s2 ⟨#[10]⟩).run Tryd.prog wx = .ok (.string s3) wx) := by
  obtain ⟨h1, h2, h3, h4⟩ := h
  have a := sgStr_size p.t (by omega) (by omega)
  have b := sgStr_size p.l (by omega) (by omega)
  have d : (⟨#[32]⟩ : ByteArray).size = 1 := rfl
  have e : (⟨#[10]⟩ : ByteArray).size = 1 := rfl
  refine ⟨_, _, _, rfl, fun wx => run_string_add_sum wx _ _ (by omega), fun wx => run_string_add_sum wx _ _ ?_, fun wx => run_string_add_sum wx _ _ ?_⟩
  all_goals (simp only [ByteArray.size_append]; omega)

attribute [local go_sem] Plain plainUpon

set_option maxHeartbeats 2000000 in
set_option maxRecDepth 100000 in
theorem readingsText_rows (ps : List Rd) (hok : ∀ p ∈ ps, p.good) (b off c : Nat) (w : World) (hT : Tab10 w)
    (hb : b < w.heap.size) (hat : RdAt w b off ps) (hlen : ps.length ≤ 1048576) : Calls Tryd.prog 45 #[.slice (some ⟨b, off, none⟩) ps.length c] w
    fun e w' => e = .returned (.string (rdText ps)) ∧ Below w.heap.size w w' := by
  have HOK := Lib.hid hok; clear hok
  have HAT := Lib.hid hat; clear hat
  have HT := Lib.hid hT; clear hT
  go_enter Tryd.func45, Tryd.ntmps45
  go_wp2_with fail
  have hbu : Lib.IsBuilder 54 5 w.heap.size w.heap.size [] (w.alloc (.cells #[.pointer none, .slice none 0 0] 54)) := Lib.fresh_isBuilder _ _ _
  go_loopw [9] (fun i wr => ∃ k : Nat, k ≤ ps.length ∧ i = .int .i64 k ∧ Hid (Lib.IsBuilder 54 5 w.heap.size w.heap.size (Lib.strCells (rdText (ps.take k))) wr) ∧ Below w.heap.size w wr) (fun i _ => ps.length - (intOf i).toNat)
  case atStart => exact ⟨0, Nat.zero_le _, rfl, hbu, (Below.refl _ _).alloc (Nat.le_refl _) _⟩
  case round =>
    obtain ⟨k, hk, rfl, Hbu, hB⟩ := hrel
    by_cases hlt : k < ps.length
    · obtain ⟨h1, h2⟩ := HAT.out.mono hb hB k hlt
      obtain ⟨p, hp⟩ : ∃ p, p = ps.getD k default := ⟨_, rfl⟩
      rw [← hp] at h1 h2
      have HP := Lib.hid hp; clear hp
      have hTs : (rdText (ps.take k)).size ≤ 44 * k := rdText_size ps HOK.out k hk
      have hpo : p.good := HOK.out p (by rw [HP.out]; exact getD_mem _ _ _ hlt)
      obtain ⟨s1, s2, s3, hs3, q1, q2, q3⟩ := rdLine_facts p hpo
      have h3s : s3.size ≤ 44 := by rw [hs3]; exact rdLine_size p hpo
      have HS3 := Lib.hid hs3; clear hs3
      obtain ⟨g1, g2, g3, g4⟩ := hpo
      have wl : IntKind.i64.wrap p.l = p.l := by rw [IntKind.wrap_i64]; omega
      clear hbu
      go_wp2_with fail
      obtain ⟨W, hW⟩ : ∃ W, W = wr.alloc (.cells #[.int .i64 p.t, .int .i16 p.l] 76) := ⟨_, rfl⟩
      rw [← hW]
      have c0 : W.cell? ⟨wr.heap.size, 0, none⟩ = some (.int .i64 p.t) := by rw [hW]; go_simp
      have c1 : W.cell? ⟨wr.heap.size, 1, none⟩ = some (.int .i16 p.l) := by rw [hW]; go_simp
      have hlt2 : wr.heap.size < W.heap.size := by rw [hW]; simp
      have hA : Below wr.heap.size wr W := by rw [hW]; exact (Below.refl _ _).alloc (Nat.le_refl _) _
      have HBW := Lib.hid (isBuilder_below Hbu.out hA)
      have hBW : Below w.heap.size w W := hB.trans (hA.mono hB.size)
      have HTW := Lib.hid ((HT.out.below hB).below hA)
      clear hW h1 h2
      refine wp_region_loose_tail 10 (Below W.heap.size W) (fun f args u => ∃ n : Int, args = #[.int .i64 n] ∧ u = .string (sgStr n)) (by kernel_rfl) (by kernel_rfl) (Below.refl _ _).drew ?_
      simp only [List.take_succ_cons, List.take_zero, List.drop_succ_cons, List.drop_zero]
      repeat (first
        | (apply loose_plain (hw := rfl)
           · (intro w' hw'; have d0 := (hw'.cell (p := ⟨wr.heap.size, 0, none⟩) hlt2).trans c0; have d1 := (hw'.cell (p := ⟨wr.heap.size, 1, none⟩) hlt2).trans c1; go_simp; exact rfl)
           simp only [Act.put, List.setIfInBounds_toArray, List.set_cons_zero, List.set_cons_succ]))
      refine loose_call (f := 29) (args := #[.int .i64 p.t]) rfl (fun w' => by go_simp) (fun w' hw' => (impl_decimal p.t w' (HTW.out.below hw') (by omega) (by omega)).mono fun e w2 he => ⟨_, he.1, ⟨_, rfl, rfl⟩, hw'.trans (he.2.mono hw'.size)⟩) ?_
      rintro u ⟨n, hn, rfl⟩
      obtain rfl : n = p.t := by simpa using hn.symm
      simp only [Act.put, List.setIfInBounds_toArray, List.set_cons_zero, List.set_cons_succ]
      repeat (first
        | (apply loose_plain (hw := rfl)
           · (intro w' hw'; have d0 := (hw'.cell (p := ⟨wr.heap.size, 0, none⟩) hlt2).trans c0; have d1 := (hw'.cell (p := ⟨wr.heap.size, 1, none⟩) hlt2).trans c1; go_simp; exact rfl)
           simp only [Act.put, List.setIfInBounds_toArray, List.set_cons_zero, List.set_cons_succ]))
      refine loose_call (f := 29) (args := #[.int .i64 p.l]) rfl (fun w' => by go_simp) (fun w' hw' => (impl_decimal p.l w' (HTW.out.below hw') (by omega) (by omega)).mono fun e w2 he => ⟨_, he.1, ⟨_, rfl, rfl⟩, hw'.trans (he.2.mono hw'.size)⟩) ?_
      rintro u ⟨n, hn, rfl⟩
      obtain rfl : n = p.l := by simpa using hn.symm
      simp only [Act.put, List.setIfInBounds_toArray, List.set_cons_zero, List.set_cons_succ]
      repeat (first
        | (apply loose_plain (hw := rfl)
           · (intro w' hw'; have d0 := (hw'.cell (p := ⟨wr.heap.size, 0, none⟩) hlt2).trans c0; have d1 := (hw'.cell (p := ⟨wr.heap.size, 1, none⟩) hlt2).trans c1; go_simp; exact rfl)
           simp only [Act.put, List.setIfInBounds_toArray, List.set_cons_zero, List.set_cons_succ]))
      apply wpLoose_nil
      intro w' hw'
      go_wp2_with (go_at_call 28; refine (writeString_any w.heap.size w.heap.size _ s3 w' (isBuilder_below HBW.out hw') (by simp [Lib.strCells_length]; omega) (Nat.le_trans hBW.size hw'.size)).mono ?_; rintro e w3 ⟨rfl, hb3, hB3⟩; have Hb3 := Lib.hid hb3; clear hb3)
      go_roundw
      case rel => exact ⟨k + 1, by omega, by go_num, .inr (by rw [rdText_snoc ps k hlt, ← HP.out, ← HS3.out, strCells_append]; exact Hb3.out), (hBW.trans (hw'.mono hBW.size)).trans hB3⟩
      case measure => simp [intOf]; omega
    · clear hbu
      go_wp2_with (go_at_call 30; refine (Tryd.Builder_String_any w.heap.size w.heap.size _ wr Hbu.out hB.size).mono ?_; rintro e w3 ⟨rfl, hB3⟩)
      go_ret
      exact ⟨by rw [List.take_of_length_le (by omega)]; rfl, hB.trans hB3⟩

set_option maxHeartbeats 1000000 in
set_option maxRecDepth 100000 in
theorem readingsText_any (ps : List Rd) (v : Value) (w : World) (hT : Tab10 w) (hok : ∀ p ∈ ps, p.good) (hv : RdSl w v ps) (hlen : ps.length ≤ 1048576) :
    Calls Tryd.prog 45 #[v] w fun e w' => e = .returned (.string (rdText ps)) ∧ Below w.heap.size w w' := by
  rcases hv with ⟨a, c, rfl, rfl⟩ | ⟨b, off, c, rfl, hb, hat⟩
  · clear hT
    go_enter Tryd.func45, Tryd.ntmps45
    go_wp2_with fail
    have hbu : Lib.IsBuilder 54 5 w.heap.size w.heap.size (Lib.byteCells []) (w.alloc (.cells #[.pointer none, .slice none 0 0] 54)) := Lib.fresh_isBuilder _ _ _
    refine wp_loop_rounds 1 ?_
    rw [rounds_succ]
    go_wp2_with (go_at_call 30; refine (Tryd.Builder_String_any w.heap.size w.heap.size [] _ hbu (by simp)).mono ?_; rintro e w3 ⟨rfl, hB3⟩)
    go_ret
    exact ⟨rfl, ((Below.refl _ _).alloc (Nat.le_refl _) _).trans hB3⟩
  · exact readingsText_rows ps hok b off c w hT hb hat hlen
end Go.Proofs.YtgiimcdjojjbmaaDoor
