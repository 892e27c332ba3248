/- impl.decimal and impl.PermitsText. -/
import Derived.Test.YtgiimcdjojjbmaaDoorA3
import Derived.Test.YtgiimcdjojjbmaaDoorC0
import Derived.Test.YtgiimcdjojjbmaaDoorC2
import Derived.Test.YtgiimcdjojjbmaaDoorShelf
import Derived.Lib.AppendIntMem
namespace Go.Proofs.YtgiimcdjojjbmaaDoor
open Go Go.RowKit

/-- The library's table of powers of ten is as its initialiser lays it. -/
def Tab10 (w : World) : Prop := Lib.TabIs Tryd.prog w "internal/strconv.uint64pow10" .u64 Lib.pow10Tab
theorem Tab10.below {w w' : World} (h : Tab10 w) (hB : Below w.heap.size w w') : Tab10 w' := Lib.tabBelow_of_tabIs h w' hB

theorem impl_decimal (z : Int) (w : World) (hT : Tab10 w) (h0 : -9223372036854775808 ≤ z) (h1 : z ≤ 9223372036854775807) : Calls Tryd.prog 29 #[.int .i64 z] w
    fun e w' => e = .returned (.string ⟨(Lib.itoa z).toArray⟩) ∧ Below w.heap.size w w' := by
  have HC := Lib.hid (Tryd.strconv_FormatInt_10 z h0 h1 w hT); clear hT h0 h1
  go_enter Tryd.func29, Tryd.ntmps29
  go_wp2_with (go_at_call 54; refine HC.out.mono ?_; rintro e w' ⟨rfl, k, os, rfl⟩)
  go_ret
  exact ⟨rfl, Lib.below_grow _ _ (Nat.le_refl _) _ _⟩

theorem impl_decimal_nat (z : Int) (w : World) (hT : Tab10 w) (h0 : 0 ≤ z) (h1 : z ≤ 9223372036854775807) : Calls Tryd.prog 29 #[.int .i64 z] w
    fun e w' => e = .returned (.string (decStr z.toNat)) ∧ Below w.heap.size w w' := by
  have := impl_decimal z w hT (by omega) h1
  unfold Lib.itoa at this
  rwa [if_neg (by omega)] at this

theorem strCells_append (a b : ByteArray) : Lib.strCells (a ++ b) = Lib.strCells a ++ Lib.strCells b := by
  simp [Lib.strCells]

theorem builderAt_below {T e B b : Nat} {p : Value} {bs : List Value} {w w' : World} (h : Lib.BuilderAt T e B b p bs w) (hB : Below w.heap.size w w') : Lib.BuilderAt T e B b p bs w' := by
  have hlt := h.lt
  obtain ⟨h1, v, h2, h3, h4⟩ := h
  exact ⟨h1, v, (hB.block _ hlt).trans h2, h3.kept (row := none) ⟨hB.os, hB.tape, hB.output, hB.size, fun k hk _ => hB.block k hk⟩ (by cases v.ownBlock <;> simp), h4⟩
theorem isBuilder_below {T e B b : Nat} {bs : List Value} {w w' : World} (h : Lib.IsBuilder T e B b bs w) (hB : Below w.heap.size w w') : Lib.IsBuilder T e B b bs w' := by
  rcases h with h | h
  · exact .inl (builderAt_below h hB)
  · exact .inr (builderAt_below h hB)

attribute [local go_sem] Plain plainUpon

set_option maxHeartbeats 2000000 in
set_option maxRecDepth 100000 in
theorem implText_rows (ps : List Pm) (hok : ∀ p ∈ ps, p.good) (b off c : Nat) (w : World) (hT : Tab10 w) (hps : ∀ p ∈ ps, p.ok)
    (hb : b < w.heap.size) (hat : PmAt w b off ps) (hlen : ps.length ≤ 6) (hbad : (!anyPm badRate ps) && !anyPm badWho ps) : Calls Tryd.prog 10 #[.slice (some ⟨b, off, none⟩) ps.length c] w
    fun e w' => e = .returned (.string (pmText ps)) ∧ Below w.heap.size w w' := by
  have HP0 := permitsOk_any ps hps (.slice (some ⟨b, off, none⟩) ps.length c) w (.inr ⟨_, _, _, rfl, hb, hat⟩) (by omega)
  rw [show ((decide (ps.length ≤ 6) && !anyPm badRate ps) && !anyPm badWho ps) = true from by rw [decide_eq_true hlen]; simpa using hbad] at HP0
  have HPO := Lib.hid HP0; clear HP0 hbad hps
  have HOK := Lib.hid hok; clear hok
  have HAT := Lib.hid hat; clear hat
  have HT := Lib.hid hT; clear hT
  go_enter Tryd.func10, Tryd.ntmps10
  go_wp2_with (go_at_call 27; refine HPO.out.mono ?_; rintro e w1 ⟨rfl, hB1⟩)
  have hbu : Lib.IsBuilder 54 5 w1.heap.size w1.heap.size [] (w1.alloc (.cells #[.pointer none, .slice none 0 0] 54)) := Lib.fresh_isBuilder _ _ _
  go_loopw [12] (fun i wr => ∃ k : Nat, k ≤ ps.length ∧ i = .int .i64 k ∧ Hid (Lib.IsBuilder 54 5 w1.heap.size w1.heap.size (Lib.strCells (pmText (ps.take k))) wr) ∧ Below w1.heap.size w1 wr) (fun i _ => ps.length - (intOf i).toNat)
  case atStart => exact ⟨0, Nat.zero_le _, rfl, hbu, (Below.refl _ _).alloc (Nat.le_refl _) _⟩
  case round =>
    obtain ⟨k, hk, rfl, Hbu, hB⟩ := hrel
    have hB2 : Below w.heap.size w wr := hB1.trans (hB.mono hB1.size)
    by_cases hlt : k < ps.length
    · obtain ⟨h1, h2, h3⟩ := HAT.out.mono hb hB2 k hlt
      obtain ⟨p, hp⟩ : ∃ p, p = ps.getD k default := ⟨_, rfl⟩
      rw [← hp] at h1 h2 h3
      have HP := Lib.hid hp; clear hp
      have hTs : (pmText (ps.take k)).size ≤ 66 * k := pmText_size ps HOK.out k hk
      have hpo : p.good := HOK.out p (by rw [HP.out]; exact getD_mem _ _ _ hlt)
      obtain ⟨s1, s2, s3, s4, s5, hs5, q1, q2, q3, q4, q5⟩ := line_facts p hpo
      have h5s : s5.size ≤ 66 := by rw [hs5]; exact pmLine_size p hpo
      have HS5 := Lib.hid hs5; clear hs5
      obtain ⟨g1, g2, g3, g4, g5, g6⟩ := hpo
      have wo : IntKind.i64.wrap p.o = p.o := by rw [IntKind.wrap_i64]; omega
      have wc : IntKind.i64.wrap p.c = p.c := by rw [IntKind.wrap_i64]; omega
      have wrr : IntKind.i64.wrap p.r = p.r := by rw [IntKind.wrap_i64]; omega
      clear hbu
      go_wp2_with fail
      obtain ⟨W, hW⟩ : ∃ W, W = wr.alloc (.cells #[.int .i8 p.o, .int .i8 p.c, .int .i16 p.r] 48) := ⟨_, rfl⟩
      rw [← hW]
      have c0 : W.cell? ⟨wr.heap.size, 0, none⟩ = some (.int .i8 p.o) := by rw [hW]; go_simp
      have c1 : W.cell? ⟨wr.heap.size, 1, none⟩ = some (.int .i8 p.c) := by rw [hW]; go_simp
      have c2 : W.cell? ⟨wr.heap.size, 2, none⟩ = some (.int .i16 p.r) := by rw [hW]; go_simp
      have hlt2 : wr.heap.size < W.heap.size := by rw [hW]; simp
      have hA : Below wr.heap.size wr W := by rw [hW]; exact (Below.refl _ _).alloc (Nat.le_refl _) _
      have HBW := Lib.hid (isBuilder_below Hbu.out hA)
      have hBW : Below w1.heap.size w1 W := hB.trans (hA.mono hB.size)
      have HTW := Lib.hid ((HT.out.below hB2).below hA)
      clear hW h1 h2 h3
      refine wp_region_loose_tail 17 (Below W.heap.size W) (fun f args u => ∃ n : Int, args = #[.int .i64 n] ∧ u = .string (decStr n.toNat)) (by kernel_rfl) (by kernel_rfl) (Below.refl _ _).drew ?_
      simp only [List.take_succ_cons, List.take_zero, List.drop_succ_cons, List.drop_zero]
      repeat (first
        | (apply loose_plain (hw := rfl)
           · (intro w' hw'; have d0 := (hw'.cell (p := ⟨wr.heap.size, 0, none⟩) hlt2).trans c0; have d1 := (hw'.cell (p := ⟨wr.heap.size, 1, none⟩) hlt2).trans c1; have d2 := (hw'.cell (p := ⟨wr.heap.size, 2, none⟩) hlt2).trans c2; go_simp; exact rfl)
           simp only [Act.put, List.setIfInBounds_toArray, List.set_cons_zero, List.set_cons_succ]))
      refine loose_call (f := 29) (args := #[.int .i64 p.o]) rfl (fun w' => by go_simp) (fun w' hw' => (impl_decimal_nat p.o w' (HTW.out.below hw') (by omega) (by omega)).mono fun e w2 he => ⟨_, he.1, ⟨_, rfl, rfl⟩, hw'.trans (he.2.mono hw'.size)⟩) ?_
      rintro u ⟨n, hn, rfl⟩
      obtain rfl : n = p.o := by simpa using hn.symm
      simp only [Act.put, List.setIfInBounds_toArray, List.set_cons_zero, List.set_cons_succ]
      repeat (first
        | (apply loose_plain (hw := rfl)
           · (intro w' hw'; have d0 := (hw'.cell (p := ⟨wr.heap.size, 0, none⟩) hlt2).trans c0; have d1 := (hw'.cell (p := ⟨wr.heap.size, 1, none⟩) hlt2).trans c1; have d2 := (hw'.cell (p := ⟨wr.heap.size, 2, none⟩) hlt2).trans c2; go_simp; exact rfl)
           simp only [Act.put, List.setIfInBounds_toArray, List.set_cons_zero, List.set_cons_succ]))
      refine loose_call (f := 29) (args := #[.int .i64 p.c]) rfl (fun w' => by go_simp) (fun w' hw' => (impl_decimal_nat p.c w' (HTW.out.below hw') (by omega) (by omega)).mono fun e w2 he => ⟨_, he.1, ⟨_, rfl, rfl⟩, hw'.trans (he.2.mono hw'.size)⟩) ?_
      rintro u ⟨n, hn, rfl⟩
      obtain rfl : n = p.c := by simpa using hn.symm
      simp only [Act.put, List.setIfInBounds_toArray, List.set_cons_zero, List.set_cons_succ]
      repeat (first
        | (apply loose_plain (hw := rfl)
           · (intro w' hw'; have d0 := (hw'.cell (p := ⟨wr.heap.size, 0, none⟩) hlt2).trans c0; have d1 := (hw'.cell (p := ⟨wr.heap.size, 1, none⟩) hlt2).trans c1; have d2 := (hw'.cell (p := ⟨wr.heap.size, 2, none⟩) hlt2).trans c2; go_simp; exact rfl)
           simp only [Act.put, List.setIfInBounds_toArray, List.set_cons_zero, List.set_cons_succ]))
      refine loose_call (f := 29) (args := #[.int .i64 p.r]) rfl (fun w' => by go_simp) (fun w' hw' => (impl_decimal_nat p.r w' (HTW.out.below hw') (by omega) (by omega)).mono fun e w2 he => ⟨_, he.1, ⟨_, rfl, rfl⟩, hw'.trans (he.2.mono hw'.size)⟩) ?_
      rintro u ⟨n, hn, rfl⟩
      obtain rfl : n = p.r := by simpa using hn.symm
      simp only [Act.put, List.setIfInBounds_toArray, List.set_cons_zero, List.set_cons_succ]
      repeat (first
        | (apply loose_plain (hw := rfl)
           · (intro w' hw'; have d0 := (hw'.cell (p := ⟨wr.heap.size, 0, none⟩) hlt2).trans c0; have d1 := (hw'.cell (p := ⟨wr.heap.size, 1, none⟩) hlt2).trans c1; have d2 := (hw'.cell (p := ⟨wr.heap.size, 2, none⟩) hlt2).trans c2; go_simp; exact rfl)
           simp only [Act.put, List.setIfInBounds_toArray, List.set_cons_zero, List.set_cons_succ]))
      apply wpLoose_nil
      intro w' hw'
      go_wp2_with (go_at_call 28; refine (writeString_any w1.heap.size w1.heap.size _ s5 w' (isBuilder_below HBW.out hw') (by simp [Lib.strCells_length]; omega) (Nat.le_trans hBW.size hw'.size)).mono ?_; rintro e w3 ⟨rfl, hb3, hB3⟩; have Hb3 := Lib.hid hb3; clear hb3)
      go_roundw
      case rel => exact ⟨k + 1, by omega, by go_num, .inr (by rw [pmText_snoc ps k hlt, ← HP.out, ← HS5.out, strCells_append]; exact Hb3.out), (hBW.trans (hw'.mono hBW.size)).trans hB3⟩
      case measure => simp [intOf]; omega
    · clear hbu
      go_wp2_with (go_at_call 30; refine (Tryd.Builder_String_any w1.heap.size w1.heap.size _ wr Hbu.out hB.size).mono ?_; rintro e w3 ⟨rfl, hB3⟩)
      go_ret
      exact ⟨by rw [List.take_of_length_le (by omega)]; rfl, hB2.trans (hB3.mono hB1.size)⟩

/-- What PermitsText returns. -/
def permText (ps : List Pm) : ByteArray := if (decide (ps.length ≤ 6) && !anyPm badP ps) = true then pmText ps else ⟨#[]⟩

theorem bad_parts (ps : List Pm) : anyPm badP ps = (anyPm badRate ps || anyPm badWho ps) := by
  induction ps with
  | nil => rfl
  | cons p r ih =>
    simp only [anyPm, List.any_cons] at *
    rw [ih]
    have : badP p = (badRate p || badWho p) := by
      unfold badP badRate badWho
      cases inB p.o 0 7 <;> cases inB p.c 0 63 <;> cases inB p.r 0 400 <;> rfl
    rw [this]
    cases badRate p <;> cases badWho p <;> simp

theorem good_of {ps : List Pm} (h : anyPm badP ps = false) : ∀ p ∈ ps, p.good := by
  intro p hp
  have : badP p = false := by
    simp only [anyPm, List.any_eq_false] at h
    simpa using h p hp
  unfold badP inB at this
  simp at this
  unfold Pm.good
  omega

set_option maxHeartbeats 1000000 in
set_option maxRecDepth 100000 in
theorem implText_any (ps : List Pm) (v : Value) (w : World) (hT : Tab10 w) (hps : ∀ p ∈ ps, p.ok) (hv : PmSl w v ps) (hlen : ps.length ≤ 1048576) :
    Calls Tryd.prog 10 #[v] w fun e w' => e = .returned (.string (permText ps)) ∧ Below w.heap.size w w' := by
  have HP0 := permitsOk_any ps hps v w hv (by omega)
  have hpt : permText ps = if ((decide (ps.length ≤ 6) && !anyPm badRate ps) && !anyPm badWho ps) = true then pmText ps else ⟨#[]⟩ := by
    unfold permText
    rw [bad_parts]
    cases decide (ps.length ≤ 6) <;> cases anyPm badRate ps <;> cases anyPm badWho ps <;> rfl
  rcases hbd : ((decide (ps.length ≤ 6) && !anyPm badRate ps) && !anyPm badWho ps) with _ | _
  · rw [hpt, hbd]
    rw [hbd] at HP0
    obtain ⟨a, c, rfl⟩ := hv.len
    have HPO := Lib.hid HP0; clear HP0 hbd hps hT hv hpt
    go_enter Tryd.func10, Tryd.ntmps10
    go_wp2_with (go_at_call 27; refine HPO.out.mono ?_; rintro e w1 ⟨rfl, hB1⟩)
    go_ret
    exact ⟨rfl, hB1⟩
  · rw [hpt, hbd]
    simp only [Bool.and_eq_true, decide_eq_true_eq] at hbd
    have hbp : anyPm badP ps = false := by
      rw [bad_parts]
      have h1 := hbd.1.2
      have h2 := hbd.2
      simp at h1 h2
      rw [h1, h2]; rfl
    rcases hv with ⟨a, c, rfl, rfl⟩ | ⟨b, off, c, rfl, hb, hat⟩
    · rw [show ((decide (([] : List Pm).length ≤ 6) && !anyPm badRate []) && !anyPm badWho []) = true from rfl] at HP0
      have HPO := Lib.hid HP0; clear HP0 hbd hps hT hpt hbp
      go_enter Tryd.func10, Tryd.ntmps10
      go_wp2_with (go_at_call 27; refine HPO.out.mono ?_; rintro e w1 ⟨rfl, hB1⟩)
      have hbu : Lib.IsBuilder 54 5 w1.heap.size w1.heap.size (Lib.byteCells []) (w1.alloc (.cells #[.pointer none, .slice none 0 0] 54)) := Lib.fresh_isBuilder _ _ _
      refine wp_loop_rounds 1 ?_
      rw [rounds_succ]
      go_wp2_with (go_at_call 30; refine (Tryd.Builder_String_any w1.heap.size w1.heap.size [] _ hbu (by simp)).mono ?_; rintro e w3 ⟨rfl, hB3⟩)
      go_ret
      exact ⟨rfl, (hB1.alloc hB1.size _).trans (hB3.mono hB1.size)⟩
    · exact implText_rows ps (good_of hbp) b off c w hT hps hb hat hbd.1.1 (by simp [hbd.1.2, hbd.2])
end Go.Proofs.YtgiimcdjojjbmaaDoor
