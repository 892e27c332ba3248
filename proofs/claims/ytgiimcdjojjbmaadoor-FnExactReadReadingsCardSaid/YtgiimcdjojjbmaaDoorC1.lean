/- spec.Decimal: the decimal text of a number that is not negative. -/
import Derived.Test.YtgiimcdjojjbmaaDoorA0
import Derived.Lib.Hide
import Derived.Lib.ItoaNum
import Derived.Lib.ItoaLen
import Derived.Lib.ItoaMem
import Derived.Deep.RegionWith
import Derived.Laws.BytesString
namespace Go.Proofs.YtgiimcdjojjbmaaDoor
open Go Go.RowKit

def decStr (n : Nat) : ByteArray := ⟨(Lib.decDigits n).toArray⟩

theorem decStr_small (n : Nat) (h : n < 10) : decStr n = ⟨#[UInt8.ofNat (48 + n)]⟩ := by
  unfold decStr; rw [Lib.decDigits_one h]
theorem decStr_big (n : Nat) (h : ¬ n < 10) : decStr n = decStr (n / 10) ++ ⟨#[UInt8.ofNat (48 + n % 10)]⟩ := by
  unfold decStr; rw [Lib.decDigits, dif_neg h]; apply ByteArray.ext; simp

theorem decStr_size (n : Nat) (h : n ≤ 9223372036854775807) : (decStr n).size ≤ 21 := by
  have := Lib.itoa_length_le (n : Int) (by omega) (by omega)
  rw [Lib.itoa_nonneg] at this
  show (Lib.decDigits n).toArray.size ≤ 21
  simpa using this

theorem conv_one (w : World) (g : Nat) (d : Nat) (hd : d < 256) (hc : w.cell? ⟨g, 0, none⟩ = some (.int .u8 d)) :
    (convert 52 9 (.slice (some ⟨g, 0, none⟩) 1 1)).run Tryd.prog w = .ok (.string ⟨#[UInt8.ofNat d]⟩) w := by
  have := run_convert_bytes_back (P := Tryd.prog) w 52 9 5 ⟨g, 0, none⟩ 1 [UInt8.ofNat d] Tryd.underlying52 Tryd.underlying5 Tryd.underlying9 (by
    intro j hj
    have : j = 0 := by simpa using hj
    subst this
    simp only [Addr.add, if_true, List.getElem_cons_zero]
    rw [hc]; congr 2; simp [UInt8.toNat_ofNat']; omega)
  exact this

theorem conv_new (w : World) (d : Nat) (hd : d < 256) :
    (convert 52 9 (.slice (some ⟨w.heap.size, 0, none⟩) 1 1)).run Tryd.prog (w.alloc (.cells #[.int .u8 d] 5)) = .ok (.string ⟨#[UInt8.ofNat d]⟩) (w.alloc (.cells #[.int .u8 d] 5)) :=
  conv_one _ _ d hd (by have h := heap_alloc_new w (.cells #[.int .u8 d] 5); simp only [World.cell?]; rw [h]; rfl)

set_option maxRecDepth 100000 in
theorem decimal_small (n : Nat) (w : World) (h : n < 10) : Calls Tryd.prog 47 #[.int .i64 n] w
    fun e w' => e = .returned (.string (decStr n)) ∧ Below w.heap.size w w' := by
  have hcv := fun w => conv_new w (48 + n) (by omega)
  simp only [Int.natCast_add, Int.cast_ofNat_Int] at hcv
  go_enter Tryd.func47, Tryd.ntmps47
  go_wp2
  go_ret
  exact ⟨by rw [decStr_small n h]; simp, (Below.refl _ _).alloc (Nat.le_refl _) _⟩

set_option maxHeartbeats 2000000 in
set_option maxRecDepth 100000 in
theorem decimal_big (n : Nat) (w : World) (h : 10 ≤ n) (hn : n < 1000000000) (ih : ∀ w, Calls Tryd.prog 47 #[.int .i64 ((n : Int) / 10)] w
    fun e w' => e = .returned (.string (decStr (n / 10))) ∧ Below w.heap.size w w') : Calls Tryd.prog 47 #[.int .i64 n] w
    fun e w' => e = .returned (.string (decStr n)) ∧ Below w.heap.size w w' := by
  have IH := Lib.hid ih; clear ih
  go_enter Tryd.func47, Tryd.ntmps47
  go_wp2_with fail
  have e1 : IntKind.i64.wrap ((n : Int) / 10) = (n : Int) / 10 := by rw [IntKind.wrap_i64]; omega
  have e2 : (n : Int).tmod 10 = (n : Int) % 10 := Int.tmod_eq_emod_of_nonneg (by omega)
  have e3 : IntKind.i64.wrap (48 + (n : Int) % 10) = 48 + (n : Int) % 10 := by rw [IntKind.wrap_i64]; omega
  have e4 : IntKind.u8.wrap (48 + (n : Int) % 10) = 48 + (n : Int) % 10 := by simp only [IntKind.wrap]; simp [IntKind.signed, IntKind.bits]; omega
  obtain ⟨u, hu⟩ : ∃ u : ByteArray, u = ⟨#[UInt8.ofNat (48 + n % 10)]⟩ := ⟨_, rfl⟩
  have hcv : ∀ (wx : World) (g : Nat), wx.cell? ⟨g, 0, none⟩ = some (.int .u8 (48 + (n : Int) % 10)) → (convert 52 9 (.slice (some ⟨g, 0, none⟩) 1 1)).run Tryd.prog wx = .ok (.string u) wx :=
    fun wx g hc => by rw [hu]; exact conv_one wx g (48 + n % 10) (by omega) (by rw [hc]; simp)
  have hsum : ∀ wx : World, (Op.stringOp .add (decStr (n / 10)) u).run Tryd.prog wx = .ok (.string (decStr n)) wx := fun wx => by
    have hz := decStr_size (n / 10) (by omega)
    have hu1 : u.size = 1 := by rw [hu]; rfl
    rw [run_string_add_sum wx _ _ (by omega), decStr_big n (by omega), hu]
  clear hu
  go_region_with (go_at_call 47; refine (IH.out _).mono ?_; rintro e w1 ⟨rfl, hB1⟩; have hk := hB1.cell (p := ⟨w.heap.size, 0, none⟩))
  all_goals
    go_wp2
    go_ret
    refine ⟨rfl, ?_⟩
    first
      | exact ((Below.refl _ w).drew.trans hB1).alloc (by have := hB1.size; exact this) _
      | exact ((Below.refl _ w).drew.alloc (Nat.le_refl _) _).trans (hB1.mono (by simp))

set_option maxRecDepth 100000 in
/-- spec.Decimal at a number of at most nine digits. -/
theorem decimal_any (n : Nat) : ∀ (w : World), n < 1000000000 → Calls Tryd.prog 47 #[.int .i64 n] w
    fun e w' => e = .returned (.string (decStr n)) ∧ Below w.heap.size w w' := by
  induction n using Nat.strongRecOn with
  | _ n ih =>
    intro w hn
    by_cases h : n < 10
    · exact decimal_small n w h
    · refine decimal_big n w (by omega) hn fun w => ?_
      have := ih (n / 10) (by omega) w (by omega)
      rwa [show ((n / 10 : Nat) : Int) = (n : Int) / 10 from by omega] at this

theorem decimal_int (z : Int) (w : World) (h0 : 0 ≤ z) (h1 : z < 1000000000) : Calls Tryd.prog 47 #[.int .i64 z] w
    fun e w' => e = .returned (.string (decStr z.toNat)) ∧ Below w.heap.size w w' := by
  have := decimal_any z.toNat w (by omega)
  rwa [show ((z.toNat : Nat) : Int) = z from by omega] at this
end Go.Proofs.YtgiimcdjojjbmaaDoor
