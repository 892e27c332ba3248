/- spec.Decimal: the decimal text of a number that is not negative. -/
import Derived.Test.YtgiimcdjojjbmaaGreatDoorA0
import Derived.Lib.Hide
import Derived.Lib.ItoaNum
import Derived.Lib.ItoaLen
import Derived.Lib.ItoaMem
import Derived.Deep.RegionWith
import Derived.Laws.BytesString
namespace Go.Proofs.YtgiimcdjojjbmaaGreatDoor
open Go Go.RowKit

def decStr (n : Nat) : ByteArray := ⟨(Lib.decDigits n).toArray⟩

theorem decStr_small (n : Nat) (h : n < 10) : decStr n = ⟨#[UInt8.ofNat (48 + n)]⟩ := by
  unfold decStr; rw [Lib.decDigits_one h]
theorem decStr_big (n : Nat) (h : ¬ n < 10) : decStr n = decStr (n / 10) ++ ⟨#[UInt8.ofNat (48 + n % 10)]⟩ := by
  unfold decStr; rw [Lib.decDigits, dif_neg h]; apply ByteArray.ext; simp

theorem decStr_size (n : Nat) (h : n ≤ 9223372036854775807) : (decStr n).size ≤ 21 := by
  have := Lib.itoa_length_le (n : Int) (by omega) (by omega)
  rw [Lib.itoa_nonneg] at this
  show (Lib.decDigits n).toArray.size ≤ 21
  simpa using this

theorem conv_one (w : World) (g : Nat) (d : Nat) (hd : d < 256) (hc : w.cell? ⟨g, 0, none⟩ = some (.int .u8 d)) :
    (convert 90 9 (.slice (some ⟨g, 0, none⟩) 1 1)).run Tryz.prog w = .ok (.string ⟨#[UInt8.ofNat d]⟩) w := by
  have := run_convert_bytes_back (P := Tryz.prog) w 90 9 5 ⟨g, 0, none⟩ 1 [UInt8.ofNat d] Tryz.underlying90 Tryz.underlying5 Tryz.underlying9 (by
    intro j hj
    have : j = 0 := by simpa using hj
    subst this
    simp only [Addr.add, if_true, List.getElem_cons_zero]
    rw [hc]; congr 2; simp [UInt8.toNat_ofNat']; omega)
  exact this

theorem conv_new (w : World) (d : Nat) (hd : d < 256) :
    (convert 90 9 (.slice (some ⟨w.heap.size, 0, none⟩) 1 1)).run Tryz.prog (w.alloc (.cells #[.int .u8 d] 5)) = .ok (.string ⟨#[UInt8.ofNat d]⟩) (w.alloc (.cells #[.int .u8 d] 5)) :=
  conv_one _ _ d hd (by have h := heap_alloc_new w (.cells #[.int .u8 d] 5); simp only [World.cell?]; rw [h]; rfl)

end Go.Proofs.YtgiimcdjojjbmaaGreatDoor
