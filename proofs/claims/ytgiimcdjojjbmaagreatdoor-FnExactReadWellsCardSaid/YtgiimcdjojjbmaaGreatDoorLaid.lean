/- What the rows' conditions say of the library's variables. -/
import Derived.Test.YtgiimcdjojjbmaaGreatDoorE5
import Derived.ProofKit
import Derived.LaidMore
import Derived.OpenShut
import Derived.Deep.Slices
import Derived.Deep.Strs
import Derived.Deep.DeepHandedRow
import Derived.Shelf.Vars
import Derived.Lib.LaidTab
import Derived.Stop.LaidErr
namespace Go.Proofs.YtgiimcdjojjbmaaGreatDoor
open Go Go.ChangeShapes Go.WideShapes Go.ChangeAt Go.WideMaps Go.WideElems Go.RowKit Go.Deep

theorem ownKnob_none : ownKnob Tryz.prog.godebug = none := by kernel_rfl
theorem laidOut_ok : laidOutB Tryz.prog = true := by kernel_rfl
theorem cellsU8 : Tryz.prog.cellsOf 5 = 1 := by kernel_rfl
theorem cellsU64 : Tryz.prog.cellsOf 32 = 1 := by kernel_rfl
theorem cellsStr : Tryz.prog.cellsOf 9 = 1 := by kernel_rfl
theorem cellsErrStr : Tryz.prog.cellsOf 154 = 1 := by kernel_rfl
theorem gDeb : Tryz.prog.globalNamed "math/bits.deBruijn64tab" = some 8 := by kernel_rfl
theorem gDebType : (Tryz.prog.globals[8]?).map (·.type) = some 165 := by kernel_rfl
theorem cellsDeb : Tryz.prog.cellsOf 165 = 64 := by kernel_rfl
theorem gPow : Tryz.prog.globalNamed "internal/strconv.uint64pow10" = some 4 := by kernel_rfl
theorem gPowType : (Tryz.prog.globals[4]?).map (·.type) = some 156 := by kernel_rfl
theorem cellsPow : Tryz.prog.cellsOf 156 = 20 := by kernel_rfl
theorem gEr : Tryz.prog.globalNamed "strconv.ErrRange" = some 3 := by kernel_rfl
theorem gErType : (Tryz.prog.globals[3]?).map (·.type) = some 80 := by kernel_rfl
theorem gEs : Tryz.prog.globalNamed "strconv.ErrSyntax" = some 2 := by kernel_rfl
theorem gEsType : (Tryz.prog.globals[2]?).map (·.type) = some 80 := by kernel_rfl
theorem starErr : "*" ++ "errors.errorString" = "*errors.errorString" := by decide
theorem rowErr (u : TypeId) (h : Tryz.prog.typeName? 3 u = some "*errors.errorString") : u = 152 :=
  typeName_ptr_named (nm := "errors.errorString") (by rw [starErr]; kernel_rfl) (by kernel_rfl) (by decide) u (by rw [starErr]; exact h)

/-- The library's variables stand below the heap's end. -/
theorem var_lt {W : World} {n : String} {g : Nat} {cs : Array Value} (hg : Tryz.prog.globalNamed n = some g) (h : W.var? Tryz.prog n = some cs) : g < W.heap.size := by
  unfold World.var? at h
  rw [hg] at h
  simp only [Option.bind_some] at h
  cases hh : W.heap[g]? with
  | none => rw [hh] at h; cases h
  | some o => exact (Array.getElem?_eq_some_iff.1 hh).1

def deb64 : List Int := [0, 1, 56, 2, 57, 49, 28, 3, 61, 58, 42, 50, 38, 29, 17, 4, 62, 47, 59, 36, 45, 43, 51, 22, 53, 39, 33, 30, 24, 18, 12, 5, 63, 55, 48, 27, 60, 41, 37, 16, 46, 35, 44, 21, 52, 32, 23, 11, 54, 26, 40, 15, 34, 20, 31, 10, 25, 14, 19, 9, 13, 8, 7, 6]

theorem deb_of {W : World} {rest : List (String × DataW Unit)} (h : laidMet Tryz.prog (("math/bits.deBruijn64tab", Lib.tabData .u8 deb64) :: rest) W) : Deb W := by
  have h3 := Lib.tabIs_of_head gDeb gDebType Tryz.underlying165 Tryz.underlying5 cellsU8 cellsDeb h
  exact ⟨(var?_cell gDeb h3 15).trans rfl, var_lt gDeb h3⟩

theorem tab10_of {W : World} {rest : List (String × DataW Unit)} (h : laidMet Tryz.prog (("internal/strconv.uint64pow10", Lib.tabData .u64 Lib.pow10Tab) :: rest) W) : Lib.TabIs Tryz.prog W "internal/strconv.uint64pow10" .u64 Lib.pow10Tab :=
  Lib.tabIs_of_head gPow gPowType Tryz.underlying156 Tryz.underlying32 cellsU64 cellsPow h

theorem errRange_of {W : World} {text : List UInt8} {r : List (String × DataW Unit)} (h : laidMet Tryz.prog (("strconv.ErrRange", .iface "*errors.errorString" (.ptr (.agg [.lit (.string text)]))) :: r) W) : ErrAt W 3 := by
  obtain ⟨a, s, hv, _⟩ := laid_sentinel h gEr gErType Tryz.underlying80 rowErr Tryz.underlying152 Tryz.underlying154 rfl rfl Tryz.underlying9 cellsErrStr cellsStr
  exact ⟨⟨_, (var?_cell gEr hv 0).trans rfl, .inr ⟨_, _, rfl⟩⟩, var_lt gEr hv⟩
theorem errSyn_of {W : World} {text : List UInt8} {r : List (String × DataW Unit)} (h : laidMet Tryz.prog (("strconv.ErrSyntax", .iface "*errors.errorString" (.ptr (.agg [.lit (.string text)]))) :: r) W) : ErrAt W 2 := by
  obtain ⟨a, s, hv, _⟩ := laid_sentinel h gEs gEsType Tryz.underlying80 rowErr Tryz.underlying152 Tryz.underlying154 rfl rfl Tryz.underlying9 cellsErrStr cellsStr
  exact ⟨⟨_, (var?_cell gEs hv 0).trans rfl, .inr ⟨_, _, rfl⟩⟩, var_lt gEs hv⟩

theorem max_of {W : World} (h : W.ShapedOpen Tryz.prog) : MaxAt W := by
  obtain ⟨m, hm⟩ := cell_of_shapedOpen_int (g := 1) (t := 3) (k := .i64) (zero := #[.int .i64 0]) h (of_decide_eq_true (by kernel_rfl)) (by kernel_rfl) (by kernel_rfl) (by kernel_rfl) (by kernel_rfl) Tryz.underlying3
  exact ⟨⟨m, hm⟩, World.block_lt_of_cell? W _ hm⟩
end Go.Proofs.YtgiimcdjojjbmaaGreatDoor
