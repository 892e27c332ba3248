/-
  DERIVED. GIVEN WITH THE SEED: THE CARDS: each row of YtgiimcdjojjbmaaDoorRows.lean that lists a variable, with what it lists TIED to the program's text (the seventh form; the later family's looks); each row that meets fmt, with fmt's text TOLD by the authors' own Lean function (tested against real Go, not proved from fmt's source: count such statements apart). THE CARD IS WHAT COUNTS. Prove the row's statement (the work); the ties are given (YtgiimcdjojjbmaaDoorTie.lean); close each card by the builder's one call (the guide's Derived/Test/ToyasCard.lean, 'card_holds'). Laid BY PROGRAM, IN A SANDBOX (cutbox-door.mjs). By AI agents, Wed Nov 11 2026. No macro, syntax, notation, axiom, sorry.
-/
import Derived.Test.YtgiimcdjojjbmaaDoorRows
import GoSem.ClaimSeven
namespace Go.Proofs.YtgiimcdjojjbmaaDoor
namespace Rows

/-- THE TIED CARD OF 'laws.FnExactPermitsText'. -/
def fnExactPermitsTextCard : Claim7 := { stood := { row := fnExactPermitsTextRow, standIns := [], harness := (true, "da8006b1ee4d5cc67bb54356229f5b54e57f0206a0c841df9a6a1c0a27eb3dbc"), looks := true }, kinds := [], alts := [], laidByText := true, laidKinds := [.data, .data, .data], laidTests := true, laidLooks := .later }
def FnExactPermitsTextCardSaid : Prop := Claim7.holds Tryd.pinned (.plain (OpenSpec.ofChange fnExactPermitsTextSpec)) fnExactPermitsTextCard

/-- THE TIED CARD OF 'laws.FnExactReadWave'. -/
def fnExactReadWaveCard : Claim7 := { stood := { row := fnExactReadWaveRow, standIns := [], harness := (true, "da8006b1ee4d5cc67bb54356229f5b54e57f0206a0c841df9a6a1c0a27eb3dbc"), looks := true }, kinds := [], alts := [], laidByText := true, laidKinds := [.data, .data, .data, .sentinel, .sentinel], laidTests := true, laidLooks := .later }
def FnExactReadWaveCardSaid : Prop := Claim7.holds Tryd.pinned (.plain (OpenSpec.ofChange fnExactReadWaveSpec)) fnExactReadWaveCard

/-- THE TIED CARD OF 'laws.FnExactReadReadings'. -/
def fnExactReadReadingsCard : Claim7 := { stood := { row := fnExactReadReadingsRow, standIns := [], harness := (true, "da8006b1ee4d5cc67bb54356229f5b54e57f0206a0c841df9a6a1c0a27eb3dbc"), looks := true }, kinds := [], alts := [], laidByText := true, laidKinds := [.data, .data, .data, .data, .sentinel, .sentinel, .pinned], laidTests := true, laidLooks := .later }
def FnExactReadReadingsCardSaid : Prop := Claim7.holds Tryd.pinned (.plain (OpenSpec.ofChange fnExactReadReadingsSpec)) fnExactReadReadingsCard

/-- THE TIED CARD OF 'laws.FnExactReadPermits'. -/
def fnExactReadPermitsCard : Claim7 := { stood := { row := fnExactReadPermitsRow, standIns := [], harness := (true, "da8006b1ee4d5cc67bb54356229f5b54e57f0206a0c841df9a6a1c0a27eb3dbc"), looks := true }, kinds := [], alts := [], laidByText := true, laidKinds := [.data, .data, .data, .data, .sentinel, .sentinel, .pinned], laidTests := true, laidLooks := .later }
def FnExactReadPermitsCardSaid : Prop := Claim7.holds Tryd.pinned (.plain (OpenSpec.ofChange fnExactReadPermitsSpec)) fnExactReadPermitsCard

/-- THE SECOND FORM's CARD OF 'laws.FnExactPermitsText'. -/
def fnExactPermitsTextUptoCard : Claim7 := { stood := { row := fnExactPermitsTextUptoRow, standIns := [], harness := (true, "da8006b1ee4d5cc67bb54356229f5b54e57f0206a0c841df9a6a1c0a27eb3dbc"), looks := true }, kinds := [], alts := [], laidByText := true, laidKinds := [.data, .data, .data], laidTests := true, laidLooks := .later }
def FnExactPermitsTextUptoCardSaid : Prop := Claim7.holds Tryd.pinned (.plain (OpenSpec.upto fnExactPermitsTextSpec)) fnExactPermitsTextUptoCard

/-- THE SECOND FORM's CARD OF 'laws.FnExactReadWave'. -/
def fnExactReadWaveUptoCard : Claim7 := { stood := { row := fnExactReadWaveUptoRow, standIns := [], harness := (true, "da8006b1ee4d5cc67bb54356229f5b54e57f0206a0c841df9a6a1c0a27eb3dbc"), looks := true }, kinds := [], alts := [], laidByText := true, laidKinds := [.data, .data, .data, .sentinel, .sentinel], laidTests := true, laidLooks := .later }
def FnExactReadWaveUptoCardSaid : Prop := Claim7.holds Tryd.pinned (.plain (OpenSpec.upto fnExactReadWaveSpec)) fnExactReadWaveUptoCard

/-- THE SECOND FORM's CARD OF 'laws.FnExactReadReadings'. -/
def fnExactReadReadingsUptoCard : Claim7 := { stood := { row := fnExactReadReadingsUptoRow, standIns := [], harness := (true, "da8006b1ee4d5cc67bb54356229f5b54e57f0206a0c841df9a6a1c0a27eb3dbc"), looks := true }, kinds := [], alts := [], laidByText := true, laidKinds := [.data, .data, .data, .data, .sentinel, .sentinel, .pinned], laidTests := true, laidLooks := .later }
def FnExactReadReadingsUptoCardSaid : Prop := Claim7.holds Tryd.pinned (.plain (OpenSpec.upto fnExactReadReadingsSpec)) fnExactReadReadingsUptoCard

/-- THE SECOND FORM's CARD OF 'laws.FnExactReadPermits'. -/
def fnExactReadPermitsUptoCard : Claim7 := { stood := { row := fnExactReadPermitsUptoRow, standIns := [], harness := (true, "da8006b1ee4d5cc67bb54356229f5b54e57f0206a0c841df9a6a1c0a27eb3dbc"), looks := true }, kinds := [], alts := [], laidByText := true, laidKinds := [.data, .data, .data, .data, .sentinel, .sentinel, .pinned], laidTests := true, laidLooks := .later }
def FnExactReadPermitsUptoCardSaid : Prop := Claim7.holds Tryd.pinned (.plain (OpenSpec.upto fnExactReadPermitsSpec)) fnExactReadPermitsUptoCard
end Rows
end Go.Proofs.YtgiimcdjojjbmaaDoor
