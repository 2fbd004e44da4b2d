/-
  DERIVED. GIVEN WITH THE SEED: THE CARDS: each row of YtgdopjkanibfeaaGreatDoorRows.lean that lists a variable, with what it lists TIED to the program's text (the seventh form; the later family's looks); each row that meets fmt, with fmt's text TOLD by the authors' own Lean function (tested against real Go, not proved from fmt's source: count such statements apart). THE CARD IS WHAT COUNTS. Prove the row's statement (the work); the ties are given (YtgdopjkanibfeaaGreatDoorTie.lean); close each card by the builder's one call (the guide's Derived/Test/ToyasCard.lean, 'card_holds'). Laid BY PROGRAM, IN A SANDBOX (cutbox-door.mjs). By AI agents, Wed Nov 11 2026. No macro, syntax, notation, axiom, sorry.
-/
import Derived.Test.YtgdopjkanibfeaaGreatDoorRows
import GoSem.ClaimSeven
namespace Go.Proofs.YtgdopjkanibfeaaGreatDoor
namespace Rows

/-- THE TIED CARD OF 'laws.FnExecutePeaks'. -/
def fnExecutePeaksCard : Claim7 := { stood := { row := fnExecutePeaksRow, standIns := [], harness := (true, "9d606576168e9952a125fd280379252b735056bba971068722643c92497587c1"), looks := true }, kinds := [], alts := [], laidByText := true, laidKinds := [.data, .data, .data, .data, .pinned], laidTests := true, laidLooks := .later }
def FnExecutePeaksCardSaid : Prop := Claim7.holds Tryz.pinned (.plain (OpenSpec.ofChange fnExecutePeaksSpec)) fnExecutePeaksCard

/-- THE TIED CARD OF 'laws.FnExecuteRun'. -/
def fnExecuteRunCard : Claim7 := { stood := { row := fnExecuteRunRow, standIns := [], harness := (true, "9d606576168e9952a125fd280379252b735056bba971068722643c92497587c1"), looks := true }, kinds := [], alts := [], laidByText := true, laidKinds := [.data, .data, .data, .data, .pinned], laidTests := true, laidLooks := .later }
def FnExecuteRunCardSaid : Prop := Claim7.holds Tryz.pinned (.plain (OpenSpec.ofChange fnExecuteRunSpec)) fnExecuteRunCard

/-- THE TIED CARD OF 'laws.FnExecuteFill'. -/
def fnExecuteFillCard : Claim7 := { stood := { row := fnExecuteFillRow, standIns := [], harness := (true, "9d606576168e9952a125fd280379252b735056bba971068722643c92497587c1"), looks := true }, kinds := [], alts := [], laidByText := true, laidKinds := [.data, .data, .data, .data, .pinned], laidTests := true, laidLooks := .later }
def FnExecuteFillCardSaid : Prop := Claim7.holds Tryz.pinned (.plain (OpenSpec.ofChange fnExecuteFillSpec)) fnExecuteFillCard

/-- THE TIED CARD OF 'laws.FnExecuteLand'. -/
def fnExecuteLandCard : Claim7 := { stood := { row := fnExecuteLandRow, standIns := [], harness := (true, "9d606576168e9952a125fd280379252b735056bba971068722643c92497587c1"), looks := true }, kinds := [], alts := [], laidByText := true, laidKinds := [.data, .data, .data, .data, .pinned], laidTests := true, laidLooks := .later }
def FnExecuteLandCardSaid : Prop := Claim7.holds Tryz.pinned (.plain (OpenSpec.ofChange fnExecuteLandSpec)) fnExecuteLandCard

/-- THE SECOND FORM's CARD OF 'laws.FnExecutePeaks'. -/
def fnExecutePeaksUptoCard : Claim7 := { stood := { row := fnExecutePeaksUptoRow, standIns := [], harness := (true, "9d606576168e9952a125fd280379252b735056bba971068722643c92497587c1"), looks := true }, kinds := [], alts := [], laidByText := true, laidKinds := [.data, .data, .data, .data, .pinned], laidTests := true, laidLooks := .later }
def FnExecutePeaksUptoCardSaid : Prop := Claim7.holds Tryz.pinned (.plain (OpenSpec.upto fnExecutePeaksSpec)) fnExecutePeaksUptoCard

/-- THE SECOND FORM's CARD OF 'laws.FnExecuteRun'. -/
def fnExecuteRunUptoCard : Claim7 := { stood := { row := fnExecuteRunUptoRow, standIns := [], harness := (true, "9d606576168e9952a125fd280379252b735056bba971068722643c92497587c1"), looks := true }, kinds := [], alts := [], laidByText := true, laidKinds := [.data, .data, .data, .data, .pinned], laidTests := true, laidLooks := .later }
def FnExecuteRunUptoCardSaid : Prop := Claim7.holds Tryz.pinned (.plain (OpenSpec.upto fnExecuteRunSpec)) fnExecuteRunUptoCard

/-- THE SECOND FORM's CARD OF 'laws.FnExecuteFill'. -/
def fnExecuteFillUptoCard : Claim7 := { stood := { row := fnExecuteFillUptoRow, standIns := [], harness := (true, "9d606576168e9952a125fd280379252b735056bba971068722643c92497587c1"), looks := true }, kinds := [], alts := [], laidByText := true, laidKinds := [.data, .data, .data, .data, .pinned], laidTests := true, laidLooks := .later }
def FnExecuteFillUptoCardSaid : Prop := Claim7.holds Tryz.pinned (.plain (OpenSpec.upto fnExecuteFillSpec)) fnExecuteFillUptoCard

/-- THE SECOND FORM's CARD OF 'laws.FnExecuteLand'. -/
def fnExecuteLandUptoCard : Claim7 := { stood := { row := fnExecuteLandUptoRow, standIns := [], harness := (true, "9d606576168e9952a125fd280379252b735056bba971068722643c92497587c1"), looks := true }, kinds := [], alts := [], laidByText := true, laidKinds := [.data, .data, .data, .data, .pinned], laidTests := true, laidLooks := .later }
def FnExecuteLandUptoCardSaid : Prop := Claim7.holds Tryz.pinned (.plain (OpenSpec.upto fnExecuteLandSpec)) fnExecuteLandUptoCard
end Rows
end Go.Proofs.YtgdopjkanibfeaaGreatDoor
