/-
  DERIVED. GIVEN WITH THE SEED: THE CARDS: each row of YteenlohkhckjkaaDoorRows.lean that lists a variable, with what it lists TIED to the program's text (the seventh form; the later family's looks); each row that meets fmt, with fmt's text TOLD by the authors' own Lean function (tested against real Go, not proved from fmt's source: count such statements apart). THE CARD IS WHAT COUNTS. Prove the row's statement (the work); the ties are given (YteenlohkhckjkaaDoorTie.lean); close each card by the builder's one call (the guide's Derived/Test/ToyasCard.lean, 'card_holds'). Laid BY PROGRAM, IN A SANDBOX (cutbox-door.mjs). By AI agents, Wed Nov 11 2026. No macro, syntax, notation, axiom, sorry.
-/
import Derived.Test.YteenlohkhckjkaaDoorRows
import GoSem.ClaimSeven
namespace Go.Proofs.YteenlohkhckjkaaDoor
namespace Rows

/-- THE TIED CARD OF 'laws.FnExactSheetOf'. -/
def fnExactSheetOfCard : Claim7 := { stood := { row := fnExactSheetOfRow, standIns := [], harness := (true, "103cad5cf5fc344539313e80ae06f099fe1a5f6598e38491e82fa59b6221bbaf"), looks := false }, kinds := [], alts := [], laidByText := true, laidKinds := [.data, .data, .data], laidTests := true, laidLooks := .later }
def FnExactSheetOfCardSaid : Prop := Claim7.holds Tryd.pinned (.plain (OpenSpec.ofChange fnExactSheetOfSpec)) fnExactSheetOfCard

/-- THE TIED CARD OF 'laws.FnExactPlaceName'. -/
def fnExactPlaceNameCard : Claim7 := { stood := { row := fnExactPlaceNameRow, standIns := [], harness := (true, "103cad5cf5fc344539313e80ae06f099fe1a5f6598e38491e82fa59b6221bbaf"), looks := false }, kinds := [], alts := [], laidByText := true, laidKinds := [.data, .data, .data], laidTests := true, laidLooks := .later }
def FnExactPlaceNameCardSaid : Prop := Claim7.holds Tryd.pinned (.plain (OpenSpec.ofChange fnExactPlaceNameSpec)) fnExactPlaceNameCard

/-- THE TIED CARD OF 'laws.FnExactSheetBeside'. -/
def fnExactSheetBesideCard : Claim7 := { stood := { row := fnExactSheetBesideRow, standIns := [], harness := (true, "103cad5cf5fc344539313e80ae06f099fe1a5f6598e38491e82fa59b6221bbaf"), looks := false }, kinds := [], alts := [], laidByText := true, laidKinds := [.data, .data, .data], laidTests := true, laidLooks := .later }
def FnExactSheetBesideCardSaid : Prop := Claim7.holds Tryd.pinned (.plain (OpenSpec.ofChange fnExactSheetBesideSpec)) fnExactSheetBesideCard

/-- THE TIED CARD OF 'laws.FnExactSheetsBetween'. -/
def fnExactSheetsBetweenCard : Claim7 := { stood := { row := fnExactSheetsBetweenRow, standIns := [], harness := (true, "103cad5cf5fc344539313e80ae06f099fe1a5f6598e38491e82fa59b6221bbaf"), looks := false }, kinds := [], alts := [], laidByText := true, laidKinds := [.data, .data, .data], laidTests := true, laidLooks := .later }
def FnExactSheetsBetweenCardSaid : Prop := Claim7.holds Tryd.pinned (.plain (OpenSpec.ofChange fnExactSheetsBetweenSpec)) fnExactSheetsBetweenCard

/-- THE TIED CARD OF 'laws.FnSheetBeside'. -/
def fnSheetBesideCard : Claim7 := { stood := { row := fnSheetBesideRow, standIns := [], harness := (true, "103cad5cf5fc344539313e80ae06f099fe1a5f6598e38491e82fa59b6221bbaf"), looks := false }, kinds := [], alts := [], laidByText := true, laidKinds := [.data, .data, .data], laidTests := true, laidLooks := .later }
def FnSheetBesideCardSaid : Prop := Claim7.holds Tryd.pinned (.plain (OpenSpec.ofChange fnSheetBesideSpec)) fnSheetBesideCard

/-- THE TIED CARD OF 'laws.FnPlaceFar'. -/
def fnPlaceFarCard : Claim7 := { stood := { row := fnPlaceFarRow, standIns := [], harness := (true, "103cad5cf5fc344539313e80ae06f099fe1a5f6598e38491e82fa59b6221bbaf"), looks := false }, kinds := [], alts := [], laidByText := true, laidKinds := [.data, .data, .data], laidTests := true, laidLooks := .later }
def FnPlaceFarCardSaid : Prop := Claim7.holds Tryd.pinned (.plain (OpenSpec.ofChange fnPlaceFarSpec)) fnPlaceFarCard

/-- THE TIED CARD OF 'laws.FnSheetFrom'. -/
def fnSheetFromCard : Claim7 := { stood := { row := fnSheetFromRow, standIns := [], harness := (true, "103cad5cf5fc344539313e80ae06f099fe1a5f6598e38491e82fa59b6221bbaf"), looks := false }, kinds := [], alts := [], laidByText := true, laidKinds := [.data, .data, .data], laidTests := true, laidLooks := .later }
def FnSheetFromCardSaid : Prop := Claim7.holds Tryd.pinned (.plain (OpenSpec.ofChange fnSheetFromSpec)) fnSheetFromCard

/-- THE TIED CARD OF 'laws.FnSheetOf'. -/
def fnSheetOfCard : Claim7 := { stood := { row := fnSheetOfRow, standIns := [], harness := (true, "103cad5cf5fc344539313e80ae06f099fe1a5f6598e38491e82fa59b6221bbaf"), looks := false }, kinds := [], alts := [], laidByText := true, laidKinds := [.data, .data, .data], laidTests := true, laidLooks := .later }
def FnSheetOfCardSaid : Prop := Claim7.holds Tryd.pinned (.plain (OpenSpec.ofChange fnSheetOfSpec)) fnSheetOfCard

/-- THE TIED CARD OF 'laws.FnPlaceName'. -/
def fnPlaceNameCard : Claim7 := { stood := { row := fnPlaceNameRow, standIns := [], harness := (true, "103cad5cf5fc344539313e80ae06f099fe1a5f6598e38491e82fa59b6221bbaf"), looks := false }, kinds := [], alts := [], laidByText := true, laidKinds := [.data, .data, .data], laidTests := true, laidLooks := .later }
def FnPlaceNameCardSaid : Prop := Claim7.holds Tryd.pinned (.plain (OpenSpec.ofChange fnPlaceNameSpec)) fnPlaceNameCard

/-- THE TIED CARD OF 'laws.FnSheetsBetween'. -/
def fnSheetsBetweenCard : Claim7 := { stood := { row := fnSheetsBetweenRow, standIns := [], harness := (true, "103cad5cf5fc344539313e80ae06f099fe1a5f6598e38491e82fa59b6221bbaf"), looks := false }, kinds := [], alts := [], laidByText := true, laidKinds := [.data, .data, .data], laidTests := true, laidLooks := .later }
def FnSheetsBetweenCardSaid : Prop := Claim7.holds Tryd.pinned (.plain (OpenSpec.ofChange fnSheetsBetweenSpec)) fnSheetsBetweenCard

/-- THE TIED CARD OF 'laws.FnPlaceFrom'. -/
def fnPlaceFromCard : Claim7 := { stood := { row := fnPlaceFromRow, standIns := [], harness := (true, "103cad5cf5fc344539313e80ae06f099fe1a5f6598e38491e82fa59b6221bbaf"), looks := false }, kinds := [], alts := [], laidByText := true, laidKinds := [.data, .data, .data], laidTests := true, laidLooks := .later }
def FnPlaceFromCardSaid : Prop := Claim7.holds Tryd.pinned (.plain (OpenSpec.ofChange fnPlaceFromSpec)) fnPlaceFromCard

/-- THE SECOND FORM's CARD OF 'laws.FnExactSheetOf'. -/
def fnExactSheetOfUptoCard : Claim7 := { stood := { row := fnExactSheetOfUptoRow, standIns := [], harness := (true, "103cad5cf5fc344539313e80ae06f099fe1a5f6598e38491e82fa59b6221bbaf"), looks := false }, kinds := [], alts := [], laidByText := true, laidKinds := [.data, .data, .data], laidTests := true, laidLooks := .later }
def FnExactSheetOfUptoCardSaid : Prop := Claim7.holds Tryd.pinned (.plain (OpenSpec.upto fnExactSheetOfSpec)) fnExactSheetOfUptoCard

/-- THE SECOND FORM's CARD OF 'laws.FnExactPlaceName'. -/
def fnExactPlaceNameUptoCard : Claim7 := { stood := { row := fnExactPlaceNameUptoRow, standIns := [], harness := (true, "103cad5cf5fc344539313e80ae06f099fe1a5f6598e38491e82fa59b6221bbaf"), looks := false }, kinds := [], alts := [], laidByText := true, laidKinds := [.data, .data, .data], laidTests := true, laidLooks := .later }
def FnExactPlaceNameUptoCardSaid : Prop := Claim7.holds Tryd.pinned (.plain (OpenSpec.upto fnExactPlaceNameSpec)) fnExactPlaceNameUptoCard

/-- THE SECOND FORM's CARD OF 'laws.FnExactSheetBeside'. -/
def fnExactSheetBesideUptoCard : Claim7 := { stood := { row := fnExactSheetBesideUptoRow, standIns := [], harness := (true, "103cad5cf5fc344539313e80ae06f099fe1a5f6598e38491e82fa59b6221bbaf"), looks := false }, kinds := [], alts := [], laidByText := true, laidKinds := [.data, .data, .data], laidTests := true, laidLooks := .later }
def FnExactSheetBesideUptoCardSaid : Prop := Claim7.holds Tryd.pinned (.plain (OpenSpec.upto fnExactSheetBesideSpec)) fnExactSheetBesideUptoCard

/-- THE SECOND FORM's CARD OF 'laws.FnExactSheetsBetween'. -/
def fnExactSheetsBetweenUptoCard : Claim7 := { stood := { row := fnExactSheetsBetweenUptoRow, standIns := [], harness := (true, "103cad5cf5fc344539313e80ae06f099fe1a5f6598e38491e82fa59b6221bbaf"), looks := false }, kinds := [], alts := [], laidByText := true, laidKinds := [.data, .data, .data], laidTests := true, laidLooks := .later }
def FnExactSheetsBetweenUptoCardSaid : Prop := Claim7.holds Tryd.pinned (.plain (OpenSpec.upto fnExactSheetsBetweenSpec)) fnExactSheetsBetweenUptoCard

/-- THE SECOND FORM's CARD OF 'laws.FnSheetBeside'. -/
def fnSheetBesideUptoCard : Claim7 := { stood := { row := fnSheetBesideUptoRow, standIns := [], harness := (true, "103cad5cf5fc344539313e80ae06f099fe1a5f6598e38491e82fa59b6221bbaf"), looks := false }, kinds := [], alts := [], laidByText := true, laidKinds := [.data, .data, .data], laidTests := true, laidLooks := .later }
def FnSheetBesideUptoCardSaid : Prop := Claim7.holds Tryd.pinned (.plain (OpenSpec.upto fnSheetBesideSpec)) fnSheetBesideUptoCard

/-- THE SECOND FORM's CARD OF 'laws.FnPlaceFar'. -/
def fnPlaceFarUptoCard : Claim7 := { stood := { row := fnPlaceFarUptoRow, standIns := [], harness := (true, "103cad5cf5fc344539313e80ae06f099fe1a5f6598e38491e82fa59b6221bbaf"), looks := false }, kinds := [], alts := [], laidByText := true, laidKinds := [.data, .data, .data], laidTests := true, laidLooks := .later }
def FnPlaceFarUptoCardSaid : Prop := Claim7.holds Tryd.pinned (.plain (OpenSpec.upto fnPlaceFarSpec)) fnPlaceFarUptoCard

/-- THE SECOND FORM's CARD OF 'laws.FnSheetFrom'. -/
def fnSheetFromUptoCard : Claim7 := { stood := { row := fnSheetFromUptoRow, standIns := [], harness := (true, "103cad5cf5fc344539313e80ae06f099fe1a5f6598e38491e82fa59b6221bbaf"), looks := false }, kinds := [], alts := [], laidByText := true, laidKinds := [.data, .data, .data], laidTests := true, laidLooks := .later }
def FnSheetFromUptoCardSaid : Prop := Claim7.holds Tryd.pinned (.plain (OpenSpec.upto fnSheetFromSpec)) fnSheetFromUptoCard

/-- THE SECOND FORM's CARD OF 'laws.FnSheetOf'. -/
def fnSheetOfUptoCard : Claim7 := { stood := { row := fnSheetOfUptoRow, standIns := [], harness := (true, "103cad5cf5fc344539313e80ae06f099fe1a5f6598e38491e82fa59b6221bbaf"), looks := false }, kinds := [], alts := [], laidByText := true, laidKinds := [.data, .data, .data], laidTests := true, laidLooks := .later }
def FnSheetOfUptoCardSaid : Prop := Claim7.holds Tryd.pinned (.plain (OpenSpec.upto fnSheetOfSpec)) fnSheetOfUptoCard

/-- THE SECOND FORM's CARD OF 'laws.FnPlaceName'. -/
def fnPlaceNameUptoCard : Claim7 := { stood := { row := fnPlaceNameUptoRow, standIns := [], harness := (true, "103cad5cf5fc344539313e80ae06f099fe1a5f6598e38491e82fa59b6221bbaf"), looks := false }, kinds := [], alts := [], laidByText := true, laidKinds := [.data, .data, .data], laidTests := true, laidLooks := .later }
def FnPlaceNameUptoCardSaid : Prop := Claim7.holds Tryd.pinned (.plain (OpenSpec.upto fnPlaceNameSpec)) fnPlaceNameUptoCard

/-- THE SECOND FORM's CARD OF 'laws.FnSheetsBetween'. -/
def fnSheetsBetweenUptoCard : Claim7 := { stood := { row := fnSheetsBetweenUptoRow, standIns := [], harness := (true, "103cad5cf5fc344539313e80ae06f099fe1a5f6598e38491e82fa59b6221bbaf"), looks := false }, kinds := [], alts := [], laidByText := true, laidKinds := [.data, .data, .data], laidTests := true, laidLooks := .later }
def FnSheetsBetweenUptoCardSaid : Prop := Claim7.holds Tryd.pinned (.plain (OpenSpec.upto fnSheetsBetweenSpec)) fnSheetsBetweenUptoCard

/-- THE SECOND FORM's CARD OF 'laws.FnPlaceFrom'. -/
def fnPlaceFromUptoCard : Claim7 := { stood := { row := fnPlaceFromUptoRow, standIns := [], harness := (true, "103cad5cf5fc344539313e80ae06f099fe1a5f6598e38491e82fa59b6221bbaf"), looks := false }, kinds := [], alts := [], laidByText := true, laidKinds := [.data, .data, .data], laidTests := true, laidLooks := .later }
def FnPlaceFromUptoCardSaid : Prop := Claim7.holds Tryd.pinned (.plain (OpenSpec.upto fnPlaceFromSpec)) fnPlaceFromUptoCard
end Rows
end Go.Proofs.YteenlohkhckjkaaDoor
