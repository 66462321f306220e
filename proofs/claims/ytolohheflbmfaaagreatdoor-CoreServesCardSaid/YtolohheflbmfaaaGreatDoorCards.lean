/-
  DERIVED. GIVEN WITH THE SEED: THE CARDS: each row of YtolohheflbmfaaaGreatDoorRows.lean that lists a variable, with what it lists TIED to the program's text (the seventh form; the later family's looks); each row that meets fmt, with fmt's text TOLD by the authors' own Lean function (tested against real Go, not proved from fmt's source: count such statements apart). THE CARD IS WHAT COUNTS. Prove the row's statement (the work); the ties are given (YtolohheflbmfaaaGreatDoorTie.lean); close each card by the builder's one call (the guide's Derived/Test/ToyasCard.lean, 'card_holds'). Laid BY PROGRAM, IN A SANDBOX (cutbox-door.mjs). By AI agents, Wed Nov 11 2026. No macro, syntax, notation, axiom, sorry.
-/
import Derived.Test.YtolohheflbmfaaaGreatDoorRows
import GoSem.ClaimSeven
namespace Go.Proofs.YtolohheflbmfaaaGreatDoor
namespace Rows

/-- THE TIED CARD OF 'weighbridgelaw21.CorePlaces'. -/
def corePlacesCard : Claim7 := { stood := { row := corePlacesRow, standIns := [], harness := (true, "1b46e88acdd029385e502929f3d1c6855eb37a7c4e444afde22ec3ffc5b25677"), looks := false }, kinds := [], alts := [], laidByText := true, laidKinds := [.data], laidTests := true, laidLooks := .later }
def CorePlacesCardSaid : Prop := Claim7.holds Tryz.pinned (.plain (OpenSpec.ofChange corePlacesSpec)) corePlacesCard

/-- THE TIED CARD OF 'weighbridgelaw21.CorePlays'. -/
def corePlaysCard : Claim7 := { stood := { row := corePlaysRow, standIns := [], harness := (true, "1b46e88acdd029385e502929f3d1c6855eb37a7c4e444afde22ec3ffc5b25677"), looks := false }, kinds := [], alts := [], laidByText := true, laidKinds := [.data], laidTests := true, laidLooks := .later }
def CorePlaysCardSaid : Prop := Claim7.holds Tryz.pinned (.plain (OpenSpec.ofChange corePlaysSpec)) corePlaysCard

/-- THE TIED CARD OF 'weighbridgelaw21.CoreLoops'. -/
def coreLoopsCard : Claim7 := { stood := { row := coreLoopsRow, standIns := [], harness := (true, "1b46e88acdd029385e502929f3d1c6855eb37a7c4e444afde22ec3ffc5b25677"), looks := false }, kinds := [], alts := [], laidByText := true, laidKinds := [.data], laidTests := true, laidLooks := .later }
def CoreLoopsCardSaid : Prop := Claim7.holds Tryz.pinned (.plain (OpenSpec.ofChange coreLoopsSpec)) coreLoopsCard

/-- THE TIED CARD OF 'weighbridgelaw21.CoreRises'. -/
def coreRisesCard : Claim7 := { stood := { row := coreRisesRow, standIns := [], harness := (true, "1b46e88acdd029385e502929f3d1c6855eb37a7c4e444afde22ec3ffc5b25677"), looks := false }, kinds := [], alts := [], laidByText := true, laidKinds := [.data], laidTests := true, laidLooks := .later }
def CoreRisesCardSaid : Prop := Claim7.holds Tryz.pinned (.plain (OpenSpec.ofChange coreRisesSpec)) coreRisesCard

/-- THE TIED CARD OF 'weighbridgelaw21.CoreServes'. -/
def coreServesCard : Claim7 := { stood := { row := coreServesRow, standIns := [], harness := (true, "1b46e88acdd029385e502929f3d1c6855eb37a7c4e444afde22ec3ffc5b25677"), looks := false }, kinds := [], alts := [], laidByText := true, laidKinds := [.data], laidTests := true, laidLooks := .later }
def CoreServesCardSaid : Prop := Claim7.holds Tryz.pinned (.plain (OpenSpec.ofChange coreServesSpec)) coreServesCard

/-- THE TIED CARD OF 'weighbridgelaw21.CoreApart'. -/
def coreApartCard : Claim7 := { stood := { row := coreApartRow, standIns := [], harness := (true, "1b46e88acdd029385e502929f3d1c6855eb37a7c4e444afde22ec3ffc5b25677"), looks := false }, kinds := [], alts := [], laidByText := true, laidKinds := [.data], laidTests := true, laidLooks := .later }
def CoreApartCardSaid : Prop := Claim7.holds Tryz.pinned (.plain (OpenSpec.ofChange coreApartSpec)) coreApartCard

/-- THE SECOND FORM's CARD OF 'weighbridgelaw21.CorePlaces'. -/
def corePlacesUptoCard : Claim7 := { stood := { row := corePlacesUptoRow, standIns := [], harness := (true, "1b46e88acdd029385e502929f3d1c6855eb37a7c4e444afde22ec3ffc5b25677"), looks := false }, kinds := [], alts := [], laidByText := true, laidKinds := [.data], laidTests := true, laidLooks := .later }
def CorePlacesUptoCardSaid : Prop := Claim7.holds Tryz.pinned (.plain (OpenSpec.upto corePlacesSpec)) corePlacesUptoCard

/-- THE SECOND FORM's CARD OF 'weighbridgelaw21.CorePlays'. -/
def corePlaysUptoCard : Claim7 := { stood := { row := corePlaysUptoRow, standIns := [], harness := (true, "1b46e88acdd029385e502929f3d1c6855eb37a7c4e444afde22ec3ffc5b25677"), looks := false }, kinds := [], alts := [], laidByText := true, laidKinds := [.data], laidTests := true, laidLooks := .later }
def CorePlaysUptoCardSaid : Prop := Claim7.holds Tryz.pinned (.plain (OpenSpec.upto corePlaysSpec)) corePlaysUptoCard

/-- THE SECOND FORM's CARD OF 'weighbridgelaw21.CoreLoops'. -/
def coreLoopsUptoCard : Claim7 := { stood := { row := coreLoopsUptoRow, standIns := [], harness := (true, "1b46e88acdd029385e502929f3d1c6855eb37a7c4e444afde22ec3ffc5b25677"), looks := false }, kinds := [], alts := [], laidByText := true, laidKinds := [.data], laidTests := true, laidLooks := .later }
def CoreLoopsUptoCardSaid : Prop := Claim7.holds Tryz.pinned (.plain (OpenSpec.upto coreLoopsSpec)) coreLoopsUptoCard

/-- THE SECOND FORM's CARD OF 'weighbridgelaw21.CoreRises'. -/
def coreRisesUptoCard : Claim7 := { stood := { row := coreRisesUptoRow, standIns := [], harness := (true, "1b46e88acdd029385e502929f3d1c6855eb37a7c4e444afde22ec3ffc5b25677"), looks := false }, kinds := [], alts := [], laidByText := true, laidKinds := [.data], laidTests := true, laidLooks := .later }
def CoreRisesUptoCardSaid : Prop := Claim7.holds Tryz.pinned (.plain (OpenSpec.upto coreRisesSpec)) coreRisesUptoCard

/-- THE SECOND FORM's CARD OF 'weighbridgelaw21.CoreServes'. -/
def coreServesUptoCard : Claim7 := { stood := { row := coreServesUptoRow, standIns := [], harness := (true, "1b46e88acdd029385e502929f3d1c6855eb37a7c4e444afde22ec3ffc5b25677"), looks := false }, kinds := [], alts := [], laidByText := true, laidKinds := [.data], laidTests := true, laidLooks := .later }
def CoreServesUptoCardSaid : Prop := Claim7.holds Tryz.pinned (.plain (OpenSpec.upto coreServesSpec)) coreServesUptoCard

/-- THE SECOND FORM's CARD OF 'weighbridgelaw21.CoreApart'. -/
def coreApartUptoCard : Claim7 := { stood := { row := coreApartUptoRow, standIns := [], harness := (true, "1b46e88acdd029385e502929f3d1c6855eb37a7c4e444afde22ec3ffc5b25677"), looks := false }, kinds := [], alts := [], laidByText := true, laidKinds := [.data], laidTests := true, laidLooks := .later }
def CoreApartUptoCardSaid : Prop := Claim7.holds Tryz.pinned (.plain (OpenSpec.upto coreApartSpec)) coreApartUptoCard
end Rows
end Go.Proofs.YtolohheflbmfaaaGreatDoor
