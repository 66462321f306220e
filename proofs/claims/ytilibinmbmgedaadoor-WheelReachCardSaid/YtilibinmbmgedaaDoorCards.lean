/-
  DERIVED. GIVEN WITH THE SEED: THE CARDS: each row of YtilibinmbmgedaaDoorRows.lean that lists a variable, with what it lists TIED to the program's text (the seventh form; the later family's looks); each row that meets fmt, with fmt's text TOLD by the authors' own Lean function (tested against real Go, not proved from fmt's source: count such statements apart). THE CARD IS WHAT COUNTS. Prove the row's statement (the work); the ties are given (YtilibinmbmgedaaDoorTie.lean); close each card by the builder's one call (the guide's Derived/Test/ToyasCard.lean, 'card_holds'). Laid BY PROGRAM, IN A SANDBOX (cutbox-door.mjs). By AI agents, Wed Nov 11 2026. No macro, syntax, notation, axiom, sorry.
-/
import Derived.Test.YtilibinmbmgedaaDoorRows
import GoSem.ClaimSeven
namespace Go.Proofs.YtilibinmbmgedaaDoor
namespace Rows

/-- THE TIED CARD OF 'weighbridgelaw05.WheelLevels'. -/
def wheelLevelsCard : Claim7 := { stood := { row := wheelLevelsRow, standIns := [], harness := (true, "67aaf35b84ddaaf56e5dcf352d1073ef0c405973c4d680f1201f946b4a36e655"), looks := false }, kinds := [], alts := [], laidByText := true, laidKinds := [.data], laidTests := true, laidLooks := .later }
def WheelLevelsCardSaid : Prop := Claim7.holds Tryd.pinned (.plain (OpenSpec.ofChange wheelLevelsSpec)) wheelLevelsCard

/-- THE TIED CARD OF 'weighbridgelaw05.WheelWidths'. -/
def wheelWidthsCard : Claim7 := { stood := { row := wheelWidthsRow, standIns := [], harness := (true, "67aaf35b84ddaaf56e5dcf352d1073ef0c405973c4d680f1201f946b4a36e655"), looks := false }, kinds := [], alts := [], laidByText := true, laidKinds := [.data], laidTests := true, laidLooks := .later }
def WheelWidthsCardSaid : Prop := Claim7.holds Tryd.pinned (.plain (OpenSpec.ofChange wheelWidthsSpec)) wheelWidthsCard

/-- THE TIED CARD OF 'weighbridgelaw05.WheelReach'. -/
def wheelReachCard : Claim7 := { stood := { row := wheelReachRow, standIns := [], harness := (true, "67aaf35b84ddaaf56e5dcf352d1073ef0c405973c4d680f1201f946b4a36e655"), looks := false }, kinds := [], alts := [], laidByText := true, laidKinds := [.data], laidTests := true, laidLooks := .later }
def WheelReachCardSaid : Prop := Claim7.holds Tryd.pinned (.plain (OpenSpec.ofChange wheelReachSpec)) wheelReachCard

/-- THE TIED CARD OF 'weighbridgelaw05.WheelMaps'. -/
def wheelMapsCard : Claim7 := { stood := { row := wheelMapsRow, standIns := [], harness := (true, "67aaf35b84ddaaf56e5dcf352d1073ef0c405973c4d680f1201f946b4a36e655"), looks := false }, kinds := [], alts := [], laidByText := true, laidKinds := [.data], laidTests := true, laidLooks := .later }
def WheelMapsCardSaid : Prop := Claim7.holds Tryd.pinned (.plain (OpenSpec.ofChange wheelMapsSpec)) wheelMapsCard

/-- THE TIED CARD OF 'weighbridgelaw05.WheelApart'. -/
def wheelApartCard : Claim7 := { stood := { row := wheelApartRow, standIns := [], harness := (true, "67aaf35b84ddaaf56e5dcf352d1073ef0c405973c4d680f1201f946b4a36e655"), looks := false }, kinds := [], alts := [], laidByText := true, laidKinds := [.data], laidTests := true, laidLooks := .later }
def WheelApartCardSaid : Prop := Claim7.holds Tryd.pinned (.plain (OpenSpec.ofChange wheelApartSpec)) wheelApartCard

/-- THE TIED CARD OF 'weighbridgelaw05.WheelLadder'. -/
def wheelLadderCard : Claim7 := { stood := { row := wheelLadderRow, standIns := [], harness := (true, "67aaf35b84ddaaf56e5dcf352d1073ef0c405973c4d680f1201f946b4a36e655"), looks := false }, kinds := [], alts := [], laidByText := true, laidKinds := [.data], laidTests := true, laidLooks := .later }
def WheelLadderCardSaid : Prop := Claim7.holds Tryd.pinned (.plain (OpenSpec.ofChange wheelLadderSpec)) wheelLadderCard

/-- THE TIED CARD OF 'weighbridgelaw05.WheelMoves'. -/
def wheelMovesCard : Claim7 := { stood := { row := wheelMovesRow, standIns := [], harness := (true, "67aaf35b84ddaaf56e5dcf352d1073ef0c405973c4d680f1201f946b4a36e655"), looks := false }, kinds := [], alts := [], laidByText := true, laidKinds := [.data], laidTests := true, laidLooks := .later }
def WheelMovesCardSaid : Prop := Claim7.holds Tryd.pinned (.plain (OpenSpec.ofChange wheelMovesSpec)) wheelMovesCard

/-- THE TIED CARD OF 'weighbridgelaw05.WheelPlays'. -/
def wheelPlaysCard : Claim7 := { stood := { row := wheelPlaysRow, standIns := [], harness := (true, "67aaf35b84ddaaf56e5dcf352d1073ef0c405973c4d680f1201f946b4a36e655"), looks := false }, kinds := [], alts := [], laidByText := true, laidKinds := [.data], laidTests := true, laidLooks := .later }
def WheelPlaysCardSaid : Prop := Claim7.holds Tryd.pinned (.plain (OpenSpec.ofChange wheelPlaysSpec)) wheelPlaysCard

/-- THE SECOND FORM's CARD OF 'weighbridgelaw05.WheelLevels'. -/
def wheelLevelsUptoCard : Claim7 := { stood := { row := wheelLevelsUptoRow, standIns := [], harness := (true, "67aaf35b84ddaaf56e5dcf352d1073ef0c405973c4d680f1201f946b4a36e655"), looks := false }, kinds := [], alts := [], laidByText := true, laidKinds := [.data], laidTests := true, laidLooks := .later }
def WheelLevelsUptoCardSaid : Prop := Claim7.holds Tryd.pinned (.plain (OpenSpec.upto wheelLevelsSpec)) wheelLevelsUptoCard

/-- THE SECOND FORM's CARD OF 'weighbridgelaw05.WheelWidths'. -/
def wheelWidthsUptoCard : Claim7 := { stood := { row := wheelWidthsUptoRow, standIns := [], harness := (true, "67aaf35b84ddaaf56e5dcf352d1073ef0c405973c4d680f1201f946b4a36e655"), looks := false }, kinds := [], alts := [], laidByText := true, laidKinds := [.data], laidTests := true, laidLooks := .later }
def WheelWidthsUptoCardSaid : Prop := Claim7.holds Tryd.pinned (.plain (OpenSpec.upto wheelWidthsSpec)) wheelWidthsUptoCard

/-- THE SECOND FORM's CARD OF 'weighbridgelaw05.WheelReach'. -/
def wheelReachUptoCard : Claim7 := { stood := { row := wheelReachUptoRow, standIns := [], harness := (true, "67aaf35b84ddaaf56e5dcf352d1073ef0c405973c4d680f1201f946b4a36e655"), looks := false }, kinds := [], alts := [], laidByText := true, laidKinds := [.data], laidTests := true, laidLooks := .later }
def WheelReachUptoCardSaid : Prop := Claim7.holds Tryd.pinned (.plain (OpenSpec.upto wheelReachSpec)) wheelReachUptoCard

/-- THE SECOND FORM's CARD OF 'weighbridgelaw05.WheelMaps'. -/
def wheelMapsUptoCard : Claim7 := { stood := { row := wheelMapsUptoRow, standIns := [], harness := (true, "67aaf35b84ddaaf56e5dcf352d1073ef0c405973c4d680f1201f946b4a36e655"), looks := false }, kinds := [], alts := [], laidByText := true, laidKinds := [.data], laidTests := true, laidLooks := .later }
def WheelMapsUptoCardSaid : Prop := Claim7.holds Tryd.pinned (.plain (OpenSpec.upto wheelMapsSpec)) wheelMapsUptoCard

/-- THE SECOND FORM's CARD OF 'weighbridgelaw05.WheelApart'. -/
def wheelApartUptoCard : Claim7 := { stood := { row := wheelApartUptoRow, standIns := [], harness := (true, "67aaf35b84ddaaf56e5dcf352d1073ef0c405973c4d680f1201f946b4a36e655"), looks := false }, kinds := [], alts := [], laidByText := true, laidKinds := [.data], laidTests := true, laidLooks := .later }
def WheelApartUptoCardSaid : Prop := Claim7.holds Tryd.pinned (.plain (OpenSpec.upto wheelApartSpec)) wheelApartUptoCard

/-- THE SECOND FORM's CARD OF 'weighbridgelaw05.WheelLadder'. -/
def wheelLadderUptoCard : Claim7 := { stood := { row := wheelLadderUptoRow, standIns := [], harness := (true, "67aaf35b84ddaaf56e5dcf352d1073ef0c405973c4d680f1201f946b4a36e655"), looks := false }, kinds := [], alts := [], laidByText := true, laidKinds := [.data], laidTests := true, laidLooks := .later }
def WheelLadderUptoCardSaid : Prop := Claim7.holds Tryd.pinned (.plain (OpenSpec.upto wheelLadderSpec)) wheelLadderUptoCard

/-- THE SECOND FORM's CARD OF 'weighbridgelaw05.WheelMoves'. -/
def wheelMovesUptoCard : Claim7 := { stood := { row := wheelMovesUptoRow, standIns := [], harness := (true, "67aaf35b84ddaaf56e5dcf352d1073ef0c405973c4d680f1201f946b4a36e655"), looks := false }, kinds := [], alts := [], laidByText := true, laidKinds := [.data], laidTests := true, laidLooks := .later }
def WheelMovesUptoCardSaid : Prop := Claim7.holds Tryd.pinned (.plain (OpenSpec.upto wheelMovesSpec)) wheelMovesUptoCard

/-- THE SECOND FORM's CARD OF 'weighbridgelaw05.WheelPlays'. -/
def wheelPlaysUptoCard : Claim7 := { stood := { row := wheelPlaysUptoRow, standIns := [], harness := (true, "67aaf35b84ddaaf56e5dcf352d1073ef0c405973c4d680f1201f946b4a36e655"), looks := false }, kinds := [], alts := [], laidByText := true, laidKinds := [.data], laidTests := true, laidLooks := .later }
def WheelPlaysUptoCardSaid : Prop := Claim7.holds Tryd.pinned (.plain (OpenSpec.upto wheelPlaysSpec)) wheelPlaysUptoCard
end Rows
end Go.Proofs.YtilibinmbmgedaaDoor
