/-
  DERIVED. GIVEN WITH THE SEED: THE CARDS: each row of YtbnifhdnpeiheaaDoorRows.lean that lists a variable, with what it lists TIED to the program's text (the seventh form; the later family's looks); each row that meets fmt, with fmt's text TOLD by the authors' own Lean function (tested against real Go, not proved from fmt's source: count such statements apart). THE CARD IS WHAT COUNTS. Prove the row's statement (the work); the ties are given (YtbnifhdnpeiheaaDoorTie.lean); close each card by the builder's one call (the guide's Derived/Test/ToyasCard.lean, 'card_holds'). Laid BY PROGRAM, IN A SANDBOX (cutbox-door.mjs). By AI agents, Wed Nov 11 2026. No macro, syntax, notation, axiom, sorry.
-/
import Derived.Test.YtbnifhdnpeiheaaDoorRows
import GoSem.ClaimSeven
namespace Go.Proofs.YtbnifhdnpeiheaaDoor
namespace Rows

/-- THE TIED CARD OF 'weighbridgelaw05.WheelMaps'. -/
def wheelMapsCard : Claim7 := { stood := { row := wheelMapsRow, standIns := [], harness := (true, "48a277647f322637c226e7672a85eb37f1eb37aa944496203fb7597beed5c81c"), looks := false }, kinds := [], alts := [], laidByText := true, laidKinds := [.data], laidTests := true, laidLooks := .later }
def WheelMapsCardSaid : Prop := Claim7.holds Tryd.pinned (.plain (OpenSpec.ofChange wheelMapsSpec)) wheelMapsCard

/-- THE TIED CARD OF 'weighbridgelaw08.QueueIDs'. -/
def queueIDsCard : Claim7 := { stood := { row := queueIDsRow, standIns := [], harness := (true, "48a277647f322637c226e7672a85eb37f1eb37aa944496203fb7597beed5c81c"), looks := false }, kinds := [], alts := [], laidByText := true, laidKinds := [.data], laidTests := true, laidLooks := .later }
def QueueIDsCardSaid : Prop := Claim7.holds Tryd.pinned (.plain (OpenSpec.ofChange queueIDsSpec)) queueIDsCard

/-- THE TIED CARD OF 'weighbridgelaw08.QueueBases'. -/
def queueBasesCard : Claim7 := { stood := { row := queueBasesRow, standIns := [], harness := (true, "48a277647f322637c226e7672a85eb37f1eb37aa944496203fb7597beed5c81c"), looks := false }, kinds := [], alts := [], laidByText := true, laidKinds := [.data], laidTests := true, laidLooks := .later }
def QueueBasesCardSaid : Prop := Claim7.holds Tryd.pinned (.plain (OpenSpec.ofChange queueBasesSpec)) queueBasesCard

/-- THE TIED CARD OF 'weighbridgelaw05.WheelApart'. -/
def wheelApartCard : Claim7 := { stood := { row := wheelApartRow, standIns := [], harness := (true, "48a277647f322637c226e7672a85eb37f1eb37aa944496203fb7597beed5c81c"), looks := false }, kinds := [], alts := [], laidByText := true, laidKinds := [.data], laidTests := true, laidLooks := .later }
def WheelApartCardSaid : Prop := Claim7.holds Tryd.pinned (.plain (OpenSpec.ofChange wheelApartSpec)) wheelApartCard

/-- THE TIED CARD OF 'weighbridgelaw05.WheelLadder'. -/
def wheelLadderCard : Claim7 := { stood := { row := wheelLadderRow, standIns := [], harness := (true, "48a277647f322637c226e7672a85eb37f1eb37aa944496203fb7597beed5c81c"), looks := false }, kinds := [], alts := [], laidByText := true, laidKinds := [.data], laidTests := true, laidLooks := .later }
def WheelLadderCardSaid : Prop := Claim7.holds Tryd.pinned (.plain (OpenSpec.ofChange wheelLadderSpec)) wheelLadderCard

/-- THE TIED CARD OF 'weighbridgelaw05.WheelMoves'. -/
def wheelMovesCard : Claim7 := { stood := { row := wheelMovesRow, standIns := [], harness := (true, "48a277647f322637c226e7672a85eb37f1eb37aa944496203fb7597beed5c81c"), looks := false }, kinds := [], alts := [], laidByText := true, laidKinds := [.data], laidTests := true, laidLooks := .later }
def WheelMovesCardSaid : Prop := Claim7.holds Tryd.pinned (.plain (OpenSpec.ofChange wheelMovesSpec)) wheelMovesCard

/-- THE TIED CARD OF 'weighbridgelaw05.WheelPlays'. -/
def wheelPlaysCard : Claim7 := { stood := { row := wheelPlaysRow, standIns := [], harness := (true, "48a277647f322637c226e7672a85eb37f1eb37aa944496203fb7597beed5c81c"), looks := false }, kinds := [], alts := [], laidByText := true, laidKinds := [.data], laidTests := true, laidLooks := .later }
def WheelPlaysCardSaid : Prop := Claim7.holds Tryd.pinned (.plain (OpenSpec.ofChange wheelPlaysSpec)) wheelPlaysCard

/-- THE TIED CARD OF 'weighbridgelaw06.ShardPlays'. -/
def shardPlaysCard : Claim7 := { stood := { row := shardPlaysRow, standIns := [], harness := (true, "48a277647f322637c226e7672a85eb37f1eb37aa944496203fb7597beed5c81c"), looks := false }, kinds := [], alts := [], laidByText := true, laidKinds := [.data], laidTests := true, laidLooks := .later }
def ShardPlaysCardSaid : Prop := Claim7.holds Tryd.pinned (.plain (OpenSpec.ofChange shardPlaysSpec)) shardPlaysCard

/-- THE TIED CARD OF 'weighbridgelaw06.ShardFar'. -/
def shardFarCard : Claim7 := { stood := { row := shardFarRow, standIns := [], harness := (true, "48a277647f322637c226e7672a85eb37f1eb37aa944496203fb7597beed5c81c"), looks := false }, kinds := [], alts := [], laidByText := true, laidKinds := [.data], laidTests := true, laidLooks := .later }
def ShardFarCardSaid : Prop := Claim7.holds Tryd.pinned (.plain (OpenSpec.ofChange shardFarSpec)) shardFarCard

/-- THE TIED CARD OF 'weighbridgelaw06.ShardHeap'. -/
def shardHeapCard : Claim7 := { stood := { row := shardHeapRow, standIns := [], harness := (true, "48a277647f322637c226e7672a85eb37f1eb37aa944496203fb7597beed5c81c"), looks := false }, kinds := [], alts := [], laidByText := true, laidKinds := [.data], laidTests := true, laidLooks := .later }
def ShardHeapCardSaid : Prop := Claim7.holds Tryd.pinned (.plain (OpenSpec.ofChange shardHeapSpec)) shardHeapCard

/-- THE TIED CARD OF 'weighbridgelaw06.ShardDrains'. -/
def shardDrainsCard : Claim7 := { stood := { row := shardDrainsRow, standIns := [], harness := (true, "48a277647f322637c226e7672a85eb37f1eb37aa944496203fb7597beed5c81c"), looks := false }, kinds := [], alts := [], laidByText := true, laidKinds := [.data], laidTests := true, laidLooks := .later }
def ShardDrainsCardSaid : Prop := Claim7.holds Tryd.pinned (.plain (OpenSpec.ofChange shardDrainsSpec)) shardDrainsCard

/-- THE TIED CARD OF 'weighbridgelaw06.ShardWidths'. -/
def shardWidthsCard : Claim7 := { stood := { row := shardWidthsRow, standIns := [], harness := (true, "48a277647f322637c226e7672a85eb37f1eb37aa944496203fb7597beed5c81c"), looks := false }, kinds := [], alts := [], laidByText := true, laidKinds := [.data], laidTests := true, laidLooks := .later }
def ShardWidthsCardSaid : Prop := Claim7.holds Tryd.pinned (.plain (OpenSpec.ofChange shardWidthsSpec)) shardWidthsCard

/-- THE TIED CARD OF 'weighbridgelaw06.ShardApart'. -/
def shardApartCard : Claim7 := { stood := { row := shardApartRow, standIns := [], harness := (true, "48a277647f322637c226e7672a85eb37f1eb37aa944496203fb7597beed5c81c"), looks := false }, kinds := [], alts := [], laidByText := true, laidKinds := [.data], laidTests := true, laidLooks := .later }
def ShardApartCardSaid : Prop := Claim7.holds Tryd.pinned (.plain (OpenSpec.ofChange shardApartSpec)) shardApartCard

/-- THE SECOND FORM's CARD OF 'weighbridgelaw05.WheelMaps'. -/
def wheelMapsUptoCard : Claim7 := { stood := { row := wheelMapsUptoRow, standIns := [], harness := (true, "48a277647f322637c226e7672a85eb37f1eb37aa944496203fb7597beed5c81c"), looks := false }, kinds := [], alts := [], laidByText := true, laidKinds := [.data], laidTests := true, laidLooks := .later }
def WheelMapsUptoCardSaid : Prop := Claim7.holds Tryd.pinned (.plain (OpenSpec.upto wheelMapsSpec)) wheelMapsUptoCard

/-- THE SECOND FORM's CARD OF 'weighbridgelaw08.QueueIDs'. -/
def queueIDsUptoCard : Claim7 := { stood := { row := queueIDsUptoRow, standIns := [], harness := (true, "48a277647f322637c226e7672a85eb37f1eb37aa944496203fb7597beed5c81c"), looks := false }, kinds := [], alts := [], laidByText := true, laidKinds := [.data], laidTests := true, laidLooks := .later }
def QueueIDsUptoCardSaid : Prop := Claim7.holds Tryd.pinned (.plain (OpenSpec.upto queueIDsSpec)) queueIDsUptoCard

/-- THE SECOND FORM's CARD OF 'weighbridgelaw08.QueueBases'. -/
def queueBasesUptoCard : Claim7 := { stood := { row := queueBasesUptoRow, standIns := [], harness := (true, "48a277647f322637c226e7672a85eb37f1eb37aa944496203fb7597beed5c81c"), looks := false }, kinds := [], alts := [], laidByText := true, laidKinds := [.data], laidTests := true, laidLooks := .later }
def QueueBasesUptoCardSaid : Prop := Claim7.holds Tryd.pinned (.plain (OpenSpec.upto queueBasesSpec)) queueBasesUptoCard

/-- THE SECOND FORM's CARD OF 'weighbridgelaw05.WheelApart'. -/
def wheelApartUptoCard : Claim7 := { stood := { row := wheelApartUptoRow, standIns := [], harness := (true, "48a277647f322637c226e7672a85eb37f1eb37aa944496203fb7597beed5c81c"), looks := false }, kinds := [], alts := [], laidByText := true, laidKinds := [.data], laidTests := true, laidLooks := .later }
def WheelApartUptoCardSaid : Prop := Claim7.holds Tryd.pinned (.plain (OpenSpec.upto wheelApartSpec)) wheelApartUptoCard

/-- THE SECOND FORM's CARD OF 'weighbridgelaw05.WheelLadder'. -/
def wheelLadderUptoCard : Claim7 := { stood := { row := wheelLadderUptoRow, standIns := [], harness := (true, "48a277647f322637c226e7672a85eb37f1eb37aa944496203fb7597beed5c81c"), looks := false }, kinds := [], alts := [], laidByText := true, laidKinds := [.data], laidTests := true, laidLooks := .later }
def WheelLadderUptoCardSaid : Prop := Claim7.holds Tryd.pinned (.plain (OpenSpec.upto wheelLadderSpec)) wheelLadderUptoCard

/-- THE SECOND FORM's CARD OF 'weighbridgelaw05.WheelMoves'. -/
def wheelMovesUptoCard : Claim7 := { stood := { row := wheelMovesUptoRow, standIns := [], harness := (true, "48a277647f322637c226e7672a85eb37f1eb37aa944496203fb7597beed5c81c"), looks := false }, kinds := [], alts := [], laidByText := true, laidKinds := [.data], laidTests := true, laidLooks := .later }
def WheelMovesUptoCardSaid : Prop := Claim7.holds Tryd.pinned (.plain (OpenSpec.upto wheelMovesSpec)) wheelMovesUptoCard

/-- THE SECOND FORM's CARD OF 'weighbridgelaw05.WheelPlays'. -/
def wheelPlaysUptoCard : Claim7 := { stood := { row := wheelPlaysUptoRow, standIns := [], harness := (true, "48a277647f322637c226e7672a85eb37f1eb37aa944496203fb7597beed5c81c"), looks := false }, kinds := [], alts := [], laidByText := true, laidKinds := [.data], laidTests := true, laidLooks := .later }
def WheelPlaysUptoCardSaid : Prop := Claim7.holds Tryd.pinned (.plain (OpenSpec.upto wheelPlaysSpec)) wheelPlaysUptoCard

/-- THE SECOND FORM's CARD OF 'weighbridgelaw06.ShardPlays'. -/
def shardPlaysUptoCard : Claim7 := { stood := { row := shardPlaysUptoRow, standIns := [], harness := (true, "48a277647f322637c226e7672a85eb37f1eb37aa944496203fb7597beed5c81c"), looks := false }, kinds := [], alts := [], laidByText := true, laidKinds := [.data], laidTests := true, laidLooks := .later }
def ShardPlaysUptoCardSaid : Prop := Claim7.holds Tryd.pinned (.plain (OpenSpec.upto shardPlaysSpec)) shardPlaysUptoCard

/-- THE SECOND FORM's CARD OF 'weighbridgelaw06.ShardFar'. -/
def shardFarUptoCard : Claim7 := { stood := { row := shardFarUptoRow, standIns := [], harness := (true, "48a277647f322637c226e7672a85eb37f1eb37aa944496203fb7597beed5c81c"), looks := false }, kinds := [], alts := [], laidByText := true, laidKinds := [.data], laidTests := true, laidLooks := .later }
def ShardFarUptoCardSaid : Prop := Claim7.holds Tryd.pinned (.plain (OpenSpec.upto shardFarSpec)) shardFarUptoCard

/-- THE SECOND FORM's CARD OF 'weighbridgelaw06.ShardHeap'. -/
def shardHeapUptoCard : Claim7 := { stood := { row := shardHeapUptoRow, standIns := [], harness := (true, "48a277647f322637c226e7672a85eb37f1eb37aa944496203fb7597beed5c81c"), looks := false }, kinds := [], alts := [], laidByText := true, laidKinds := [.data], laidTests := true, laidLooks := .later }
def ShardHeapUptoCardSaid : Prop := Claim7.holds Tryd.pinned (.plain (OpenSpec.upto shardHeapSpec)) shardHeapUptoCard

/-- THE SECOND FORM's CARD OF 'weighbridgelaw06.ShardDrains'. -/
def shardDrainsUptoCard : Claim7 := { stood := { row := shardDrainsUptoRow, standIns := [], harness := (true, "48a277647f322637c226e7672a85eb37f1eb37aa944496203fb7597beed5c81c"), looks := false }, kinds := [], alts := [], laidByText := true, laidKinds := [.data], laidTests := true, laidLooks := .later }
def ShardDrainsUptoCardSaid : Prop := Claim7.holds Tryd.pinned (.plain (OpenSpec.upto shardDrainsSpec)) shardDrainsUptoCard

/-- THE SECOND FORM's CARD OF 'weighbridgelaw06.ShardWidths'. -/
def shardWidthsUptoCard : Claim7 := { stood := { row := shardWidthsUptoRow, standIns := [], harness := (true, "48a277647f322637c226e7672a85eb37f1eb37aa944496203fb7597beed5c81c"), looks := false }, kinds := [], alts := [], laidByText := true, laidKinds := [.data], laidTests := true, laidLooks := .later }
def ShardWidthsUptoCardSaid : Prop := Claim7.holds Tryd.pinned (.plain (OpenSpec.upto shardWidthsSpec)) shardWidthsUptoCard

/-- THE SECOND FORM's CARD OF 'weighbridgelaw06.ShardApart'. -/
def shardApartUptoCard : Claim7 := { stood := { row := shardApartUptoRow, standIns := [], harness := (true, "48a277647f322637c226e7672a85eb37f1eb37aa944496203fb7597beed5c81c"), looks := false }, kinds := [], alts := [], laidByText := true, laidKinds := [.data], laidTests := true, laidLooks := .later }
def ShardApartUptoCardSaid : Prop := Claim7.holds Tryd.pinned (.plain (OpenSpec.upto shardApartSpec)) shardApartUptoCard
end Rows
end Go.Proofs.YtbnifhdnpeiheaaDoor
