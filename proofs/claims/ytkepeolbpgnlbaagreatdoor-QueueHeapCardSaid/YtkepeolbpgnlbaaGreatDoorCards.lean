/-
  DERIVED. GIVEN WITH THE SEED: THE CARDS: each row of YtkepeolbpgnlbaaGreatDoorRows.lean that lists a variable, with what it lists TIED to the program's text (the seventh form; the later family's looks); each row that meets fmt, with fmt's text TOLD by the authors' own Lean function (tested against real Go, not proved from fmt's source: count such statements apart). THE CARD IS WHAT COUNTS. Prove the row's statement (the work); the ties are given (YtkepeolbpgnlbaaGreatDoorTie.lean); close each card by the builder's one call (the guide's Derived/Test/ToyasCard.lean, 'card_holds'). Laid BY PROGRAM, IN A SANDBOX (cutbox-door.mjs). By AI agents, Wed Nov 11 2026. No macro, syntax, notation, axiom, sorry.
-/
import Derived.Test.YtkepeolbpgnlbaaGreatDoorRows
import GoSem.ClaimSeven
namespace Go.Proofs.YtkepeolbpgnlbaaGreatDoor
namespace Rows

/-- THE TIED CARD OF 'weighbridgelaw08.QueueShards'. -/
def queueShardsCard : Claim7 := { stood := { row := queueShardsRow, standIns := [], harness := (true, "5733d6adcabe7866aa706da7e572d21a16ce98e8c5c80e73ce7a5a238f21560b"), looks := false }, kinds := [], alts := [], laidByText := true, laidKinds := [.data], laidTests := true, laidLooks := .later }
def QueueShardsCardSaid : Prop := Claim7.holds Tryz.pinned (.plain (OpenSpec.ofChange queueShardsSpec)) queueShardsCard

/-- THE TIED CARD OF 'weighbridgelaw08.QueueHeap'. -/
def queueHeapCard : Claim7 := { stood := { row := queueHeapRow, standIns := [], harness := (true, "5733d6adcabe7866aa706da7e572d21a16ce98e8c5c80e73ce7a5a238f21560b"), looks := false }, kinds := [], alts := [], laidByText := true, laidKinds := [.data], laidTests := true, laidLooks := .later }
def QueueHeapCardSaid : Prop := Claim7.holds Tryz.pinned (.plain (OpenSpec.ofChange queueHeapSpec)) queueHeapCard

/-- THE TIED CARD OF 'weighbridgelaw08.QueuePlays'. -/
def queuePlaysCard : Claim7 := { stood := { row := queuePlaysRow, standIns := [], harness := (true, "5733d6adcabe7866aa706da7e572d21a16ce98e8c5c80e73ce7a5a238f21560b"), looks := false }, kinds := [], alts := [], laidByText := true, laidKinds := [.data], laidTests := true, laidLooks := .later }
def QueuePlaysCardSaid : Prop := Claim7.holds Tryz.pinned (.plain (OpenSpec.ofChange queuePlaysSpec)) queuePlaysCard

/-- THE TIED CARD OF 'weighbridgelaw08.QueueApart'. -/
def queueApartCard : Claim7 := { stood := { row := queueApartRow, standIns := [], harness := (true, "5733d6adcabe7866aa706da7e572d21a16ce98e8c5c80e73ce7a5a238f21560b"), looks := false }, kinds := [], alts := [], laidByText := true, laidKinds := [.data], laidTests := true, laidLooks := .later }
def QueueApartCardSaid : Prop := Claim7.holds Tryz.pinned (.plain (OpenSpec.ofChange queueApartSpec)) queueApartCard

/-- THE SECOND FORM's CARD OF 'weighbridgelaw08.QueueShards'. -/
def queueShardsUptoCard : Claim7 := { stood := { row := queueShardsUptoRow, standIns := [], harness := (true, "5733d6adcabe7866aa706da7e572d21a16ce98e8c5c80e73ce7a5a238f21560b"), looks := false }, kinds := [], alts := [], laidByText := true, laidKinds := [.data], laidTests := true, laidLooks := .later }
def QueueShardsUptoCardSaid : Prop := Claim7.holds Tryz.pinned (.plain (OpenSpec.upto queueShardsSpec)) queueShardsUptoCard

/-- THE SECOND FORM's CARD OF 'weighbridgelaw08.QueueHeap'. -/
def queueHeapUptoCard : Claim7 := { stood := { row := queueHeapUptoRow, standIns := [], harness := (true, "5733d6adcabe7866aa706da7e572d21a16ce98e8c5c80e73ce7a5a238f21560b"), looks := false }, kinds := [], alts := [], laidByText := true, laidKinds := [.data], laidTests := true, laidLooks := .later }
def QueueHeapUptoCardSaid : Prop := Claim7.holds Tryz.pinned (.plain (OpenSpec.upto queueHeapSpec)) queueHeapUptoCard

/-- THE SECOND FORM's CARD OF 'weighbridgelaw08.QueuePlays'. -/
def queuePlaysUptoCard : Claim7 := { stood := { row := queuePlaysUptoRow, standIns := [], harness := (true, "5733d6adcabe7866aa706da7e572d21a16ce98e8c5c80e73ce7a5a238f21560b"), looks := false }, kinds := [], alts := [], laidByText := true, laidKinds := [.data], laidTests := true, laidLooks := .later }
def QueuePlaysUptoCardSaid : Prop := Claim7.holds Tryz.pinned (.plain (OpenSpec.upto queuePlaysSpec)) queuePlaysUptoCard

/-- THE SECOND FORM's CARD OF 'weighbridgelaw08.QueueApart'. -/
def queueApartUptoCard : Claim7 := { stood := { row := queueApartUptoRow, standIns := [], harness := (true, "5733d6adcabe7866aa706da7e572d21a16ce98e8c5c80e73ce7a5a238f21560b"), looks := false }, kinds := [], alts := [], laidByText := true, laidKinds := [.data], laidTests := true, laidLooks := .later }
def QueueApartUptoCardSaid : Prop := Claim7.holds Tryz.pinned (.plain (OpenSpec.upto queueApartSpec)) queueApartUptoCard
end Rows
end Go.Proofs.YtkepeolbpgnlbaaGreatDoor
