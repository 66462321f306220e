/-
  DERIVED. GIVEN WITH THE SEED: THE CARDS: each row of YtkepeolbpgnlbaaDoorRows.lean that lists a variable, with what it lists TIED to the program's text (the seventh form; the later family's looks); each row that meets fmt, with fmt's text TOLD by the authors' own Lean function (tested against real Go, not proved from fmt's source: count such statements apart). THE CARD IS WHAT COUNTS. Prove the row's statement (the work); the ties are given (YtkepeolbpgnlbaaDoorTie.lean); close each card by the builder's one call (the guide's Derived/Test/ToyasCard.lean, 'card_holds'). Laid BY PROGRAM, IN A SANDBOX (cutbox-door.mjs). By AI agents, Wed Nov 11 2026. No macro, syntax, notation, axiom, sorry.
-/
import Derived.Test.YtkepeolbpgnlbaaDoorRows
import GoSem.ClaimSeven
namespace Go.Proofs.YtkepeolbpgnlbaaDoor
namespace Rows

/-- THE TIED CARD OF 'weighbridgelaw08.QueueIDs'. -/
def queueIDsCard : Claim7 := { stood := { row := queueIDsRow, standIns := [], harness := (true, "a886258f88916bb37f5f3493086c607c5fef4a6e77015a212a73bd8bd90ca762"), looks := false }, kinds := [], alts := [], laidByText := true, laidKinds := [.data], laidTests := true, laidLooks := .later }
def QueueIDsCardSaid : Prop := Claim7.holds Tryd.pinned (.plain (OpenSpec.ofChange queueIDsSpec)) queueIDsCard

/-- THE TIED CARD OF 'weighbridgelaw08.QueueBases'. -/
def queueBasesCard : Claim7 := { stood := { row := queueBasesRow, standIns := [], harness := (true, "a886258f88916bb37f5f3493086c607c5fef4a6e77015a212a73bd8bd90ca762"), looks := false }, kinds := [], alts := [], laidByText := true, laidKinds := [.data], laidTests := true, laidLooks := .later }
def QueueBasesCardSaid : Prop := Claim7.holds Tryd.pinned (.plain (OpenSpec.ofChange queueBasesSpec)) queueBasesCard

/-- THE TIED CARD OF 'weighbridgelaw06.ShardDrains'. -/
def shardDrainsCard : Claim7 := { stood := { row := shardDrainsRow, standIns := [], harness := (true, "a886258f88916bb37f5f3493086c607c5fef4a6e77015a212a73bd8bd90ca762"), looks := false }, kinds := [], alts := [], laidByText := true, laidKinds := [.data], laidTests := true, laidLooks := .later }
def ShardDrainsCardSaid : Prop := Claim7.holds Tryd.pinned (.plain (OpenSpec.ofChange shardDrainsSpec)) shardDrainsCard

/-- THE SECOND FORM's CARD OF 'weighbridgelaw08.QueueIDs'. -/
def queueIDsUptoCard : Claim7 := { stood := { row := queueIDsUptoRow, standIns := [], harness := (true, "a886258f88916bb37f5f3493086c607c5fef4a6e77015a212a73bd8bd90ca762"), looks := false }, kinds := [], alts := [], laidByText := true, laidKinds := [.data], laidTests := true, laidLooks := .later }
def QueueIDsUptoCardSaid : Prop := Claim7.holds Tryd.pinned (.plain (OpenSpec.upto queueIDsSpec)) queueIDsUptoCard

/-- THE SECOND FORM's CARD OF 'weighbridgelaw08.QueueBases'. -/
def queueBasesUptoCard : Claim7 := { stood := { row := queueBasesUptoRow, standIns := [], harness := (true, "a886258f88916bb37f5f3493086c607c5fef4a6e77015a212a73bd8bd90ca762"), looks := false }, kinds := [], alts := [], laidByText := true, laidKinds := [.data], laidTests := true, laidLooks := .later }
def QueueBasesUptoCardSaid : Prop := Claim7.holds Tryd.pinned (.plain (OpenSpec.upto queueBasesSpec)) queueBasesUptoCard

/-- THE SECOND FORM's CARD OF 'weighbridgelaw06.ShardDrains'. -/
def shardDrainsUptoCard : Claim7 := { stood := { row := shardDrainsUptoRow, standIns := [], harness := (true, "a886258f88916bb37f5f3493086c607c5fef4a6e77015a212a73bd8bd90ca762"), looks := false }, kinds := [], alts := [], laidByText := true, laidKinds := [.data], laidTests := true, laidLooks := .later }
def ShardDrainsUptoCardSaid : Prop := Claim7.holds Tryd.pinned (.plain (OpenSpec.upto shardDrainsSpec)) shardDrainsUptoCard
end Rows
end Go.Proofs.YtkepeolbpgnlbaaDoor
