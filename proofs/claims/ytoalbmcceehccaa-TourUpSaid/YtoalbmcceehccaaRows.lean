/-
  No cell of these rows narrows 'for every input' (looked for: loops, veiled, ifaces, maps, wideKeys, modest, calm, conditions, laid).
  DERIVED. THE GIVEN ROWS OF THIS SEAT. 6 by the template 'for every input the law returns true; each argument reads behind the call as it read before'; 0 by the template 'total and deterministic' (their statements: YtoalbmcceehccaaTotals.lean).
  GIVEN WITH THE SEED: the statements are not yours to turn. If you find one false, say at which input.
  Laid BY PROGRAM, IN A SANDBOX (cutbox-rows.mjs): the forced cells as the released guide's own fill.sh prints them over the translation b60e6a4eae2afdbf… (all of the seat's roots in one cut). By AI agents, Wed Nov 11 2026. No macro, syntax, notation, axiom, sorry.
-/
import Derived.Test.YtoalbmcceehccaaChecked
import GoSem.Claim
import GoSem.ClaimJoined
import GoSem.ClaimMapViews
import Derived.JoinedTies
import Derived.KernelRfl
namespace Go.Proofs.Ytoalbmcceehccaa
/- THE CELL 'sum', in the pinned program and in every row, IS THE sha256 OF THE DUMP (.gsa) THAT YtoalbmcceehccaaProg.lean LOADS. Nothing in Lean hashes anything: it is a label: what it is worth is what the hold of that sum in a sandbox is worth. -/
noncomputable def Try.pinned : Pinned := { name := "ytoalbmcceehccaa", sum := "b60e6a4eae2afdbfa57c6f479b58e472fb64a96482236f115358088ca0ef0058", checked := Try.checked }
namespace Rows
def none {H : Type} : Left H := { results := [], args := [] }

/-- 'weighbridgelaw07.TourPlays': WHATEVER THE INPUT: true; the input reads as it did. -/
def tourPlaysSpec : ChangeSpec := { name := "tourPlays", fn := fun _ => fun
  | [d1, d2] => { results := [.lit (.bool true)], args := [d1, d2] }
  | _ => none }
def tourPlaysRow : OpenClaim := { program := "ytoalbmcceehccaa", sum := "b60e6a4eae2afdbfa57c6f479b58e472fb64a96482236f115358088ca0ef0058", func := "weighbridge/weighbridgelaw07.TourPlays", spec := "tourPlays", apart := false }
def TourPlaysSaid : Prop := tourPlaysRow.holds Try.pinned (OpenSpec.ofChange tourPlaysSpec)

/-- ITS FALSE NEIGHBOUR: 'it returns false'. Refute it at one input. -/
def tourPlaysWrong : ChangeSpec := { name := "tourPlays", fn := fun _ => fun
  | [d1, d2] => { results := [.lit (.bool false)], args := [d1, d2] }
  | _ => none }
def TourPlaysWrongFalsely : Prop := tourPlaysRow.holds Try.pinned (OpenSpec.ofChange tourPlaysWrong)

/-- 'weighbridgelaw07.TourNodes': WHATEVER THE INPUT: true; the input reads as it did. -/
def tourNodesSpec : ChangeSpec := { name := "tourNodes", fn := fun _ => fun
  | [d1, d2, d3] => { results := [.lit (.bool true)], args := [d1, d2, d3] }
  | _ => none }
def tourNodesRow : OpenClaim := { program := "ytoalbmcceehccaa", sum := "b60e6a4eae2afdbfa57c6f479b58e472fb64a96482236f115358088ca0ef0058", func := "weighbridge/weighbridgelaw07.TourNodes", spec := "tourNodes", apart := false }
def TourNodesSaid : Prop := tourNodesRow.holds Try.pinned (OpenSpec.ofChange tourNodesSpec)

/-- ITS FALSE NEIGHBOUR: 'it returns false'. Refute it at one input. -/
def tourNodesWrong : ChangeSpec := { name := "tourNodes", fn := fun _ => fun
  | [d1, d2, d3] => { results := [.lit (.bool false)], args := [d1, d2, d3] }
  | _ => none }
def TourNodesWrongFalsely : Prop := tourNodesRow.holds Try.pinned (OpenSpec.ofChange tourNodesWrong)

/-- 'weighbridgelaw07.TourUp': WHATEVER THE INPUT: true; the input reads as it did. -/
def tourUpSpec : ChangeSpec := { name := "tourUp", fn := fun _ => fun
  | [d1, d2] => { results := [.lit (.bool true)], args := [d1, d2] }
  | _ => none }
def tourUpRow : OpenClaim := { program := "ytoalbmcceehccaa", sum := "b60e6a4eae2afdbfa57c6f479b58e472fb64a96482236f115358088ca0ef0058", func := "weighbridge/weighbridgelaw07.TourUp", spec := "tourUp", apart := false }
def TourUpSaid : Prop := tourUpRow.holds Try.pinned (OpenSpec.ofChange tourUpSpec)

/-- ITS FALSE NEIGHBOUR: 'it returns false'. Refute it at one input. -/
def tourUpWrong : ChangeSpec := { name := "tourUp", fn := fun _ => fun
  | [d1, d2] => { results := [.lit (.bool false)], args := [d1, d2] }
  | _ => none }
def TourUpWrongFalsely : Prop := tourUpRow.holds Try.pinned (OpenSpec.ofChange tourUpWrong)

/-- 'weighbridgelaw07.TourTies': WHATEVER THE INPUT: true; the input reads as it did. -/
def tourTiesSpec : ChangeSpec := { name := "tourTies", fn := fun _ => fun
  | [d1, d2] => { results := [.lit (.bool true)], args := [d1, d2] }
  | _ => none }
def tourTiesRow : OpenClaim := { program := "ytoalbmcceehccaa", sum := "b60e6a4eae2afdbfa57c6f479b58e472fb64a96482236f115358088ca0ef0058", func := "weighbridge/weighbridgelaw07.TourTies", spec := "tourTies", apart := false }
def TourTiesSaid : Prop := tourTiesRow.holds Try.pinned (OpenSpec.ofChange tourTiesSpec)

/-- ITS FALSE NEIGHBOUR: 'it returns false'. Refute it at one input. -/
def tourTiesWrong : ChangeSpec := { name := "tourTies", fn := fun _ => fun
  | [d1, d2] => { results := [.lit (.bool false)], args := [d1, d2] }
  | _ => none }
def TourTiesWrongFalsely : Prop := tourTiesRow.holds Try.pinned (OpenSpec.ofChange tourTiesWrong)

/-- 'weighbridgelaw07.TourSorts': WHATEVER THE INPUT: true; the input reads as it did. -/
def tourSortsSpec : ChangeSpec := { name := "tourSorts", fn := fun _ => fun
  | [d] => { results := [.lit (.bool true)], args := [d] }
  | _ => none }
def tourSortsRow : OpenClaim := { program := "ytoalbmcceehccaa", sum := "b60e6a4eae2afdbfa57c6f479b58e472fb64a96482236f115358088ca0ef0058", func := "weighbridge/weighbridgelaw07.TourSorts", spec := "tourSorts", apart := false }
def TourSortsSaid : Prop := tourSortsRow.holds Try.pinned (OpenSpec.ofChange tourSortsSpec)

/-- ITS FALSE NEIGHBOUR: 'it returns false'. Refute it at one input. -/
def tourSortsWrong : ChangeSpec := { name := "tourSorts", fn := fun _ => fun
  | [d] => { results := [.lit (.bool false)], args := [d] }
  | _ => none }
def TourSortsWrongFalsely : Prop := tourSortsRow.holds Try.pinned (OpenSpec.ofChange tourSortsWrong)

/-- 'weighbridgelaw07.TourApart': WHATEVER THE INPUT: true; the input reads as it did. -/
def tourApartSpec : ChangeSpec := { name := "tourApart", fn := fun _ => fun
  | [d1, d2, d3] => { results := [.lit (.bool true)], args := [d1, d2, d3] }
  | _ => none }
def tourApartRow : OpenClaim := { program := "ytoalbmcceehccaa", sum := "b60e6a4eae2afdbfa57c6f479b58e472fb64a96482236f115358088ca0ef0058", func := "weighbridge/weighbridgelaw07.TourApart", spec := "tourApart", apart := false }
def TourApartSaid : Prop := tourApartRow.holds Try.pinned (OpenSpec.ofChange tourApartSpec)

/-- ITS FALSE NEIGHBOUR: 'it returns false'. Refute it at one input. -/
def tourApartWrong : ChangeSpec := { name := "tourApart", fn := fun _ => fun
  | [d1, d2, d3] => { results := [.lit (.bool false)], args := [d1, d2, d3] }
  | _ => none }
def TourApartWrongFalsely : Prop := tourApartRow.holds Try.pinned (OpenSpec.ofChange tourApartWrong)

/- THE SECOND FORM. 'bulk': how many values and letters a reading holds, each counted each time it is reached (what is shared counts as often as it is met; a slice's spare places count too). A statement '..UptoSaid' is the law's where the arguments, and the package variables that the reading takes, are together of bulk at most 1048576: NARROWER than '..Said'. Prove '..Said' where nothing that the law and all that it calls make is longer than what came in: it says more and counts as full. Else prove '..UptoSaid'. A law counts once. -/
mutual
def uptoBulk {H : Type} : DataW H → Nat
  | .lit (.string bytes) => bytes.length + 1
  | .lit _ => 1
  | .nil => 1
  | .ptr d => uptoBulk d + 1
  | .slice elems spare => uptoBulkAll elems + uptoBulkAll spare + 1
  | .agg parts => uptoBulkAll parts + 1
  | .iface _ d => uptoBulk d + 1
  | .map entries => uptoBulkEntries entries + 1
  | .held _ => 1
def uptoBulkAll {H : Type} : List (DataW H) → Nat
  | [] => 0
  | d :: r => uptoBulk d + uptoBulkAll r
def uptoBulkEntries {H : Type} : List (Lit × DataW H) → Nat
  | [] => 0
  | x :: r => uptoBulkEntry x + uptoBulkEntries r
def uptoBulkEntry {H : Type} : Lit × DataW H → Nat
  | (.string bytes, d) => bytes.length + uptoBulk d + 1
  | (_, d) => uptoBulk d + 1
 end
def uptoSmall : (H : Type) → List (DataW H) → Bool := fun _ ds => decide (uptoBulkAll ds ≤ 1048576)
def OpenSpec.upto (s : _root_.Go.ChangeSpec) : _root_.Go.OpenSpec := { _root_.Go.OpenSpec.ofChange s with cond := some uptoSmall }

/-- 'weighbridgelaw07.TourPlays', WHERE WHAT IT READS IS OF BULK AT MOST 1048576: true; the input reads as it did. -/
def tourPlaysUptoRow : OpenClaim := { program := "ytoalbmcceehccaa", sum := "b60e6a4eae2afdbfa57c6f479b58e472fb64a96482236f115358088ca0ef0058", func := "weighbridge/weighbridgelaw07.TourPlays", spec := "tourPlays", apart := false, narrowed := true }
def TourPlaysUptoSaid : Prop := tourPlaysUptoRow.holds Try.pinned (OpenSpec.upto tourPlaysSpec)

/-- 'weighbridgelaw07.TourNodes', WHERE WHAT IT READS IS OF BULK AT MOST 1048576: true; the input reads as it did. -/
def tourNodesUptoRow : OpenClaim := { program := "ytoalbmcceehccaa", sum := "b60e6a4eae2afdbfa57c6f479b58e472fb64a96482236f115358088ca0ef0058", func := "weighbridge/weighbridgelaw07.TourNodes", spec := "tourNodes", apart := false, narrowed := true }
def TourNodesUptoSaid : Prop := tourNodesUptoRow.holds Try.pinned (OpenSpec.upto tourNodesSpec)

/-- 'weighbridgelaw07.TourUp', WHERE WHAT IT READS IS OF BULK AT MOST 1048576: true; the input reads as it did. -/
def tourUpUptoRow : OpenClaim := { program := "ytoalbmcceehccaa", sum := "b60e6a4eae2afdbfa57c6f479b58e472fb64a96482236f115358088ca0ef0058", func := "weighbridge/weighbridgelaw07.TourUp", spec := "tourUp", apart := false, narrowed := true }
def TourUpUptoSaid : Prop := tourUpUptoRow.holds Try.pinned (OpenSpec.upto tourUpSpec)

/-- 'weighbridgelaw07.TourTies', WHERE WHAT IT READS IS OF BULK AT MOST 1048576: true; the input reads as it did. -/
def tourTiesUptoRow : OpenClaim := { program := "ytoalbmcceehccaa", sum := "b60e6a4eae2afdbfa57c6f479b58e472fb64a96482236f115358088ca0ef0058", func := "weighbridge/weighbridgelaw07.TourTies", spec := "tourTies", apart := false, narrowed := true }
def TourTiesUptoSaid : Prop := tourTiesUptoRow.holds Try.pinned (OpenSpec.upto tourTiesSpec)

/-- 'weighbridgelaw07.TourSorts', WHERE WHAT IT READS IS OF BULK AT MOST 1048576: true; the input reads as it did. -/
def tourSortsUptoRow : OpenClaim := { program := "ytoalbmcceehccaa", sum := "b60e6a4eae2afdbfa57c6f479b58e472fb64a96482236f115358088ca0ef0058", func := "weighbridge/weighbridgelaw07.TourSorts", spec := "tourSorts", apart := false, narrowed := true }
def TourSortsUptoSaid : Prop := tourSortsUptoRow.holds Try.pinned (OpenSpec.upto tourSortsSpec)

/-- 'weighbridgelaw07.TourApart', WHERE WHAT IT READS IS OF BULK AT MOST 1048576: true; the input reads as it did. -/
def tourApartUptoRow : OpenClaim := { program := "ytoalbmcceehccaa", sum := "b60e6a4eae2afdbfa57c6f479b58e472fb64a96482236f115358088ca0ef0058", func := "weighbridge/weighbridgelaw07.TourApart", spec := "tourApart", apart := false, narrowed := true }
def TourApartUptoSaid : Prop := tourApartUptoRow.holds Try.pinned (OpenSpec.upto tourApartSpec)

end Rows
end Go.Proofs.Ytoalbmcceehccaa
