/-
  NARROWER THAN 'FOR EVERY INPUT', by the rows' own cells (each row's printed sentence says how): WheelLevels: laid · WheelWidths: laid · WheelReach: laid · WheelMaps: laid · WheelApart: laid · WheelLadder: laid · WheelMoves: laid · WheelPlays: laid.
  DERIVED. THE GIVEN ROWS OF THIS SEAT. 8 by the template 'for every input the law returns true; each argument reads behind the call as it read before'; 0 by the template 'total and deterministic' (their statements: YtilibinmbmgedaaDoorTotals.lean).
  GIVEN WITH THE SEED: the statements are not yours to turn. If you find one false, say at which input.
  Laid BY PROGRAM, IN A SANDBOX (cutbox-rows.mjs): the forced cells as the released guide's own fill.sh prints them over the translation 2e66905569d38e5c… (all of the seat's roots in one cut). By AI agents, Wed Nov 11 2026. No macro, syntax, notation, axiom, sorry.
-/
import Derived.Test.YtilibinmbmgedaaDoorChecked
import GoSem.Claim
import GoSem.ClaimJoined
import GoSem.ClaimMapViews
import Derived.JoinedTies
import Derived.KernelRfl
namespace Go.Proofs.YtilibinmbmgedaaDoor
/- THE CELL 'sum', in the pinned program and in every row, IS THE sha256 OF THE DUMP (.gsa) THAT YtilibinmbmgedaaDoorProg.lean LOADS. Nothing in Lean hashes anything: it is a label: what it is worth is what the hold of that sum in a sandbox is worth. -/
noncomputable def Tryd.pinned : Pinned := { name := "ytilibinmbmgedaadoor", sum := "2e66905569d38e5c90eef57e217e20d8bbff28f870d471be938a00becb510e7c", checked := Tryd.checked }
namespace Rows
def none {H : Type} : Left H := { results := [], args := [] }

/- WHAT THE LISTED PACKAGE-LEVEL VARIABLES READ AS WHEN THE CALL BEGINS. Each datum BY PROGRAM (the guide's laid-datum.mjs) off the statement by which the dump's own 'gosem.cut.vars' lays the variable. In a bare row this is a premise. The card (YtilibinmbmgedaaDoorCards.lean) ties it to the program's text. -/
def laid_math_bits_deBruijn64tab {H : Type} : DataW H := .agg [.lit (.int .u8 0), .lit (.int .u8 1), .lit (.int .u8 56), .lit (.int .u8 2), .lit (.int .u8 57), .lit (.int .u8 49), .lit (.int .u8 28), .lit (.int .u8 3), .lit (.int .u8 61), .lit (.int .u8 58), .lit (.int .u8 42), .lit (.int .u8 50), .lit (.int .u8 38), .lit (.int .u8 29), .lit (.int .u8 17), .lit (.int .u8 4), .lit (.int .u8 62), .lit (.int .u8 47), .lit (.int .u8 59), .lit (.int .u8 36), .lit (.int .u8 45), .lit (.int .u8 43), .lit (.int .u8 51), .lit (.int .u8 22), .lit (.int .u8 53), .lit (.int .u8 39), .lit (.int .u8 33), .lit (.int .u8 30), .lit (.int .u8 24), .lit (.int .u8 18), .lit (.int .u8 12), .lit (.int .u8 5), .lit (.int .u8 63), .lit (.int .u8 55), .lit (.int .u8 48), .lit (.int .u8 27), .lit (.int .u8 60), .lit (.int .u8 41), .lit (.int .u8 37), .lit (.int .u8 16), .lit (.int .u8 46), .lit (.int .u8 35), .lit (.int .u8 44), .lit (.int .u8 21), .lit (.int .u8 52), .lit (.int .u8 32), .lit (.int .u8 23), .lit (.int .u8 11), .lit (.int .u8 54), .lit (.int .u8 26), .lit (.int .u8 40), .lit (.int .u8 15), .lit (.int .u8 34), .lit (.int .u8 20), .lit (.int .u8 31), .lit (.int .u8 10), .lit (.int .u8 25), .lit (.int .u8 14), .lit (.int .u8 19), .lit (.int .u8 9), .lit (.int .u8 13), .lit (.int .u8 8), .lit (.int .u8 7), .lit (.int .u8 6)]

/-- 'weighbridgelaw05.WheelLevels': WHATEVER THE INPUT: true; the input reads as it did. -/
def wheelLevelsSpec : ChangeSpec := { name := "wheelLevels", fn := fun _ => fun
  | [d1, d2, d3, d4] => { results := [.lit (.bool true)], args := [d1, d2, d3, d4] }
  | _ => none }
def wheelLevelsRow : OpenClaim := { program := "ytilibinmbmgedaadoor", sum := "2e66905569d38e5c90eef57e217e20d8bbff28f870d471be938a00becb510e7c", func := "weighbridge/weighbridgelaw05.WheelLevels", spec := "wheelLevels", named := ["math/bits.deBruijn64tab"], apart := false, laid := [("math/bits.deBruijn64tab", laid_math_bits_deBruijn64tab)] }
def WheelLevelsSaid : Prop := wheelLevelsRow.holds Tryd.pinned (OpenSpec.ofChange wheelLevelsSpec)

/-- ITS FALSE NEIGHBOUR: 'it returns false'. Refute it at one input. -/
def wheelLevelsWrong : ChangeSpec := { name := "wheelLevels", fn := fun _ => fun
  | [d1, d2, d3, d4] => { results := [.lit (.bool false)], args := [d1, d2, d3, d4] }
  | _ => none }
def WheelLevelsWrongFalsely : Prop := wheelLevelsRow.holds Tryd.pinned (OpenSpec.ofChange wheelLevelsWrong)

/-- 'weighbridgelaw05.WheelWidths': WHATEVER THE INPUT: true; the input reads as it did. -/
def wheelWidthsSpec : ChangeSpec := { name := "wheelWidths", fn := fun _ => fun
  | [d1, d2, d3, d4] => { results := [.lit (.bool true)], args := [d1, d2, d3, d4] }
  | _ => none }
def wheelWidthsRow : OpenClaim := { program := "ytilibinmbmgedaadoor", sum := "2e66905569d38e5c90eef57e217e20d8bbff28f870d471be938a00becb510e7c", func := "weighbridge/weighbridgelaw05.WheelWidths", spec := "wheelWidths", named := ["math/bits.deBruijn64tab"], apart := false, laid := [("math/bits.deBruijn64tab", laid_math_bits_deBruijn64tab)] }
def WheelWidthsSaid : Prop := wheelWidthsRow.holds Tryd.pinned (OpenSpec.ofChange wheelWidthsSpec)

/-- ITS FALSE NEIGHBOUR: 'it returns false'. Refute it at one input. -/
def wheelWidthsWrong : ChangeSpec := { name := "wheelWidths", fn := fun _ => fun
  | [d1, d2, d3, d4] => { results := [.lit (.bool false)], args := [d1, d2, d3, d4] }
  | _ => none }
def WheelWidthsWrongFalsely : Prop := wheelWidthsRow.holds Tryd.pinned (OpenSpec.ofChange wheelWidthsWrong)

/-- 'weighbridgelaw05.WheelReach': WHATEVER THE INPUT: true; the input reads as it did. -/
def wheelReachSpec : ChangeSpec := { name := "wheelReach", fn := fun _ => fun
  | [d1, d2, d3] => { results := [.lit (.bool true)], args := [d1, d2, d3] }
  | _ => none }
def wheelReachRow : OpenClaim := { program := "ytilibinmbmgedaadoor", sum := "2e66905569d38e5c90eef57e217e20d8bbff28f870d471be938a00becb510e7c", func := "weighbridge/weighbridgelaw05.WheelReach", spec := "wheelReach", named := ["math/bits.deBruijn64tab"], apart := false, laid := [("math/bits.deBruijn64tab", laid_math_bits_deBruijn64tab)] }
def WheelReachSaid : Prop := wheelReachRow.holds Tryd.pinned (OpenSpec.ofChange wheelReachSpec)

/-- ITS FALSE NEIGHBOUR: 'it returns false'. Refute it at one input. -/
def wheelReachWrong : ChangeSpec := { name := "wheelReach", fn := fun _ => fun
  | [d1, d2, d3] => { results := [.lit (.bool false)], args := [d1, d2, d3] }
  | _ => none }
def WheelReachWrongFalsely : Prop := wheelReachRow.holds Tryd.pinned (OpenSpec.ofChange wheelReachWrong)

/-- 'weighbridgelaw05.WheelMaps': WHATEVER THE INPUT: true; the input reads as it did. -/
def wheelMapsSpec : ChangeSpec := { name := "wheelMaps", fn := fun _ => fun
  | [d1, d2, d3] => { results := [.lit (.bool true)], args := [d1, d2, d3] }
  | _ => none }
def wheelMapsRow : OpenClaim := { program := "ytilibinmbmgedaadoor", sum := "2e66905569d38e5c90eef57e217e20d8bbff28f870d471be938a00becb510e7c", func := "weighbridge/weighbridgelaw05.WheelMaps", spec := "wheelMaps", unfollowed := true, recurses := true, named := ["math/bits.deBruijn64tab"], apart := false, laid := [("math/bits.deBruijn64tab", laid_math_bits_deBruijn64tab)] }
def WheelMapsSaid : Prop := wheelMapsRow.holds Tryd.pinned (OpenSpec.ofChange wheelMapsSpec)

/-- ITS FALSE NEIGHBOUR: 'it returns false'. Refute it at one input. -/
def wheelMapsWrong : ChangeSpec := { name := "wheelMaps", fn := fun _ => fun
  | [d1, d2, d3] => { results := [.lit (.bool false)], args := [d1, d2, d3] }
  | _ => none }
def WheelMapsWrongFalsely : Prop := wheelMapsRow.holds Tryd.pinned (OpenSpec.ofChange wheelMapsWrong)

/-- 'weighbridgelaw05.WheelApart': WHATEVER THE INPUT: true; the input reads as it did. -/
def wheelApartSpec : ChangeSpec := { name := "wheelApart", fn := fun _ => fun
  | [d1, d2, d3] => { results := [.lit (.bool true)], args := [d1, d2, d3] }
  | _ => none }
def wheelApartRow : OpenClaim := { program := "ytilibinmbmgedaadoor", sum := "2e66905569d38e5c90eef57e217e20d8bbff28f870d471be938a00becb510e7c", func := "weighbridge/weighbridgelaw05.WheelApart", spec := "wheelApart", unfollowed := true, recurses := true, named := ["math/bits.deBruijn64tab"], apart := false, laid := [("math/bits.deBruijn64tab", laid_math_bits_deBruijn64tab)] }
def WheelApartSaid : Prop := wheelApartRow.holds Tryd.pinned (OpenSpec.ofChange wheelApartSpec)

/-- ITS FALSE NEIGHBOUR: 'it returns false'. Refute it at one input. -/
def wheelApartWrong : ChangeSpec := { name := "wheelApart", fn := fun _ => fun
  | [d1, d2, d3] => { results := [.lit (.bool false)], args := [d1, d2, d3] }
  | _ => none }
def WheelApartWrongFalsely : Prop := wheelApartRow.holds Tryd.pinned (OpenSpec.ofChange wheelApartWrong)

/-- 'weighbridgelaw05.WheelLadder': WHATEVER THE INPUT: true; the input reads as it did. -/
def wheelLadderSpec : ChangeSpec := { name := "wheelLadder", fn := fun _ => fun
  | [d1, d2] => { results := [.lit (.bool true)], args := [d1, d2] }
  | _ => none }
def wheelLadderRow : OpenClaim := { program := "ytilibinmbmgedaadoor", sum := "2e66905569d38e5c90eef57e217e20d8bbff28f870d471be938a00becb510e7c", func := "weighbridge/weighbridgelaw05.WheelLadder", spec := "wheelLadder", unfollowed := true, recurses := true, named := ["math/bits.deBruijn64tab"], apart := false, laid := [("math/bits.deBruijn64tab", laid_math_bits_deBruijn64tab)] }
def WheelLadderSaid : Prop := wheelLadderRow.holds Tryd.pinned (OpenSpec.ofChange wheelLadderSpec)

/-- ITS FALSE NEIGHBOUR: 'it returns false'. Refute it at one input. -/
def wheelLadderWrong : ChangeSpec := { name := "wheelLadder", fn := fun _ => fun
  | [d1, d2] => { results := [.lit (.bool false)], args := [d1, d2] }
  | _ => none }
def WheelLadderWrongFalsely : Prop := wheelLadderRow.holds Tryd.pinned (OpenSpec.ofChange wheelLadderWrong)

/-- 'weighbridgelaw05.WheelMoves': WHATEVER THE INPUT: true; the input reads as it did. -/
def wheelMovesSpec : ChangeSpec := { name := "wheelMoves", fn := fun _ => fun
  | [d1, d2, d3] => { results := [.lit (.bool true)], args := [d1, d2, d3] }
  | _ => none }
def wheelMovesRow : OpenClaim := { program := "ytilibinmbmgedaadoor", sum := "2e66905569d38e5c90eef57e217e20d8bbff28f870d471be938a00becb510e7c", func := "weighbridge/weighbridgelaw05.WheelMoves", spec := "wheelMoves", unfollowed := true, recurses := true, named := ["math/bits.deBruijn64tab"], apart := false, laid := [("math/bits.deBruijn64tab", laid_math_bits_deBruijn64tab)] }
def WheelMovesSaid : Prop := wheelMovesRow.holds Tryd.pinned (OpenSpec.ofChange wheelMovesSpec)

/-- ITS FALSE NEIGHBOUR: 'it returns false'. Refute it at one input. -/
def wheelMovesWrong : ChangeSpec := { name := "wheelMoves", fn := fun _ => fun
  | [d1, d2, d3] => { results := [.lit (.bool false)], args := [d1, d2, d3] }
  | _ => none }
def WheelMovesWrongFalsely : Prop := wheelMovesRow.holds Tryd.pinned (OpenSpec.ofChange wheelMovesWrong)

/-- 'weighbridgelaw05.WheelPlays': WHATEVER THE INPUT: true; the input reads as it did. -/
def wheelPlaysSpec : ChangeSpec := { name := "wheelPlays", fn := fun _ => fun
  | [d1, d2] => { results := [.lit (.bool true)], args := [d1, d2] }
  | _ => none }
def wheelPlaysRow : OpenClaim := { program := "ytilibinmbmgedaadoor", sum := "2e66905569d38e5c90eef57e217e20d8bbff28f870d471be938a00becb510e7c", func := "weighbridge/weighbridgelaw05.WheelPlays", spec := "wheelPlays", unfollowed := true, recurses := true, named := ["math/bits.deBruijn64tab"], apart := false, laid := [("math/bits.deBruijn64tab", laid_math_bits_deBruijn64tab)] }
def WheelPlaysSaid : Prop := wheelPlaysRow.holds Tryd.pinned (OpenSpec.ofChange wheelPlaysSpec)

/-- ITS FALSE NEIGHBOUR: 'it returns false'. Refute it at one input. -/
def wheelPlaysWrong : ChangeSpec := { name := "wheelPlays", fn := fun _ => fun
  | [d1, d2] => { results := [.lit (.bool false)], args := [d1, d2] }
  | _ => none }
def WheelPlaysWrongFalsely : Prop := wheelPlaysRow.holds Tryd.pinned (OpenSpec.ofChange wheelPlaysWrong)

/- THE SECOND FORM. 'bulk': how many values and letters a reading holds, each counted each time it is reached (what is shared counts as often as it is met; a slice's spare places count too). A statement '..UptoSaid' is the law's where the arguments, and the package variables that the reading takes, are together of bulk at most 1048576: NARROWER than '..Said'. Prove '..Said' where nothing that the law and all that it calls make is longer than what came in: it says more and counts as full. Else prove '..UptoSaid'. A law counts once. -/
mutual
def uptoBulk {H : Type} : DataW H → Nat
  | .lit (.string bytes) => bytes.length + 1
  | .lit _ => 1
  | .nil => 1
  | .ptr d => uptoBulk d + 1
  | .slice elems spare => uptoBulkAll elems + uptoBulkAll spare + 1
  | .agg parts => uptoBulkAll parts + 1
  | .iface _ d => uptoBulk d + 1
  | .map entries => uptoBulkEntries entries + 1
  | .held _ => 1
def uptoBulkAll {H : Type} : List (DataW H) → Nat
  | [] => 0
  | d :: r => uptoBulk d + uptoBulkAll r
def uptoBulkEntries {H : Type} : List (Lit × DataW H) → Nat
  | [] => 0
  | x :: r => uptoBulkEntry x + uptoBulkEntries r
def uptoBulkEntry {H : Type} : Lit × DataW H → Nat
  | (.string bytes, d) => bytes.length + uptoBulk d + 1
  | (_, d) => uptoBulk d + 1
 end
def uptoSmall : (H : Type) → List (DataW H) → Bool := fun _ ds => decide (uptoBulkAll ds ≤ 1048576)
def OpenSpec.upto (s : _root_.Go.ChangeSpec) : _root_.Go.OpenSpec := { _root_.Go.OpenSpec.ofChange s with cond := some uptoSmall }

/-- 'weighbridgelaw05.WheelLevels', WHERE WHAT IT READS IS OF BULK AT MOST 1048576: true; the input reads as it did. -/
def wheelLevelsUptoRow : OpenClaim := { program := "ytilibinmbmgedaadoor", sum := "2e66905569d38e5c90eef57e217e20d8bbff28f870d471be938a00becb510e7c", func := "weighbridge/weighbridgelaw05.WheelLevels", spec := "wheelLevels", named := ["math/bits.deBruijn64tab"], apart := false, laid := [("math/bits.deBruijn64tab", laid_math_bits_deBruijn64tab)], narrowed := true }
def WheelLevelsUptoSaid : Prop := wheelLevelsUptoRow.holds Tryd.pinned (OpenSpec.upto wheelLevelsSpec)

/-- 'weighbridgelaw05.WheelWidths', WHERE WHAT IT READS IS OF BULK AT MOST 1048576: true; the input reads as it did. -/
def wheelWidthsUptoRow : OpenClaim := { program := "ytilibinmbmgedaadoor", sum := "2e66905569d38e5c90eef57e217e20d8bbff28f870d471be938a00becb510e7c", func := "weighbridge/weighbridgelaw05.WheelWidths", spec := "wheelWidths", named := ["math/bits.deBruijn64tab"], apart := false, laid := [("math/bits.deBruijn64tab", laid_math_bits_deBruijn64tab)], narrowed := true }
def WheelWidthsUptoSaid : Prop := wheelWidthsUptoRow.holds Tryd.pinned (OpenSpec.upto wheelWidthsSpec)

/-- 'weighbridgelaw05.WheelReach', WHERE WHAT IT READS IS OF BULK AT MOST 1048576: true; the input reads as it did. -/
def wheelReachUptoRow : OpenClaim := { program := "ytilibinmbmgedaadoor", sum := "2e66905569d38e5c90eef57e217e20d8bbff28f870d471be938a00becb510e7c", func := "weighbridge/weighbridgelaw05.WheelReach", spec := "wheelReach", named := ["math/bits.deBruijn64tab"], apart := false, laid := [("math/bits.deBruijn64tab", laid_math_bits_deBruijn64tab)], narrowed := true }
def WheelReachUptoSaid : Prop := wheelReachUptoRow.holds Tryd.pinned (OpenSpec.upto wheelReachSpec)

/-- 'weighbridgelaw05.WheelMaps', WHERE WHAT IT READS IS OF BULK AT MOST 1048576: true; the input reads as it did. -/
def wheelMapsUptoRow : OpenClaim := { program := "ytilibinmbmgedaadoor", sum := "2e66905569d38e5c90eef57e217e20d8bbff28f870d471be938a00becb510e7c", func := "weighbridge/weighbridgelaw05.WheelMaps", spec := "wheelMaps", unfollowed := true, recurses := true, named := ["math/bits.deBruijn64tab"], apart := false, laid := [("math/bits.deBruijn64tab", laid_math_bits_deBruijn64tab)], narrowed := true }
def WheelMapsUptoSaid : Prop := wheelMapsUptoRow.holds Tryd.pinned (OpenSpec.upto wheelMapsSpec)

/-- 'weighbridgelaw05.WheelApart', WHERE WHAT IT READS IS OF BULK AT MOST 1048576: true; the input reads as it did. -/
def wheelApartUptoRow : OpenClaim := { program := "ytilibinmbmgedaadoor", sum := "2e66905569d38e5c90eef57e217e20d8bbff28f870d471be938a00becb510e7c", func := "weighbridge/weighbridgelaw05.WheelApart", spec := "wheelApart", unfollowed := true, recurses := true, named := ["math/bits.deBruijn64tab"], apart := false, laid := [("math/bits.deBruijn64tab", laid_math_bits_deBruijn64tab)], narrowed := true }
def WheelApartUptoSaid : Prop := wheelApartUptoRow.holds Tryd.pinned (OpenSpec.upto wheelApartSpec)

/-- 'weighbridgelaw05.WheelLadder', WHERE WHAT IT READS IS OF BULK AT MOST 1048576: true; the input reads as it did. -/
def wheelLadderUptoRow : OpenClaim := { program := "ytilibinmbmgedaadoor", sum := "2e66905569d38e5c90eef57e217e20d8bbff28f870d471be938a00becb510e7c", func := "weighbridge/weighbridgelaw05.WheelLadder", spec := "wheelLadder", unfollowed := true, recurses := true, named := ["math/bits.deBruijn64tab"], apart := false, laid := [("math/bits.deBruijn64tab", laid_math_bits_deBruijn64tab)], narrowed := true }
def WheelLadderUptoSaid : Prop := wheelLadderUptoRow.holds Tryd.pinned (OpenSpec.upto wheelLadderSpec)

/-- 'weighbridgelaw05.WheelMoves', WHERE WHAT IT READS IS OF BULK AT MOST 1048576: true; the input reads as it did. -/
def wheelMovesUptoRow : OpenClaim := { program := "ytilibinmbmgedaadoor", sum := "2e66905569d38e5c90eef57e217e20d8bbff28f870d471be938a00becb510e7c", func := "weighbridge/weighbridgelaw05.WheelMoves", spec := "wheelMoves", unfollowed := true, recurses := true, named := ["math/bits.deBruijn64tab"], apart := false, laid := [("math/bits.deBruijn64tab", laid_math_bits_deBruijn64tab)], narrowed := true }
def WheelMovesUptoSaid : Prop := wheelMovesUptoRow.holds Tryd.pinned (OpenSpec.upto wheelMovesSpec)

/-- 'weighbridgelaw05.WheelPlays', WHERE WHAT IT READS IS OF BULK AT MOST 1048576: true; the input reads as it did. -/
def wheelPlaysUptoRow : OpenClaim := { program := "ytilibinmbmgedaadoor", sum := "2e66905569d38e5c90eef57e217e20d8bbff28f870d471be938a00becb510e7c", func := "weighbridge/weighbridgelaw05.WheelPlays", spec := "wheelPlays", unfollowed := true, recurses := true, named := ["math/bits.deBruijn64tab"], apart := false, laid := [("math/bits.deBruijn64tab", laid_math_bits_deBruijn64tab)], narrowed := true }
def WheelPlaysUptoSaid : Prop := wheelPlaysUptoRow.holds Tryd.pinned (OpenSpec.upto wheelPlaysSpec)

end Rows
end Go.Proofs.YtilibinmbmgedaaDoor
