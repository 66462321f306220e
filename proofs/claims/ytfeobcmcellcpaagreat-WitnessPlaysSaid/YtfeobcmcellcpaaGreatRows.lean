/-
  No cell of these rows narrows 'for every input' (looked for: loops, veiled, ifaces, maps, wideKeys, modest, calm, conditions, laid).
  DERIVED. THE GIVEN ROWS OF THIS SEAT. 8 by the template 'for every input the law returns true; each argument reads behind the call as it read before'; 0 by the template 'total and deterministic' (their statements: YtfeobcmcellcpaaGreatTotals.lean).
  GIVEN WITH THE SEED: the statements are not yours to turn. If you find one false, say at which input.
  Laid BY PROGRAM, IN A SANDBOX (cutbox-rows.mjs): the forced cells as the released guide's own fill.sh prints them over the translation ef9b42b213a14c43… (all of the seat's roots in one cut). By AI agents, Wed Nov 11 2026. No macro, syntax, notation, axiom, sorry.
-/
import Derived.Test.YtfeobcmcellcpaaGreatChecked
import GoSem.Claim
import GoSem.ClaimJoined
import GoSem.ClaimMapViews
import Derived.JoinedTies
import Derived.KernelRfl
namespace Go.Proofs.YtfeobcmcellcpaaGreat
/- THE CELL 'sum', in the pinned program and in every row, IS THE sha256 OF THE DUMP (.gsa) THAT YtfeobcmcellcpaaGreatProg.lean LOADS. Nothing in Lean hashes anything: it is a label: what it is worth is what the hold of that sum in a sandbox is worth. -/
noncomputable def Tryz.pinned : Pinned := { name := "ytfeobcmcellcpaagreat", sum := "ef9b42b213a14c43bf69c38c8df27c2745fba2eaa97e46bc3f54e6e865f29d85", checked := Tryz.checked }
namespace Rows
def none {H : Type} : Left H := { results := [], args := [] }

/-- 'weighbridgelaw28.FairGap': WHATEVER THE INPUT: true; the input reads as it did. -/
def fairGapSpec : ChangeSpec := { name := "fairGap", fn := fun _ => fun
  | [d1, d2, d3, d4, d5, d6, d7] => { results := [.lit (.bool true)], args := [d1, d2, d3, d4, d5, d6, d7] }
  | _ => none }
def fairGapRow : OpenClaim := { program := "ytfeobcmcellcpaagreat", sum := "ef9b42b213a14c43bf69c38c8df27c2745fba2eaa97e46bc3f54e6e865f29d85", func := "weighbridge/weighbridgelaw28.FairGap", spec := "fairGap", inPlace := ["math/bits.Add64"], unfollowed := true, recurses := true, apart := false }
def FairGapSaid : Prop := fairGapRow.holds Tryz.pinned (OpenSpec.ofChange fairGapSpec)

/-- ITS FALSE NEIGHBOUR: 'it returns false'. Refute it at one input. -/
def fairGapWrong : ChangeSpec := { name := "fairGap", fn := fun _ => fun
  | [d1, d2, d3, d4, d5, d6, d7] => { results := [.lit (.bool false)], args := [d1, d2, d3, d4, d5, d6, d7] }
  | _ => none }
def FairGapWrongFalsely : Prop := fairGapRow.holds Tryz.pinned (OpenSpec.ofChange fairGapWrong)

/-- 'weighbridgelaw28.FairAll': WHATEVER THE INPUT: true; the input reads as it did. -/
def fairAllSpec : ChangeSpec := { name := "fairAll", fn := fun _ => fun
  | [d1, d2, d3, d4, d5, d6] => { results := [.lit (.bool true)], args := [d1, d2, d3, d4, d5, d6] }
  | _ => none }
def fairAllRow : OpenClaim := { program := "ytfeobcmcellcpaagreat", sum := "ef9b42b213a14c43bf69c38c8df27c2745fba2eaa97e46bc3f54e6e865f29d85", func := "weighbridge/weighbridgelaw28.FairAll", spec := "fairAll", inPlace := ["math/bits.Add64"], unfollowed := true, recurses := true, apart := false }
def FairAllSaid : Prop := fairAllRow.holds Tryz.pinned (OpenSpec.ofChange fairAllSpec)

/-- ITS FALSE NEIGHBOUR: 'it returns false'. Refute it at one input. -/
def fairAllWrong : ChangeSpec := { name := "fairAll", fn := fun _ => fun
  | [d1, d2, d3, d4, d5, d6] => { results := [.lit (.bool false)], args := [d1, d2, d3, d4, d5, d6] }
  | _ => none }
def FairAllWrongFalsely : Prop := fairAllRow.holds Tryz.pinned (OpenSpec.ofChange fairAllWrong)

/-- 'weighbridgelaw28.FairBound': WHATEVER THE INPUT: true; the input reads as it did. -/
def fairBoundSpec : ChangeSpec := { name := "fairBound", fn := fun _ => fun
  | [d1, d2, d3, d4] => { results := [.lit (.bool true)], args := [d1, d2, d3, d4] }
  | _ => none }
def fairBoundRow : OpenClaim := { program := "ytfeobcmcellcpaagreat", sum := "ef9b42b213a14c43bf69c38c8df27c2745fba2eaa97e46bc3f54e6e865f29d85", func := "weighbridge/weighbridgelaw28.FairBound", spec := "fairBound", inPlace := ["math/bits.Add64"], unfollowed := true, recurses := true, apart := false }
def FairBoundSaid : Prop := fairBoundRow.holds Tryz.pinned (OpenSpec.ofChange fairBoundSpec)

/-- ITS FALSE NEIGHBOUR: 'it returns false'. Refute it at one input. -/
def fairBoundWrong : ChangeSpec := { name := "fairBound", fn := fun _ => fun
  | [d1, d2, d3, d4] => { results := [.lit (.bool false)], args := [d1, d2, d3, d4] }
  | _ => none }
def FairBoundWrongFalsely : Prop := fairBoundRow.holds Tryz.pinned (OpenSpec.ofChange fairBoundWrong)

/-- 'weighbridgelaw28.FairWays': WHATEVER THE INPUT: true; the input reads as it did. -/
def fairWaysSpec : ChangeSpec := { name := "fairWays", fn := fun _ => fun
  | [d1, d2, d3, d4, d5, d6, d7] => { results := [.lit (.bool true)], args := [d1, d2, d3, d4, d5, d6, d7] }
  | _ => none }
def fairWaysRow : OpenClaim := { program := "ytfeobcmcellcpaagreat", sum := "ef9b42b213a14c43bf69c38c8df27c2745fba2eaa97e46bc3f54e6e865f29d85", func := "weighbridge/weighbridgelaw28.FairWays", spec := "fairWays", inPlace := ["math/bits.Add64"], unfollowed := true, recurses := true, apart := false }
def FairWaysSaid : Prop := fairWaysRow.holds Tryz.pinned (OpenSpec.ofChange fairWaysSpec)

/-- ITS FALSE NEIGHBOUR: 'it returns false'. Refute it at one input. -/
def fairWaysWrong : ChangeSpec := { name := "fairWays", fn := fun _ => fun
  | [d1, d2, d3, d4, d5, d6, d7] => { results := [.lit (.bool false)], args := [d1, d2, d3, d4, d5, d6, d7] }
  | _ => none }
def FairWaysWrongFalsely : Prop := fairWaysRow.holds Tryz.pinned (OpenSpec.ofChange fairWaysWrong)

/-- 'weighbridgelaw28.FairDear': WHATEVER THE INPUT: true; the input reads as it did. -/
def fairDearSpec : ChangeSpec := { name := "fairDear", fn := fun _ => fun
  | [d1, d2] => { results := [.lit (.bool true)], args := [d1, d2] }
  | _ => none }
def fairDearRow : OpenClaim := { program := "ytfeobcmcellcpaagreat", sum := "ef9b42b213a14c43bf69c38c8df27c2745fba2eaa97e46bc3f54e6e865f29d85", func := "weighbridge/weighbridgelaw28.FairDear", spec := "fairDear", inPlace := ["math/bits.Add64"], unfollowed := true, recurses := true, apart := false }
def FairDearSaid : Prop := fairDearRow.holds Tryz.pinned (OpenSpec.ofChange fairDearSpec)

/-- ITS FALSE NEIGHBOUR: 'it returns false'. Refute it at one input. -/
def fairDearWrong : ChangeSpec := { name := "fairDear", fn := fun _ => fun
  | [d1, d2] => { results := [.lit (.bool false)], args := [d1, d2] }
  | _ => none }
def FairDearWrongFalsely : Prop := fairDearRow.holds Tryz.pinned (OpenSpec.ofChange fairDearWrong)

/-- 'weighbridgelaw28.FairKept': WHATEVER THE INPUT: true; the input reads as it did. -/
def fairKeptSpec : ChangeSpec := { name := "fairKept", fn := fun _ => fun
  | [d1, d2, d3, d4, d5, d6] => { results := [.lit (.bool true)], args := [d1, d2, d3, d4, d5, d6] }
  | _ => none }
def fairKeptRow : OpenClaim := { program := "ytfeobcmcellcpaagreat", sum := "ef9b42b213a14c43bf69c38c8df27c2745fba2eaa97e46bc3f54e6e865f29d85", func := "weighbridge/weighbridgelaw28.FairKept", spec := "fairKept", inPlace := ["math/bits.Add64"], unfollowed := true, recurses := true, apart := false }
def FairKeptSaid : Prop := fairKeptRow.holds Tryz.pinned (OpenSpec.ofChange fairKeptSpec)

/-- ITS FALSE NEIGHBOUR: 'it returns false'. Refute it at one input. -/
def fairKeptWrong : ChangeSpec := { name := "fairKept", fn := fun _ => fun
  | [d1, d2, d3, d4, d5, d6] => { results := [.lit (.bool false)], args := [d1, d2, d3, d4, d5, d6] }
  | _ => none }
def FairKeptWrongFalsely : Prop := fairKeptRow.holds Tryz.pinned (OpenSpec.ofChange fairKeptWrong)

/-- 'weighbridgelaw28.FairTold': WHATEVER THE INPUT: true; the input reads as it did. -/
def fairToldSpec : ChangeSpec := { name := "fairTold", fn := fun _ => fun
  | [d1, d2, d3, d4] => { results := [.lit (.bool true)], args := [d1, d2, d3, d4] }
  | _ => none }
def fairToldRow : OpenClaim := { program := "ytfeobcmcellcpaagreat", sum := "ef9b42b213a14c43bf69c38c8df27c2745fba2eaa97e46bc3f54e6e865f29d85", func := "weighbridge/weighbridgelaw28.FairTold", spec := "fairTold", inPlace := ["math/bits.Add64"], unfollowed := true, recurses := true, apart := false }
def FairToldSaid : Prop := fairToldRow.holds Tryz.pinned (OpenSpec.ofChange fairToldSpec)

/-- ITS FALSE NEIGHBOUR: 'it returns false'. Refute it at one input. -/
def fairToldWrong : ChangeSpec := { name := "fairTold", fn := fun _ => fun
  | [d1, d2, d3, d4] => { results := [.lit (.bool false)], args := [d1, d2, d3, d4] }
  | _ => none }
def FairToldWrongFalsely : Prop := fairToldRow.holds Tryz.pinned (OpenSpec.ofChange fairToldWrong)

/-- 'weighbridgelaw27.WitnessPlays': WHATEVER THE INPUT: true; the input reads as it did. -/
def witnessPlaysSpec : ChangeSpec := { name := "witnessPlays", fn := fun _ => fun
  | [d1, d2, d3, d4, d5, d6] => { results := [.lit (.bool true)], args := [d1, d2, d3, d4, d5, d6] }
  | _ => none }
def witnessPlaysRow : OpenClaim := { program := "ytfeobcmcellcpaagreat", sum := "ef9b42b213a14c43bf69c38c8df27c2745fba2eaa97e46bc3f54e6e865f29d85", func := "weighbridge/weighbridgelaw27.WitnessPlays", spec := "witnessPlays", inPlace := ["math/bits.Add64"], unfollowed := true, recurses := true, apart := false }
def WitnessPlaysSaid : Prop := witnessPlaysRow.holds Tryz.pinned (OpenSpec.ofChange witnessPlaysSpec)

/-- ITS FALSE NEIGHBOUR: 'it returns false'. Refute it at one input. -/
def witnessPlaysWrong : ChangeSpec := { name := "witnessPlays", fn := fun _ => fun
  | [d1, d2, d3, d4, d5, d6] => { results := [.lit (.bool false)], args := [d1, d2, d3, d4, d5, d6] }
  | _ => none }
def WitnessPlaysWrongFalsely : Prop := witnessPlaysRow.holds Tryz.pinned (OpenSpec.ofChange witnessPlaysWrong)

/- THE SECOND FORM. 'bulk': how many values and letters a reading holds, each counted each time it is reached (what is shared counts as often as it is met; a slice's spare places count too). A statement '..UptoSaid' is the law's where the arguments, and the package variables that the reading takes, are together of bulk at most 1048576: NARROWER than '..Said'. Prove '..Said' where nothing that the law and all that it calls make is longer than what came in: it says more and counts as full. Else prove '..UptoSaid'. A law counts once. -/
mutual
def uptoBulk {H : Type} : DataW H → Nat
  | .lit (.string bytes) => bytes.length + 1
  | .lit _ => 1
  | .nil => 1
  | .ptr d => uptoBulk d + 1
  | .slice elems spare => uptoBulkAll elems + uptoBulkAll spare + 1
  | .agg parts => uptoBulkAll parts + 1
  | .iface _ d => uptoBulk d + 1
  | .map entries => uptoBulkEntries entries + 1
  | .held _ => 1
def uptoBulkAll {H : Type} : List (DataW H) → Nat
  | [] => 0
  | d :: r => uptoBulk d + uptoBulkAll r
def uptoBulkEntries {H : Type} : List (Lit × DataW H) → Nat
  | [] => 0
  | x :: r => uptoBulkEntry x + uptoBulkEntries r
def uptoBulkEntry {H : Type} : Lit × DataW H → Nat
  | (.string bytes, d) => bytes.length + uptoBulk d + 1
  | (_, d) => uptoBulk d + 1
 end
def uptoSmall : (H : Type) → List (DataW H) → Bool := fun _ ds => decide (uptoBulkAll ds ≤ 1048576)
def OpenSpec.upto (s : _root_.Go.ChangeSpec) : _root_.Go.OpenSpec := { _root_.Go.OpenSpec.ofChange s with cond := some uptoSmall }

/-- 'weighbridgelaw28.FairGap', WHERE WHAT IT READS IS OF BULK AT MOST 1048576: true; the input reads as it did. -/
def fairGapUptoRow : OpenClaim := { program := "ytfeobcmcellcpaagreat", sum := "ef9b42b213a14c43bf69c38c8df27c2745fba2eaa97e46bc3f54e6e865f29d85", func := "weighbridge/weighbridgelaw28.FairGap", spec := "fairGap", inPlace := ["math/bits.Add64"], unfollowed := true, recurses := true, apart := false, narrowed := true }
def FairGapUptoSaid : Prop := fairGapUptoRow.holds Tryz.pinned (OpenSpec.upto fairGapSpec)

/-- 'weighbridgelaw28.FairAll', WHERE WHAT IT READS IS OF BULK AT MOST 1048576: true; the input reads as it did. -/
def fairAllUptoRow : OpenClaim := { program := "ytfeobcmcellcpaagreat", sum := "ef9b42b213a14c43bf69c38c8df27c2745fba2eaa97e46bc3f54e6e865f29d85", func := "weighbridge/weighbridgelaw28.FairAll", spec := "fairAll", inPlace := ["math/bits.Add64"], unfollowed := true, recurses := true, apart := false, narrowed := true }
def FairAllUptoSaid : Prop := fairAllUptoRow.holds Tryz.pinned (OpenSpec.upto fairAllSpec)

/-- 'weighbridgelaw28.FairBound', WHERE WHAT IT READS IS OF BULK AT MOST 1048576: true; the input reads as it did. -/
def fairBoundUptoRow : OpenClaim := { program := "ytfeobcmcellcpaagreat", sum := "ef9b42b213a14c43bf69c38c8df27c2745fba2eaa97e46bc3f54e6e865f29d85", func := "weighbridge/weighbridgelaw28.FairBound", spec := "fairBound", inPlace := ["math/bits.Add64"], unfollowed := true, recurses := true, apart := false, narrowed := true }
def FairBoundUptoSaid : Prop := fairBoundUptoRow.holds Tryz.pinned (OpenSpec.upto fairBoundSpec)

/-- 'weighbridgelaw28.FairWays', WHERE WHAT IT READS IS OF BULK AT MOST 1048576: true; the input reads as it did. -/
def fairWaysUptoRow : OpenClaim := { program := "ytfeobcmcellcpaagreat", sum := "ef9b42b213a14c43bf69c38c8df27c2745fba2eaa97e46bc3f54e6e865f29d85", func := "weighbridge/weighbridgelaw28.FairWays", spec := "fairWays", inPlace := ["math/bits.Add64"], unfollowed := true, recurses := true, apart := false, narrowed := true }
def FairWaysUptoSaid : Prop := fairWaysUptoRow.holds Tryz.pinned (OpenSpec.upto fairWaysSpec)

/-- 'weighbridgelaw28.FairDear', WHERE WHAT IT READS IS OF BULK AT MOST 1048576: true; the input reads as it did. -/
def fairDearUptoRow : OpenClaim := { program := "ytfeobcmcellcpaagreat", sum := "ef9b42b213a14c43bf69c38c8df27c2745fba2eaa97e46bc3f54e6e865f29d85", func := "weighbridge/weighbridgelaw28.FairDear", spec := "fairDear", inPlace := ["math/bits.Add64"], unfollowed := true, recurses := true, apart := false, narrowed := true }
def FairDearUptoSaid : Prop := fairDearUptoRow.holds Tryz.pinned (OpenSpec.upto fairDearSpec)

/-- 'weighbridgelaw28.FairKept', WHERE WHAT IT READS IS OF BULK AT MOST 1048576: true; the input reads as it did. -/
def fairKeptUptoRow : OpenClaim := { program := "ytfeobcmcellcpaagreat", sum := "ef9b42b213a14c43bf69c38c8df27c2745fba2eaa97e46bc3f54e6e865f29d85", func := "weighbridge/weighbridgelaw28.FairKept", spec := "fairKept", inPlace := ["math/bits.Add64"], unfollowed := true, recurses := true, apart := false, narrowed := true }
def FairKeptUptoSaid : Prop := fairKeptUptoRow.holds Tryz.pinned (OpenSpec.upto fairKeptSpec)

/-- 'weighbridgelaw28.FairTold', WHERE WHAT IT READS IS OF BULK AT MOST 1048576: true; the input reads as it did. -/
def fairToldUptoRow : OpenClaim := { program := "ytfeobcmcellcpaagreat", sum := "ef9b42b213a14c43bf69c38c8df27c2745fba2eaa97e46bc3f54e6e865f29d85", func := "weighbridge/weighbridgelaw28.FairTold", spec := "fairTold", inPlace := ["math/bits.Add64"], unfollowed := true, recurses := true, apart := false, narrowed := true }
def FairToldUptoSaid : Prop := fairToldUptoRow.holds Tryz.pinned (OpenSpec.upto fairToldSpec)

/-- 'weighbridgelaw27.WitnessPlays', WHERE WHAT IT READS IS OF BULK AT MOST 1048576: true; the input reads as it did. -/
def witnessPlaysUptoRow : OpenClaim := { program := "ytfeobcmcellcpaagreat", sum := "ef9b42b213a14c43bf69c38c8df27c2745fba2eaa97e46bc3f54e6e865f29d85", func := "weighbridge/weighbridgelaw27.WitnessPlays", spec := "witnessPlays", inPlace := ["math/bits.Add64"], unfollowed := true, recurses := true, apart := false, narrowed := true }
def WitnessPlaysUptoSaid : Prop := witnessPlaysUptoRow.holds Tryz.pinned (OpenSpec.upto witnessPlaysSpec)

end Rows
end Go.Proofs.YtfeobcmcellcpaaGreat
