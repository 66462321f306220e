/-
  NARROWER THAN 'FOR EVERY INPUT', by the rows' own cells (each row's printed sentence says how): CorePlaces: laid · CorePlays: laid · CoreLoops: laid · CoreRises: laid · CoreServes: laid · CoreApart: laid.
  DERIVED. THE GIVEN ROWS OF THIS SEAT. 6 by the template 'for every input the law returns true; each argument reads behind the call as it read before'; 0 by the template 'total and deterministic' (their statements: YtolohheflbmfaaaGreatDoorTotals.lean).
  GIVEN WITH THE SEED: the statements are not yours to turn. If you find one false, say at which input.
  Laid BY PROGRAM, IN A SANDBOX (cutbox-rows.mjs): the forced cells as the released guide's own fill.sh prints them over the translation 9ba6113dcfd91929… (all of the seat's roots in one cut). By AI agents, Wed Nov 11 2026. No macro, syntax, notation, axiom, sorry.
-/
import Derived.Test.YtolohheflbmfaaaGreatDoorChecked
import GoSem.Claim
import GoSem.ClaimJoined
import GoSem.ClaimMapViews
import Derived.JoinedTies
import Derived.KernelRfl
namespace Go.Proofs.YtolohheflbmfaaaGreatDoor
/- THE CELL 'sum', in the pinned program and in every row, IS THE sha256 OF THE DUMP (.gsa) THAT YtolohheflbmfaaaGreatDoorProg.lean LOADS. Nothing in Lean hashes anything: it is a label: what it is worth is what the hold of that sum in a sandbox is worth. -/
noncomputable def Tryz.pinned : Pinned := { name := "ytolohheflbmfaaagreatdoor", sum := "9ba6113dcfd91929fa5d7966219eaf1a1eb8b899916879b238f6adc29848d8ec", checked := Tryz.checked }
namespace Rows
def none {H : Type} : Left H := { results := [], args := [] }

/- WHAT THE LISTED PACKAGE-LEVEL VARIABLES READ AS WHEN THE CALL BEGINS. Each datum BY PROGRAM (the guide's laid-datum.mjs) off the statement by which the dump's own 'gosem.cut.vars' lays the variable. In a bare row this is a premise. The card (YtolohheflbmfaaaGreatDoorCards.lean) ties it to the program's text. -/
def laid_math_bits_deBruijn64tab {H : Type} : DataW H := .agg [.lit (.int .u8 0), .lit (.int .u8 1), .lit (.int .u8 56), .lit (.int .u8 2), .lit (.int .u8 57), .lit (.int .u8 49), .lit (.int .u8 28), .lit (.int .u8 3), .lit (.int .u8 61), .lit (.int .u8 58), .lit (.int .u8 42), .lit (.int .u8 50), .lit (.int .u8 38), .lit (.int .u8 29), .lit (.int .u8 17), .lit (.int .u8 4), .lit (.int .u8 62), .lit (.int .u8 47), .lit (.int .u8 59), .lit (.int .u8 36), .lit (.int .u8 45), .lit (.int .u8 43), .lit (.int .u8 51), .lit (.int .u8 22), .lit (.int .u8 53), .lit (.int .u8 39), .lit (.int .u8 33), .lit (.int .u8 30), .lit (.int .u8 24), .lit (.int .u8 18), .lit (.int .u8 12), .lit (.int .u8 5), .lit (.int .u8 63), .lit (.int .u8 55), .lit (.int .u8 48), .lit (.int .u8 27), .lit (.int .u8 60), .lit (.int .u8 41), .lit (.int .u8 37), .lit (.int .u8 16), .lit (.int .u8 46), .lit (.int .u8 35), .lit (.int .u8 44), .lit (.int .u8 21), .lit (.int .u8 52), .lit (.int .u8 32), .lit (.int .u8 23), .lit (.int .u8 11), .lit (.int .u8 54), .lit (.int .u8 26), .lit (.int .u8 40), .lit (.int .u8 15), .lit (.int .u8 34), .lit (.int .u8 20), .lit (.int .u8 31), .lit (.int .u8 10), .lit (.int .u8 25), .lit (.int .u8 14), .lit (.int .u8 19), .lit (.int .u8 9), .lit (.int .u8 13), .lit (.int .u8 8), .lit (.int .u8 7), .lit (.int .u8 6)]

/-- 'weighbridgelaw21.CorePlaces': WHATEVER THE INPUT: true; the input reads as it did. -/
def corePlacesSpec : ChangeSpec := { name := "corePlaces", fn := fun _ => fun
  | [d1, d2] => { results := [.lit (.bool true)], args := [d1, d2] }
  | _ => none }
def corePlacesRow : OpenClaim := { program := "ytolohheflbmfaaagreatdoor", sum := "9ba6113dcfd91929fa5d7966219eaf1a1eb8b899916879b238f6adc29848d8ec", func := "weighbridge/weighbridgelaw21.CorePlaces", spec := "corePlaces", inPlace := ["math/bits.Add64"], unfollowed := true, recurses := true, named := ["math/bits.deBruijn64tab"], apart := false, laid := [("math/bits.deBruijn64tab", laid_math_bits_deBruijn64tab)] }
def CorePlacesSaid : Prop := corePlacesRow.holds Tryz.pinned (OpenSpec.ofChange corePlacesSpec)

/-- ITS FALSE NEIGHBOUR: 'it returns false'. Refute it at one input. -/
def corePlacesWrong : ChangeSpec := { name := "corePlaces", fn := fun _ => fun
  | [d1, d2] => { results := [.lit (.bool false)], args := [d1, d2] }
  | _ => none }
def CorePlacesWrongFalsely : Prop := corePlacesRow.holds Tryz.pinned (OpenSpec.ofChange corePlacesWrong)

/-- 'weighbridgelaw21.CorePlays': WHATEVER THE INPUT: true; the input reads as it did. -/
def corePlaysSpec : ChangeSpec := { name := "corePlays", fn := fun _ => fun
  | [d1, d2] => { results := [.lit (.bool true)], args := [d1, d2] }
  | _ => none }
def corePlaysRow : OpenClaim := { program := "ytolohheflbmfaaagreatdoor", sum := "9ba6113dcfd91929fa5d7966219eaf1a1eb8b899916879b238f6adc29848d8ec", func := "weighbridge/weighbridgelaw21.CorePlays", spec := "corePlays", inPlace := ["math/bits.Add64"], unfollowed := true, recurses := true, named := ["math/bits.deBruijn64tab"], apart := false, laid := [("math/bits.deBruijn64tab", laid_math_bits_deBruijn64tab)] }
def CorePlaysSaid : Prop := corePlaysRow.holds Tryz.pinned (OpenSpec.ofChange corePlaysSpec)

/-- ITS FALSE NEIGHBOUR: 'it returns false'. Refute it at one input. -/
def corePlaysWrong : ChangeSpec := { name := "corePlays", fn := fun _ => fun
  | [d1, d2] => { results := [.lit (.bool false)], args := [d1, d2] }
  | _ => none }
def CorePlaysWrongFalsely : Prop := corePlaysRow.holds Tryz.pinned (OpenSpec.ofChange corePlaysWrong)

/-- 'weighbridgelaw21.CoreLoops': WHATEVER THE INPUT: true; the input reads as it did. -/
def coreLoopsSpec : ChangeSpec := { name := "coreLoops", fn := fun _ => fun
  | [d1, d2, d3] => { results := [.lit (.bool true)], args := [d1, d2, d3] }
  | _ => none }
def coreLoopsRow : OpenClaim := { program := "ytolohheflbmfaaagreatdoor", sum := "9ba6113dcfd91929fa5d7966219eaf1a1eb8b899916879b238f6adc29848d8ec", func := "weighbridge/weighbridgelaw21.CoreLoops", spec := "coreLoops", inPlace := ["math/bits.Add64"], unfollowed := true, recurses := true, named := ["math/bits.deBruijn64tab"], apart := false, laid := [("math/bits.deBruijn64tab", laid_math_bits_deBruijn64tab)] }
def CoreLoopsSaid : Prop := coreLoopsRow.holds Tryz.pinned (OpenSpec.ofChange coreLoopsSpec)

/-- ITS FALSE NEIGHBOUR: 'it returns false'. Refute it at one input. -/
def coreLoopsWrong : ChangeSpec := { name := "coreLoops", fn := fun _ => fun
  | [d1, d2, d3] => { results := [.lit (.bool false)], args := [d1, d2, d3] }
  | _ => none }
def CoreLoopsWrongFalsely : Prop := coreLoopsRow.holds Tryz.pinned (OpenSpec.ofChange coreLoopsWrong)

/-- 'weighbridgelaw21.CoreRises': WHATEVER THE INPUT: true; the input reads as it did. -/
def coreRisesSpec : ChangeSpec := { name := "coreRises", fn := fun _ => fun
  | [d1, d2] => { results := [.lit (.bool true)], args := [d1, d2] }
  | _ => none }
def coreRisesRow : OpenClaim := { program := "ytolohheflbmfaaagreatdoor", sum := "9ba6113dcfd91929fa5d7966219eaf1a1eb8b899916879b238f6adc29848d8ec", func := "weighbridge/weighbridgelaw21.CoreRises", spec := "coreRises", inPlace := ["math/bits.Add64"], unfollowed := true, recurses := true, named := ["math/bits.deBruijn64tab"], apart := false, laid := [("math/bits.deBruijn64tab", laid_math_bits_deBruijn64tab)] }
def CoreRisesSaid : Prop := coreRisesRow.holds Tryz.pinned (OpenSpec.ofChange coreRisesSpec)

/-- ITS FALSE NEIGHBOUR: 'it returns false'. Refute it at one input. -/
def coreRisesWrong : ChangeSpec := { name := "coreRises", fn := fun _ => fun
  | [d1, d2] => { results := [.lit (.bool false)], args := [d1, d2] }
  | _ => none }
def CoreRisesWrongFalsely : Prop := coreRisesRow.holds Tryz.pinned (OpenSpec.ofChange coreRisesWrong)

/-- 'weighbridgelaw21.CoreServes': WHATEVER THE INPUT: true; the input reads as it did. -/
def coreServesSpec : ChangeSpec := { name := "coreServes", fn := fun _ => fun
  | [d1, d2] => { results := [.lit (.bool true)], args := [d1, d2] }
  | _ => none }
def coreServesRow : OpenClaim := { program := "ytolohheflbmfaaagreatdoor", sum := "9ba6113dcfd91929fa5d7966219eaf1a1eb8b899916879b238f6adc29848d8ec", func := "weighbridge/weighbridgelaw21.CoreServes", spec := "coreServes", inPlace := ["math/bits.Add64"], unfollowed := true, recurses := true, named := ["math/bits.deBruijn64tab"], apart := false, laid := [("math/bits.deBruijn64tab", laid_math_bits_deBruijn64tab)] }
def CoreServesSaid : Prop := coreServesRow.holds Tryz.pinned (OpenSpec.ofChange coreServesSpec)

/-- ITS FALSE NEIGHBOUR: 'it returns false'. Refute it at one input. -/
def coreServesWrong : ChangeSpec := { name := "coreServes", fn := fun _ => fun
  | [d1, d2] => { results := [.lit (.bool false)], args := [d1, d2] }
  | _ => none }
def CoreServesWrongFalsely : Prop := coreServesRow.holds Tryz.pinned (OpenSpec.ofChange coreServesWrong)

/-- 'weighbridgelaw21.CoreApart': WHATEVER THE INPUT: true; the input reads as it did. -/
def coreApartSpec : ChangeSpec := { name := "coreApart", fn := fun _ => fun
  | [d1, d2, d3] => { results := [.lit (.bool true)], args := [d1, d2, d3] }
  | _ => none }
def coreApartRow : OpenClaim := { program := "ytolohheflbmfaaagreatdoor", sum := "9ba6113dcfd91929fa5d7966219eaf1a1eb8b899916879b238f6adc29848d8ec", func := "weighbridge/weighbridgelaw21.CoreApart", spec := "coreApart", inPlace := ["math/bits.Add64"], unfollowed := true, recurses := true, named := ["math/bits.deBruijn64tab"], apart := false, laid := [("math/bits.deBruijn64tab", laid_math_bits_deBruijn64tab)] }
def CoreApartSaid : Prop := coreApartRow.holds Tryz.pinned (OpenSpec.ofChange coreApartSpec)

/-- ITS FALSE NEIGHBOUR: 'it returns false'. Refute it at one input. -/
def coreApartWrong : ChangeSpec := { name := "coreApart", fn := fun _ => fun
  | [d1, d2, d3] => { results := [.lit (.bool false)], args := [d1, d2, d3] }
  | _ => none }
def CoreApartWrongFalsely : Prop := coreApartRow.holds Tryz.pinned (OpenSpec.ofChange coreApartWrong)

/- THE SECOND FORM. 'bulk': how many values and letters a reading holds, each counted each time it is reached (what is shared counts as often as it is met; a slice's spare places count too). A statement '..UptoSaid' is the law's where the arguments, and the package variables that the reading takes, are together of bulk at most 1048576: NARROWER than '..Said'. Prove '..Said' where nothing that the law and all that it calls make is longer than what came in: it says more and counts as full. Else prove '..UptoSaid'. A law counts once. -/
mutual
def uptoBulk {H : Type} : DataW H → Nat
  | .lit (.string bytes) => bytes.length + 1
  | .lit _ => 1
  | .nil => 1
  | .ptr d => uptoBulk d + 1
  | .slice elems spare => uptoBulkAll elems + uptoBulkAll spare + 1
  | .agg parts => uptoBulkAll parts + 1
  | .iface _ d => uptoBulk d + 1
  | .map entries => uptoBulkEntries entries + 1
  | .held _ => 1
def uptoBulkAll {H : Type} : List (DataW H) → Nat
  | [] => 0
  | d :: r => uptoBulk d + uptoBulkAll r
def uptoBulkEntries {H : Type} : List (Lit × DataW H) → Nat
  | [] => 0
  | x :: r => uptoBulkEntry x + uptoBulkEntries r
def uptoBulkEntry {H : Type} : Lit × DataW H → Nat
  | (.string bytes, d) => bytes.length + uptoBulk d + 1
  | (_, d) => uptoBulk d + 1
 end
def uptoSmall : (H : Type) → List (DataW H) → Bool := fun _ ds => decide (uptoBulkAll ds ≤ 1048576)
def OpenSpec.upto (s : _root_.Go.ChangeSpec) : _root_.Go.OpenSpec := { _root_.Go.OpenSpec.ofChange s with cond := some uptoSmall }

/-- 'weighbridgelaw21.CorePlaces', WHERE WHAT IT READS IS OF BULK AT MOST 1048576: true; the input reads as it did. -/
def corePlacesUptoRow : OpenClaim := { program := "ytolohheflbmfaaagreatdoor", sum := "9ba6113dcfd91929fa5d7966219eaf1a1eb8b899916879b238f6adc29848d8ec", func := "weighbridge/weighbridgelaw21.CorePlaces", spec := "corePlaces", inPlace := ["math/bits.Add64"], unfollowed := true, recurses := true, named := ["math/bits.deBruijn64tab"], apart := false, laid := [("math/bits.deBruijn64tab", laid_math_bits_deBruijn64tab)], narrowed := true }
def CorePlacesUptoSaid : Prop := corePlacesUptoRow.holds Tryz.pinned (OpenSpec.upto corePlacesSpec)

/-- 'weighbridgelaw21.CorePlays', WHERE WHAT IT READS IS OF BULK AT MOST 1048576: true; the input reads as it did. -/
def corePlaysUptoRow : OpenClaim := { program := "ytolohheflbmfaaagreatdoor", sum := "9ba6113dcfd91929fa5d7966219eaf1a1eb8b899916879b238f6adc29848d8ec", func := "weighbridge/weighbridgelaw21.CorePlays", spec := "corePlays", inPlace := ["math/bits.Add64"], unfollowed := true, recurses := true, named := ["math/bits.deBruijn64tab"], apart := false, laid := [("math/bits.deBruijn64tab", laid_math_bits_deBruijn64tab)], narrowed := true }
def CorePlaysUptoSaid : Prop := corePlaysUptoRow.holds Tryz.pinned (OpenSpec.upto corePlaysSpec)

/-- 'weighbridgelaw21.CoreLoops', WHERE WHAT IT READS IS OF BULK AT MOST 1048576: true; the input reads as it did. -/
def coreLoopsUptoRow : OpenClaim := { program := "ytolohheflbmfaaagreatdoor", sum := "9ba6113dcfd91929fa5d7966219eaf1a1eb8b899916879b238f6adc29848d8ec", func := "weighbridge/weighbridgelaw21.CoreLoops", spec := "coreLoops", inPlace := ["math/bits.Add64"], unfollowed := true, recurses := true, named := ["math/bits.deBruijn64tab"], apart := false, laid := [("math/bits.deBruijn64tab", laid_math_bits_deBruijn64tab)], narrowed := true }
def CoreLoopsUptoSaid : Prop := coreLoopsUptoRow.holds Tryz.pinned (OpenSpec.upto coreLoopsSpec)

/-- 'weighbridgelaw21.CoreRises', WHERE WHAT IT READS IS OF BULK AT MOST 1048576: true; the input reads as it did. -/
def coreRisesUptoRow : OpenClaim := { program := "ytolohheflbmfaaagreatdoor", sum := "9ba6113dcfd91929fa5d7966219eaf1a1eb8b899916879b238f6adc29848d8ec", func := "weighbridge/weighbridgelaw21.CoreRises", spec := "coreRises", inPlace := ["math/bits.Add64"], unfollowed := true, recurses := true, named := ["math/bits.deBruijn64tab"], apart := false, laid := [("math/bits.deBruijn64tab", laid_math_bits_deBruijn64tab)], narrowed := true }
def CoreRisesUptoSaid : Prop := coreRisesUptoRow.holds Tryz.pinned (OpenSpec.upto coreRisesSpec)

/-- 'weighbridgelaw21.CoreServes', WHERE WHAT IT READS IS OF BULK AT MOST 1048576: true; the input reads as it did. -/
def coreServesUptoRow : OpenClaim := { program := "ytolohheflbmfaaagreatdoor", sum := "9ba6113dcfd91929fa5d7966219eaf1a1eb8b899916879b238f6adc29848d8ec", func := "weighbridge/weighbridgelaw21.CoreServes", spec := "coreServes", inPlace := ["math/bits.Add64"], unfollowed := true, recurses := true, named := ["math/bits.deBruijn64tab"], apart := false, laid := [("math/bits.deBruijn64tab", laid_math_bits_deBruijn64tab)], narrowed := true }
def CoreServesUptoSaid : Prop := coreServesUptoRow.holds Tryz.pinned (OpenSpec.upto coreServesSpec)

/-- 'weighbridgelaw21.CoreApart', WHERE WHAT IT READS IS OF BULK AT MOST 1048576: true; the input reads as it did. -/
def coreApartUptoRow : OpenClaim := { program := "ytolohheflbmfaaagreatdoor", sum := "9ba6113dcfd91929fa5d7966219eaf1a1eb8b899916879b238f6adc29848d8ec", func := "weighbridge/weighbridgelaw21.CoreApart", spec := "coreApart", inPlace := ["math/bits.Add64"], unfollowed := true, recurses := true, named := ["math/bits.deBruijn64tab"], apart := false, laid := [("math/bits.deBruijn64tab", laid_math_bits_deBruijn64tab)], narrowed := true }
def CoreApartUptoSaid : Prop := coreApartUptoRow.holds Tryz.pinned (OpenSpec.upto coreApartSpec)

end Rows
end Go.Proofs.YtolohheflbmfaaaGreatDoor
