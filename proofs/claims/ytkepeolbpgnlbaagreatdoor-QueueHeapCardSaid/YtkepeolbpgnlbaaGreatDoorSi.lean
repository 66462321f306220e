/-
  law06.made. No condition.
-/
import Derived.Test.YtkepeolbpgnlbaaGreatDoorSh
import Derived.Test.YtkepeolbpgnlbaaGreatDoorPB
set_option linter.unusedVariables false
set_option linter.unusedSimpArgs false
namespace Go.Proofs.YtkepeolbpgnlbaaGreatDoor
open Go.RowKit

def SMadeTo (W w : World) (e : Ending) (w' : World) : Prop :=
  ∃ wb b V fp fq, e = .returned (.tuple #[.pointer (some ⟨wb, 0, none⟩), .pointer (some ⟨b, 0, none⟩)]) ∧ SR W wb b 0 V [] fp fq w' ∧ Upd [] w w' ∧ (∀ c ∈ fp, w.heap.size ≤ c) ∧ ∀ c ∈ fq, w.heap.size ≤ c


end Go.Proofs.YtkepeolbpgnlbaaGreatDoor
