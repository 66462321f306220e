/-
  The walk of the statements' Call: some call. No condition.
-/
import Derived.Test.YtmfndemnogpmcaaMqA
import Derived.Test.YtmfndemnogpmcaaMqB
import Derived.Test.YtmfndemnogpmcaaMqD
import Derived.Test.YtmfndemnogpmcaaMqC
set_option linter.unusedVariables false
set_option linter.unusedSimpArgs false
namespace Go.Proofs.Ytmfndemnogpmcaa
open Go.RowKit

theorem pcall_some (c : Cl) (w : World) : Calls Try.prog 24 #[clV c] w (SomeCl w) := by
  by_cases h0 : modI c.op 10 = 0
  · exact pcall_a c w h0
  · by_cases h1 : modI c.op 10 = 1 ∨ modI c.op 10 = 6 ∨ modI c.op 10 = 7 ∨ modI c.op 10 = 8 ∨ modI c.op 10 = 9
    · exact pcall_c c w h1
    · by_cases h13 : modI c.a 13 = 12
      · exact pcall_b2 c w (by omega) h13
      · exact pcall_b c w (by omega) h13
end Go.Proofs.Ytmfndemnogpmcaa
