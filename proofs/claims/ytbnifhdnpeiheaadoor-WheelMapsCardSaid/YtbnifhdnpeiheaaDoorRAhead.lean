/-
  The walk of the reference's Ahead. No condition.
-/
import Derived.Test.YtbnifhdnpeiheaaDoorItem
set_option linter.unusedVariables false
set_option linter.unusedSimpArgs false
namespace Go.Proofs.YtbnifhdnpeiheaaDoor
open Go.RowKit

set_option maxHeartbeats 400000 in
theorem rahead_any (a b : It) (w : World) :
    Calls Tryd.prog 59 #[.agg #[.int .u64 a.1, .int .i64 a.2], .agg #[.int .u64 b.1, .int .i64 b.2]] w (RetUpd [] w (.bool (ahead a b))) := by
  obtain ⟨k1, i1⟩ := a
  obtain ⟨k2, i2⟩ := b
  go_enter Tryd.func59, Tryd.ntmps59
  go_wp2
  all_goals
    go_ret
    refine ⟨ret_bool ?_, ((Upd.refl _ _).alloc _).alloc _⟩
    try (simp [ahead, *]; done)

end Go.Proofs.YtbnifhdnpeiheaaDoor
