/-
  The walk of a deed's Near. No condition.
-/
import Derived.Test.YtbnifhdnpeiheaaDoorDeed
import Derived.Laws.Bits64
set_option linter.unusedVariables false
set_option linter.unusedSimpArgs false
namespace Go.Proofs.YtbnifhdnpeiheaaDoor
open Go.RowKit

/-- Near tells a key. -/
def NearPost (w : World) (e : Ending) (w' : World) : Prop := ∃ k : Nat, k < 18446744073709551616 ∧ e = .returned (.int .u64 k) ∧ Upd [] w w'
theorem near_done {w w' : World} {x : Int} (hU : Upd [] w w') : NearPost w (.returned (.int .u64 (IntKind.u64.wrap x))) w' := by
  refine ⟨(IntKind.u64.wrap x).toNat, ?_, ?_, hU⟩
  · rw [IntKind.wrap_u64]; omega
  · congr 2; rw [IntKind.wrap_u64]; omega
theorem near_same {w w' : World} {k : Nat} (hk : k < 18446744073709551616) (hU : Upd [] w w') : NearPost w (.returned (.int .u64 k)) w' := ⟨k, hk, rfl, hU⟩

set_option maxHeartbeats 4000000 in
theorem near_any (kind : Int) (key base : Nat) (id : Int) (hk : key < 18446744073709551616) (w : World) : Calls Tryd.prog 50 #[.agg #[.int .i64 kind, .int .u64 key, .int .i64 id], .int .u64 base] w (NearPost w) := by
  obtain ⟨m, hm⟩ : ∃ m, key % 6 = m := ⟨_, rfl⟩
  have hm6 : m < 6 := by omega
  have hmi : (key : Int) % 6 = (m : Int) := by omega
  have hmi2 : ((key : Int)).tmod 6 = (m : Int) := by rw [Int.tmod_eq_emod_of_nonneg (by omega)]; exact hmi
  have hcase : m = 0 ∨ m = 1 ∨ m = 2 ∨ m = 3 ∨ m = 4 ∨ m = 5 := by omega
  clear hm hm6
  rcases hcase with rfl | rfl | rfl | rfl | rfl | rfl
  all_goals
    have HM := Lib.hid hmi
    clear hmi2
    go_enter Tryd.func50, Tryd.ntmps50
    go_wp2_with (simp only [HM.out])
    go_ret
    first | exact near_same hk ((Upd.refl [] w).alloc _) | exact near_done ((Upd.refl [] w).alloc _)
end Go.Proofs.YtbnifhdnpeiheaaDoor
