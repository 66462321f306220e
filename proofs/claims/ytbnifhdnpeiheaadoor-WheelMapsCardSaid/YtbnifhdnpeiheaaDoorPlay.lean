/-
  The walks of the statements' small helpers: Mod, Small. No condition.
-/
import Derived.Test.YtbnifhdnpeiheaaDoorItem
set_option linter.unusedVariables false
set_option linter.unusedSimpArgs false
namespace Go.Proofs.YtbnifhdnpeiheaaDoor
open Go.RowKit

/-- What Mod answers. -/
def modI (v n : Int) : Int := wrap64 ((IntKind.u64.wrap v).tmod n)
theorem modI_bd (v n : Int) (h : 0 < n) (h2 : n ≤ 9223372036854775807) : 0 ≤ modI v n ∧ modI v n < n := by
  have h0 : 0 ≤ IntKind.u64.wrap v := by rw [IntKind.wrap_u64]; omega
  unfold modI
  rw [Int.tmod_eq_emod_of_nonneg h0]
  have h1 := Int.emod_nonneg (IntKind.u64.wrap v) (by omega : n ≠ 0)
  have h3 := Int.emod_lt_of_pos (IntKind.u64.wrap v) h
  unfold wrap64
  omega

set_option maxHeartbeats 400000 in
theorem mod_any (v n : Int) (h : 0 < n) (h2 : n ≤ 9223372036854775807) (w : World) : Calls Tryd.prog 61 #[.int .i64 v, .int .i64 n] w (fun e w' => e = .returned (.int .i64 (modI v n)) ∧ w = w') := by
  go_enter Tryd.func61, Tryd.ntmps61
  go_wp2
  go_ret
  exact ⟨rfl, rfl⟩

/-- A deed as a value. -/
def deedV (k : Int) (key : Int) (id : Int) : Value := .agg #[.int .i64 k, .int .u64 key, .int .i64 id]

end Go.Proofs.YtbnifhdnpeiheaaDoor
