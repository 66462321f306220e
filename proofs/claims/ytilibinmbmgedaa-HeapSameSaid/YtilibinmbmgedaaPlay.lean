/-
  The walks of the statements' small helpers: Mod, Small. No condition.
-/
import Derived.Test.YtilibinmbmgedaaItem
namespace Go.Proofs.Ytilibinmbmgedaa
open Go.RowKit

/-- What Mod answers. -/
def modI (v n : Int) : Int := wrap64 ((IntKind.u64.wrap v).tmod n)
theorem modI_bd (v n : Int) (h : 0 < n) (h2 : n ≤ 9223372036854775807) : 0 ≤ modI v n ∧ modI v n < n := by
  have h0 : 0 ≤ IntKind.u64.wrap v := by rw [IntKind.wrap_u64]; omega
  unfold modI
  rw [Int.tmod_eq_emod_of_nonneg h0]
  have h1 := Int.emod_nonneg (IntKind.u64.wrap v) (by omega : n ≠ 0)
  have h3 := Int.emod_lt_of_pos (IntKind.u64.wrap v) h
  unfold wrap64
  omega

set_option maxHeartbeats 400000 in
theorem mod_any (v n : Int) (h : 0 < n) (h2 : n ≤ 9223372036854775807) (w : World) : Calls Try.prog 14 #[.int .i64 v, .int .i64 n] w (fun e w' => e = .returned (.int .i64 (modI v n)) ∧ w = w') := by
  go_enter Try.func14, Try.ntmps14
  go_wp2
  go_ret
  exact ⟨rfl, rfl⟩

/-- A deed as a value. -/
def deedV (k : Int) (key : Int) (id : Int) : Value := .agg #[.int .i64 k, .int .u64 key, .int .i64 id]

def smallK (key : Int) : Int := if key % 11 = 10 then key else key % 14

set_option maxHeartbeats 800000 in
theorem small_any (k key id : Int) (h0 : 0 ≤ key) (w : World) : Calls Try.prog 21 #[.agg #[.int .i64 k, .int .u64 key, .int .i64 id]] w (RetUpd [] w (.int .u64 (smallK key))) := by
  obtain ⟨r, hr⟩ : ∃ r, smallK key = r := ⟨_, rfl⟩
  rw [hr]
  have HR := Lib.hid hr
  clear hr
  by_cases h : key % 11 = 10
  · have hb : (key % 11 == 10) = true := by simp [h]
    have hk : key = r := by have := HR.out; unfold smallK at this; rw [if_pos h] at this; exact this
    have HK := Lib.hid hk
    clear h hk
    go_enter Try.func21, Try.ntmps21
    go_wp2
    go_ret
    exact ⟨ret_int HK.out, (Upd.refl _ w).alloc _⟩
  · have hb : (key % 11 == 10) = false := by simp [h]
    have hk : key % 14 = r := by have := HR.out; unfold smallK at this; rw [if_neg h] at this; exact this
    have HK := Lib.hid hk
    clear h hk
    go_enter Try.func21, Try.ntmps21
    go_wp2
    go_ret
    exact ⟨ret_int HK.out, (Upd.refl _ w).alloc _⟩

end Go.Proofs.Ytilibinmbmgedaa
