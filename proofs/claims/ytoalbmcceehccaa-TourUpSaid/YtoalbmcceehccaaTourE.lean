/-
  The walks of the small helpers: Mod, Small, leaf. No condition.
-/
import Derived.Test.YtoalbmcceehccaaTourA
namespace Go.Proofs.Ytoalbmcceehccaa
open Go.RowKit

/-- What Mod answers. -/
def modI (v n : Int) : Int := wrap64 ((IntKind.u64.wrap v).tmod n)
theorem modI_bd (v n : Int) (h : 0 < n) (h2 : n ≤ 9223372036854775807) : 0 ≤ modI v n ∧ modI v n < n := by
  have h0 : 0 ≤ IntKind.u64.wrap v := by rw [IntKind.wrap_u64]; omega
  unfold modI
  rw [Int.tmod_eq_emod_of_nonneg h0]
  have h1 := Int.emod_nonneg (IntKind.u64.wrap v) (by omega : n ≠ 0)
  have h3 := Int.emod_lt_of_pos (IntKind.u64.wrap v) h
  unfold wrap64
  omega

set_option maxHeartbeats 400000 in
theorem mod_any (v n : Int) (h : 0 < n) (h2 : n ≤ 9223372036854775807) (w : World) : Calls Try.prog 21 #[.int .i64 v, .int .i64 n] w (fun e w' => e = .returned (.int .i64 (modI v n)) ∧ w = w') := by
  go_enter Try.func21, Try.ntmps21
  go_wp2
  go_ret
  exact ⟨rfl, rfl⟩

/-- A deed as a value. -/
def deedV (k : Int) (key : Int) (id : Int) : Value := .agg #[.int .i64 k, .int .u64 key, .int .i64 id]

def smallK (key : Int) : Int := if key % 11 = 10 then key else key % 14

set_option maxHeartbeats 800000 in
theorem small_any (k key id : Int) (h0 : 0 ≤ key) (w : World) : Calls Try.prog 25 #[.agg #[.int .i64 k, .int .u64 key, .int .i64 id]] w (RetUpd [] w (.int .u64 (smallK key))) := by
  obtain ⟨r, hr⟩ : ∃ r, smallK key = r := ⟨_, rfl⟩
  rw [hr]
  have HR := Lib.hid hr
  clear hr
  by_cases h : key % 11 = 10
  · have hb : (key % 11 == 10) = true := by simp [h]
    have hk : key = r := by have := HR.out; unfold smallK at this; rw [if_pos h] at this; exact this
    have HK := Lib.hid hk
    clear h hk
    go_enter Try.func25, Try.ntmps25
    go_wp2
    go_ret
    exact ⟨ret_int HK.out, (Upd.refl _ w).alloc _⟩
  · have hb : (key % 11 == 10) = false := by simp [h]
    have hk : key % 14 = r := by have := HR.out; unfold smallK at this; rw [if_neg h] at this; exact this
    have HK := Lib.hid hk
    clear h hk
    go_enter Try.func25, Try.ntmps25
    go_wp2
    go_ret
    exact ⟨ret_int HK.out, (Upd.refl _ w).alloc _⟩

/-- Which leaf a deed means, of n. -/
def leafI (k id : Int) (n : Nat) : Int := if modI id 15 = 14 then id else wrap64 (modI id (n + 1) - wrap64 ((modI k 37).tdiv 36))

set_option maxHeartbeats 1600000 in
theorem leaf_any (k key id : Int) (n : Nat) (hn : n ≤ 16) (w : World) : Calls Try.prog 23 #[.agg #[.int .i64 k, .int .u64 key, .int .i64 id], .int .i64 n] w (RetUpd [] w (.int .i64 (leafI k id n))) := by
  obtain ⟨r, hr⟩ : ∃ r, leafI k id n = r := ⟨_, rfl⟩
  rw [hr]
  have HR := Lib.hid hr
  clear hr
  obtain ⟨q, hq⟩ : ∃ q, modI id 15 = q := ⟨_, rfl⟩
  have HQ := Lib.hid hq
  clear hq
  by_cases h : q = 14
  · have hb : (q == 14) = true := by simp [h]
    have HK : Hid (id = r) := by have := HR.out; unfold leafI at this; rw [if_pos (HQ.out.trans h)] at this; exact this
    clear h
    go_enter Try.func23, Try.ntmps23
    go_wp2_with (go_at_call 21; refine (mod_any _ _ (by omega) (by omega) _).mono ?_; rintro e w' ⟨rfl, rfl⟩; rw [HQ.out])
    go_ret
    exact ⟨ret_int HK.out, (Upd.refl _ w).alloc _⟩
  · have hb : (q == 14) = false := by simp [h]
    have HK : Hid (wrap64 (modI id (n + 1) - wrap64 ((modI k 37).tdiv 36)) = r) := by have := HR.out; unfold leafI at this; rw [if_neg (fun e => h (HQ.out.symm.trans e))] at this; exact this
    clear h
    have s0 : IntKind.i64.wrap ((n : Int) + 1) = n + 1 := IntWalk.i64_in _ (by omega)
    go_enter Try.func23, Try.ntmps23
    go_wp2_with (go_at_call 21; refine (mod_any _ _ (by omega) (by omega) _).mono ?_; rintro e w' ⟨rfl, rfl⟩; rw [HQ.out])
    go_quiet ((go_at_call 21; exact Calls.quiet_of_same ((mod_any _ _ (by omega) (by omega) _).mono (fun _ _ h => ⟨h.1, h.2.symm⟩))))
    go_wp2
    go_ret
    exact ⟨ret_int HK.out, ((Upd.refl _ w).alloc _).drewN _⟩
end Go.Proofs.Ytoalbmcceehccaa
