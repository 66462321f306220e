/-
  The document's sums and products. No condition.
-/
import Derived.Test.YtolohheflbmfaaaGreatDoorCc
set_option linter.unusedVariables false
set_option linter.unusedSimpArgs false
namespace Go.Proofs.YtolohheflbmfaaaGreatDoor
open Go.RowKit

theorem rfadd (a b : Nat) (ha : a < 18446744073709551616) (hb : b < 18446744073709551616) (w : World) :
    Calls Tryz.prog 41 #[.int .u64 a, .int .u64 b] w (fun e w' => e = .returned (.int .u64 (addT a b)) ∧ w = w') := by
  obtain ⟨d, hd⟩ : ∃ d : Nat, (18446744073709551615 : Int) - (b : Int) = d := ⟨18446744073709551615 - b, by omega⟩
  have e1 : IntKind.u64.wrap (d : Int) = d := by rw [IntKind.wrap_u64]; omega
  obtain ⟨r, hr⟩ : ∃ r, addT a b = r := ⟨_, rfl⟩
  rw [hr]
  unfold addT topN at hr
  by_cases h0 : d < a
  · have hrs : Hid (r = 18446744073709551615) := by unfold Hid; omega
    have t0 : decide (d < a) = true := decide_eq_true h0
    have t1 : decide ((d : Int) < (a : Int)) = true := decide_eq_true (by omega)
    clear hr h0
    go_enter Tryz.func41, Tryz.ntmps41
    go_wp2
    go_ret
    exact ⟨by rw [hrs.out]; rfl, rfl⟩
  · have t0 : decide (d < a) = false := decide_eq_false h0
    have t1 : decide ((d : Int) < (a : Int)) = false := decide_eq_false (by omega)
    have e2 : (a : Int) + (b : Int) = (r : Int) := by omega
    have e3 : IntKind.u64.wrap (r : Int) = r := by rw [IntKind.wrap_u64]; omega
    clear hr h0
    go_enter Tryz.func41, Tryz.ntmps41
    go_wp2
    go_ret
    exact ⟨rfl, rfl⟩
theorem rfmul (a b : Nat) (ha : a < 18446744073709551616) (hb : b < 18446744073709551616) (w : World) :
    Calls Tryz.prog 60 #[.int .u64 a, .int .u64 b] w (fun e w' => e = .returned (.int .u64 (mulT a b)) ∧ w = w') := by
  obtain ⟨r, hr⟩ : ∃ r, mulT a b = r := ⟨_, rfl⟩
  rw [hr]
  unfold mulT topN at hr
  by_cases hz : a = 0
  · subst hz
    have hrs : Hid (r = 0) := by unfold Hid; rw [Nat.zero_mul] at hr; omega
    clear hr
    go_enter Tryz.func60, Tryz.ntmps60
    go_wp2
    go_ret
    exact ⟨by rw [hrs.out]; simp, rfl⟩
  · have tz : ((a : Int) == 0) = false := by simp; omega
    obtain ⟨d, hd⟩ : ∃ d : Nat, 18446744073709551615 / a = d := ⟨_, rfl⟩
    have ed : Int.tdiv (18446744073709551615 : Int) (a : Int) = d := by rw [← hd]; rfl
    have hd64 : d < 18446744073709551616 := by have := Nat.div_le_self 18446744073709551615 a; omega
    have e1 : IntKind.u64.wrap (d : Int) = d := by rw [IntKind.wrap_u64]; omega
    by_cases h0 : d < b
    · have hbig : 18446744073709551615 < a * b := by
        rw [← hd, Nat.div_lt_iff_lt_mul (by omega), Nat.mul_comm] at h0; exact h0
      have hrs : Hid (r = 18446744073709551615) := by unfold Hid; omega
      have t0 : decide (d < b) = true := decide_eq_true h0
      have t1 : decide ((d : Int) < (b : Int)) = true := decide_eq_true (by omega)
      clear hr h0 hbig hd hd64
      go_enter Tryz.func60, Tryz.ntmps60
      go_wp2
      go_ret
      exact ⟨by rw [hrs.out]; rfl, rfl⟩
    · have hsm : a * b ≤ 18446744073709551615 := by
        have h1 : ¬ 18446744073709551615 < b * a := fun h => h0 (by rw [← hd]; exact (Nat.div_lt_iff_lt_mul (by omega)).2 h)
        rw [Nat.mul_comm]; omega
      have e2 : (a : Int) * (b : Int) = (r : Int) := by rw [← Int.natCast_mul]; congr 1; omega
      have e3 : IntKind.u64.wrap (r : Int) = r := by rw [IntKind.wrap_u64]; omega
      have t0 : decide (d < b) = false := decide_eq_false h0
      have t1 : decide ((d : Int) < (b : Int)) = false := decide_eq_false (by omega)
      clear hr h0 hsm hd hd64
      go_enter Tryz.func60, Tryz.ntmps60
      go_wp2
      go_ret
      exact ⟨rfl, rfl⟩
theorem rfcost (size : Int) (hs : size < 9223372036854775808) (r : Nat) (hr : r < 18446744073709551616) (w : World) :
    Calls Tryz.prog 42 #[.int .i64 size, .int .u64 r] w (fun e w' => e = .returned (.int .u64 (mulT (sizeN size) r)) ∧ w = w') := by
  obtain ⟨e1, e2, e3⟩ := size_eqs hs
  obtain ⟨n, hn⟩ : ∃ n, sizeN size = n := ⟨_, rfl⟩
  rw [hn] at e1 e2 e3 ⊢
  have HM := Lib.hid (fun w => rfmul n r e3 hr w)
  clear hn e3 hs hr
  go_enter Tryz.func42, Tryz.ntmps42
  go_wp2_with fail
  refine (HM.out w).mono ?_
  rintro e w2 ⟨rfl, rfl⟩
  go_wp2
  go_ret
  exact ⟨rfl, rfl⟩
end Go.Proofs.YtolohheflbmfaaaGreatDoor
