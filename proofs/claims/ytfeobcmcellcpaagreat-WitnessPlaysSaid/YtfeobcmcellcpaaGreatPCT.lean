/-
  Texts of this claim, joined: Tag, Cc, Cd. No condition.
-/
import Derived.Test.YtfeobcmcellcpaaGreatPB
import Derived.Test.YtfeobcmcellcpaaGreatLaysC
import Derived.Shelf.Spec.BitsCarry
import Derived.Shelf.Bits.Mul64
set_option linter.unusedVariables false
set_option linter.unusedSimpArgs false
/-! Tag -/
namespace Go.Proofs.YtfeobcmcellcpaaGreat
/-- The sum and the product, held. -/
def topN : Nat := 18446744073709551615
def addT (a b : Nat) : Nat := min (a + b) topN
def mulT (a b : Nat) : Nat := min (a * b) topN
theorem addT_lt (a b : Nat) : addT a b < 18446744073709551616 := by unfold addT topN; omega
theorem mulT_lt (a b : Nat) : mulT a b < 18446744073709551616 := by unfold mulT topN; omega
def sizeN (size : Int) : Nat := (max size 0).toNat
end Go.Proofs.YtfeobcmcellcpaaGreat

/-! Cc -/
namespace Go.Proofs.YtfeobcmcellcpaaGreat
open Go.RowKit

theorem tgadd (a b : Nat) (ha : a < 18446744073709551616) (hb : b < 18446744073709551616) (w : World) :
    Calls Tryz.prog 116 #[.int .u64 a, .int .u64 b] w (fun e w' => e = .returned (.int .u64 (addT a b)) ∧ w = w') := by
  have hadd : ∀ w, (callFunc 134 #[.int .u64 a, .int .u64 b, .int .u64 0]).run Tryz.prog w = .ok (.value (.tuple #[.int .u64 (((a + b + 0) % 18446744073709551616 : Nat) : Int), .int .u64 (((a + b + 0) / 18446744073709551616 : Nat) : Int)])) w := fun w => Any7.bits_Add64 Tryz.lays25 a b 0 (by omega) w
  obtain ⟨s, hs⟩ : ∃ s, (a + b + 0) % 18446744073709551616 = s := ⟨_, rfl⟩
  obtain ⟨c, hc⟩ : ∃ c, (a + b + 0) / 18446744073709551616 = c := ⟨_, rfl⟩
  rw [hs, hc] at hadd
  obtain ⟨r, hr⟩ : ∃ r, addT a b = r := ⟨_, rfl⟩
  rw [hr]
  unfold addT topN at hr
  by_cases h0 : c = 0
  · have hrs : Hid (r = s) := by unfold Hid; omega
    subst h0
    clear hs hc hr
    go_enter Tryz.func116, Tryz.ntmps116
    go_wp2_with (simp only [hadd])
    go_ret
    exact ⟨by rw [hrs.out]; rfl, rfl⟩
  · have hrs : Hid (r = 18446744073709551615) := by unfold Hid; omega
    have t0 : ((c : Int) == 0) = false := by simp; omega
    clear hs hc hr
    go_enter Tryz.func116, Tryz.ntmps116
    go_wp2_with (simp only [hadd])
    go_ret
    exact ⟨by rw [hrs.out]; rfl, rfl⟩
theorem tgmul (a b : Nat) (ha : a < 18446744073709551616) (hb : b < 18446744073709551616) (w : World) :
    Calls Tryz.prog 133 #[.int .u64 a, .int .u64 b] w (fun e w' => e = .returned (.int .u64 (mulT a b)) ∧ w = w') := by
  have hmul := fun w => Any.bits_Mul64 Tryz.lays264 a b ha hb w
  obtain ⟨h, hh⟩ : ∃ c, a * b / 18446744073709551616 = c := ⟨_, rfl⟩
  obtain ⟨l, hl⟩ : ∃ s, a * b % 18446744073709551616 = s := ⟨_, rfl⟩
  rw [hh, hl] at hmul
  have HM : Hid (∀ w, Calls Tryz.prog 152 #[.int .u64 a, .int .u64 b] w fun e w' => e = .returned (.tuple #[.int .u64 (h : Int), .int .u64 (l : Int)]) ∧ w' = w) := hmul
  obtain ⟨r, hr⟩ : ∃ r, mulT a b = r := ⟨_, rfl⟩
  rw [hr]
  unfold mulT topN at hr
  by_cases h0 : h = 0
  · have hrs : Hid (r = l) := by unfold Hid; omega
    subst h0
    clear hh hl hr hmul
    go_enter Tryz.func133, Tryz.ntmps133
    go_wp2_with fail
    refine (HM.out w).mono ?_
    rintro e w2 ⟨rfl, rfl⟩
    go_wp2
    go_ret
    exact ⟨by rw [hrs.out]; rfl, rfl⟩
  · have hrs : Hid (r = 18446744073709551615) := by unfold Hid; omega
    have t0 : ((h : Int) == 0) = false := by simp; omega
    clear hh hl hr hmul
    go_enter Tryz.func133, Tryz.ntmps133
    go_wp2_with fail
    refine (HM.out w).mono ?_
    rintro e w2 ⟨rfl, rfl⟩
    go_wp2
    go_ret
    exact ⟨by rw [hrs.out]; rfl, rfl⟩
theorem size_eqs {size : Int} (h : size < 9223372036854775808) : max size 0 = (sizeN size : Nat) ∧ IntKind.u64.wrap ((sizeN size : Nat) : Int) = (sizeN size : Nat) ∧ sizeN size < 18446744073709551616 := by
  unfold sizeN
  refine ⟨by omega, ?_, by omega⟩
  rw [IntKind.wrap_u64]; omega
theorem tgcost (size : Int) (hs : size < 9223372036854775808) (r : Nat) (hr : r < 18446744073709551616) (w : World) :
    Calls Tryz.prog 115 #[.int .i64 size, .int .u64 r] w (fun e w' => e = .returned (.int .u64 (mulT (sizeN size) r)) ∧ w = w') := by
  obtain ⟨e1, e2, e3⟩ := size_eqs hs
  obtain ⟨n, hn⟩ : ∃ n, sizeN size = n := ⟨_, rfl⟩
  rw [hn] at e1 e2 e3 ⊢
  have HM := Lib.hid (fun w => tgmul n r e3 hr w)
  clear hn e3 hs hr
  go_enter Tryz.func115, Tryz.ntmps115
  go_wp2_with fail
  refine (HM.out w).mono ?_
  rintro e w2 ⟨rfl, rfl⟩
  go_wp2
  go_ret
  exact ⟨rfl, rfl⟩
end Go.Proofs.YtfeobcmcellcpaaGreat

/-! Cd -/
namespace Go.Proofs.YtfeobcmcellcpaaGreat
open Go.RowKit

theorem rfadd (a b : Nat) (ha : a < 18446744073709551616) (hb : b < 18446744073709551616) (w : World) :
    Calls Tryz.prog 81 #[.int .u64 a, .int .u64 b] w (fun e w' => e = .returned (.int .u64 (addT a b)) ∧ w = w') := by
  obtain ⟨d, hd⟩ : ∃ d : Nat, (18446744073709551615 : Int) - (b : Int) = d := ⟨18446744073709551615 - b, by omega⟩
  have e1 : IntKind.u64.wrap (d : Int) = d := by rw [IntKind.wrap_u64]; omega
  obtain ⟨r, hr⟩ : ∃ r, addT a b = r := ⟨_, rfl⟩
  rw [hr]
  unfold addT topN at hr
  by_cases h0 : d < a
  · have hrs : Hid (r = 18446744073709551615) := by unfold Hid; omega
    have t0 : decide (d < a) = true := decide_eq_true h0
    have t1 : decide ((d : Int) < (a : Int)) = true := decide_eq_true (by omega)
    clear hr h0
    go_enter Tryz.func81, Tryz.ntmps81
    go_wp2
    go_ret
    exact ⟨by rw [hrs.out]; rfl, rfl⟩
  · have t0 : decide (d < a) = false := decide_eq_false h0
    have t1 : decide ((d : Int) < (a : Int)) = false := decide_eq_false (by omega)
    have e2 : (a : Int) + (b : Int) = (r : Int) := by omega
    have e3 : IntKind.u64.wrap (r : Int) = r := by rw [IntKind.wrap_u64]; omega
    clear hr h0
    go_enter Tryz.func81, Tryz.ntmps81
    go_wp2
    go_ret
    exact ⟨rfl, rfl⟩
theorem rfmul (a b : Nat) (ha : a < 18446744073709551616) (hb : b < 18446744073709551616) (w : World) :
    Calls Tryz.prog 82 #[.int .u64 a, .int .u64 b] w (fun e w' => e = .returned (.int .u64 (mulT a b)) ∧ w = w') := by
  obtain ⟨r, hr⟩ : ∃ r, mulT a b = r := ⟨_, rfl⟩
  rw [hr]
  unfold mulT topN at hr
  by_cases hz : a = 0
  · subst hz
    have hrs : Hid (r = 0) := by unfold Hid; rw [Nat.zero_mul] at hr; omega
    clear hr
    go_enter Tryz.func82, Tryz.ntmps82
    go_wp2
    go_ret
    exact ⟨by rw [hrs.out]; simp, rfl⟩
  · have tz : ((a : Int) == 0) = false := by simp; omega
    obtain ⟨d, hd⟩ : ∃ d : Nat, 18446744073709551615 / a = d := ⟨_, rfl⟩
    have ed : Int.tdiv (18446744073709551615 : Int) (a : Int) = d := by rw [← hd]; rfl
    have hd64 : d < 18446744073709551616 := by have := Nat.div_le_self 18446744073709551615 a; omega
    have e1 : IntKind.u64.wrap (d : Int) = d := by rw [IntKind.wrap_u64]; omega
    by_cases h0 : d < b
    · have hbig : 18446744073709551615 < a * b := by
        rw [← hd, Nat.div_lt_iff_lt_mul (by omega), Nat.mul_comm] at h0; exact h0
      have hrs : Hid (r = 18446744073709551615) := by unfold Hid; omega
      have t0 : decide (d < b) = true := decide_eq_true h0
      have t1 : decide ((d : Int) < (b : Int)) = true := decide_eq_true (by omega)
      clear hr h0 hbig hd hd64
      go_enter Tryz.func82, Tryz.ntmps82
      go_wp2
      go_ret
      exact ⟨by rw [hrs.out]; rfl, rfl⟩
    · have hsm : a * b ≤ 18446744073709551615 := by
        have h1 : ¬ 18446744073709551615 < b * a := fun h => h0 (by rw [← hd]; exact (Nat.div_lt_iff_lt_mul (by omega)).2 h)
        rw [Nat.mul_comm]; omega
      have e2 : (a : Int) * (b : Int) = (r : Int) := by rw [← Int.natCast_mul]; congr 1; omega
      have e3 : IntKind.u64.wrap (r : Int) = r := by rw [IntKind.wrap_u64]; omega
      have t0 : decide (d < b) = false := decide_eq_false h0
      have t1 : decide ((d : Int) < (b : Int)) = false := decide_eq_false (by omega)
      clear hr h0 hsm hd hd64
      go_enter Tryz.func82, Tryz.ntmps82
      go_wp2
      go_ret
      exact ⟨rfl, rfl⟩
theorem rfcost (size : Int) (hs : size < 9223372036854775808) (r : Nat) (hr : r < 18446744073709551616) (w : World) :
    Calls Tryz.prog 48 #[.int .i64 size, .int .u64 r] w (fun e w' => e = .returned (.int .u64 (mulT (sizeN size) r)) ∧ w = w') := by
  obtain ⟨e1, e2, e3⟩ := size_eqs hs
  obtain ⟨n, hn⟩ : ∃ n, sizeN size = n := ⟨_, rfl⟩
  rw [hn] at e1 e2 e3 ⊢
  have HM := Lib.hid (fun w => rfmul n r e3 hr w)
  clear hn e3 hs hr
  go_enter Tryz.func48, Tryz.ntmps48
  go_wp2_with fail
  refine (HM.out w).mono ?_
  rintro e w2 ⟨rfl, rfl⟩
  go_wp2
  go_ret
  exact ⟨rfl, rfl⟩
end Go.Proofs.YtfeobcmcellcpaaGreat
