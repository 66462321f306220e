/-
  Words: the walks of mask, With, Without, Next. Conditions: where a table of the library's lies.
-/
import Derived.Test.YtbnifhdnpeiheaaDoorSpec
import Derived.Test.YtbnifhdnpeiheaaDoorLaysB
import Derived.Laws.Bits64b
import Derived.Laws.Bits64
set_option linter.unusedVariables false
set_option linter.unusedSimpArgs false
namespace Go.Proofs.YtbnifhdnpeiheaaDoor
open Go.RowKit

theorem bits_andNot_u64_nat (a b : Nat) (ha : a < 18446744073709551616) (hb : b < 18446744073709551616) :
    bits .andNot .u64 (a : Int) (b : Int) = ((a &&& (18446744073709551615 - b) : Nat) : Int) := by
  have hx : a &&& (18446744073709551615 - b) < 2 ^ 64 := Nat.and_lt_two_pow _ (by omega)
  have h1 : (BitVec.ofInt 64 (a : Int)).toNat = a := by
    rw [BitVec.ofInt_natCast, BitVec.toNat_ofNat]; exact Nat.mod_eq_of_lt (by omega)
  have h2 : (BitVec.ofInt 64 (b : Int)).toNat = b := by
    rw [BitVec.ofInt_natCast, BitVec.toNat_ofNat]; exact Nat.mod_eq_of_lt (by omega)
  show IntKind.u64.wrap ((BitVec.ofInt 64 (a : Int) &&& ~~~ BitVec.ofInt 64 (b : Int)).toNat : Int) = _
  rw [BitVec.toNat_and, BitVec.toNat_not, h1, h2, IntKind.wrap_u64]
  have e : 2 ^ 64 - 1 - b = 18446744073709551615 - b := by omega
  rw [e]
  omega

theorem pow_lt64 {i : Nat} (hi : i < 64) : 2 ^ i < 18446744073709551616 := by
  have := Nat.pow_lt_pow_right (a := 2) (by omega) hi
  exact Nat.lt_of_lt_of_le this (by decide)
theorem wrap_pow {i : Nat} (hi : i < 64) : IntKind.u64.wrap (2 ^ i) = ((2 ^ i : Nat) : Int) := by
  have h := pow_lt64 hi
  have e : (2 : Int) ^ i = ((2 ^ i : Nat) : Int) := by rw [Int.natCast_pow]; rfl
  rw [IntKind.wrap_u64, e]
  generalize 2 ^ i = p at h ⊢
  omega

/-! ### Plain -/
def orB (x i : Nat) : Nat := x ||| 2 ^ i
def andNB (x i : Nat) : Nat := x &&& (18446744073709551615 - 2 ^ i)
def hiB (x i : Nat) : Nat := x &&& (18446744073709551615 * 2 ^ i % 18446744073709551616)
def nxtB (x i : Nat) : Int := if hiB x i = 0 then -1 else (Lib.ctz 64 (hiB x i) : Nat)
theorem orB_lt {x i : Nat} (hx : x < 18446744073709551616) (hi : i < 64) : orB x i < 18446744073709551616 := by
  have := Nat.or_lt_two_pow (n := 64) (x := x) (y := 2 ^ i) (by omega) (by have := pow_lt64 hi; omega)
  unfold orB; omega
theorem andNB_lt {x i : Nat} (hx : x < 18446744073709551616) : andNB x i < 18446744073709551616 := by
  unfold andNB; exact Nat.lt_of_le_of_lt Nat.and_le_left hx
theorem hiB_lt {x i : Nat} (hx : x < 18446744073709551616) : hiB x i < 18446744073709551616 := by
  unfold hiB; exact Nat.lt_of_le_of_lt Nat.and_le_left hx
theorem orB_bit (x i j : Nat) : (orB x i).testBit j = (x.testBit j || decide (i = j)) := by
  unfold orB; rw [Nat.testBit_or, Nat.testBit_two_pow]
theorem andNB_bit (x i j : Nat) (hi : i < 64) (hx : x < 18446744073709551616) : (andNB x i).testBit j = (x.testBit j && !decide (i = j)) := by
  unfold andNB
  have e : 18446744073709551615 - 2 ^ i = 2 ^ 64 - (2 ^ i + 1) := by omega
  rw [Nat.testBit_and, e, Nat.testBit_two_pow_sub_succ (by have := pow_lt64 hi; omega), Nat.testBit_two_pow]
  by_cases hj : j < 64
  · simp [hj]
  · have : x.testBit j = false := Nat.testBit_lt_two_pow (Nat.lt_of_lt_of_le hx (by
      have := Nat.pow_le_pow_right (n := 2) (by omega) (show 64 ≤ j by omega)
      exact Nat.le_trans (by decide) this))
    simp [this]
theorem hiB_bit (x i j : Nat) (hx : x < 18446744073709551616) : (hiB x i).testBit j = (x.testBit j && decide (i ≤ j)) := by
  unfold hiB
  have e : 18446744073709551615 * 2 ^ i % 18446744073709551616 = (2 ^ i * (2 ^ 64 - 1)) % 2 ^ 64 := by rw [Nat.mul_comm]
  rw [Nat.testBit_and, e, Nat.testBit_mod_two_pow, Nat.testBit_two_pow_mul, Nat.testBit_two_pow_sub_one]
  by_cases hj : j < 64
  · by_cases hij : i ≤ j
    · have : j - i < 64 := by omega
      simp [hj, hij, this]
    · have : ¬ j ≥ i := by omega
      simp [hj, hij]
  · have : x.testBit j = false := Nat.testBit_lt_two_pow (Nat.lt_of_lt_of_le hx (by
      have := Nat.pow_le_pow_right (n := 2) (by omega) (show 64 ≤ j by omega)
      exact Nat.le_trans (by decide) this))
    simp [this]
theorem bit_lt {x j : Nat} (hx : x < 18446744073709551616) (h : x.testBit j = true) : j < 64 := by
  rcases Nat.lt_or_ge j 64 with h' | h'
  · exact h'
  · have : x.testBit j = false := Nat.testBit_lt_two_pow (Nat.lt_of_lt_of_le hx (by
      have := Nat.pow_le_pow_right (n := 2) (by omega) h'
      exact Nat.le_trans (by decide) this))
    rw [this] at h; cases h
theorem ctz_bit {y : Nat} (h0 : y ≠ 0) (hy : y < 18446744073709551616) : y.testBit (Lib.ctz 64 y) = true ∧ Lib.ctz 64 y < 64 ∧ ∀ j, j < Lib.ctz 64 y → y.testBit j = false := by
  obtain ⟨m, hm, hlt⟩ := Lib.ctzFrom_spec 64 y (by omega) (by omega)
  have e : Lib.ctz 64 y = Lib.ctzFrom 64 y := by unfold Lib.ctz; rw [if_neg h0]
  rw [e]
  obtain ⟨k, hk⟩ : ∃ k, Lib.ctzFrom 64 y = k := ⟨_, rfl⟩
  rw [hk] at hm hlt ⊢
  refine ⟨?_, hlt, fun j hj => ?_⟩
  · rw [hm, Nat.testBit_two_pow_mul]
    simp
  · rw [hm, Nat.testBit_two_pow_mul]
    have : ¬ j ≥ k := by omega
    simp [this]
theorem nxtB_none {x i : Nat} (hx : x < 18446744073709551616) : nxtB x i = -1 ↔ ∀ j, i ≤ j → x.testBit j = false := by
  unfold nxtB
  constructor
  · intro h j hj
    split at h
    · rename_i h0
      have := hiB_bit x i j hx
      rw [h0] at this
      simp [hj] at this
      exact this
    · exact absurd h (by omega)
  · intro h
    have : hiB x i = 0 := by
      apply Nat.eq_of_testBit_eq
      intro j
      rw [hiB_bit x i j hx]
      by_cases hj : i ≤ j
      · simp [h j hj]
      · simp [hj]
    rw [if_pos this]
theorem nxtB_some {x i : Nat} {k : Nat} (hx : x < 18446744073709551616) (h : nxtB x i = k) : x.testBit k = true ∧ i ≤ k ∧ k < 64 ∧ ∀ j, i ≤ j → j < k → x.testBit j = false := by
  unfold nxtB at h
  split at h
  · exact absurd h (by omega)
  · rename_i h0
    obtain ⟨a, b, c⟩ := ctz_bit h0 (hiB_lt (i := i) hx)
    have hk : Lib.ctz 64 (hiB x i) = k := by omega
    rw [hk] at a b c
    rw [hiB_bit x i k hx] at a
    simp at a
    refine ⟨a.1, a.2, b, fun j h1 h2 => ?_⟩
    have := c j h2
    rw [hiB_bit x i j hx] at this
    simpa [h1] using this
theorem nxtB_cases (x i : Nat) : nxtB x i = -1 ∨ ∃ k : Nat, nxtB x i = k := by
  unfold nxtB
  split
  · exact .inl rfl
  · exact .inr ⟨_, rfl⟩

/-! ### Walks -/
theorem mask_any (i : Nat) (hi : i < 64) (w : World) : Calls Tryd.prog 142 #[.int .i64 i] w (fun e w' => e = .returned (.int .u64 (2 ^ i : Nat)) ∧ w = w') := by
  have HW := Lib.hid (wrap_pow hi)
  have b1 : (i : Int) < 64 := by omega
  have t1 : decide ((64 : Int) ≤ i) = false := by simp; omega
  have t2 : decide ((i : Int) < 0) = false := by simp
  go_enter Tryd.func142, Tryd.ntmps142
  go_wp2
  go_ret
  exact ⟨ret_int HW.out, rfl⟩
theorem with_any (x i : Nat) (hx : x < 18446744073709551616) (hi : i < 64) (w : World) : Calls Tryd.prog 120 #[.int .u64 x, .int .i64 i] w (fun e w' => e = .returned (.int .u64 (orB x i)) ∧ w = w') := by
  have HO := Lib.hid (bits_or_u64_nat x (2 ^ i) hx (pow_lt64 hi))
  obtain ⟨p, hp⟩ : ∃ p, 2 ^ i = p := ⟨_, rfl⟩
  have HM := Lib.hid (mask_any i hi w)
  rw [hp] at HO HM
  have HP := Lib.hid hp
  clear hp
  go_enter Tryd.func120, Tryd.ntmps120
  go_wp2_with fail
  refine HM.out.mono ?_
  rintro e w2 ⟨rfl, rfl⟩
  go_wp2
  go_ret
  exact ⟨ret_int (by rw [HO.out]; unfold orB; rw [HP.out]), rfl⟩
theorem without_any (x i : Nat) (hx : x < 18446744073709551616) (hi : i < 64) (w : World) : Calls Tryd.prog 119 #[.int .u64 x, .int .i64 i] w (fun e w' => e = .returned (.int .u64 (andNB x i)) ∧ w = w') := by
  have HO := Lib.hid (bits_andNot_u64_nat x (2 ^ i) hx (pow_lt64 hi))
  obtain ⟨p, hp⟩ : ∃ p, 2 ^ i = p := ⟨_, rfl⟩
  have HM := Lib.hid (mask_any i hi w)
  rw [hp] at HO HM
  have HP := Lib.hid hp
  clear hp
  go_enter Tryd.func119, Tryd.ntmps119
  go_wp2_with fail
  refine HM.out.mono ?_
  rintro e w2 ⟨rfl, rfl⟩
  go_wp2
  go_ret
  exact ⟨ret_int (by rw [HO.out]; unfold andNB; rw [HP.out]), rfl⟩
theorem next_out (x : Nat) (i : Int) (hi : 64 ≤ i) (w : World) : Calls Tryd.prog 106 #[.int .u64 x, .int .i64 i] w (fun e w' => e = .returned (.int .i64 (-1)) ∧ w = w') := by
  have t1 : decide ((64 : Int) ≤ i) = true := by simp; omega
  go_enter Tryd.func106, Tryd.ntmps106
  go_wp2
  go_ret
  exact ⟨rfl, rfl⟩
theorem hiB_eq (x i : Nat) (hx : x < 18446744073709551616) : bits .and .u64 (x : Int) (IntKind.u64.wrap (18446744073709551615 * 2 ^ i)) = ((hiB x i : Nat) : Int) := by
  have e : IntKind.u64.wrap (18446744073709551615 * 2 ^ i) = ((18446744073709551615 * 2 ^ i % 18446744073709551616 : Nat) : Int) := by
    rw [IntKind.wrap_u64, Int.natCast_emod, Int.natCast_mul, Int.natCast_pow]; rfl
  rw [e, bits_and_u64_nat x _ hx (Nat.mod_lt _ (by omega))]
  rfl
theorem next_any (x i : Nat) (hx : x < 18446744073709551616) (hi : i < 64) (w : World) (hT : TabAt 0 Lib.deBruijn64tab w) : Calls Tryd.prog 106 #[.int .u64 x, .int .i64 i] w (fun e w' => e = .returned (.int .i64 (nxtB x i)) ∧ w = w') := by
  have b1 : (i : Int) < 64 := by omega
  have t1 : decide ((64 : Int) ≤ i) = false := by simp; omega
  have HH := hiB_eq x i hx
  obtain ⟨y, hy⟩ : ∃ y, hiB x i = y := ⟨_, rfl⟩
  have HN : Hid (nxtB x i = if y = 0 then -1 else ((Lib.ctz 64 y : Nat) : Int)) := by unfold Hid nxtB; rw [hy]
  have hyl : y < 18446744073709551616 := by rw [← hy]; exact hiB_lt hx
  rw [hy] at HH
  have HT := Lib.hid hT
  clear hy hT
  by_cases h0 : y = 0
  · subst h0
    go_enter Tryd.func106, Tryd.ntmps106
    go_wp2
    go_ret
    exact ⟨ret_int (by rw [HN.out]; rfl), rfl⟩
  · have t2 : ((y : Int) == 0) = false := by simp [h0]
    have HZ : Hid (y ≠ 0) := h0
    have hcon := Any7.bits_TrailingZeros64 Tryd.lays29 y hyl w (fun _ => HT.out)
    change Calls Tryd.prog 129 _ _ _ at hcon
    have HC := Lib.hid hcon
    clear h0 hcon
    go_enter Tryd.func106, Tryd.ntmps106
    go_wp2_with fail
    refine HC.out.mono ?_
    rintro e w2 ⟨rfl, rfl⟩
    go_wp2
    go_ret
    exact ⟨ret_int (by rw [HN.out, if_neg HZ.out]), rfl⟩
end Go.Proofs.YtbnifhdnpeiheaaDoor
