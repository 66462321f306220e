/-
  Texts of this claim, joined: Wa, Wb, Wc, Wd, We, Wf, Wg. No condition.
-/
import Derived.Test.YtolohheflbmfaaaGreatDoorPB
import Derived.Test.YtolohheflbmfaaaGreatDoorLaysB
import Derived.Laws.Bits64b
import Derived.Laws.Bits64
import Derived.Test.YtolohheflbmfaaaGreatDoorPI
set_option linter.unusedVariables false
set_option linter.unusedSimpArgs false
/-! Wa -/
namespace Go.Proofs.YtolohheflbmfaaaGreatDoor
open Go.RowKit

theorem bits_andNot_u64_nat (a b : Nat) (ha : a < 18446744073709551616) (hb : b < 18446744073709551616) :
    bits .andNot .u64 (a : Int) (b : Int) = ((a &&& (18446744073709551615 - b) : Nat) : Int) := by
  have hx : a &&& (18446744073709551615 - b) < 2 ^ 64 := Nat.and_lt_two_pow _ (by omega)
  have h1 : (BitVec.ofInt 64 (a : Int)).toNat = a := by
    rw [BitVec.ofInt_natCast, BitVec.toNat_ofNat]; exact Nat.mod_eq_of_lt (by omega)
  have h2 : (BitVec.ofInt 64 (b : Int)).toNat = b := by
    rw [BitVec.ofInt_natCast, BitVec.toNat_ofNat]; exact Nat.mod_eq_of_lt (by omega)
  show IntKind.u64.wrap ((BitVec.ofInt 64 (a : Int) &&& ~~~ BitVec.ofInt 64 (b : Int)).toNat : Int) = _
  rw [BitVec.toNat_and, BitVec.toNat_not, h1, h2, IntKind.wrap_u64]
  have e : 2 ^ 64 - 1 - b = 18446744073709551615 - b := by omega
  rw [e]
  omega

theorem pow_lt64 {i : Nat} (hi : i < 64) : 2 ^ i < 18446744073709551616 := by
  have := Nat.pow_lt_pow_right (a := 2) (by omega) hi
  exact Nat.lt_of_lt_of_le this (by decide)
theorem wrap_pow {i : Nat} (hi : i < 64) : IntKind.u64.wrap (2 ^ i) = ((2 ^ i : Nat) : Int) := by
  have h := pow_lt64 hi
  have e : (2 : Int) ^ i = ((2 ^ i : Nat) : Int) := by rw [Int.natCast_pow]; rfl
  rw [IntKind.wrap_u64, e]
  generalize 2 ^ i = p at h ⊢
  omega

/-! ### Plain -/
def orB (x i : Nat) : Nat := x ||| 2 ^ i
def andNB (x i : Nat) : Nat := x &&& (18446744073709551615 - 2 ^ i)
def hiB (x i : Nat) : Nat := x &&& (18446744073709551615 * 2 ^ i % 18446744073709551616)
def nxtB (x i : Nat) : Int := if hiB x i = 0 then -1 else (Lib.ctz 64 (hiB x i) : Nat)
theorem orB_lt {x i : Nat} (hx : x < 18446744073709551616) (hi : i < 64) : orB x i < 18446744073709551616 := by
  have := Nat.or_lt_two_pow (n := 64) (x := x) (y := 2 ^ i) (by omega) (by have := pow_lt64 hi; omega)
  unfold orB; omega
theorem andNB_lt {x i : Nat} (hx : x < 18446744073709551616) : andNB x i < 18446744073709551616 := by
  unfold andNB; exact Nat.lt_of_le_of_lt Nat.and_le_left hx
theorem hiB_lt {x i : Nat} (hx : x < 18446744073709551616) : hiB x i < 18446744073709551616 := by
  unfold hiB; exact Nat.lt_of_le_of_lt Nat.and_le_left hx
theorem orB_bit (x i j : Nat) : (orB x i).testBit j = (x.testBit j || decide (i = j)) := by
  unfold orB; rw [Nat.testBit_or, Nat.testBit_two_pow]
theorem andNB_bit (x i j : Nat) (hi : i < 64) (hx : x < 18446744073709551616) : (andNB x i).testBit j = (x.testBit j && !decide (i = j)) := by
  unfold andNB
  have e : 18446744073709551615 - 2 ^ i = 2 ^ 64 - (2 ^ i + 1) := by omega
  rw [Nat.testBit_and, e, Nat.testBit_two_pow_sub_succ (by have := pow_lt64 hi; omega), Nat.testBit_two_pow]
  by_cases hj : j < 64
  · simp [hj]
  · have : x.testBit j = false := Nat.testBit_lt_two_pow (Nat.lt_of_lt_of_le hx (by
      have := Nat.pow_le_pow_right (n := 2) (by omega) (show 64 ≤ j by omega)
      exact Nat.le_trans (by decide) this))
    simp [this]
theorem hiB_bit (x i j : Nat) (hx : x < 18446744073709551616) : (hiB x i).testBit j = (x.testBit j && decide (i ≤ j)) := by
  unfold hiB
  have e : 18446744073709551615 * 2 ^ i % 18446744073709551616 = (2 ^ i * (2 ^ 64 - 1)) % 2 ^ 64 := by rw [Nat.mul_comm]
  rw [Nat.testBit_and, e, Nat.testBit_mod_two_pow, Nat.testBit_two_pow_mul, Nat.testBit_two_pow_sub_one]
  by_cases hj : j < 64
  · by_cases hij : i ≤ j
    · have : j - i < 64 := by omega
      simp [hj, hij, this]
    · have : ¬ j ≥ i := by omega
      simp [hj, hij]
  · have : x.testBit j = false := Nat.testBit_lt_two_pow (Nat.lt_of_lt_of_le hx (by
      have := Nat.pow_le_pow_right (n := 2) (by omega) (show 64 ≤ j by omega)
      exact Nat.le_trans (by decide) this))
    simp [this]
theorem bit_lt {x j : Nat} (hx : x < 18446744073709551616) (h : x.testBit j = true) : j < 64 := by
  rcases Nat.lt_or_ge j 64 with h' | h'
  · exact h'
  · have : x.testBit j = false := Nat.testBit_lt_two_pow (Nat.lt_of_lt_of_le hx (by
      have := Nat.pow_le_pow_right (n := 2) (by omega) h'
      exact Nat.le_trans (by decide) this))
    rw [this] at h; cases h
theorem ctz_bit {y : Nat} (h0 : y ≠ 0) (hy : y < 18446744073709551616) : y.testBit (Lib.ctz 64 y) = true ∧ Lib.ctz 64 y < 64 ∧ ∀ j, j < Lib.ctz 64 y → y.testBit j = false := by
  obtain ⟨m, hm, hlt⟩ := Lib.ctzFrom_spec 64 y (by omega) (by omega)
  have e : Lib.ctz 64 y = Lib.ctzFrom 64 y := by unfold Lib.ctz; rw [if_neg h0]
  rw [e]
  obtain ⟨k, hk⟩ : ∃ k, Lib.ctzFrom 64 y = k := ⟨_, rfl⟩
  rw [hk] at hm hlt ⊢
  refine ⟨?_, hlt, fun j hj => ?_⟩
  · rw [hm, Nat.testBit_two_pow_mul]
    simp
  · rw [hm, Nat.testBit_two_pow_mul]
    have : ¬ j ≥ k := by omega
    simp [this]
theorem nxtB_none {x i : Nat} (hx : x < 18446744073709551616) : nxtB x i = -1 ↔ ∀ j, i ≤ j → x.testBit j = false := by
  unfold nxtB
  constructor
  · intro h j hj
    split at h
    · rename_i h0
      have := hiB_bit x i j hx
      rw [h0] at this
      simp [hj] at this
      exact this
    · exact absurd h (by omega)
  · intro h
    have : hiB x i = 0 := by
      apply Nat.eq_of_testBit_eq
      intro j
      rw [hiB_bit x i j hx]
      by_cases hj : i ≤ j
      · simp [h j hj]
      · simp [hj]
    rw [if_pos this]
theorem nxtB_some {x i : Nat} {k : Nat} (hx : x < 18446744073709551616) (h : nxtB x i = k) : x.testBit k = true ∧ i ≤ k ∧ k < 64 ∧ ∀ j, i ≤ j → j < k → x.testBit j = false := by
  unfold nxtB at h
  split at h
  · exact absurd h (by omega)
  · rename_i h0
    obtain ⟨a, b, c⟩ := ctz_bit h0 (hiB_lt (i := i) hx)
    have hk : Lib.ctz 64 (hiB x i) = k := by omega
    rw [hk] at a b c
    rw [hiB_bit x i k hx] at a
    simp at a
    refine ⟨a.1, a.2, b, fun j h1 h2 => ?_⟩
    have := c j h2
    rw [hiB_bit x i j hx] at this
    simpa [h1] using this
theorem nxtB_cases (x i : Nat) : nxtB x i = -1 ∨ ∃ k : Nat, nxtB x i = k := by
  unfold nxtB
  split
  · exact .inl rfl
  · exact .inr ⟨_, rfl⟩

/-! ### Walks -/
theorem mask_any (i : Nat) (hi : i < 64) (w : World) : Calls Tryz.prog 140 #[.int .i64 i] w (fun e w' => e = .returned (.int .u64 (2 ^ i : Nat)) ∧ w = w') := by
  have HW := Lib.hid (wrap_pow hi)
  have b1 : (i : Int) < 64 := by omega
  have t1 : decide ((64 : Int) ≤ i) = false := by simp; omega
  have t2 : decide ((i : Int) < 0) = false := by simp
  go_enter Tryz.func140, Tryz.ntmps140
  go_wp2
  go_ret
  exact ⟨ret_int HW.out, rfl⟩
theorem with_any (x i : Nat) (hx : x < 18446744073709551616) (hi : i < 64) (w : World) : Calls Tryz.prog 127 #[.int .u64 x, .int .i64 i] w (fun e w' => e = .returned (.int .u64 (orB x i)) ∧ w = w') := by
  have HO := Lib.hid (bits_or_u64_nat x (2 ^ i) hx (pow_lt64 hi))
  obtain ⟨p, hp⟩ : ∃ p, 2 ^ i = p := ⟨_, rfl⟩
  have HM := Lib.hid (mask_any i hi w)
  rw [hp] at HO HM
  have HP := Lib.hid hp
  clear hp
  go_enter Tryz.func127, Tryz.ntmps127
  go_wp2_with fail
  refine HM.out.mono ?_
  rintro e w2 ⟨rfl, rfl⟩
  go_wp2
  go_ret
  exact ⟨ret_int (by rw [HO.out]; unfold orB; rw [HP.out]), rfl⟩
theorem without_any (x i : Nat) (hx : x < 18446744073709551616) (hi : i < 64) (w : World) : Calls Tryz.prog 143 #[.int .u64 x, .int .i64 i] w (fun e w' => e = .returned (.int .u64 (andNB x i)) ∧ w = w') := by
  have HO := Lib.hid (bits_andNot_u64_nat x (2 ^ i) hx (pow_lt64 hi))
  obtain ⟨p, hp⟩ : ∃ p, 2 ^ i = p := ⟨_, rfl⟩
  have HM := Lib.hid (mask_any i hi w)
  rw [hp] at HO HM
  have HP := Lib.hid hp
  clear hp
  go_enter Tryz.func143, Tryz.ntmps143
  go_wp2_with fail
  refine HM.out.mono ?_
  rintro e w2 ⟨rfl, rfl⟩
  go_wp2
  go_ret
  exact ⟨ret_int (by rw [HO.out]; unfold andNB; rw [HP.out]), rfl⟩
theorem next_out (x : Nat) (i : Int) (hi : 64 ≤ i) (w : World) : Calls Tryz.prog 128 #[.int .u64 x, .int .i64 i] w (fun e w' => e = .returned (.int .i64 (-1)) ∧ w = w') := by
  have t1 : decide ((64 : Int) ≤ i) = true := by simp; omega
  go_enter Tryz.func128, Tryz.ntmps128
  go_wp2
  go_ret
  exact ⟨rfl, rfl⟩
theorem hiB_eq (x i : Nat) (hx : x < 18446744073709551616) : bits .and .u64 (x : Int) (IntKind.u64.wrap (18446744073709551615 * 2 ^ i)) = ((hiB x i : Nat) : Int) := by
  have e : IntKind.u64.wrap (18446744073709551615 * 2 ^ i) = ((18446744073709551615 * 2 ^ i % 18446744073709551616 : Nat) : Int) := by
    rw [IntKind.wrap_u64, Int.natCast_emod, Int.natCast_mul, Int.natCast_pow]; rfl
  rw [e, bits_and_u64_nat x _ hx (Nat.mod_lt _ (by omega))]
  rfl
theorem next_any (x i : Nat) (hx : x < 18446744073709551616) (hi : i < 64) (w : World) (hT : TabAt 0 Lib.deBruijn64tab w) : Calls Tryz.prog 128 #[.int .u64 x, .int .i64 i] w (fun e w' => e = .returned (.int .i64 (nxtB x i)) ∧ w = w') := by
  have b1 : (i : Int) < 64 := by omega
  have t1 : decide ((64 : Int) ≤ i) = false := by simp; omega
  have HH := hiB_eq x i hx
  obtain ⟨y, hy⟩ : ∃ y, hiB x i = y := ⟨_, rfl⟩
  have HN : Hid (nxtB x i = if y = 0 then -1 else ((Lib.ctz 64 y : Nat) : Int)) := by unfold Hid nxtB; rw [hy]
  have hyl : y < 18446744073709551616 := by rw [← hy]; exact hiB_lt hx
  rw [hy] at HH
  have HT := Lib.hid hT
  clear hy hT
  by_cases h0 : y = 0
  · subst h0
    go_enter Tryz.func128, Tryz.ntmps128
    go_wp2
    go_ret
    exact ⟨ret_int (by rw [HN.out]; rfl), rfl⟩
  · have t2 : ((y : Int) == 0) = false := by simp [h0]
    have HZ : Hid (y ≠ 0) := h0
    have hcon := Any7.bits_TrailingZeros64 Tryz.lays29 y hyl w (fun _ => HT.out)
    change Calls Tryz.prog 141 _ _ _ at hcon
    have HC := Lib.hid hcon
    clear h0 hcon
    go_enter Tryz.func128, Tryz.ntmps128
    go_wp2_with fail
    refine HC.out.mono ?_
    rintro e w2 ⟨rfl, rfl⟩
    go_wp2
    go_ret
    exact ⟨ret_int (by rw [HN.out, if_neg HZ.out]), rfl⟩
end Go.Proofs.YtolohheflbmfaaaGreatDoor

/-! Wb -/
namespace Go.Proofs.YtolohheflbmfaaaGreatDoor
open Go.RowKit

def heldN (wd : Int) : Nat := (min (max wd 0) 40).toNat
theorem heldN_le (wd : Int) : heldN wd ≤ 40 := by unfold heldN; omega
theorem heldN_idem (wd : Int) : heldN (heldN wd : Int) = heldN wd := by unfold heldN; omega

/-- Do a key and a base lie in one stretch of level l? -/
def sameB (W b k l : Nat) : Bool := decide (b / 2 ^ (W + 6 * (l + 1)) = k / 2 ^ (W + 6 * (l + 1)))
def lev3 (W b k : Nat) : Nat := if sameB W b k 0 = true then 0 else if sameB W b k 1 = true then 1 else if sameB W b k 2 = true then 2 else 3
def levN (W b k : Nat) : Int := if k < b then -1 else (lev3 W b k : Nat)
def bucN (W k l : Nat) : Nat := k / 2 ^ (W + 6 * l) % 64
theorem lev3_at {W b k l : Nat} (hl : l < 3) (h : sameB W b k l = true) (hj : ∀ j, j < l → sameB W b k j = false) : lev3 W b k = l := by
  unfold lev3
  have : l = 0 ∨ l = 1 ∨ l = 2 := by omega
  rcases this with rfl | rfl | rfl
  · rw [if_pos h]
  · rw [if_neg (by rw [hj 0 (by omega)]; simp), if_pos h]
  · rw [if_neg (by rw [hj 0 (by omega)]; simp), if_neg (by rw [hj 1 (by omega)]; simp), if_pos h]
theorem lev3_no {W b k : Nat} (hj : ∀ j, j < 3 → sameB W b k j = false) : lev3 W b k = 3 := by
  unfold lev3
  rw [if_neg (by rw [hj 0 (by omega)]; simp), if_neg (by rw [hj 1 (by omega)]; simp), if_neg (by rw [hj 2 (by omega)]; simp)]
theorem lev3_le (W b k : Nat) : lev3 W b k ≤ 3 := by unfold lev3; (repeat' split) <;> omega

theorem xor_zero (a b s : Nat) : (a ^^^ b) / 2 ^ s = 0 ↔ a / 2 ^ s = b / 2 ^ s := by
  rw [← Nat.shiftRight_eq_div_pow, ← Nat.shiftRight_eq_div_pow, ← Nat.shiftRight_eq_div_pow, Nat.shiftRight_xor_distrib]
  constructor
  · intro h
    apply Nat.eq_of_testBit_eq
    intro i
    have := congrArg (fun x => x.testBit i) h
    simp only [Nat.testBit_xor, Nat.zero_testBit] at this
    simpa using this
  · intro h
    rw [h, Nat.xor_self]
theorem lev_test (W b k l : Nat) (hb : b < 18446744073709551616) (hk : k < 18446744073709551616) : (bits .xor .u64 (b : Int) (k : Int) / 2 ^ (W + 6 * (l + 1)) == 0) = sameB W b k l := by
  rw [bits_xor_u64_nat b k hb hk]
  unfold sameB
  have e : ((b ^^^ k : Nat) : Int) / 2 ^ (W + 6 * (l + 1)) = (((b ^^^ k) / 2 ^ (W + 6 * (l + 1)) : Nat) : Int) := by
    rw [Int.natCast_ediv, Int.natCast_pow]; rfl
  rw [e, Bool.eq_iff_iff, decide_eq_true_iff, ← xor_zero]
  simp only [beq_iff_eq]
  omega

theorem held_any (wd : Int) (w : World) : Calls Tryz.prog 95 #[.int .i64 wd] w (fun e w' => e = .returned (.int .i64 (heldN wd)) ∧ w = w') := by
  go_enter Tryz.func95, Tryz.ntmps95
  go_wp2
  go_ret
  exact ⟨ret_int (by unfold heldN; omega), rfl⟩
theorem rwidth_any (wd : Int) (w : World) : Calls Tryz.prog 73 #[.int .i64 wd] w (fun e w' => e = .returned (.int .i64 (heldN wd)) ∧ w = w') := by
  go_enter Tryz.func73, Tryz.ntmps73
  go_wp2
  go_ret
  exact ⟨ret_int (by unfold heldN; omega), rfl⟩
theorem buc_cast (k s : Nat) : wrap64 (((k : Int) / 2 ^ s).tmod 64) = ((k / 2 ^ s % 64 : Nat) : Int) := by
  have e : (k : Int) / 2 ^ s = ((k / 2 ^ s : Nat) : Int) := by rw [Int.natCast_ediv, Int.natCast_pow]; rfl
  rw [e]
  generalize k / 2 ^ s = q
  rw [Int.tmod_eq_emod_of_nonneg (by omega)]
  unfold wrap64
  omega
theorem bucket_any (k l : Nat) (hl : l < 3) (wd : Int) (w : World) : Calls Tryz.prog 126 #[.int .u64 k, .int .i64 l, .int .i64 wd] w (fun e w' => e = .returned (.int .i64 (bucN (heldN wd) k l)) ∧ w = w') := by
  have hW := heldN_le wd
  have HH := Lib.hid (held_any wd w)
  obtain ⟨W, hWW⟩ : ∃ W, heldN wd = W := ⟨_, rfl⟩
  rw [hWW] at hW HH ⊢
  clear hWW
  have t1 : decide ((l : Int) < 0) = false := by simp
  have t2 : decide ((3 : Int) ≤ (l : Int)) = false := by simp; omega
  have t3 : decide (3 ≤ l) = false := by simp; omega
  have b1 : (W : Int) ≤ 40 := by omega
  go_enter Tryz.func126, Tryz.ntmps126
  go_wp2_with fail
  refine HH.out.mono ?_
  rintro e w2 ⟨rfl, rfl⟩
  go_wp2
  go_ret
  exact ⟨ret_int (by rw [buc_cast]; rfl), rfl⟩
theorem bucket_out (k : Nat) (l : Int) (hl : l < 0 ∨ 3 ≤ l) (wd : Int) (w : World) : Calls Tryz.prog 126 #[.int .u64 k, .int .i64 l, .int .i64 wd] w (fun e w' => e = .returned (.int .i64 (-1)) ∧ w = w') := by
  rcases hl with hl | hl
  · have t1 : decide (l < 0) = true := by simp; omega
    go_enter Tryz.func126, Tryz.ntmps126
    go_wp2
    go_ret
    exact ⟨rfl, rfl⟩
  · have t1 : decide (l < 0) = false := by simp; omega
    have t2 : decide (3 ≤ l) = true := by simp; omega
    go_enter Tryz.func126, Tryz.ntmps126
    go_wp2
    go_ret
    exact ⟨rfl, rfl⟩

def LevAt (W b k : Nat) (v : Value) : Prop := ∃ l : Nat, l ≤ 3 ∧ v = .int .i64 l ∧ ∀ j, j < l → sameB W b k j = false


set_option maxHeartbeats 1000000 in
theorem level_any (b k : Nat) (hb : b < 18446744073709551616) (hk : k < 18446744073709551616) (wd : Int) (w : World) : Calls Tryz.prog 79 #[.int .u64 b, .int .u64 k, .int .i64 wd] w (fun e w' => e = .returned (.int .i64 (levN (heldN wd) b k)) ∧ w = w') := by
  have hW := heldN_le wd
  have HH := Lib.hid (fun w => held_any wd w)
  obtain ⟨W, hWW⟩ : ∃ W, heldN wd = W := ⟨_, rfl⟩
  rw [hWW] at hW HH ⊢
  clear hWW
  by_cases h : k < b
  · have t1 : decide (k < b) = true := by simp; omega
    have HL : Hid (levN W b k = -1) := by unfold Hid levN; rw [if_pos h]
    go_enter Tryz.func79, Tryz.ntmps79
    go_wp2
    go_ret
    exact ⟨ret_int (by rw [HL.out]), rfl⟩
  · have t1 : decide (k < b) = false := by simp; omega
    have b1 : (W : Int) ≤ 40 := by omega
    have HL : Hid (levN W b k = (lev3 W b k : Nat)) := by unfold Hid levN; rw [if_neg h]
    go_enter Tryz.func79, Tryz.ntmps79
    go_wp2_with fail
    go_loop [11] (fun v => LevAt W b k v) (fun v => 3 - (intOf v).toNat)
    case atStart => exact ⟨0, by omega, rfl, fun j hj => by omega⟩
    case round =>
      obtain ⟨l, hl, rfl, hj⟩ := hrel
      have HJ := Lib.hid hj
      clear hj
      by_cases hlt : l < 3
      · have t2 : decide ((l : Int) < 3) = true := by simp; omega
        have ht := lev_test W b k l hb hk
        cases hs : sameB W b k l with
        | true =>
          rw [hs] at ht
          have HF : Hid (levN W b k = (l : Int)) := by unfold Hid; rw [HL.out, lev3_at hlt hs HJ.out]
          clear hs
          go_wp2_with fail
          refine (HH.out _).mono ?_
          rintro e w2 ⟨rfl, rfl⟩
          go_wp2
          go_ret
          exact ⟨ret_int HF.out.symm, rfl⟩
        | false =>
          rw [hs] at ht
          have HS := Lib.hid hs
          clear hs
          go_wp2_with fail
          refine (HH.out _).mono ?_
          rintro e w2 ⟨rfl, rfl⟩
          go_wp2
          exact ⟨⟨l + 1, by omega, by congr 1, fun j hj => by
            by_cases e : j = l
            · subst e; exact HS.out
            · exact HJ.out j (by omega)⟩, by first | (simp [intOf]; done) | (simp [intOf]; omega)⟩
      · have t2 : decide ((l : Int) < 3) = false := by simp; omega
        have HF : Hid (levN W b k = 3) := by unfold Hid; rw [HL.out, lev3_no (fun j h => HJ.out j (by omega))]; rfl
        go_wp2
        go_ret
        exact ⟨ret_int HF.out.symm, rfl⟩

/-! ### The reference's -/
theorem one_pow (k : Nat) (hk : k < 64) : (2 : Nat) ^ (k + 1) = 2 * 2 ^ k := by rw [Nat.pow_succ]; omega
def OneAt (i : Nat) (v kv : Value) : Prop := ∃ k : Nat, k ≤ i ∧ kv = .int .i64 k ∧ v = .int .u64 (2 ^ k : Nat)
theorem rone_any (i : Nat) (n : Int) (hn : n = i) (hi : i < 64) (w : World) : Calls Tryz.prog 124 #[.int .i64 n] w (fun e w' => e = .returned (.int .u64 (2 ^ i : Nat)) ∧ w = w') := by
  subst hn
  have t1 : decide ((i : Int) < 0) = false := by simp
  have t2 : decide ((63 : Int) < (i : Int)) = false := by simp; omega
  have t3 : decide (63 < i) = false := by simp; omega
  go_enter Tryz.func124, Tryz.ntmps124
  go_wp2_with fail
  go_loop [3, 4] (fun v kv => OneAt i v kv) (fun _ kv => i - (intOf kv).toNat)
  case atStart => exact ⟨0, by omega, rfl, rfl⟩
  case round =>
    obtain ⟨k, hk, rfl, rfl⟩ := hrel
    have hp := pow_lt64 (show k < 64 by omega)
    have hp1 := one_pow k (by omega)
    by_cases hlt : k < i
    · have u1 : decide (k < i) = true := by simp [hlt]
      have hp2 := pow_lt64 (show k + 1 < 64 by omega)
      obtain ⟨p, hpp⟩ : ∃ p, 2 ^ k = p := ⟨_, rfl⟩
      rw [hp1] at hp2
      rw [hpp] at hp2 hp1 hp ⊢
      have hw : IntKind.u64.wrap (2 * (p : Int)) = 2 * (p : Int) := by rw [IntKind.wrap_u64]; omega
      have HP := Lib.hid hp1
      clear hp1 hpp
      go_wp2
      exact ⟨⟨k + 1, by omega, by congr 1, by rw [HP.out]; congr 1⟩, by first | (simp [intOf]; done) | (simp [intOf]; omega)⟩
    · have u1 : decide (k < i) = false := by simp [hlt]
      have hki : Hid (k = i) := by unfold Hid; omega
      clear hp1
      go_wp2
      go_ret
      exact ⟨by rw [hki.out]; rfl, rfl⟩
theorem rover_any (k s : Nat) (hk : k < 18446744073709551616) (n : Int) (hn : n = s) (hs : s < 64) (w : World) : Calls Tryz.prog 93 #[.int .u64 k, .int .i64 n] w (fun e w' => e = .returned (.int .u64 (k / 2 ^ s : Nat)) ∧ w = w') := by
  have HO := Lib.hid (rone_any s n hn hs w)
  have hp : 0 < 2 ^ s := Nat.two_pow_pos s
  obtain ⟨p, hpp⟩ : ∃ p, 2 ^ s = p := ⟨_, rfl⟩
  rw [hpp] at hp HO ⊢
  have hp0 : ((p : Int) == 0) = false := by simp; omega
  have hd : IntKind.u64.wrap ((k : Int) / p) = ((k / p : Nat) : Int) := by
    have : k / p ≤ k := Nat.div_le_self _ _
    rw [← Int.natCast_ediv, IntKind.wrap_u64]
    generalize k / p = r at this ⊢
    omega
  have HD := Lib.hid hd
  clear hn hpp hd
  go_enter Tryz.func93, Tryz.ntmps93
  go_wp2_with fail
  refine HO.out.mono ?_
  rintro e w2 ⟨rfl, rfl⟩
  go_wp2
  go_ret
  exact ⟨ret_int (by first | rfl | exact HD.out), rfl⟩


set_option maxHeartbeats 1000000 in
theorem rlevel_any (b k : Nat) (hb : b < 18446744073709551616) (hk : k < 18446744073709551616) (wd : Int) (w : World) : Calls Tryz.prog 75 #[.int .u64 b, .int .u64 k, .int .i64 wd] w (fun e w' => e = .returned (.int .i64 (levN (heldN wd) b k)) ∧ w = w') := by
  have hW := heldN_le wd
  have HH := Lib.hid (fun w => rwidth_any wd w)
  obtain ⟨W, hWW⟩ : ∃ W, heldN wd = W := ⟨_, rfl⟩
  rw [hWW] at hW HH ⊢
  clear hWW
  by_cases h : k < b
  · have t1 : decide (k < b) = true := by simp; omega
    have HL : Hid (levN W b k = -1) := by unfold Hid levN; rw [if_pos h]
    go_enter Tryz.func75, Tryz.ntmps75
    go_wp2_with fail
    refine (HH.out _).mono ?_
    rintro e w2 ⟨rfl, rfl⟩
    go_wp2
    go_ret
    exact ⟨ret_int (by rw [HL.out]), rfl⟩
  · have t1 : decide (k < b) = false := by simp; omega
    have b1 : (W : Int) ≤ 40 := by omega
    have HL : Hid (levN W b k = (lev3 W b k : Nat)) := by unfold Hid levN; rw [if_neg h]
    go_enter Tryz.func75, Tryz.ntmps75
    go_wp2_with fail
    refine (HH.out _).mono ?_
    rintro e w2 ⟨rfl, rfl⟩
    go_wp2_with fail
    go_loop [7] (fun v => LevAt W b k v) (fun v => 3 - (intOf v).toNat)
    case atStart => exact ⟨0, by omega, rfl, fun j hj => by omega⟩
    case round =>
      obtain ⟨l, hl, rfl, hj⟩ := hrel
      have HJ := Lib.hid hj
      clear hj
      by_cases hlt : l < 3
      · have t2 : decide ((l : Int) < 3) = true := by simp; omega
        obtain ⟨x, hx⟩ : ∃ x, b / 2 ^ (W + 6 * (l + 1)) = x := ⟨_, rfl⟩
        obtain ⟨y, hy⟩ : ∃ y, k / 2 ^ (W + 6 * (l + 1)) = y := ⟨_, rfl⟩
        have HS0 : Hid (sameB W b k l = decide (x = y)) := by unfold Hid sameB; rw [hx, hy]
        have HX := Lib.hid hx
        have HY := Lib.hid hy
        clear hx hy
        by_cases hxy : x = y
        · have ht : ((x : Int) == (y : Int)) = true := by simp [hxy]
          have HF : Hid (levN W b k = (l : Int)) := by unfold Hid; rw [HL.out, lev3_at hlt (by rw [HS0.out]; simp [hxy]) HJ.out]
          clear hxy
          go_wp2_with fail
          refine (rover_any b (W + 6 * (l + 1)) hb _ (by omega) (by omega) _).mono ?_
          rintro e w3 ⟨rfl, rfl⟩
          rw [HX.out]
          go_wp2_with fail
          refine (rover_any k (W + 6 * (l + 1)) hk _ (by omega) (by omega) _).mono ?_
          rintro e w4 ⟨rfl, rfl⟩
          rw [HY.out]
          go_wp2
          go_ret
          exact ⟨ret_int HF.out.symm, rfl⟩
        · have ht : ((x : Int) == (y : Int)) = false := by simp; omega
          have HS : Hid (sameB W b k l = false) := by unfold Hid; rw [HS0.out]; simp [hxy]
          clear hxy
          go_wp2_with fail
          refine (rover_any b (W + 6 * (l + 1)) hb _ (by omega) (by omega) _).mono ?_
          rintro e w3 ⟨rfl, rfl⟩
          rw [HX.out]
          go_wp2_with fail
          refine (rover_any k (W + 6 * (l + 1)) hk _ (by omega) (by omega) _).mono ?_
          rintro e w4 ⟨rfl, rfl⟩
          rw [HY.out]
          go_wp2
          exact ⟨⟨l + 1, by omega, by congr 1, fun j hj => by
            by_cases e : j = l
            · subst e; exact HS.out
            · exact HJ.out j (by omega)⟩, by first | (simp [intOf]; done) | (simp [intOf]; omega)⟩
      · have t2 : decide ((l : Int) < 3) = false := by simp; omega
        have HF : Hid (levN W b k = 3) := by unfold Hid; rw [HL.out, lev3_no (fun j h => HJ.out j (by omega))]; rfl
        go_wp2
        go_ret
        exact ⟨ret_int HF.out.symm, rfl⟩

end Go.Proofs.YtolohheflbmfaaaGreatDoor

/-! Wc -/
namespace Go.Proofs.YtolohheflbmfaaaGreatDoor
open Go.RowKit

/-- A block whose cells are told by their places. -/
def Cel (w : World) (b : Nat) (ty : TypeId) (n : Nat) (f : Nat → Value) : Prop := ∃ cur : Array Value, w.heap[b]? = some (.cells cur ty (0, 0)) ∧ cur.size = n ∧ ∀ o, o < n → cur[o]? = some (f o)
section
variable {w : World} {b : Nat} {ty : TypeId} {n : Nat} {f : Nat → Value}
theorem Cel.cell (h : Cel w b ty n f) {o : Nat} (ho : o < n) : w.cell? ⟨b, o, none⟩ = some (f o) := by
  obtain ⟨cur, h1, h2, h3⟩ := h
  simp [World.cell?, h1, h3 o ho]
theorem Cel.free (h : Cel w b ty n f) (o : Nat) : w.frozen? ⟨b, o, none⟩ = false := by
  obtain ⟨cur, h1, h2, h3⟩ := h
  simp [World.frozen?, h1]
theorem Cel.lt (h : Cel w b ty n f) : b < w.heap.size := by
  obtain ⟨cur, h1, h2, h3⟩ := h
  rcases Nat.lt_or_ge b w.heap.size with hlt | hge
  · exact hlt
  · rw [Array.getElem?_eq_none hge] at h1; cases h1
theorem Cel.upd {S : List Nat} {w' : World} (h : Cel w b ty n f) (hu : Upd S w w') (hn : b ∉ S) : Cel w' b ty n f := by
  have hl := h.lt
  obtain ⟨cur, h1, h2, h3⟩ := h
  exact ⟨cur, (hu.block b hl hn).trans h1, h2, h3⟩
theorem Cel.set (h : Cel w b ty n f) (o : Nat) (u : Value) : Cel (w.setCell ⟨b, o, none⟩ u) b ty n (fun i => if i = o then u else f i) := by
  obtain ⟨cur, h1, h2, h3⟩ := h
  refine ⟨cur.setIfInBounds o u, heap_setCell_same w b o _ ty u h1, by simp [h2], fun i hi => ?_⟩
  by_cases e : i = o
  · subst e
    simp [h2, hi]
  · simp [e, Array.getElem?_setIfInBounds_ne (Ne.symm e), h3 i hi]
theorem Cel.setFar (h : Cel w b ty n f) {a : Addr} (ha : a.block ≠ b) (u : Value) : Cel (w.setCell a u) b ty n f := by
  obtain ⟨cur, h1, h2, h3⟩ := h
  exact ⟨cur, (Below.heap_setCell _ _ _ _ (fun e => ha e.symm)).trans h1, h2, h3⟩
theorem Cel.drew (h : Cel w b ty n f) : Cel w.drew b ty n f := h
theorem Cel.congr (h : Cel w b ty n f) {g : Nat → Value} (hg : ∀ o, o < n → f o = g o) : Cel w b ty n g := by
  obtain ⟨cur, h1, h2, h3⟩ := h
  exact ⟨cur, h1, h2, fun o ho => by rw [h3 o ho, hg o ho]⟩
end

structure Buc where
  ao : Option Addr
  cap : Nat
  L : List It
def Buc.z : Buc := ⟨none, 0, []⟩
structure WS where
  base : Nat
  wd : Nat
  bk : Nat → Buc
  mw : Nat → Nat
  mb : Nat
  M : AL

def wheelF (s : WS) (o : Nat) : Value :=
  if o = 0 then .int .u64 s.base else if o = 1 then .int .i64 s.wd
  else if o < 194 then .slice (s.bk (o - 2)).ao (s.bk (o - 2)).L.length (s.bk (o - 2)).cap
  else if o < 197 then .int .u64 (s.mw (o - 194)) else .map (some s.mb)
theorem wheelF_base (s : WS) : wheelF s 0 = .int .u64 s.base := rfl
theorem wheelF_wd (s : WS) : wheelF s 1 = .int .i64 s.wd := rfl
theorem wheelF_bk (s : WS) {q : Nat} (hq : q < 192) : wheelF s (2 + q) = .slice (s.bk q).ao (s.bk q).L.length (s.bk q).cap := by
  unfold wheelF
  rw [if_neg (by omega), if_neg (by omega), if_pos (by omega), Nat.add_sub_cancel_left]
theorem wheelF_mw (s : WS) {l : Nat} (hl : l < 3) : wheelF s (194 + l) = .int .u64 (s.mw l) := by
  unfold wheelF
  rw [if_neg (by omega), if_neg (by omega), if_neg (by omega), if_pos (by omega), Nat.add_sub_cancel_left]
theorem wheelF_mb (s : WS) : wheelF s 197 = .map (some s.mb) := rfl


/-- A wheel, at the block wb. -/
structure WhAt (w : World) (wb : Nat) (s : WS) : Prop where
  top : Cel w wb 158 198 (wheelF s)
  rows : ∀ q, q < 192 → RowO w 54 2 (s.bk q).ao (s.bk q).L.length (s.bk q).cap ((s.bk q).L.flatMap itVs)
  map : IMap w s.mb s.M
  ndm : NdM s.M
  d1 : wb ≠ s.mb
  d2 : ∀ q, q < 192 → ∀ c ∈ blkO (s.bk q).ao, c ≠ wb ∧ c ≠ s.mb
  d3 : ∀ q, q < 192 → ∀ r, r < 192 → q ≠ r → ∀ c ∈ blkO (s.bk q).ao, c ∉ blkO (s.bk r).ao
  small : ∀ q, q < 192 → (s.bk q).L.length ≤ 1000
  b64 : s.base < 18446744073709551616
  wd40 : s.wd ≤ 40
  mw64 : ∀ l, l < 3 → s.mw l < 18446744073709551616
  msmall : s.M.length ≤ 1000


/-- In which blocks it lies. -/
def WS.fp (wb : Nat) (s : WS) : List Nat := wb :: s.mb :: (List.range 192).flatMap (fun q => blkO (s.bk q).ao)
theorem WS.mem_fp {wb : Nat} {s : WS} {c : Nat} : c ∈ s.fp wb ↔ c = wb ∨ c = s.mb ∨ ∃ q, q < 192 ∧ c ∈ blkO (s.bk q).ao := by
  unfold WS.fp
  rw [List.mem_cons, List.mem_cons, List.mem_flatMap]
  simp only [List.mem_range]
theorem WhAt.lt {w : World} {wb : Nat} {s : WS} (h : WhAt w wb s) : ∀ c ∈ s.fp wb, c < w.heap.size := by
  intro c hc
  rcases WS.mem_fp.1 hc with rfl | rfl | ⟨q, hq, hc⟩
  · exact h.top.lt
  · exact h.map.lt
  · exact (h.rows q hq).lt c hc
theorem WhAt.upd {S : List Nat} {w w' : World} {wb : Nat} {s : WS} (h : WhAt w wb s) (hu : Upd S w w') (hs : ∀ c ∈ s.fp wb, c ∉ S) : WhAt w' wb s :=
  { h with
    top := h.top.upd hu (hs _ (WS.mem_fp.2 (.inl rfl)))
    rows := fun q hq => (h.rows q hq).upd hu (fun c hc => hs c (WS.mem_fp.2 (.inr (.inr ⟨q, hq, hc⟩))))
    map := h.map.upd hu (hs _ (WS.mem_fp.2 (.inr (.inl rfl)))) }
theorem WhAt.up {w w' : World} {wb : Nat} {s : WS} (h : WhAt w wb s) (hu : Upd [] w w') : WhAt w' wb s := h.upd hu (by simp)

def newWS (wd : Int) (mb : Nat) : WS := { base := 0, wd := heldN wd, bk := fun _ => Buc.z, mw := fun _ => 0, mb := mb, M := [] }
def zeroW (o : Nat) : Value := if o = 0 then .int .u64 0 else if o = 1 then .int .i64 0 else if o < 194 then .slice none 0 0 else if o < 197 then .int .u64 0 else .map none
theorem zeroWheel : Tryz.zeroCells158.toList = (List.range 198).map zeroW := by kernel_rfl
theorem zeroWheel_at (o : Nat) (ho : o < 198) : Tryz.zeroCells158[o]? = some (zeroW o) := by
  rw [← Array.getElem?_toList, zeroWheel]
  simp [ho]
theorem zeroWheel_size : Tryz.zeroCells158.size = 198 := by
  rw [← Array.length_toList, zeroWheel]; simp

theorem wnew_cel (wd : Int) (w : World) : Cel ((w.alloc (.map #[] 0)).alloc (.cells ((Tryz.zeroCells158.setIfInBounds 1 (.int .i64 (heldN wd))).setIfInBounds 197 (.map (some w.heap.size))) 158)) (w.heap.size + 1) 158 198 (wheelF (newWS wd w.heap.size)) := by
  refine ⟨_, (heap_two w _ _).2, by simp [zeroWheel_size], fun o ho => ?_⟩
  by_cases e1 : o = 197
  · subst e1
    simp [zeroWheel_size, wheelF_mb, newWS]
  · rw [Array.getElem?_setIfInBounds_ne (Ne.symm e1)]
    by_cases e2 : o = 1
    · subst e2
      simp [zeroWheel_size, wheelF_wd, newWS]
    · rw [Array.getElem?_setIfInBounds_ne (Ne.symm e2), zeroWheel_at o ho]
      congr 1
      unfold zeroW wheelF newWS Buc.z
      by_cases e0 : o = 0
      · simp [e0]
      · simp only [e0, e2, if_false]
        split
        · rfl
        · split
          · rfl
          · omega

def NewW (wd : Int) (w : World) (e : Ending) (w' : World) : Prop := e = .returned (.pointer (some ⟨w.heap.size + 1, 0, none⟩)) ∧ WhAt w' (w.heap.size + 1) (newWS wd w.heap.size) ∧ Upd [] w w'

set_option maxRecDepth 100000 in
set_option maxHeartbeats 4000000 in
theorem wnew_any (wd : Int) (w : World) : Calls Tryz.prog 77 #[.int .i64 wd] w (NewW wd w) := by
  have hmk : (Instr.makeMap 153 none).run Tryz.prog w = .ok (.map (some w.heap.size)) (w.alloc (.map #[] 0)) := rfl
  go_enter Tryz.func77, Tryz.ntmps77
  go_wp2_with fail
  refine (held_any wd w).mono ?_
  rintro e w2 ⟨rfl, rfl⟩
  go_wp2
  go_ret
  refine ⟨rfl, { top := wnew_cel wd w, rows := fun q hq => RowO.nil _ _ _, map := (IMap.new w).upd ((Upd.refl [] _).alloc _) (by simp), ndm := by simp [newWS, NdM], d1 := by simp [newWS], d2 := by simp [newWS, Buc.z, blkO], d3 := by simp [newWS, Buc.z, blkO], small := by simp [newWS, Buc.z], b64 := by simp [newWS], wd40 := heldN_le wd, mw64 := by simp [newWS], msmall := by simp [newWS] }, ((Upd.refl [] w).alloc _).alloc _⟩

theorem wbase_any (wb : Nat) (s : WS) (w : World) (h : WhAt w wb s) : Calls Tryz.prog 96 #[.pointer (some ⟨wb, 0, none⟩)] w (fun e w' => e = .returned (.int .u64 s.base) ∧ w = w') := by
  have c0 := h.top.cell (o := 0) (by omega)
  rw [wheelF_base] at c0
  clear h
  go_enter Tryz.func96, Tryz.ntmps96
  go_wp2
  go_ret
  exact ⟨rfl, rfl⟩
theorem underlyingU64Map : Tryz.prog.underlying 153 = some (.map 3 22) := by kernel_rfl
theorem underlyingInt5 : Tryz.prog.underlying 3 = some (.int .i64) := by kernel_rfl
theorem zeroU64 (w : World) : (zeroValue 22).run Tryz.prog w = .ok (.int .u64 0) w := by kernel_rfl

theorem whas_any (wb : Nat) (s : WS) (id : Int) (w : World) (h : WhAt w wb s) : Calls Tryz.prog 97 #[.pointer (some ⟨wb, 0, none⟩), .int .i64 id] w (fun e w' => e = .returned (.bool (lookM s.M id).isSome) ∧ w = w') := by
  have c0 := h.top.cell (o := 197) (by omega)
  rw [wheelF_mb] at c0
  have hl := h.map.look (P := Tryz.prog) underlyingU64Map underlyingInt5 zeroU64 id true
  simp only [if_true] at hl
  obtain ⟨v, hv⟩ : ∃ v, (lookM s.M id).getD (.int .u64 0) = v := ⟨_, rfl⟩
  rw [hv] at hl
  obtain ⟨b, hbb⟩ : ∃ b, (lookM s.M id).isSome = b := ⟨_, rfl⟩
  rw [hbb] at hl ⊢
  clear h hv hbb
  go_enter Tryz.func97, Tryz.ntmps97
  go_wp2
  go_ret
  exact ⟨rfl, rfl⟩
end Go.Proofs.YtolohheflbmfaaaGreatDoor

/-! Wd -/
namespace Go.Proofs.YtolohheflbmfaaaGreatDoor
open Go.RowKit

theorem heldN_id {wd : Nat} (h : wd ≤ 40) : heldN (wd : Int) = wd := by unfold heldN; omega


theorem place_no (wb k : Nat) (hk : k < 18446744073709551616) (s : WS) (w : World) (h : WhAt w wb s) (hl : k < s.base ∨ lev3 s.wd s.base k = 3) :
    Calls Tryz.prog 101 #[.pointer (some ⟨wb, 0, none⟩), .int .u64 k] w (RetUpd [] w (.tuple #[.int .i64 0, .int .i64 0, .bool false])) := by
  have c0 := h.top.cell (o := 0) (by omega)
  have c1 := h.top.cell (o := 1) (by omega)
  rw [wheelF_base] at c0
  rw [wheelF_wd] at c1
  have hlev := fun w => level_any s.base k h.b64 hk s.wd w
  have hwd := h.wd40
  have lt := h.top.lt
  rw [heldN_id hwd] at hlev
  have HLV := Lib.hid hlev
  obtain ⟨bs, hbs⟩ : ∃ bs, s.base = bs := ⟨_, rfl⟩
  obtain ⟨wd, hww⟩ : ∃ wd, s.wd = wd := ⟨_, rfl⟩
  rw [hbs] at c0 HLV hl
  rw [hww] at c1 HLV hl hwd
  clear h hbs hww hlev
  by_cases hkb : k < bs
  · have HL : Hid (levN wd bs k = -1) := by unfold Hid levN; rw [if_pos hkb]
    clear hl hkb
    go_enter Tryz.func101, Tryz.ntmps101
    go_wp2_with fail
    go_region_held3 (fun w' => Upd [] w w' ∧ ∀ (b o : Nat), b < w.heap.size → b ∉ ([] : List Nat) → w'.cell? ⟨b, o, none⟩ = w.cell? ⟨b, o, none⟩)
      (first | exact Held.init _ _ | assumption) (first | (go_at_call 79; refine (HLV.out _).mono ?_; rintro e w' ⟨rfl, rfl⟩; rw [HL.out]))
    go_wp2
    go_ret3
    exact ⟨rfl, (Upd.refl [] w).drew⟩
  · have HL : Hid (levN wd bs k = 3) := by
      unfold Hid levN
      rw [if_neg hkb]
      rcases hl with hl | hl
      · exact absurd hl hkb
      · rw [hl]; rfl
    clear hl hkb
    go_enter Tryz.func101, Tryz.ntmps101
    go_wp2_with fail
    go_region_held3 (fun w' => Upd [] w w' ∧ ∀ (b o : Nat), b < w.heap.size → b ∉ ([] : List Nat) → w'.cell? ⟨b, o, none⟩ = w.cell? ⟨b, o, none⟩)
      (first | exact Held.init _ _ | assumption) (first | (go_at_call 79; refine (HLV.out _).mono ?_; rintro e w' ⟨rfl, rfl⟩; rw [HL.out]))
    go_wp2
    go_ret3
    exact ⟨rfl, (Upd.refl [] w).drew⟩

theorem place_yes (wb k l : Nat) (hk : k < 18446744073709551616) (s : WS) (w : World) (h : WhAt w wb s) (hb : s.base ≤ k) (hl : lev3 s.wd s.base k = l) (hl3 : l < 3) :
    Calls Tryz.prog 101 #[.pointer (some ⟨wb, 0, none⟩), .int .u64 k] w (RetUpd [] w (.tuple #[.int .i64 l, .int .i64 (bucN s.wd k l), .bool true])) := by
  have c0 := h.top.cell (o := 0) (by omega)
  have c1 := h.top.cell (o := 1) (by omega)
  rw [wheelF_base] at c0
  rw [wheelF_wd] at c1
  have hlev := fun w => level_any s.base k h.b64 hk s.wd w
  have hwd := h.wd40
  have lt := h.top.lt
  rw [heldN_id hwd] at hlev
  have hbu := fun w => bucket_any k l hl3 s.wd w
  rw [heldN_id hwd] at hbu
  have HLV := Lib.hid hlev
  have HBU := Lib.hid hbu
  obtain ⟨bs, hbs⟩ : ∃ bs, s.base = bs := ⟨_, rfl⟩
  obtain ⟨wd, hww⟩ : ∃ wd, s.wd = wd := ⟨_, rfl⟩
  rw [hbs] at c0 HLV hl hb
  rw [hww] at c1 HLV hl hwd HBU ⊢
  clear h hbs hww hlev hbu
  have HL : Hid (levN wd bs k = (l : Int)) := by unfold Hid levN; rw [if_neg (by omega), hl]
  have t1 : decide ((l : Int) < 0) = false := by simp
  have t2 : decide ((3 : Int) ≤ (l : Int)) = false := by simp; omega
  have t3 : decide (3 ≤ l) = false := by simp; omega
  clear hl hb
  go_enter Tryz.func101, Tryz.ntmps101
  go_wp2_with fail
  go_region_held3 (fun w' => Upd [] w w' ∧ ∀ (b o : Nat), b < w.heap.size → b ∉ ([] : List Nat) → w'.cell? ⟨b, o, none⟩ = w.cell? ⟨b, o, none⟩)
    (first | exact Held.init _ _ | assumption) (first | (go_at_call 79; refine (HLV.out _).mono ?_; rintro e w' ⟨rfl, rfl⟩; rw [HL.out]))
  go_wp2_with fail
  refine (HBU.out _).mono ?_
  rintro e w' ⟨rfl, rfl⟩
  go_wp2
  go_ret3
  exact ⟨rfl, (Upd.refl [] w).drew⟩

def putS (s : WS) (l b : Nat) (x : It) (ao : Option Addr) (cap : Nat) : WS :=
  { s with bk := fun q => if q = l * 64 + b then ⟨ao, cap, (s.bk (l * 64 + b)).L ++ [x]⟩ else s.bk q, mw := fun j => if j = l then orB (s.mw l) b else s.mw j }
def PutTo (wb : Nat) (s : WS) (l b : Nat) (x : It) (w w' : World) : Prop :=
  ∃ ao cap, WhAt w' wb (putS s l b x ao cap) ∧ (∀ c ∈ blkO ao, c ∈ blkO (s.bk (l * 64 + b)).ao ∨ w.heap.size ≤ c) ∧ Upd (wb :: blkO (s.bk (l * 64 + b)).ao) w w'

theorem PutTo.drew {wb : Nat} {s : WS} {l b : Nat} {x : It} {w w' : World} (h : PutTo wb s l b x w w') : PutTo wb s l b x w w'.drew := by
  obtain ⟨ao, cap, h1, h2, h3⟩ := h
  exact ⟨ao, cap, h1.up (Upd.refl [] w').drew, h2, h3.drew⟩
theorem put_done {w w1 w2 : World} {wb l b : Nat} {s : WS} {x : It} {ao : Option Addr} {cap : Nat} (h : WhAt w wb s) (hl : l < 3) (hb : b < 64) (hsm : (s.bk (l * 64 + b)).L.length < 1000) (hU : Upd [] w w1)
    (hA : Apped w1 54 2 (s.bk (l * 64 + b)).ao ((s.bk (l * 64 + b)).L.length + 1) ((s.bk (l * 64 + b)).L.flatMap itVs ++ itVs x) ao cap w2) :
    PutTo wb s l b x w ((w2.setCell ⟨wb, 2 + l * 64 + b, none⟩ (.slice ao ((s.bk (l * 64 + b)).L.length + 1) cap)).setCell ⟨wb, 194 + l, none⟩ (.int .u64 (orB (s.mw l) b))) := by
  rw [Nat.add_assoc 2]
  have hq : l * 64 + b < 192 := by omega
  have hs1 := hU.size
  have hin : ∀ c ∈ blkO ao, c ∈ blkO (s.bk (l * 64 + b)).ao ∨ w.heap.size ≤ c := fun c hc => by
    rcases hA.at_ c hc with e | e
    · exact .inl e
    · right; omega
  have hnw : wb ∉ blkO (s.bk (l * 64 + b)).ao := fun e => (h.d2 _ hq _ e).1 rfl
  have hnm : s.mb ∉ blkO (s.bk (l * 64 + b)).ao := fun e => (h.d2 _ hq _ e).2 rfl
  have hU2 : Upd (blkO (s.bk (l * 64 + b)).ao) w w2 := hU.nil.trans hA.upd
  have hnao : wb ∉ blkO ao := fun e => by
    rcases hin _ e with e | e
    · exact hnw e
    · have := h.top.lt; omega
  have hu : Upd [wb] w2 ((w2.setCell ⟨wb, 2 + (l * 64 + b), none⟩ (.slice ao ((s.bk (l * 64 + b)).L.length + 1) cap)).setCell ⟨wb, 194 + l, none⟩ (.int .u64 (orB (s.mw l) b))) := ((Upd.refl _ _).setCell (by simp) _).setCell (by simp) _
  refine ⟨ao, cap, ?_, hin, (hU2.mono (fun i _ hm => by simp [hm])).trans (hu.mono (fun i _ hm => by simp at hm; simp [hm]))⟩
  have hlt := h.lt
  refine { top := ?_, rows := fun q hq' => ?_, map := (h.map.upd hU2 hnm).upd hu (by simp; exact fun e => h.d1 e.symm), ndm := h.ndm, d1 := h.d1, d2 := fun q hq' c hc => ?_, d3 := fun q hq' r hr hqr c hc => ?_, small := fun q hq' => ?_, b64 := h.b64, wd40 := h.wd40, mw64 := fun j hj => ?_, msmall := h.msmall }
  · refine (((h.top.upd hU2 hnw).set _ _).set _ _).congr (fun o ho => ?_)
    simp only [putS]
    by_cases e1 : o = 194 + l
    · subst e1
      rw [if_pos rfl]
      have := wheelF_mw (putS s l b x ao cap) hl
      simp only [putS] at this
      rw [this]
      simp
    · rw [if_neg e1]
      by_cases e2 : o = 2 + (l * 64 + b)
      · subst e2
        rw [if_pos rfl]
        have := wheelF_bk (putS s l b x ao cap) hq
        simp only [putS] at this
        rw [this]
        simp
      · rw [if_neg e2]
        unfold wheelF
        simp only []
        split
        · rfl
        split
        · rfl
        split
        · rw [if_neg (by omega)]
        split
        · rw [if_neg (by omega)]
        · rfl
  · simp only [putS]
    by_cases e : q = l * 64 + b
    · subst e
      rw [if_pos rfl]
      simp only [List.length_append, List.length_cons, List.length_nil, List.flatMap_append, List.flatMap_cons, List.flatMap_nil, List.append_nil]
      exact hA.row.upd hu (fun c hc => by simp; exact fun e => hnao (e ▸ hc))
    · rw [if_neg e]
      exact ((h.rows q hq').upd hU2 (fun c hc => h.d3 q hq' _ hq e c hc)).upd hu (fun c hc => by simp; exact (h.d2 q hq' c hc).1)
  · simp only [putS] at hc
    by_cases e : q = l * 64 + b
    · rw [if_pos e] at hc
      rcases hin c hc with e | e
      · exact h.d2 _ hq c e
      · have := h.top.lt; have := h.map.lt; exact ⟨by omega, by simp only [putS]; omega⟩
    · rw [if_neg e] at hc
      exact h.d2 q hq' c hc
  · simp only [putS] at hc ⊢
    by_cases e : q = l * 64 + b
    · rw [if_pos e] at hc
      rw [if_neg (by omega)]
      intro hc'
      rcases hin c hc with e' | e'
      · exact h.d3 _ hq r hr (by omega) c e' hc'
      · have := (h.rows r hr).lt c hc'; omega
    · rw [if_neg e] at hc
      by_cases e2 : r = l * 64 + b
      · rw [if_pos e2]
        intro hc'
        rcases hin c hc' with e' | e'
        · exact h.d3 q hq' _ hq e c hc e'
        · have := (h.rows q hq').lt c hc; omega
      · rw [if_neg e2]
        exact h.d3 q hq' r hr hqr c hc
  · simp only [putS]
    by_cases e : q = l * 64 + b
    · rw [if_pos e]; simp; omega
    · rw [if_neg e]; exact h.small q hq'
  · simp only [putS]
    by_cases e : j = l
    · rw [if_pos e]; exact orB_lt (h.mw64 l hl) hb
    · rw [if_neg e]; exact h.mw64 j hj

theorem bucN_lt (W k l : Nat) : bucN W k l < 64 := Nat.mod_lt _ (by omega)


set_option maxRecDepth 100000 in
set_option maxHeartbeats 4000000 in
theorem wput_any (wb l : Nat) (x : Int) (k : Nat) (hk : k < 18446744073709551616) (s : WS) (w : World) (h : WhAt w wb s) (hb : s.base ≤ k) (hl : lev3 s.wd s.base k = l) (hl3 : l < 3) (hsm : (s.bk (l * 64 + bucN s.wd k l)).L.length < 1000) :
    Calls Tryz.prog 102 #[.pointer (some ⟨wb, 0, none⟩), .agg #[.int .u64 k, .int .i64 x]] w (fun e w' => e = .returned (.tuple #[]) ∧ PutTo wb s l (bucN s.wd k l) (k, x) w w') := by
  obtain ⟨i0, hi0, hz0, hz1, hz2⟩ := info_parts infoItem
  have hbl := bucN_lt s.wd k l
  have HPL := Lib.hid (fun w h => place_yes wb k l hk s w h hb hl hl3)
  obtain ⟨b, hbb⟩ : ∃ b, bucN s.wd k l = b := ⟨_, rfl⟩
  rw [hbb] at hbl HPL hsm ⊢
  have HH := Lib.hid h
  clear hbb
  obtain ⟨w1, hw1⟩ : ∃ w1, w1 = w.alloc (.cells #[.int .u64 k, .int .i64 x] 54 (0, 0)) := ⟨_, rfl⟩
  have HU1 : Hid (Upd [] w w1) := by unfold Hid; rw [hw1]; exact (Upd.refl _ w).alloc _
  have HB1 : Hid (Blk w1 w.heap.size 54 [.int .u64 k, .int .i64 x]) := by unfold Hid; rw [hw1]; exact heap_one w _
  have HW1 := Lib.hid hw1
  clear h hb hl hw1
  go_enter Tryz.func102, Tryz.ntmps102
  go_wp2_with fail
  rw [← HW1.out]
  refine (HPL.out w1 (HH.out.up HU1.out)).mono ?_
  rintro e w2 ⟨rfl, hU2⟩
  have HU2 : Hid (Upd [] w w2) := HU1.out.trans hU2
  have hB2 := HB1.out.upd hU2 (by simp)
  have y0 := hB2.cell (j := 0) rfl
  have y1 := hB2.cell (j := 1) rfl
  have ly := hB2.lt
  have hT2 := (HH.out.up HU2.out).top
  have c0 := hT2.cell (o := 2 + (l * 64 + b)) (by omega)
  rw [wheelF_bk s (by omega), ← Nat.add_assoc] at c0
  have c1 := hT2.cell (o := 194 + l) (by omega)
  rw [wheelF_mw s hl3] at c1
  have lw := hT2.lt
  have bb : (b : Int) < 64 := by omega
  have bl : (l : Int) < 3 := by omega
  have hR := (HH.out.up HU2.out).rows (l * 64 + b) (by omega)
  have hd1 : wb ∉ blkO (s.bk (l * 64 + b)).ao := fun e => ((HH.out.d2 _ (by omega)) _ e).1 rfl
  obtain ⟨ao, hao⟩ : ∃ ao, (s.bk (l * 64 + b)).ao = ao := ⟨_, rfl⟩
  obtain ⟨cap, hcap⟩ : ∃ cap, (s.bk (l * 64 + b)).cap = cap := ⟨_, rfl⟩
  obtain ⟨n, hn⟩ : ∃ n, (s.bk (l * 64 + b)).L.length = n := ⟨_, rfl⟩
  rw [hao, hn, hcap] at c0 hR
  rw [hao] at hd1
  rw [hn] at hsm
  have HR := Lib.hid hR
  have HAO := Lib.hid hao
  have HN := Lib.hid hn
  have HC0 := Lib.hid c0
  have HC1 := Lib.hid c1
  have HZ : Hid (w2.frozen? ⟨wb, 2 + l * 64 + b, none⟩ = false) := hT2.free _
  have HZ1 : Hid (w2.frozen? ⟨wb, 194 + l, none⟩ = false) := hT2.free _
  have hpost := fun w1 hU ao' cap' w3 h => put_done (w1 := w1) (x := (k, x)) (w2 := w3) (ao := ao') (cap := cap') HH.out hl3 hbl (by rw [hn]; exact hsm) hU h
  rw [hao, hn] at hpost
  have HP := Lib.hid hpost
  clear hU2 hB2 hT2 hR hao hcap hn c1 hpost
  go_wp2
  go_region_law
    (refine step_app2 _ (by rfl) _ _ _ (by rfl) 54 i0 _ 2 16 underlyingItems hi0 hz0 hz1 hz2 rfl (by omega) ao n cap ((s.bk (l * 64 + b)).L.flatMap itVs) (by rfl) (RowO.upd HR.out (((Upd.refl [] w2).drew).alloc _) (by simp)) (some ⟨w2.heap.size, 0, none⟩) 1 1 (itVs (k, x)) (by rfl) ⟨rfl, by simp [itVs, Value.oneCell'], .inr ⟨_, rfl, World.news_of_block (cs := #[.int .u64 k, .int .i64 x]) (t := 54) (fr := (0, 0)) (heap_alloc_new w2 _)⟩⟩ (by unfold maxLen; omega) (by omega) ?_; intro ao2 cap2 w4 hA2; have hU4 : Upd (blkO ao) w2 w4 := ((((Upd.refl (blkO ao) w2).drew).alloc _)).trans hA2.upd; have lw4 := Nat.lt_of_lt_of_le lw hU4.size; have e4 := hU4.cell lw hd1 (2 + l * 64 + b); rw [HC0.out] at e4; have z4 := hU4.frozen lw hd1 (2 + l * 64 + b); rw [HZ.out] at z4; have m4 := hU4.cell lw hd1 (194 + l); rw [HC1.out] at m4; have mz4 := hU4.frozen lw hd1 (194 + l); rw [HZ1.out] at mz4; have HA2 := Lib.hid hA2; clear hA2 hU4)
  all_goals
    go_wp2
    obtain ⟨w5, hw5⟩ : ∃ w5, w5 = w4.setCell ⟨wb, 2 + l * 64 + b, none⟩ (.slice ao2 (n + 1) cap2) := ⟨_, rfl⟩
    rw [← hw5]
    have hne : (⟨wb, 194 + l, none⟩ : Addr) ≠ ⟨wb, 2 + l * 64 + b, none⟩ := by first | (simp; done) | (simp; omega)
    have m5 : w5.cell? ⟨wb, 194 + l, none⟩ = some (.int .u64 (s.mw l)) := by rw [hw5, World.cell?_setCell_other _ _ _ _ (fun e => hne e.symm)]; exact m4
    have mz5 : w5.frozen? ⟨wb, 194 + l, none⟩ = false := by rw [hw5]; simpa using mz4
    have lw5 : wb < w5.heap.size := by rw [hw5]; simpa using lw4
    have HW5 := Lib.hid hw5
    clear hw5 e4 m4 mz4 z4 hne
    go_region_with (go_at_call 127; refine (with_any (s.mw l) b (HH.out.mw64 l hl3) hbl _).mono ?_; rintro e w6 ⟨rfl, rfl⟩)
    all_goals
      go_wp2
      go_end0
      have hp := HP.out _ (by first | exact (HU2.out.alloc _).drew | exact HU2.out.drew.alloc _) ao2 cap2 w4 HA2.out
      rw [← HW5.out] at hp
      exact ⟨rfl, hp.drew⟩
end Go.Proofs.YtolohheflbmfaaaGreatDoor

/-! We -/
namespace Go.Proofs.YtolohheflbmfaaaGreatDoor
open Go.RowKit

theorem putM_len {M : AL} {k : Int} {v : Value} (h : lookM M k = none) : (putM M k v).length = M.length + 1 := by
  induction M with
  | nil => rfl
  | cons p r ih =>
    obtain ⟨a, x⟩ := p
    simp only [lookM] at h
    simp only [putM]
    by_cases e : k = a
    · rw [if_pos e] at h; cases h
    · rw [if_neg e] at h ⊢
      rw [List.length_cons, ih h, List.length_cons]
theorem WhAt.withM {w w' : World} {wb : Nat} {s : WS} {M' : AL} (h : WhAt w wb s) (hto : MapTo w s.mb M' w') (hnd : NdM M') (hl : M'.length ≤ 1000) : WhAt w' wb { s with M := M' } :=
  { top := (h.top.upd hto.upd (by simp; exact h.d1)).congr (fun o _ => rfl)
    rows := fun q hq => (h.rows q hq).upd hto.upd (fun c hc => by simp; exact (h.d2 q hq c hc).2)
    map := hto.map
    ndm := hnd
    d1 := h.d1, d2 := h.d2, d3 := h.d3, small := h.small, b64 := h.b64, wd40 := h.wd40, mw64 := h.mw64, msmall := hl }


/-- Does a key find a place? -/
def fits (s : WS) (k : Nat) : Bool := decide (s.base ≤ k) && decide (lev3 s.wd s.base k < 3)


set_option maxRecDepth 100000 in
set_option maxHeartbeats 4000000 in
theorem wpush_no (wb : Nat) (k : Nat) (x : Int) (hk : k < 18446744073709551616) (s : WS) (w : World) (h : WhAt w wb s) (hf : fits s k = false ∨ (lookM s.M x).isSome = true) :
    Calls Tryz.prog 83 #[.pointer (some ⟨wb, 0, none⟩), .agg #[.int .u64 k, .int .i64 x]] w (RetUpd [] w (.bool false)) := by
  have HH := Lib.hid h
  cases hfit : fits s k with
  | false =>
    have hl : k < s.base ∨ lev3 s.wd s.base k = 3 := by
      unfold fits at hfit
      have := lev3_le s.wd s.base k
      simp at hfit
      omega
    have HPL := Lib.hid (fun w h => place_no wb k hk s w h hl)
    clear h hf hfit hl
    go_enter Tryz.func83, Tryz.ntmps83
    go_wp2_with fail
    refine (HPL.out _ (HH.out.up ((Upd.refl [] w).alloc _))).mono ?_
    rintro e w2 ⟨rfl, hU⟩
    go_wp2
    go_ret
    exact ⟨rfl, ((Upd.refl [] w).alloc _).trans hU⟩
  | true =>
    have hhas : Hid ((lookM s.M x).isSome = true) := by
      rcases hf with hf | hf
      · rw [hfit] at hf; cases hf
      · exact hf
    unfold fits at hfit
    simp at hfit
    obtain ⟨l, hl⟩ : ∃ l, lev3 s.wd s.base k = l := ⟨_, rfl⟩
    have HPL := Lib.hid (fun w h => place_yes wb k l hk s w h hfit.1 hl (by omega))
    have HB1 := Lib.hid (Blk.new w 54 [.int .u64 k, .int .i64 x])
    clear h hf hfit hl
    go_enter Tryz.func83, Tryz.ntmps83
    go_wp2_with fail
    refine (HPL.out _ (HH.out.up ((Upd.refl [] w).alloc _))).mono ?_
    rintro e w2 ⟨rfl, hU⟩
    have HU2 : Hid (Upd [] w w2) := ((Upd.refl [] w).alloc _).trans hU
    have hB2 := HB1.out.upd hU (by simp)
    have y0 := hB2.cell (j := 0) rfl
    have y1 := hB2.cell (j := 1) rfl
    have ly := hB2.lt
    clear hU hB2
    go_wp2_with fail
    refine (whas_any wb s x _ (HH.out.up HU2.out)).mono ?_
    rintro e w3 ⟨rfl, rfl⟩
    rw [hhas.out]
    go_wp2
    go_ret
    exact ⟨rfl, HU2.out⟩


/-- What a push that took leaves. -/
def PushTo (wb : Nat) (s : WS) (l b : Nat) (k : Nat) (x : Int) (w w' : World) : Prop :=
  ∃ ao cap, WhAt w' wb (putS { s with M := putM s.M x (.int .u64 k) } l b (k, x) ao cap) ∧ (∀ c ∈ blkO ao, c ∈ blkO (s.bk (l * 64 + b)).ao ∨ w.heap.size ≤ c) ∧ Upd (wb :: s.mb :: blkO (s.bk (l * 64 + b)).ao) w w'


set_option maxRecDepth 100000 in
set_option maxHeartbeats 4000000 in
theorem wpush_yes (wb l : Nat) (k : Nat) (x : Int) (hk : k < 18446744073709551616) (s : WS) (w : World) (h : WhAt w wb s) (hb : s.base ≤ k) (hl : lev3 s.wd s.base k = l) (hl3 : l < 3) (hno : lookM s.M x = none) (hsm : (s.bk (l * 64 + bucN s.wd k l)).L.length < 1000) (hms : s.M.length < 1000) :
    Calls Tryz.prog 83 #[.pointer (some ⟨wb, 0, none⟩), .agg #[.int .u64 k, .int .i64 x]] w (fun e w' => e = .returned (.bool true) ∧ PushTo wb s l (bucN s.wd k l) k x w w') := by
  have HH := Lib.hid h
  have hhas : Hid ((lookM s.M x).isSome = false) := by unfold Hid; rw [hno]; rfl
  have HPL := Lib.hid (fun w h => place_yes wb k l hk s w h hb hl hl3)
  have HPU := Lib.hid (fun (M : AL) w (h : WhAt w wb { s with M := M }) => wput_any wb l x k hk { s with M := M } w h hb hl hl3 hsm)
  have HB1 := Lib.hid (Blk.new w 54 [.int .u64 k, .int .i64 x])
  have HNO := Lib.hid hno
  have lw := h.top.lt
  clear h hb hl hsm hno
  go_enter Tryz.func83, Tryz.ntmps83
  go_wp2_with fail
  refine (HPL.out _ (HH.out.up ((Upd.refl [] w).alloc _))).mono ?_
  rintro e w2 ⟨rfl, hU⟩
  have HU2 : Hid (Upd [] w w2) := ((Upd.refl [] w).alloc _).trans hU
  have hB2 := HB1.out.upd hU (by simp)
  have y0 := hB2.cell (j := 0) rfl
  have y1 := hB2.cell (j := 1) rfl
  have ly := hB2.lt
  have HB2 := Lib.hid hB2
  clear hU hB2
  go_wp2_with fail
  refine (whas_any wb s x _ (HH.out.up HU2.out)).mono ?_
  rintro e w3 ⟨rfl, rfl⟩
  rw [hhas.out]
  have hT2 := (HH.out.up HU2.out).top
  have c0 := hT2.cell (o := 197) (by omega)
  rw [wheelF_mb] at c0
  have lw2 := hT2.lt
  obtain ⟨w3, hput, hto⟩ := ((HH.out.up HU2.out.drew).map).put (P := Tryz.prog) underlyingU64Map underlyingInt5 x (.int .u64 k)
  have HW3 : Hid (WhAt w3 wb { s with M := putM s.M x (.int .u64 k) }) := (HH.out.up HU2.out.drew).withM hto (HH.out.ndm.put x _) (by rw [putM_len HNO.out]; omega)
  have x0 := (hto.cells ⟨w.heap.size, 0, none⟩).trans y0
  have x1 := (hto.cells ⟨w.heap.size, 1, none⟩).trans y1
  have lx : w.heap.size < w3.heap.size := by have := hto.size; simp at this; omega
  have HTO := Lib.hid hto
  clear hT2 hto
  go_wp2
  go_region
  go_wp2_with fail
  refine (HPU.out _ _ HW3.out).mono ?_
  rintro e w4 ⟨rfl, hp⟩
  obtain ⟨ao, cap, h1, h2, h3⟩ := hp
  go_wp2
  go_ret
  have hs2 := HU2.out.size
  have hs3 : w2.heap.size = w3.heap.size := by have := HTO.out.size; simpa using this.symm
  refine ⟨rfl, ao, cap, h1, fun c hc => ?_, ?_⟩
  · rcases h2 c hc with e | e
    · exact .inl e
    · right; omega
  · refine ((HU2.out.drew.nil (S := wb :: s.mb :: blkO (s.bk (l * 64 + bucN s.wd k l)).ao)).trans (HTO.out.upd.mono (fun i _ hm => by simp at hm; simp [hm]))).trans (h3.mono (fun i _ hm => ?_))
    simp at hm ⊢
    rcases hm with e | e
    · exact .inl e
    · exact .inr (.inr e)
end Go.Proofs.YtolohheflbmfaaaGreatDoor

/-! Wf -/
namespace Go.Proofs.YtolohheflbmfaaaGreatDoor
open Go.RowKit

theorem tab_upd {g : Nat} {tab : List Nat} {w w' : World} (h : TabAt g tab w) (hu : Upd [] w w') : TabAt g tab w' := by
  intro j hj
  have h1 := h j hj
  have hl : g < w.heap.size := by
    rcases Nat.lt_or_ge g w.heap.size with hlt | hge
    · exact hlt
    · simp [World.cell?, Array.getElem?_eq_none hge] at h1
  rw [hu.cell hl (by simp)]
  exact h1
theorem next0_any (x : Nat) (hx : x < 18446744073709551616) (w : World) (hT : TabAt 0 Lib.deBruijn64tab w) : Calls Tryz.prog 128 #[.int .u64 x, .int .i64 0] w (fun e w' => e = .returned (.int .i64 (nxtB x 0)) ∧ w = w') := by
  have := next_any x 0 hx (by omega) w hT
  simpa using this

def minI (x : It) (L : List It) : It := L.foldl (fun m y => if ahead y m = true then y else m) x
theorem minI_take (x : It) (L : List It) (i : Nat) (hi : i < L.length) : minI x (L.take (i + 1)) = if ahead (atI L i) (minI x (L.take i)) = true then atI L i else minI x (L.take i) := by
  unfold minI
  rw [List.take_succ_eq_append_getElem hi, List.foldl_append, ← atI_get L i hi]
  rfl

def MinAt (s : WS) (w1 : World) (lv : Value) (wr : World) : Prop := ∃ l : Nat, lv = .int .i64 l ∧ l ≤ 3 ∧ (∀ j, j < l → nxtB (s.mw j) 0 = -1) ∧ Upd [] w1 wr
def InAt (L : List It) (x : It) (g : Nat) (w1 : World) (iv : Value) (wr : World) : Prop :=
  ∃ i : Nat, iv = .int .i64 i ∧ i ≤ L.length ∧ Upd [] w1 wr ∧ Blk wr g 54 (itVs (minI x (L.take i)))


/-- What Min tells: the least of the first bucket that has an item. -/
def MinOf (s : WS) (v : Value) : Prop :=
  ((∀ l, l < 3 → nxtB (s.mw l) 0 = -1) ∧ v = itV zIt false) ∨
  ∃ l b : Nat, l < 3 ∧ (∀ j, j < l → nxtB (s.mw j) 0 = -1) ∧ nxtB (s.mw l) 0 = b ∧ v = itV (minI (atI (s.bk (l * 64 + b)).L 0) (s.bk (l * 64 + b)).L) true
def MinPost (s : WS) (w : World) (e : Ending) (w' : World) : Prop := ∃ v, e = .returned v ∧ MinOf s v ∧ Upd [] w w'


set_option maxRecDepth 100000 in
set_option maxHeartbeats 16000000 in
theorem wmin_any (wb : Nat) (s : WS) (w : World) (h : WhAt w wb s) (hT : TabAt 0 Lib.deBruijn64tab w) (hne : ∀ l b : Nat, l < 3 → nxtB (s.mw l) 0 = b → 0 < (s.bk (l * 64 + b)).L.length) :
    Calls Tryz.prog 103 #[.pointer (some ⟨wb, 0, none⟩)] w (MinPost s w) := by
  have HH := Lib.hid h
  have HT := Lib.hid hT
  have HNE := Lib.hid hne
  have lw := h.top.lt
  obtain ⟨w1, hw1⟩ : ∃ w1, w1 = w.alloc (.cells #[.int .u64 0, .int .i64 0] 54 (0, 0)) := ⟨_, rfl⟩
  have HU1 : Hid (Upd [] w w1) := by unfold Hid; rw [hw1]; exact (Upd.refl _ w).alloc _
  have HB1 : Hid (Blk w1 w.heap.size 54 [.int .u64 0, .int .i64 0]) := by unfold Hid; rw [hw1]; exact heap_one w _
  have HW1 := Lib.hid hw1
  clear h hT hne hw1
  go_enter Tryz.func103, Tryz.ntmps103
  go_wp2_with fail
  rw [← HW1.out]
  go_loopw [9] (fun lv wr => MinAt s w1 lv wr) (fun lv _ => 3 - (intOf lv).toNat)
  case atStart => exact ⟨0, rfl, by omega, fun j hj => by omega, Upd.refl _ _⟩
  case round =>
    obtain ⟨l, rfl, hl, hj, hU⟩ := hrel
    have HJ := Lib.hid hj
    have HU := Lib.hid hU
    have HUw : Hid (Upd [] w wr) := HU1.out.trans hU
    clear hj hU
    by_cases hlt : l < 3
    · have t1 : decide ((l : Int) < 3) = true := by simp; omega
      have b1 : (l : Int) < 3 := by omega
      have hT2 := (HH.out.up HUw.out).top
      have c1 := hT2.cell (o := 194 + l) (by omega)
      rw [wheelF_mw s hlt] at c1
      have lwr := hT2.lt
      have HT2 := Lib.hid hT2
      clear hT2
      go_wp2_with fail
      refine (next0_any (s.mw l) (HH.out.mw64 l hlt) wr (tab_upd HT.out HUw.out)).mono ?_
      rintro e w3 ⟨rfl, rfl⟩
      rcases nxtB_cases (s.mw l) 0 with hn | ⟨b, hn⟩
      · rw [hn]
        have HN := Lib.hid hn
        clear hn c1
        go_wp2
        exact ⟨⟨l + 1, by congr 1, by omega, fun j hj => by
          by_cases e : j = l
          · subst e; exact HN.out
          · exact HJ.out j (by omega), HU.out⟩, by first | (simp [intOf]; done) | (simp [intOf]; omega)⟩
      · rw [hn]
        have HN := Lib.hid hn
        have hb64 := (nxtB_some (HH.out.mw64 l hlt) hn).2.2.1
        have bb : (b : Int) < 64 := by omega
        have hpos := HNE.out l b hlt hn
        have hR := (HH.out.up HUw.out).rows (l * 64 + b) (by omega)
        have hsm := HH.out.small (l * 64 + b) (by omega)
        have c0 := HT2.out.cell (o := 2 + (l * 64 + b)) (by omega)
        rw [wheelF_bk s (by omega), ← Nat.add_assoc] at c0
        obtain ⟨L, hL⟩ : ∃ L, (s.bk (l * 64 + b)).L = L := ⟨_, rfl⟩
        obtain ⟨cap, hcap⟩ : ∃ cap, (s.bk (l * 64 + b)).cap = cap := ⟨_, rfl⟩
        have HL := Lib.hid hL
        rw [hL] at c0 hpos hR hsm
        rw [hcap] at c0 hR
        obtain ⟨n, hnn⟩ : ∃ n, L.length = n := ⟨_, rfl⟩
        rw [hnn] at c0 hpos hR hsm
        have HNN := Lib.hid hnn
        obtain ⟨g, hg, lg, x0, x1⟩ := hR.items hnn hpos
        rw [hg] at c0 hR
        rw [Nat.zero_mul] at x0
        rw [Nat.zero_mul, Nat.zero_add] at x1
        have HR : Hid (RowO w 54 2 (some ⟨g, 0, none⟩) n cap (L.flatMap itVs)) := by
          have := HH.out.rows (l * 64 + b) (by omega)
          rw [hL, hcap, hnn, hg] at this
          exact this
        have bn : (0 : Int) < (n : Int) := by omega
        obtain ⟨x, hx⟩ : ∃ x, atI L 0 = x := ⟨_, rfl⟩
        rw [hx] at x0 x1
        have HX := Lib.hid hx
        clear hn hR hL hcap hnn hg hx c1
        go_wp2_with fail
        obtain ⟨wo, rfl⟩ : ∃ wo : World, wo = wr := ⟨_, rfl⟩
        obtain ⟨w6, hw6⟩ : ∃ w6, w6 = wo.alloc (.cells #[.int .u64 x.1, .int .i64 x.2] 54 (0, 0)) := ⟨_, rfl⟩
        rw [← hw6]
        have HU6 : Hid (Upd [] w w6) := by unfold Hid; rw [hw6]; exact HUw.out.alloc _
        have HU16 : Hid (Upd [] w1 w6) := by unfold Hid; rw [hw6]; exact HU.out.alloc _
        have HB6 : Hid (Blk w6 wo.heap.size 54 (itVs x)) := by unfold Hid; rw [hw6]; exact heap_one wo _
        have hgr : w1.heap.size ≤ wo.heap.size := HU.out.size
        clear hw6 c0 x0 x1
        go_loopw [40] (fun iv wq => InAt L x wo.heap.size w1 iv wq) (fun iv _ => n - (intOf iv).toNat)
        case atStart => exact ⟨0, rfl, by omega, HU16.out, HB6.out⟩
        case round =>
          clear HB6 HU6 HU16
          obtain ⟨i, rfl, hi, hUq, hBq⟩ := hrel
          rw [HNN.out] at hi
          have HUq := Lib.hid hUq
          have HBq := Lib.hid hBq
          have HUqw : Hid (Upd [] w wr) := HU1.out.trans hUq
          obtain ⟨m, hm⟩ : ∃ m, minI x (L.take i) = m := ⟨_, rfl⟩
          rw [hm] at HBq hBq
          have HM := Lib.hid hm
          have q0 := hBq.cell (j := 0) rfl
          have q1 := hBq.cell (j := 1) rfl
          have lq := hBq.lt
          clear hUq hBq hm
          by_cases hlt2 : i < n
          · have t2 : decide (i < n) = true := by simp [hlt2]
            have bi : (i : Int) < (n : Int) := by omega
            obtain ⟨g', hg', lg', y0, y1⟩ := (HR.out.upd HUqw.out (by simp)).items HNN.out hlt2
            obtain rfl : g = g' := by simpa using hg'
            obtain ⟨y, hy⟩ : ∃ y, atI L i = y := ⟨_, rfl⟩
            rw [hy] at y0 y1
            have HTK : Hid (minI x (L.take (i + 1)) = if ahead y m = true then y else m) := by unfold Hid; rw [minI_take x L i (by rw [HNN.out]; exact hlt2), hy, HM.out]
            clear hg' hy
            go_wp2_with fail
            refine (ahead_any y m _).mono ?_
            rintro e w7 ⟨rfl, hU7⟩
            have hU67 : Upd [] wr w7 := ((Upd.refl [] wr).alloc _).trans hU7
            have hX7 := HBq.out.upd hU67 (by simp)
            have hY7 := (Blk.new wr 54 [.int .u64 y.1, .int .i64 y.2]).upd hU7 (by simp)
            have p0 := hX7.cell (j := 0) rfl
            have p1 := hX7.cell (j := 1) rfl
            have z0 := hX7.free 0
            have z1 := hX7.free 1
            have lx7 := hX7.lt
            have r0 := hY7.cell (j := 0) rfl
            have r1 := hY7.cell (j := 1) rfl
            have ly7 := hY7.lt
            have HX7 := Lib.hid hX7
            have HU7 : Hid (Upd [] w1 w7) := HUq.out.trans hU67
            have hne : (wr.heap.size = wo.heap.size) = False := by simp; omega
            clear hU7 hU67 hX7 hY7 q0 q1 y0 y1
            cases ha : ahead y m with
            | true =>
              have HTT : Hid (minI x (L.take (i + 1)) = y) := by unfold Hid; rw [HTK.out, ha]; rfl
              clear ha
              go_wp2
              exact ⟨⟨i + 1, by congr 1, by rw [HNN.out]; omega, (HU7.out.setCell (.inr hgr) _).setCell (.inr hgr) _, by rw [HTT.out]; exact (HX7.out.set 0 _).set 1 _⟩, by have := HNN.out; first | (simp [intOf]; done) | (simp [intOf]; omega)⟩
            | false =>
              have HTT : Hid (minI x (L.take (i + 1)) = m) := by unfold Hid; rw [HTK.out, ha]; rfl
              clear ha
              go_wp2
              exact ⟨⟨i + 1, by congr 1, by rw [HNN.out]; omega, HU7.out, by rw [HTT.out]; exact HX7.out⟩, by have := HNN.out; first | (simp [intOf]; done) | (simp [intOf]; omega)⟩
          · have t2 : decide (i < n) = false := by simp [hlt2]
            have HML : Hid (m = minI x L) := by unfold Hid; rw [← HM.out, List.take_of_length_le (by rw [HNN.out]; omega)]
            have hB1 := HB1.out.upd HUq.out (by simp)
            have k0 := hB1.cell (j := 0) rfl
            have k1 := hB1.cell (j := 1) rfl
            have z0 := hB1.free 0
            have z1 := hB1.free 1
            have lk := hB1.lt
            clear hB1
            go_wp2
            obtain ⟨s0, s1⟩ := two_set (w := wr) rfl rfl k0 k1 (.int .u64 m.1) (.int .i64 m.2)
            refine bodyPost_ret (v := itV m true) (by simp [results, Tryz.results103, go_sem, s0, s1, itV]) rfl ⟨_, rfl, .inr ⟨l, b, hlt, HJ.out, HN.out, by rw [HML.out, HL.out, HX.out]⟩, (HUqw.out.setCell (.inr (by simp)) _).setCell (.inr (by simp)) _⟩
    · have t1 : decide ((l : Int) < 3) = false := by simp; omega
      have hB1 := HB1.out.upd HU.out (by simp)
      have k0 := hB1.cell (j := 0) rfl
      have k1 := hB1.cell (j := 1) rfl
      have z0 := hB1.free 0
      have z1 := hB1.free 1
      have lk := hB1.lt
      clear hB1
      go_wp2
      obtain ⟨s0, s1⟩ := two_set (w := wr) rfl rfl k0 k1 (.int .u64 0) (.int .i64 0)
      refine bodyPost_ret (v := itV zIt false) (by simp [results, Tryz.results103, go_sem, s0, s1, itV, zIt]) rfl ⟨_, rfl, .inl ⟨fun j hj => HJ.out j (by omega), rfl⟩, (HUw.out.setCell (.inr (by simp)) _).setCell (.inr (by simp)) _⟩
end Go.Proofs.YtolohheflbmfaaaGreatDoor

/-! Wg -/
namespace Go.Proofs.YtolohheflbmfaaaGreatDoor
open Go.RowKit

def bucI (W k : Nat) (l : Int) : Int := if l < 0 ∨ 3 ≤ l then -1 else (bucN W k l.toNat : Nat)
theorem wbucket_any (k : Nat) (l wd : Int) (w : World) : Calls Tryz.prog 126 #[.int .u64 k, .int .i64 l, .int .i64 wd] w (fun e w' => e = .returned (.int .i64 (bucI (heldN wd) k l)) ∧ w = w') := by
  unfold bucI
  by_cases h : l < 0 ∨ 3 ≤ l
  · rw [if_pos h]; exact bucket_out k l h wd w
  · rw [if_neg h]
    obtain ⟨j, rfl⟩ := Int.eq_ofNat_of_zero_le (show 0 ≤ l by omega)
    exact bucket_any k j (by omega) wd w
theorem lev_one : lev3 0 0 64 = 1 := by decide +kernel
theorem lev_far : lev3 0 0 262144 = 3 := by decide +kernel
theorem buc_one : bucN 0 64 1 = 1 := by decide +kernel
theorem nxt0 : nxtB 0 0 = -1 := by decide +kernel
theorem nxt2 : nxtB (orB 0 1) 0 = 1 := by decide +kernel


end Go.Proofs.YtolohheflbmfaaaGreatDoor
