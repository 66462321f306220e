/-
  Levels and buckets: what they are, the walks of the wheel's and of the reference's. No condition.
-/
import Derived.Test.YtbnifhdnpeiheaaDoorWa
set_option linter.unusedVariables false
set_option linter.unusedSimpArgs false
namespace Go.Proofs.YtbnifhdnpeiheaaDoor
open Go.RowKit

def heldN (wd : Int) : Nat := (min (max wd 0) 40).toNat
theorem heldN_le (wd : Int) : heldN wd ≤ 40 := by unfold heldN; omega
theorem heldN_idem (wd : Int) : heldN (heldN wd : Int) = heldN wd := by unfold heldN; omega
/-- Do a key and a base lie in one stretch of level l? -/
def sameB (W b k l : Nat) : Bool := decide (b / 2 ^ (W + 6 * (l + 1)) = k / 2 ^ (W + 6 * (l + 1)))
def lev3 (W b k : Nat) : Nat := if sameB W b k 0 = true then 0 else if sameB W b k 1 = true then 1 else if sameB W b k 2 = true then 2 else 3
def levN (W b k : Nat) : Int := if k < b then -1 else (lev3 W b k : Nat)
def bucN (W k l : Nat) : Nat := k / 2 ^ (W + 6 * l) % 64
theorem lev3_at {W b k l : Nat} (hl : l < 3) (h : sameB W b k l = true) (hj : ∀ j, j < l → sameB W b k j = false) : lev3 W b k = l := by
  unfold lev3
  have : l = 0 ∨ l = 1 ∨ l = 2 := by omega
  rcases this with rfl | rfl | rfl
  · rw [if_pos h]
  · rw [if_neg (by rw [hj 0 (by omega)]; simp), if_pos h]
  · rw [if_neg (by rw [hj 0 (by omega)]; simp), if_neg (by rw [hj 1 (by omega)]; simp), if_pos h]
theorem lev3_no {W b k : Nat} (hj : ∀ j, j < 3 → sameB W b k j = false) : lev3 W b k = 3 := by
  unfold lev3
  rw [if_neg (by rw [hj 0 (by omega)]; simp), if_neg (by rw [hj 1 (by omega)]; simp), if_neg (by rw [hj 2 (by omega)]; simp)]
theorem lev3_le (W b k : Nat) : lev3 W b k ≤ 3 := by unfold lev3; (repeat' split) <;> omega

theorem xor_zero (a b s : Nat) : (a ^^^ b) / 2 ^ s = 0 ↔ a / 2 ^ s = b / 2 ^ s := by
  rw [← Nat.shiftRight_eq_div_pow, ← Nat.shiftRight_eq_div_pow, ← Nat.shiftRight_eq_div_pow, Nat.shiftRight_xor_distrib]
  constructor
  · intro h
    apply Nat.eq_of_testBit_eq
    intro i
    have := congrArg (fun x => x.testBit i) h
    simp only [Nat.testBit_xor, Nat.zero_testBit] at this
    simpa using this
  · intro h
    rw [h, Nat.xor_self]
theorem lev_test (W b k l : Nat) (hb : b < 18446744073709551616) (hk : k < 18446744073709551616) : (bits .xor .u64 (b : Int) (k : Int) / 2 ^ (W + 6 * (l + 1)) == 0) = sameB W b k l := by
  rw [bits_xor_u64_nat b k hb hk]
  unfold sameB
  have e : ((b ^^^ k : Nat) : Int) / 2 ^ (W + 6 * (l + 1)) = (((b ^^^ k) / 2 ^ (W + 6 * (l + 1)) : Nat) : Int) := by
    rw [Int.natCast_ediv, Int.natCast_pow]; rfl
  rw [e, Bool.eq_iff_iff, decide_eq_true_iff, ← xor_zero]
  simp only [beq_iff_eq]
  omega

theorem held_any (wd : Int) (w : World) : Calls Tryd.prog 92 #[.int .i64 wd] w (fun e w' => e = .returned (.int .i64 (heldN wd)) ∧ w = w') := by
  go_enter Tryd.func92, Tryd.ntmps92
  go_wp2
  go_ret
  exact ⟨ret_int (by unfold heldN; omega), rfl⟩
theorem rwidth_any (wd : Int) (w : World) : Calls Tryd.prog 64 #[.int .i64 wd] w (fun e w' => e = .returned (.int .i64 (heldN wd)) ∧ w = w') := by
  go_enter Tryd.func64, Tryd.ntmps64
  go_wp2
  go_ret
  exact ⟨ret_int (by unfold heldN; omega), rfl⟩
theorem buc_cast (k s : Nat) : wrap64 (((k : Int) / 2 ^ s).tmod 64) = ((k / 2 ^ s % 64 : Nat) : Int) := by
  have e : (k : Int) / 2 ^ s = ((k / 2 ^ s : Nat) : Int) := by rw [Int.natCast_ediv, Int.natCast_pow]; rfl
  rw [e]
  generalize k / 2 ^ s = q
  rw [Int.tmod_eq_emod_of_nonneg (by omega)]
  unfold wrap64
  omega
theorem bucket_any (k l : Nat) (hl : l < 3) (wd : Int) (w : World) : Calls Tryd.prog 36 #[.int .u64 k, .int .i64 l, .int .i64 wd] w (fun e w' => e = .returned (.int .i64 (bucN (heldN wd) k l)) ∧ w = w') := by
  have hW := heldN_le wd
  have HH := Lib.hid (held_any wd w)
  obtain ⟨W, hWW⟩ : ∃ W, heldN wd = W := ⟨_, rfl⟩
  rw [hWW] at hW HH ⊢
  clear hWW
  have t1 : decide ((l : Int) < 0) = false := by simp
  have t2 : decide ((3 : Int) ≤ (l : Int)) = false := by simp; omega
  have t3 : decide (3 ≤ l) = false := by simp; omega
  have b1 : (W : Int) ≤ 40 := by omega
  go_enter Tryd.func36, Tryd.ntmps36
  go_wp2_with fail
  refine HH.out.mono ?_
  rintro e w2 ⟨rfl, rfl⟩
  go_wp2
  go_ret
  exact ⟨ret_int (by rw [buc_cast]; rfl), rfl⟩
theorem bucket_out (k : Nat) (l : Int) (hl : l < 0 ∨ 3 ≤ l) (wd : Int) (w : World) : Calls Tryd.prog 36 #[.int .u64 k, .int .i64 l, .int .i64 wd] w (fun e w' => e = .returned (.int .i64 (-1)) ∧ w = w') := by
  rcases hl with hl | hl
  · have t1 : decide (l < 0) = true := by simp; omega
    go_enter Tryd.func36, Tryd.ntmps36
    go_wp2
    go_ret
    exact ⟨rfl, rfl⟩
  · have t1 : decide (l < 0) = false := by simp; omega
    have t2 : decide (3 ≤ l) = true := by simp; omega
    go_enter Tryd.func36, Tryd.ntmps36
    go_wp2
    go_ret
    exact ⟨rfl, rfl⟩

def LevAt (W b k : Nat) (v : Value) : Prop := ∃ l : Nat, l ≤ 3 ∧ v = .int .i64 l ∧ ∀ j, j < l → sameB W b k j = false

set_option maxHeartbeats 1000000 in
theorem level_any (b k : Nat) (hb : b < 18446744073709551616) (hk : k < 18446744073709551616) (wd : Int) (w : World) : Calls Tryd.prog 34 #[.int .u64 b, .int .u64 k, .int .i64 wd] w (fun e w' => e = .returned (.int .i64 (levN (heldN wd) b k)) ∧ w = w') := by
  have hW := heldN_le wd
  have HH := Lib.hid (fun w => held_any wd w)
  obtain ⟨W, hWW⟩ : ∃ W, heldN wd = W := ⟨_, rfl⟩
  rw [hWW] at hW HH ⊢
  clear hWW
  by_cases h : k < b
  · have t1 : decide (k < b) = true := by simp; omega
    have HL : Hid (levN W b k = -1) := by unfold Hid levN; rw [if_pos h]
    go_enter Tryd.func34, Tryd.ntmps34
    go_wp2
    go_ret
    exact ⟨ret_int (by rw [HL.out]), rfl⟩
  · have t1 : decide (k < b) = false := by simp; omega
    have b1 : (W : Int) ≤ 40 := by omega
    have HL : Hid (levN W b k = (lev3 W b k : Nat)) := by unfold Hid levN; rw [if_neg h]
    go_enter Tryd.func34, Tryd.ntmps34
    go_wp2_with fail
    go_loop [11] (fun v => LevAt W b k v) (fun v => 3 - (intOf v).toNat)
    case atStart => exact ⟨0, by omega, rfl, fun j hj => by omega⟩
    case round =>
      obtain ⟨l, hl, rfl, hj⟩ := hrel
      have HJ := Lib.hid hj
      clear hj
      by_cases hlt : l < 3
      · have t2 : decide ((l : Int) < 3) = true := by simp; omega
        have ht := lev_test W b k l hb hk
        cases hs : sameB W b k l with
        | true =>
          rw [hs] at ht
          have HF : Hid (levN W b k = (l : Int)) := by unfold Hid; rw [HL.out, lev3_at hlt hs HJ.out]
          clear hs
          go_wp2_with fail
          refine (HH.out _).mono ?_
          rintro e w2 ⟨rfl, rfl⟩
          go_wp2
          go_ret
          exact ⟨ret_int HF.out.symm, rfl⟩
        | false =>
          rw [hs] at ht
          have HS := Lib.hid hs
          clear hs
          go_wp2_with fail
          refine (HH.out _).mono ?_
          rintro e w2 ⟨rfl, rfl⟩
          go_wp2
          exact ⟨⟨l + 1, by omega, by congr 1, fun j hj => by
            by_cases e : j = l
            · subst e; exact HS.out
            · exact HJ.out j (by omega)⟩, by first | (simp [intOf]; done) | (simp [intOf]; omega)⟩
      · have t2 : decide ((l : Int) < 3) = false := by simp; omega
        have HF : Hid (levN W b k = 3) := by unfold Hid; rw [HL.out, lev3_no (fun j h => HJ.out j (by omega))]; rfl
        go_wp2
        go_ret
        exact ⟨ret_int HF.out.symm, rfl⟩

/-! ### The reference's -/
theorem one_pow (k : Nat) (hk : k < 64) : (2 : Nat) ^ (k + 1) = 2 * 2 ^ k := by rw [Nat.pow_succ]; omega
def OneAt (i : Nat) (v kv : Value) : Prop := ∃ k : Nat, k ≤ i ∧ kv = .int .i64 k ∧ v = .int .u64 (2 ^ k : Nat)
theorem rone_any (i : Nat) (n : Int) (hn : n = i) (hi : i < 64) (w : World) : Calls Tryd.prog 75 #[.int .i64 n] w (fun e w' => e = .returned (.int .u64 (2 ^ i : Nat)) ∧ w = w') := by
  subst hn
  have t1 : decide ((i : Int) < 0) = false := by simp
  have t2 : decide ((63 : Int) < (i : Int)) = false := by simp; omega
  have t3 : decide (63 < i) = false := by simp; omega
  go_enter Tryd.func75, Tryd.ntmps75
  go_wp2_with fail
  go_loop [3, 4] (fun v kv => OneAt i v kv) (fun _ kv => i - (intOf kv).toNat)
  case atStart => exact ⟨0, by omega, rfl, rfl⟩
  case round =>
    obtain ⟨k, hk, rfl, rfl⟩ := hrel
    have hp := pow_lt64 (show k < 64 by omega)
    have hp1 := one_pow k (by omega)
    by_cases hlt : k < i
    · have u1 : decide (k < i) = true := by simp [hlt]
      have hp2 := pow_lt64 (show k + 1 < 64 by omega)
      obtain ⟨p, hpp⟩ : ∃ p, 2 ^ k = p := ⟨_, rfl⟩
      rw [hp1] at hp2
      rw [hpp] at hp2 hp1 hp ⊢
      have hw : IntKind.u64.wrap (2 * (p : Int)) = 2 * (p : Int) := by rw [IntKind.wrap_u64]; omega
      have HP := Lib.hid hp1
      clear hp1 hpp
      go_wp2
      exact ⟨⟨k + 1, by omega, by congr 1, by rw [HP.out]; congr 1⟩, by first | (simp [intOf]; done) | (simp [intOf]; omega)⟩
    · have u1 : decide (k < i) = false := by simp [hlt]
      have hki : Hid (k = i) := by unfold Hid; omega
      clear hp1
      go_wp2
      go_ret
      exact ⟨by rw [hki.out]; rfl, rfl⟩
theorem rover_any (k s : Nat) (hk : k < 18446744073709551616) (n : Int) (hn : n = s) (hs : s < 64) (w : World) : Calls Tryd.prog 110 #[.int .u64 k, .int .i64 n] w (fun e w' => e = .returned (.int .u64 (k / 2 ^ s : Nat)) ∧ w = w') := by
  have HO := Lib.hid (rone_any s n hn hs w)
  have hp : 0 < 2 ^ s := Nat.two_pow_pos s
  obtain ⟨p, hpp⟩ : ∃ p, 2 ^ s = p := ⟨_, rfl⟩
  rw [hpp] at hp HO ⊢
  have hp0 : ((p : Int) == 0) = false := by simp; omega
  have hd : IntKind.u64.wrap ((k : Int) / p) = ((k / p : Nat) : Int) := by
    have : k / p ≤ k := Nat.div_le_self _ _
    rw [← Int.natCast_ediv, IntKind.wrap_u64]
    generalize k / p = r at this ⊢
    omega
  have HD := Lib.hid hd
  clear hn hpp hd
  go_enter Tryd.func110, Tryd.ntmps110
  go_wp2_with fail
  refine HO.out.mono ?_
  rintro e w2 ⟨rfl, rfl⟩
  go_wp2
  go_ret
  exact ⟨ret_int (by first | rfl | exact HD.out), rfl⟩

set_option maxHeartbeats 1000000 in
theorem rlevel_any (b k : Nat) (hb : b < 18446744073709551616) (hk : k < 18446744073709551616) (wd : Int) (w : World) : Calls Tryd.prog 73 #[.int .u64 b, .int .u64 k, .int .i64 wd] w (fun e w' => e = .returned (.int .i64 (levN (heldN wd) b k)) ∧ w = w') := by
  have hW := heldN_le wd
  have HH := Lib.hid (fun w => rwidth_any wd w)
  obtain ⟨W, hWW⟩ : ∃ W, heldN wd = W := ⟨_, rfl⟩
  rw [hWW] at hW HH ⊢
  clear hWW
  by_cases h : k < b
  · have t1 : decide (k < b) = true := by simp; omega
    have HL : Hid (levN W b k = -1) := by unfold Hid levN; rw [if_pos h]
    go_enter Tryd.func73, Tryd.ntmps73
    go_wp2_with fail
    refine (HH.out _).mono ?_
    rintro e w2 ⟨rfl, rfl⟩
    go_wp2
    go_ret
    exact ⟨ret_int (by rw [HL.out]), rfl⟩
  · have t1 : decide (k < b) = false := by simp; omega
    have b1 : (W : Int) ≤ 40 := by omega
    have HL : Hid (levN W b k = (lev3 W b k : Nat)) := by unfold Hid levN; rw [if_neg h]
    go_enter Tryd.func73, Tryd.ntmps73
    go_wp2_with fail
    refine (HH.out _).mono ?_
    rintro e w2 ⟨rfl, rfl⟩
    go_wp2_with fail
    go_loop [7] (fun v => LevAt W b k v) (fun v => 3 - (intOf v).toNat)
    case atStart => exact ⟨0, by omega, rfl, fun j hj => by omega⟩
    case round =>
      obtain ⟨l, hl, rfl, hj⟩ := hrel
      have HJ := Lib.hid hj
      clear hj
      by_cases hlt : l < 3
      · have t2 : decide ((l : Int) < 3) = true := by simp; omega
        obtain ⟨x, hx⟩ : ∃ x, b / 2 ^ (W + 6 * (l + 1)) = x := ⟨_, rfl⟩
        obtain ⟨y, hy⟩ : ∃ y, k / 2 ^ (W + 6 * (l + 1)) = y := ⟨_, rfl⟩
        have HS0 : Hid (sameB W b k l = decide (x = y)) := by unfold Hid sameB; rw [hx, hy]
        have HX := Lib.hid hx
        have HY := Lib.hid hy
        clear hx hy
        by_cases hxy : x = y
        · have ht : ((x : Int) == (y : Int)) = true := by simp [hxy]
          have HF : Hid (levN W b k = (l : Int)) := by unfold Hid; rw [HL.out, lev3_at hlt (by rw [HS0.out]; simp [hxy]) HJ.out]
          clear hxy
          go_wp2_with fail
          refine (rover_any b (W + 6 * (l + 1)) hb _ (by omega) (by omega) _).mono ?_
          rintro e w3 ⟨rfl, rfl⟩
          rw [HX.out]
          go_wp2_with fail
          refine (rover_any k (W + 6 * (l + 1)) hk _ (by omega) (by omega) _).mono ?_
          rintro e w4 ⟨rfl, rfl⟩
          rw [HY.out]
          go_wp2
          go_ret
          exact ⟨ret_int HF.out.symm, rfl⟩
        · have ht : ((x : Int) == (y : Int)) = false := by simp; omega
          have HS : Hid (sameB W b k l = false) := by unfold Hid; rw [HS0.out]; simp [hxy]
          clear hxy
          go_wp2_with fail
          refine (rover_any b (W + 6 * (l + 1)) hb _ (by omega) (by omega) _).mono ?_
          rintro e w3 ⟨rfl, rfl⟩
          rw [HX.out]
          go_wp2_with fail
          refine (rover_any k (W + 6 * (l + 1)) hk _ (by omega) (by omega) _).mono ?_
          rintro e w4 ⟨rfl, rfl⟩
          rw [HY.out]
          go_wp2
          exact ⟨⟨l + 1, by omega, by congr 1, fun j hj => by
            by_cases e : j = l
            · subst e; exact HS.out
            · exact HJ.out j (by omega)⟩, by first | (simp [intOf]; done) | (simp [intOf]; omega)⟩
      · have t2 : decide ((l : Int) < 3) = false := by simp; omega
        have HF : Hid (levN W b k = 3) := by unfold Hid; rw [HL.out, lev3_no (fun j h => HJ.out j (by omega))]; rfl
        go_wp2
        go_ret
        exact ⟨ret_int HF.out.symm, rfl⟩

theorem rbucket_any (k l : Nat) (hk : k < 18446744073709551616) (hl : l < 3) (wd : Int) (w : World) : Calls Tryd.prog 74 #[.int .u64 k, .int .i64 l, .int .i64 wd] w (fun e w' => e = .returned (.int .i64 (bucN (heldN wd) k l)) ∧ w = w') := by
  have hW := heldN_le wd
  have HH := Lib.hid (rwidth_any wd w)
  obtain ⟨W, hWW⟩ : ∃ W, heldN wd = W := ⟨_, rfl⟩
  rw [hWW] at hW HH ⊢
  clear hWW
  have t1 : decide ((l : Int) < 0) = false := by simp
  have t2 : decide ((2 : Int) < (l : Int)) = false := by simp; omega
  have t3 : decide (2 < l) = false := by simp; omega
  have b1 : (W : Int) ≤ 40 := by omega
  obtain ⟨q, hq⟩ : ∃ q, k / 2 ^ (W + 6 * l) = q := ⟨_, rfl⟩
  have HQ := Lib.hid hq
  have HF : Hid (bucN W k l = q % 64) := by unfold Hid bucN; rw [hq]
  clear hq
  go_enter Tryd.func74, Tryd.ntmps74
  go_wp2_with fail
  refine HH.out.mono ?_
  rintro e w2 ⟨rfl, rfl⟩
  go_wp2_with fail
  refine (rover_any k (W + 6 * l) hk _ (by omega) (by omega) _).mono ?_
  rintro e w3 ⟨rfl, rfl⟩
  rw [HQ.out]
  go_wp2
  go_ret
  exact ⟨ret_int (by rw [HF.out]; omega), rfl⟩
theorem rbucket_out (k : Nat) (l : Int) (hl : l < 0 ∨ 3 ≤ l) (wd : Int) (w : World) : Calls Tryd.prog 74 #[.int .u64 k, .int .i64 l, .int .i64 wd] w (fun e w' => e = .returned (.int .i64 (-1)) ∧ w = w') := by
  rcases hl with hl | hl
  · have t1 : decide (l < 0) = true := by simp; omega
    go_enter Tryd.func74, Tryd.ntmps74
    go_wp2
    go_ret
    exact ⟨rfl, rfl⟩
  · have t1 : decide (l < 0) = false := by simp; omega
    have t2 : decide (2 < l) = true := by simp; omega
    go_enter Tryd.func74, Tryd.ntmps74
    go_wp2
    go_ret
    exact ⟨rfl, rfl⟩
end Go.Proofs.YtbnifhdnpeiheaaDoor
