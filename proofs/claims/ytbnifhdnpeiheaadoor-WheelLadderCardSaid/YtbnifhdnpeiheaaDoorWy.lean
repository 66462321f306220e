/-
  The walks of ref.Bit and ref.Bits. No condition.
-/
import Derived.Test.YtbnifhdnpeiheaaDoorWs
set_option linter.unusedVariables false
set_option linter.unusedSimpArgs false
namespace Go.Proofs.YtbnifhdnpeiheaaDoor
open Go.RowKit

def BitAt (X i : Nat) (v kv : Value) : Prop := ∃ k : Nat, k ≤ i ∧ kv = .int .i64 k ∧ v = .int .u64 (X / 2 ^ k : Nat)
theorem bit_mod (X i : Nat) : (((X / 2 ^ i : Nat) : Int) % 2 == 1) = X.testBit i := by
  rw [Nat.testBit_eq_decide_div_mod_eq]
  generalize X / 2 ^ i = y
  by_cases h : y % 2 = 1
  · rw [decide_eq_true h]; have : (y : Int) % 2 = 1 := by omega
    rw [this]; rfl
  · rw [decide_eq_false h]; have : (y : Int) % 2 = 0 := by omega
    rw [this]; rfl
set_option maxHeartbeats 1000000 in
theorem bit_any (X i : Nat) (hX : X < 18446744073709551616) (hi : i < 64) (w : World) : Calls Tryd.prog 93 #[.int .u64 X, .int .i64 i] w (fun e w' => e = .returned (.bool (X.testBit i)) ∧ w = w') := by
  have hX0 : X / 2 ^ 0 = X := by rw [Nat.pow_zero]; omega
  go_enter Tryd.func93, Tryd.ntmps93
  go_wp2
  go_loop [0, 5] (fun v kv => BitAt X i v kv) (fun _ kv => 64 - (intOf kv).toNat)
  case atStart => exact ⟨0, by omega, rfl, by rw [hX0]⟩
  case round =>
    obtain ⟨k, hk, rfl, rfl⟩ := hrel
    have u0 : decide (k < 64) = true := by simp; omega
    have hle : X / 2 ^ k ≤ X := Nat.div_le_self _ _
    have hbm := Lib.hid (bit_mod X k)
    have hnx : Hid (X / 2 ^ (k + 1) = X / 2 ^ k / 2) := by unfold Hid; rw [Nat.pow_succ, Nat.div_div_eq_div_mul]
    obtain ⟨y, hy⟩ : ∃ y, X / 2 ^ k = y := ⟨_, rfl⟩
    rw [hy] at hbm hnx hle ⊢
    clear hy
    have e1 : (y : Int) / 2 = ((y / 2 : Nat) : Int) := by omega
    have e2 : IntKind.u64.wrap ((y / 2 : Nat) : Int) = ((y / 2 : Nat) : Int) := by rw [IntKind.wrap_u64]; omega
    have e3 : IntKind.u64.wrap ((y : Int) % 2) = (y : Int) % 2 := by rw [IntKind.wrap_u64]; omega
    have HE1 := Lib.hid e1
    have HE2 := Lib.hid e2
    have HE3 := Lib.hid e3
    clear e1 e2 e3
    by_cases hki : k = i
    · subst hki
      go_wp2
      go_ret
      exact ⟨by first | (rw [HE3.out, hbm.out]; done) | (rw [HE3.out, hbm.out]; rfl) | (rw [hbm.out]; done) | (rw [hbm.out]; rfl), rfl⟩
    · have u1 : ((k : Int) == (i : Int)) = false := by simp; omega
      go_wp2
      exact ⟨⟨k + 1, by omega, by congr 1, by rw [hnx.out]; first | rfl | (rw [HE1.out, HE2.out]) | (congr 1; first | exact HE1.out | exact HE2.out)⟩, by first | (simp [intOf]; done) | (simp [intOf]; omega)⟩

theorem bitsB_skip1 {x k : Nat} (h : x.testBit k = false) : bitsB x (k + 1) = bitsB x k := by
  unfold bitsB
  rw [List.range_succ, List.filter_append]
  simp [h]
def RBitsAt (W : World) (x : Nat) (lv iv : Value) (wr : World) : Prop :=
  ∃ (k : Nat) (ao : Option Addr) (cap : Nat), k ≤ 64 ∧ iv = .int .i64 k ∧ lv = .slice ao (bitsB x k).length cap ∧ RowO wr 3 1 ao (bitsB x k).length cap (nVs (bitsB x k)) ∧ (∀ c ∈ blkO ao, W.heap.size ≤ c) ∧ Upd [] W wr
theorem rbits_round {W wr w2 : World} {x k : Nat} {ao ao' : Option Addr} {cap' n : Nat} (hj : bitsB x (k + 1) = bitsB x k ++ [k]) (hk : k < 64) (hn : (bitsB x k).length = n) (hf : ∀ c ∈ blkO ao, W.heap.size ≤ c) (hU : Upd [] W wr)
    (hA : Apped (wr.alloc (.cells #[.int .i64 k] 3)) 3 1 ao (n + 1) (nVs (bitsB x k) ++ [.int .i64 k]) ao' cap' w2) : RBitsAt W x (.slice ao' (n + 1) cap') (.int .i64 ((k : Int) + 1)) w2 := by
  obtain ⟨k', ao2, cap2, h1, _, h3, h4, h5, h6⟩ := bits_round hj hk hn hf hU hA
  injection h3 with e1 e2 e3
  subst e1 e3
  have hs := hU.size
  have hs2 : (wr.alloc (.cells #[.int .i64 (k : Int)] 3)).heap.size = wr.heap.size + 1 := by simp
  refine ⟨k + 1, ao', cap', by omega, by congr 1, ?_, ?_, h5, h6⟩
  · rw [hj, List.length_append, hn]; rfl
  · rw [hj, List.length_append, hn]
    have := hA.row
    unfold nVs at this ⊢
    rw [List.map_append]
    exact this

set_option maxRecDepth 100000 in
set_option maxHeartbeats 4000000 in
theorem rbits_all (x : Nat) (hx : x < 18446744073709551616) (w : World) : Calls Tryd.prog 37 #[.int .u64 x] w (BitsTo x w) := by
  obtain ⟨i0, hi0, hz0, hz1, hz2⟩ := info_parts infoInt5
  have HN := Lib.hid (fun (k : Nat) (hk : k < 64) (w : World) => bit_any x k hx hk w)
  have HX := Lib.hid hx
  clear hx
  go_enter Tryd.func37, Tryd.ntmps37
  go_wp2
  go_loopw [3, 4] (fun lv iv wr => RBitsAt w x lv iv wr) (fun _ iv _ => 64 - (intOf iv).toNat)
  case atStart => exact ⟨0, none, 0, by omega, rfl, rfl, RowO.nil _ _ _, fun c hc => (by cases hc), Upd.refl _ _⟩
  case round =>
    obtain ⟨k, ao, cap, hk, rfl, rfl, hR, hf, hU⟩ := hrel
    have HR := Lib.hid hR
    have HF := Lib.hid hf
    have HU := Lib.hid hU
    have hlen := bitsB_len x k
    obtain ⟨n, hn⟩ : ∃ n, (bitsB x k).length = n := ⟨_, rfl⟩
    rw [hn] at hlen ⊢
    have HNN := Lib.hid hn
    clear hR hf hU hn
    have HRn : Hid (RowO wr 3 1 ao n cap (nVs (bitsB x k))) := by unfold Hid; rw [← HNN.out]; exact HR.out
    by_cases hlt : k < 64
    · have t1 : decide ((k : Int) < 64) = true := by simp; omega
      cases hb : x.testBit k with
      | true =>
        have HS := Lib.hid (bitsB_succ hb)
        have HB := Lib.hid hb
        clear hb
        go_wp2_with fail
        refine (HN.out k hlt _).mono ?_
        rintro e w1 ⟨rfl, rfl⟩
        rw [HB.out]
        have hR2 := (HRn.out.upd ((Upd.refl [] wr).alloc (.cells #[.int .i64 (k : Int)] 3)) (by simp))
        have hn2 := one_news wr 3 (.int .i64 (k : Int))
        have HR2 := Lib.hid hR2
        have HN2 := Lib.hid hn2
        clear hR2 hn2
        have HG6 : Hid (∀ u ∈ [Value.int .i64 (k : Int)], u.oneCell' = true) := by unfold Hid; simp [Value.oneCell']
        have HG7 : Hid (n + 1 ≤ maxLen) := by unfold Hid maxLen; omega
        have HG8 : Hid ((n + 1) * 8 ≤ 140737488355328) := by unfold Hid; omega
        go_wp2_with (at_builtin; (refine wpList_app _ rfl _ _ _ rfl 3 i0 _ 1 8 underlyingInts5 hi0 hz0 hz1 hz2 rfl Nat.one_pos ao n cap (nVs (bitsB x k)) rfl HR2.out ⟨wr.heap.size, 0, none⟩ 1 1 [Value.int IntKind.i64 (k : Int)] rfl rfl HN2.out HG6.out HG7.out HG8.out ?_); (intro ao1 cap1 w3 hA; have HA := Lib.hid hA; clear hA))
        exact ⟨rbits_round HS.out hlt HNN.out HF.out HU.out HA.out, by first | (simp [intOf]; done) | (simp [intOf]; omega)⟩
      | false =>
        have HS := Lib.hid (bitsB_skip1 hb)
        have HB := Lib.hid hb
        clear hb
        go_wp2_with fail
        refine (HN.out k hlt _).mono ?_
        rintro e w1 ⟨rfl, rfl⟩
        rw [HB.out]
        go_wp2
        exact ⟨⟨k + 1, ao, cap, by omega, by congr 1, by rw [HS.out, HNN.out], by rw [HS.out]; exact HR.out, HF.out, HU.out⟩, by first | (simp [intOf]; done) | (simp [intOf]; omega)⟩
    · have t1 : decide ((k : Int) < 64) = false := by simp; omega
      have HE : Hid (k = 64) := by unfold Hid; omega
      go_wp2
      go_ret
      refine ⟨ao, cap, by rw [← HE.out, HNN.out]; rfl, by rw [← HE.out]; exact HR.out, HF.out, HU.out⟩
end Go.Proofs.YtbnifhdnpeiheaaDoor
