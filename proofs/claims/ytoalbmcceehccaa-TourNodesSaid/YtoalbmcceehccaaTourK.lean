/-
  The walk of TourNodes. No condition.
-/
import Derived.Test.YtoalbmcceehccaaTourJ
namespace Go.Proofs.Ytoalbmcceehccaa
open Go.RowKit

/-- At any number both tell the same node. -/
theorem At.nodes {W w : World} {pt pr : Nat} (h : At W pt pr w) (k : Int) : ∃ v : Int, (∀ w', Upd [] w w' → Calls Try.prog 14 #[.pointer (some ⟨pt, 0, none⟩), .int .i64 k] w' (RetUpd [] w' (.int .i64 v))) ∧
    (∀ w', Upd [] w w' → Calls Try.prog 15 #[.pointer (some ⟨pr, 0, none⟩), .int .i64 k] w' (RetUpd [] w' (.int .i64 v))) := by
  obtain ⟨t, r, hS, rfl, rfl, _⟩ := h
  refine ⟨nodeF t k, fun w' hu => tnode_any t k w' (hS.upd hu).ta, fun w' hu => ?_⟩
  have hS' := hS.upd hu
  by_cases hk : 1 ≤ k ∧ k < 2 * (t.size : Int)
  · unfold nodeF
    rw [if_pos hk]
    obtain ⟨j, rfl⟩ := Int.eq_ofNat_of_zero_le (by omega : 0 ≤ k)
    rw [Int.toNat_natCast]
    exact hS'.rnode j (by omega) (by omega)
  · unfold nodeF
    rw [if_neg hk]
    refine rnode_out r k w' hS'.ra ?_
    rw [hS'.len, ← hS'.size]; omega

def InnerAt (W : World) (pt pr : Nat) (jv : Value) (wr : World) : Prop := ∃ j : Int, jv = .int .i64 j ∧ -1 ≤ j ∧ j ≤ 34 ∧ At W pt pr wr

set_option maxHeartbeats 16000000 in
theorem nodes_walk (n : Int) (v : Value) (m : Nat) (D : Nat → Nat → Int) (k : Int) (W : World) (_hn : (Lit.int .i64 n).wf = true) (hv : RowsAt W [.i64, .u64, .i64] v m D) (_hk : (Lit.int .i64 k).wf = true) :
    Calls Try.prog 4 #[.int .i64 n, v, .int .i64 k] W (RetUpd [] W (.bool true)) := by
  obtain ⟨ao, cap, rfl, hmm, hD⟩ := deed_cells hv
  unfold maxLen at hmm
  have HD := Lib.hid hD
  clear hD hv _hn _hk
  go_enter Try.func4, Try.ntmps4
  go_wp2_with (first
    | (go_at_call 9; refine (made_any _ _).mono ?_; intro e w1 hM; obtain ⟨pt, pr, rfl, hA⟩ := At.of_made hM; have HA := Lib.hid hA; clear hA hM)
    | (go_at_call 10; refine (awake_any _).mono ?_; rintro e w' ⟨rfl, hB⟩; have HA2 := Lib.hid (HA.out.upd hB); clear hB))
  go_loopw [9] (fun iv wr => PlaysAt W m 40 pt pr iv wr) (fun iv _ => 40 - (intOf iv).toNat)
  case atStart => exact ⟨0, rfl, by omega, by omega, HA2.out⟩
  case round =>
    obtain ⟨i, rfl, him, hi80, hA⟩ := hrel
    have HAi := Lib.hid hA
    clear hA
    by_cases hlt : i < m ∧ i < 40
    · obtain ⟨h1, h2⟩ := hlt
      rcases HD.out with h0 | ⟨b, off, rfl, hb1, hc⟩
      · omega
      obtain ⟨c0, c1, c2, k0⟩ := hc i h1
      rw [← HAi.out.updW.cell hb1 (by simp)] at c0 c1 c2
      have HC := Lib.hid hc
      clear hc
      have g1 : decide (i < m) = true := by simp; omega
      have g2 : decide ((i : Int) < 40) = true := by simp; omega
      go_wp2_with (first
        | (go_at_call 13; refine (HAi.out.step _ _ _ k0).mono ?_; rintro e w3 ⟨rfl, hA3⟩; have HA3 := Lib.hid hA3; clear hA3))
      go_loopw [10] (fun jv wr => InnerAt W pt pr jv wr) (fun jv _ => (34 - intOf jv).toNat)
      case atStart => exact ⟨-1, rfl, by omega, by omega, HA3.out⟩
      case round =>
        obtain ⟨j, rfl, hj1, hj2, hA⟩ := hrel
        have HAj := Lib.hid hA
        clear hA
        by_cases hj : j < 34
        · obtain ⟨x, ht, hr⟩ := HAj.out.nodes j
          have HT := Lib.hid ht
          have HR := Lib.hid hr
          clear ht hr
          go_wp2_with (first
            | (go_at_call 14; refine (HT.out _ (Upd.refl [] _)).mono ?_; rintro e w4 ⟨rfl, hU4⟩)
            | (go_at_call 15; refine (HR.out _ hU4).mono ?_; rintro e w5 ⟨rfl, hU5⟩; have HU5 := Lib.hid (hU4.trans hU5); clear hU5))
          exact ⟨⟨j + 1, rfl, by omega, by omega, HAj.out.upd HU5.out⟩, by simp [intOf]; omega⟩
        · go_wp2
          exact ⟨⟨i + 1, by congr 1, by omega, by omega, HAj.out⟩, by simp [intOf]; omega⟩
    · obtain ⟨x, ht, hr⟩ := HAi.out.nodes k
      have HT := Lib.hid ht
      have HR := Lib.hid hr
      clear ht hr
      by_cases g0 : i < m
      · have g1 : decide (i < m) = true := by simp; omega
        have g2 : decide ((i : Int) < 40) = false := by simp; omega
        go_wp2_with (first
          | (go_at_call 14; refine (HT.out _ (Upd.refl [] _)).mono ?_; rintro e w4 ⟨rfl, hU4⟩)
          | (go_at_call 15; refine (HR.out _ hU4).mono ?_; rintro e w5 ⟨rfl, hU5⟩; have HU5 := Lib.hid (hU4.trans hU5); clear hU5))
        go_ret
        exact ⟨rfl, HAi.out.updW.trans HU5.out⟩
      · have g1 : decide (i < m) = false := by simp; omega
        go_wp2_with (first
          | (go_at_call 14; refine (HT.out _ (Upd.refl [] _)).mono ?_; rintro e w4 ⟨rfl, hU4⟩)
          | (go_at_call 15; refine (HR.out _ hU4).mono ?_; rintro e w5 ⟨rfl, hU5⟩; have HU5 := Lib.hid (hU4.trans hU5); clear hU5))
        go_ret
        exact ⟨rfl, HAi.out.updW.trans HU5.out⟩
end Go.Proofs.Ytoalbmcceehccaa
