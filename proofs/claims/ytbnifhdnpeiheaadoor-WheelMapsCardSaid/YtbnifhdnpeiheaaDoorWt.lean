/-
  The walk of WheelMaps. Condition: where a table of the library's lies.
-/
import Derived.Test.YtbnifhdnpeiheaaDoorRWi
import Derived.Test.YtbnifhdnpeiheaaDoorRWe
import Derived.Test.YtbnifhdnpeiheaaDoorDeedC
set_option linter.unusedVariables false
set_option linter.unusedSimpArgs false
namespace Go.Proofs.YtbnifhdnpeiheaaDoor
open Go.RowKit

def Maps5At (W : World) (wb b wd c : Nat) (iv : Value) (wr : World) : Prop := ∃ (i base : Nat) (L : List It) (fp fq : List Nat), iv = .int .i64 i ∧ i ≤ c ∧ L.length ≤ i ∧ WR W wb b base wd L fp fq wr
def Maps5In (W : World) (wb b base wd : Nat) (L : List It) (fp fq : List Nat) (kv : Value) (wr : World) : Prop := ∃ k : Nat, kv = .int .i64 k ∧ k ≤ 3 ∧ WR W wb b base wd L fp fq wr

set_option maxRecDepth 100000 in
set_option maxHeartbeats 32000000 in
theorem wmaps_walk (width : Int) (v : Value) (m : Nat) (D : Nat → Nat → Int) (level : Int) (W : World) (hT : TabAt 0 Lib.deBruijn64tab W) (_ : (Lit.int .i64 width).wf = true) (hv : RowsAt W [.i64, .u64, .i64] v m D) (_ : (Lit.int .i64 level).wf = true) :
    Calls Tryd.prog 3 #[.int .i64 width, v, .int .i64 level] W (RetUpd [] W (.bool true)) := by
  obtain ⟨ao, cap, rfl, hmm, hD⟩ := deed_cells hv
  unfold maxLen at hmm
  have HD := Lib.hid hD
  have HT := Lib.hid hT
  clear hD hv hT
  obtain ⟨c, hc⟩ : ∃ c : Nat, min m 40 = c := ⟨_, rfl⟩
  have hcm : c ≤ m := by omega
  have hc40 : c ≤ 40 := by omega
  have HC : Hid (min m 40 = c) := hc
  clear hc
  go_enter Tryd.func3, Tryd.ntmps3
  go_wp2_with fail
  refine (made_any W width W (Upd.refl [] W) HT.out).mono ?_
  rintro e1 w1 ⟨wb, b, wd, fp0, fq0, rfl, hP, -, -, -⟩
  have HP1 := Lib.hid hP
  clear hP
  go_wp2_with fail
  refine (awake5_any _ (tab_upd HT.out HP1.out.1.updW)).mono ?_
  rintro e w2 ⟨rfl, hU⟩
  have HP2 := Lib.hid (HP1.out.upd hU)
  clear hU HP1
  go_wp2
  go_loopw [9] (fun iv wr => Maps5At W wb b wd c iv wr) (fun iv _ => c - (intOf iv).toNat)
  case atStart => exact ⟨0, 0, [], _, _, rfl, by omega, by simp, HP2.out⟩
  case round =>
    clear HP2
    obtain ⟨i, base, L, fp, fq, rfl, hi, hLi, hP⟩ := hrel
    have HP := Lib.hid hP
    clear hP
    by_cases hlt : i < c
    · rcases HD.out with h0 | ⟨bd, off, rfl, hb1, hcc⟩
      · omega
      obtain ⟨c0, c1, c2, hk0, hk1⟩ := hcc i (by omega)
      rw [← HP.out.1.updW.cell hb1 (by simp)] at c0 c1 c2
      have him : i < m := by omega
      have t1 : decide (i < m) = true := by simp; omega
      have t2 : decide ((i : Int) < 40) = true := by simp; omega
      have b1 : (i : Int) < (m : Int) := by omega
      obtain ⟨k, hk⟩ : ∃ k, D i 0 = k := ⟨_, rfl⟩
      obtain ⟨key, hkey⟩ : ∃ k, D i 1 = k := ⟨_, rfl⟩
      obtain ⟨id, hid⟩ : ∃ k, D i 2 = k := ⟨_, rfl⟩
      rw [hk] at c0
      rw [hkey] at c1 hk0 hk1
      rw [hid] at c2
      obtain ⟨kk, rfl⟩ := Int.eq_ofNat_of_zero_le hk0
      clear hcc hb1 hk hkey hid
      go_wp2_with fail
      refine (step5_any W wb b base wd L fp fq k id kk (by omega) _ HP.out (by omega)).mono ?_
      rintro e w6 h6
      obtain ⟨rfl, base6, L6, fp6, fq6, hP6, hl6⟩ := h6.to
      have HP6 := Lib.hid hP6
      clear hP6 h6
      go_wp2
      go_loopw [10] (fun kv wr => Maps5In W wb b base6 wd L6 fp6 fq6 kv wr) (fun kv _ => 3 - (intOf kv).toNat)
      case atStart => exact ⟨0, rfl, by omega, HP6.out⟩
      case round =>
        obtain ⟨j, rfl, hj, hP7⟩ := hrel
        have HP7 := Lib.hid hP7
        clear hP7
        by_cases hjl : j < 3
        · have u1 : decide ((j : Int) < 3) = true := by simp; omega
          obtain ⟨x, hx⟩ : ∃ x, mapI base6 wd L6 (j : Int) = x := ⟨_, rfl⟩
          have HX := Lib.hid hx
          clear hx
          go_wp2_with fail
          refine (HP7.out.1.map j).mono ?_
          rintro e w8 ⟨rfl, rfl⟩
          rw [HX.out]
          go_wp2_with fail
          refine (HP7.out.rmap j).mono ?_
          rintro e w9 ⟨rfl, hU9⟩
          rw [HX.out]
          have HP9 := Lib.hid (HP7.out.upd hU9)
          clear hU9
          go_wp2
          exact ⟨⟨j + 1, by congr 1, by omega, HP9.out⟩, by first | (simp [intOf]; done) | (simp [intOf]; omega)⟩
        · have u1 : decide ((j : Int) < 3) = false := by simp; omega
          go_wp2
          exact ⟨⟨i + 1, base6, L6, fp6, fq6, by congr 1, by omega, by omega, HP7.out⟩, by first | (simp [intOf]; done) | (simp [intOf]; omega)⟩
    · have t1 : Hid (decide (i < m) = true ∧ decide ((i : Int) < 40) = false ∨ decide (i < m) = false) := by
        have := HC.out
        unfold Hid
        by_cases h : i < m
        · left; exact ⟨by simp; omega, by simp; omega⟩
        · right; simp; omega
      obtain ⟨x, hx⟩ : ∃ x, mapI base wd L level = x := ⟨_, rfl⟩
      have HX := Lib.hid hx
      clear hx
      rcases t1.out with ⟨t2, t3⟩ | t2
      all_goals
        clear t1
        go_wp2_with fail
        refine (HP.out.1.map level).mono ?_
        rintro e w8 ⟨rfl, rfl⟩
        rw [HX.out]
        go_wp2_with fail
        refine (HP.out.rmap level).mono ?_
        rintro e w9 ⟨rfl, hU9⟩
        rw [HX.out]
        go_wp2
        go_ret
        exact ⟨rfl, HP.out.1.updW.trans hU9⟩
end Go.Proofs.YtbnifhdnpeiheaaDoor
