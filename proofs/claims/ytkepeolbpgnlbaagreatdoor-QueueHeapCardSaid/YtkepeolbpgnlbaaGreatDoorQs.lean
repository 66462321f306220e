/-
  The walk of QueuePlays. Condition: where a table of the library's lies.
-/
import Derived.Test.YtkepeolbpgnlbaaGreatDoorQr
import Derived.Test.YtkepeolbpgnlbaaGreatDoorQp
import Derived.Test.YtkepeolbpgnlbaaGreatDoorPS
set_option linter.unusedVariables false
set_option linter.unusedSimpArgs false
namespace Go.Proofs.YtkepeolbpgnlbaaGreatDoor
open Go.RowKit

set_option maxRecDepth 100000 in
set_option maxHeartbeats 64000000 in
theorem qplays_walk (sh width : Int) (v : Value) (m : Nat) (D : Nat → Nat → Int) (W : World) (hT : TabAt 0 Lib.deBruijn64tab W) (_ : (Lit.int .i64 sh).wf = true) (_ : (Lit.int .i64 width).wf = true) (hv : RowsAt W [.i64, .u64, .i64] v m D) :
    Calls Tryz.prog 5 #[.int .i64 sh, .int .i64 width, v] W (RetUpd [] W (.bool true)) := by
  obtain ⟨ao, cap, rfl, hmm, hD⟩ := deed_cells hv
  unfold maxLen at hmm
  have HD := Lib.hid hD
  have HT := Lib.hid hT
  clear hD hv hT
  obtain ⟨c, hc⟩ : ∃ c : Nat, Min.min m 80 = c := ⟨_, rfl⟩
  have hcm : c ≤ m := by omega
  have hc40 : c ≤ 80 := by omega
  have HC : Hid (Min.min m 80 = c) := hc
  clear hc
  go_enter Tryz.func5, Tryz.ntmps5
  go_wp2_with fail
  refine (qmade_any W sh width W (Upd.refl [] W) HT.out).mono ?_
  rintro e1 w1 ⟨qb, rb, V, m0, fp0, fq0, rfl, hP, -, -, -⟩
  have HP1 := Lib.hid hP
  clear hP
  go_wp2_with fail
  refine (awake8_any _ (tab_upd HT.out HP1.out.1.updW)).mono ?_
  rintro e w2 ⟨rfl, hU⟩
  have HP2 := Lib.hid (HP1.out.upd hU)
  clear hU HP1
  go_wp2_with fail
  go_loopw [9] (fun iv wr => QBasesAt W qb rb V c iv wr) (fun iv _ => c - (intOf iv).toNat)
  case atStart => exact ⟨0, _, [], _, _, rfl, Nat.zero_le _, Nat.le_refl _, HP2.out⟩
  case round =>
    clear HP2
    obtain ⟨i, M, L, fp, fq, rfl, hi, hLi, hP⟩ := hrel
    have HP := Lib.hid hP
    clear hP
    by_cases hlt : i < c
    · skip
      rcases HD.out with h0 | ⟨bd, off, rfl, hb1, hcc⟩
      · omega
      obtain ⟨c0, c1, c2, hk0, hk1⟩ := hcc i (by omega)
      have hUW := HP.out.1.updW
      rw [← hUW.cell hb1 (by simp)] at c0 c1 c2
      have lbd := Nat.lt_of_lt_of_le hb1 hUW.size
      have him : i < m := by omega
      have t1 : decide (i < m) = true := by simp; omega
      have t2 : decide ((i : Int) < 80) = true := by simp; omega
      have b1 : (i : Int) < (m : Int) := by omega
      obtain ⟨k, hk⟩ : ∃ k, D i 0 = k := ⟨_, rfl⟩
      obtain ⟨key, hkey⟩ : ∃ k, D i 1 = k := ⟨_, rfl⟩
      obtain ⟨id, hid⟩ : ∃ k, D i 2 = k := ⟨_, rfl⟩
      rw [hk] at c0
      rw [hkey] at c1 hk0 hk1
      rw [hid] at c2
      obtain ⟨kk, rfl⟩ := Int.eq_ofNat_of_zero_le hk0
      have HKK : Hid (kk < 18446744073709551616) := by unfold Hid; omega
      have HLL : Hid (L.length < 1000) := by unfold Hid; omega
      have HLS : Hid (L.length ≤ i) := hLi
      have HLC := Lib.hid hlt
      have HI1 : Hid (i + 1 ≤ c) := hlt
      have HI80 : Hid (i + 1 ≤ 100) := by unfold Hid; omega
      clear hcc hb1 hk hkey hid hk0 hk1 hLi hUW
      go_wp2_with fail
      refine (step8_any W qb rb V M L fp fq k id kk HKK.out _ HP.out HLL.out).mono ?_
      rintro e w6 ⟨rfl, M2, L2, fp2, fq2, hP2, -, -, -, hl6, -, -, -⟩
      have HL2 : Hid (L2.length ≤ i + 1) := by unfold Hid; have := HLS.out; omega
      have HP6 := Lib.hid hP2
      have HOK := Lib.hid hP2.1.ok
      have HSM2 : Hid (L2.length < 1000) := by unfold Hid; have := HL2.out; have := HI80.out; omega
      clear hP2 hl6
      go_wp2_with fail
      refine (HP6.out.1.len (Nat.le_of_lt (Nat.lt_of_lt_of_le HSM2.out (by omega)))).mono ?_
      rintro e w7 ⟨rfl, hU7⟩
      have HP7 := Lib.hid (HP6.out.upd hU7)
      clear hU7
      go_wp2_with fail
      refine (HP7.out.2.1.all HOK.out HSM2.out).mono ?_
      rintro e w8 ⟨ao1, cap1, rfl, -, -, hU8⟩
      have HP8 := Lib.hid (HP7.out.upd hU8)
      clear hU8
      go_wp2_with fail
      refine HP8.out.1.bases.mono ?_
      rintro e w9 ⟨ao2, cap2, rfl, hR2, -, hU9⟩
      have HR2 := Lib.hid hR2
      have HP9 := Lib.hid (HP8.out.upd hU9)
      clear hR2 hU9
      go_wp2_with fail
      refine (HP9.out.2.1.bases HOK.out.small).mono ?_
      rintro e w10 ⟨ao3, cap3, rfl, hR3, -, hU10⟩
      have hb2 := HR2.out.upd hU10 (by simp)
      rw [basesV_u] at hb2 hR3
      have HPL := Lib.hid (uplain_any ao2 ao3 M2.length cap2 cap3 _ w10 (by rw [List.length_map]) (Nat.le_trans HOK.out.small (by omega)) hb2 hR3)
      have HP10 := Lib.hid (HP9.out.upd hU10)
      clear hb2 hR3 hU10
      go_wp2_with fail
      refine HPL.out.mono ?_
      rintro e w11 ⟨rfl, hU11⟩
      have HP11 := Lib.hid (HP10.out.upd hU11)
      clear hU11
      go_wp2
      exact ⟨⟨i + 1, M2, L2, fp2, fq2, by congr 1, HI1.out, HL2.out, HP11.out⟩, inner_meas HLC.out⟩
    · skip
      have t1 : Hid (decide (i < m) = true ∧ decide ((i : Int) < 80) = false ∨ decide (i < m) = false) := by
        have := HC.out
        unfold Hid
        by_cases h : i < m
        · left; exact ⟨by simp; omega, by simp; omega⟩
        · right; simp; omega
      have HSM2 : Hid (L.length < 1000) := by unfold Hid; omega
      have HOK := Lib.hid HP.out.1.ok
      rcases t1.out with ⟨t2, t3⟩ | t2
      all_goals
        clear t1
        go_wp2_with fail
        refine (HP.out.1.all (Nat.le_of_lt HSM2.out)).mono ?_
        rintro e w3 ⟨ao1, cap1, rfl, hR1, -, hU3⟩
        have HR1 := Lib.hid hR1
        have HP3 := Lib.hid (HP.out.upd hU3)
        clear hR1 hU3
        go_wp2_with fail
        refine (HP3.out.2.1.all HOK.out HSM2.out).mono ?_
        rintro e w4 ⟨ao2, cap2, rfl, hR2, -, hU4⟩
        have HPL := Lib.hid (plain_any ao1 ao2 L.length cap1 cap2 L w4 rfl (Nat.le_of_lt HSM2.out) (HR1.out.upd hU4 (by simp)) hR2)
        have HP4 := Lib.hid (HP3.out.upd hU4)
        clear hR2 hU4
        go_wp2_with fail
        refine HPL.out.mono ?_
        rintro e w5 ⟨rfl, hU5⟩
        have HP5 := Lib.hid (HP4.out.upd hU5)
        clear hU5
        go_wp2
        go_ret
        exact ⟨rfl, HP5.out.1.updW⟩
end Go.Proofs.YtkepeolbpgnlbaaGreatDoor
