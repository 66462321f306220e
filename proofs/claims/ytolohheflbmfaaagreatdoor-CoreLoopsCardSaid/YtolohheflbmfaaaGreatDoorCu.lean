/-
  The walk of CorePlays. Condition: where a table of the library's lies.
-/
import Derived.Test.YtolohheflbmfaaaGreatDoorCt
set_option linter.unusedVariables false
set_option linter.unusedSimpArgs false
namespace Go.Proofs.YtolohheflbmfaaaGreatDoor
open Go.RowKit

theorem KP.updW {W w : World} {kb xb wd n : Nat} {s : CS} {F G : List Nat} (h : KP W kb xb wd n s F G w) : Upd [] W w := h.1.updW
def ActRow (W : World) (v : Value) (m : Nat) (D : Nat → Nat → Value) : Prop := FlatAt W [some .i64, some .i64, some .i64, some .i64, some .i64, some .u64, none] v m D
def CPlaysAt (W : World) (kb xb V c : Nat) (iv : Value) (wr : World) : Prop := ∃ (i : Nat) (s : CS) (F G : List Nat), iv = .int .i64 i ∧ i ≤ c ∧ KP W kb xb V i s F G wr

set_option maxRecDepth 100000 in
set_option maxHeartbeats 64000000 in
theorem cplays_walk (sh sl wo wd : Int) (un : Nat) (v : Value) (m : Nat) (D : Nat → Nat → Value) (W : World) (hT : TabAt 0 Lib.deBruijn64tab W) (_ : un < 18446744073709551616) (hv : ActRow W v m D) :
    Calls Tryz.prog 4 #[.agg #[.int .i64 sh, .int .i64 sl, .int .i64 wo, .int .i64 wd, .int .u64 un], v] W (RetUpd [] W (.bool true)) := by
  obtain ⟨ao, cap, rfl, hmm, hD⟩ := act_cells hv
  unfold maxLen at hmm
  have HD := Lib.hid hD
  have HT := Lib.hid hT
  clear hD hv hT
  obtain ⟨c, hc⟩ : ∃ c : Nat, Min.min m 80 = c := ⟨_, rfl⟩
  have hcm : c ≤ m := by omega
  have hc40 : c ≤ 80 := by omega
  have HC : Hid (Min.min m 80 = c) := hc
  clear hc
  go_enter Tryz.func4, Tryz.ntmps4
  go_wp2_with fail
  refine (made21_any W sh sl wo wd un _ ((Upd.refl [] W).alloc _) HT.out).mono ?_
  rintro e1 w1 ⟨kb, xb, V, m0, F0, G0, rfl, hP, -, -⟩
  have HP1 := Lib.hid hP
  clear hP
  go_wp2_with fail
  refine (awake21_any _ (tab_upd HT.out HP1.out.updW)).mono ?_
  rintro e w2 ⟨rfl, hU⟩
  have HP2 := Lib.hid (HP1.out.upd hU)
  clear hU HP1
  go_wp2_with fail
  go_loopw [7] (fun iv wr => CPlaysAt W kb xb V c iv wr) (fun iv _ => c - (intOf iv).toNat)
  case atStart => exact ⟨0, _, _, _, rfl, Nat.zero_le _, HP2.out⟩
  case round =>
    clear HP2
    obtain ⟨i, s, F, G, rfl, hi, hP⟩ := hrel
    have HP := Lib.hid hP
    clear hP
    by_cases hlt : i < c
    · skip
      rcases HD.out with h0 | ⟨bd, off, rfl, hb1, hcc⟩
      · omega
      obtain ⟨k, o, z, f, mo, r, more, c0, c1, c2, c3, c4, c5, c6, hz, hr⟩ := hcc i (by omega)
      have hUW := HP.out.updW
      rw [← hUW.cell hb1 (by simp)] at c0 c1 c2 c3 c4 c5 c6
      have lbd := Nat.lt_of_lt_of_le hb1 hUW.size
      have him : i < m := by omega
      have t1 : decide (i < m) = true := by simp; omega
      have t2 : decide ((i : Int) < 80) = true := by simp; omega
      have b1 : (i : Int) < (m : Int) := by omega
      have HZ := Lib.hid hz
      have HR := Lib.hid hr
      have HLC := Lib.hid hlt
      have HI1 : Hid (i + 1 ≤ c) := hlt
      have HI80 : Hid (i + 1 ≤ 100) := by unfold Hid; omega
      clear hcc hb1 hz hr hUW
      go_wp2_with fail
      refine (step21_any HP.out (by omega) k o z f mo r more HZ.out HR.out).mono ?_
      rintro e w6 ⟨rfl, s2, F2, G2, hP2, -, -, -⟩
      have HP6 := Lib.hid hP2
      clear hP2
      go_wp2_with fail
      refine (looks21_any HP6.out (by omega)).mono ?_
      rintro e w7 ⟨rfl, hU7⟩
      have HP7 := Lib.hid (HP6.out.upd hU7)
      clear hU7
      go_wp2
      exact ⟨⟨i + 1, s2, F2, G2, by congr 1, HI1.out, HP7.out⟩, inner_measR HLC.out⟩
    · skip
      have t1 : Hid (decide (i < m) = true ∧ decide ((i : Int) < 80) = false ∨ decide (i < m) = false) := by
        have := HC.out
        unfold Hid
        by_cases h : i < m
        · left; exact ⟨by simp; omega, by simp; omega⟩
        · right; simp; omega
      rcases t1.out with ⟨t2, t3⟩ | t2
      all_goals
        clear t1
        go_wp2
        go_ret
        exact ⟨rfl, HP.out.updW⟩
end Go.Proofs.YtolohheflbmfaaaGreatDoor
