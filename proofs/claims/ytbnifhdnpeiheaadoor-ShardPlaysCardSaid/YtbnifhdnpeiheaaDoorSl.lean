/-
  The walk of ShardPlays. Condition: where a table of the library's lies.
-/
import Derived.Test.YtbnifhdnpeiheaaDoorSk
import Derived.Test.YtbnifhdnpeiheaaDoorPB
import Derived.Test.YtbnifhdnpeiheaaDoorPS
import Derived.Deep.RegionLaw
set_option linter.unusedVariables false
set_option linter.unusedSimpArgs false
namespace Go.Proofs.YtbnifhdnpeiheaaDoor
open Go.RowKit

def Plays6At (W : World) (wb b wd c : Nat) (iv : Value) (wr : World) : Prop := ∃ (i base : Nat) (L : List It) (fp fq : List Nat), iv = .int .i64 i ∧ i ≤ c ∧ L.length ≤ i ∧ SR W wb b base wd L fp fq wr

set_option maxRecDepth 100000 in
set_option maxHeartbeats 32000000 in
theorem splays_walk (width : Int) (v : Value) (m : Nat) (D : Nat → Nat → Int) (W : World) (hT : TabAt 0 Lib.deBruijn64tab W) (_ : (Lit.int .i64 width).wf = true) (hv : RowsAt W [.i64, .u64, .i64] v m D) :
    Calls Tryd.prog 10 #[.int .i64 width, v] W (RetUpd [] W (.bool true)) := by
  obtain ⟨ao, cap, rfl, hmm, hD⟩ := deed_cells hv
  unfold maxLen at hmm
  have HD := Lib.hid hD
  have HT := Lib.hid hT
  clear hD hv hT
  obtain ⟨c, hc⟩ : ∃ c : Nat, min m 80 = c := ⟨_, rfl⟩
  have hcm : c ≤ m := by omega
  have hc80 : c ≤ 80 := by omega
  have HC : Hid (min m 80 = c) := hc
  clear hc
  go_enter Tryd.func10, Tryd.ntmps10
  go_wp2_with fail
  refine (smade_any W width W (Upd.refl [] W) HT.out).mono ?_
  rintro e1 w1 ⟨wb, b, wd, fp0, fq0, rfl, hP, -, -, -⟩
  have HP1 := Lib.hid hP
  clear hP
  go_wp2_with fail
  refine (awake6_any _ (tab_upd HT.out HP1.out.1.updW)).mono ?_
  rintro e w2 ⟨rfl, hU⟩
  have HP2 := Lib.hid (HP1.out.upd hU)
  clear hU HP1
  go_wp2
  go_loopw [7] (fun iv wr => Plays6At W wb b wd c iv wr) (fun iv _ => c - (intOf iv).toNat)
  case atStart => exact ⟨0, 0, [], _, _, rfl, by omega, by simp, HP2.out⟩
  case round =>
    clear HP2
    obtain ⟨i, base, L, fp, fq, rfl, hi, hLi, hP⟩ := hrel
    have HP := Lib.hid hP
    clear hP
    by_cases hlt : i < c
    · rcases HD.out with h0 | ⟨bd, off, rfl, hb1, hcc⟩
      · omega
      obtain ⟨c0, c1, c2, hk0, hk1⟩ := hcc i (by omega)
      rw [← HP.out.1.updW.cell hb1 (by simp)] at c0 c1 c2
      have him : i < m := by omega
      have t1 : decide (i < m) = true := by simp; omega
      have t2 : decide ((i : Int) < 80) = true := by simp; omega
      have b1 : (i : Int) < (m : Int) := by omega
      obtain ⟨k, hk⟩ : ∃ k, D i 0 = k := ⟨_, rfl⟩
      obtain ⟨key, hkey⟩ : ∃ k, D i 1 = k := ⟨_, rfl⟩
      obtain ⟨id, hid⟩ : ∃ k, D i 2 = k := ⟨_, rfl⟩
      rw [hk] at c0
      rw [hkey] at c1 hk0 hk1
      rw [hid] at c2
      obtain ⟨kk, rfl⟩ := Int.eq_ofNat_of_zero_le hk0
      have hkk : kk < 18446744073709551616 := by omega
      clear hcc hb1 hk hkey hid hk1
      go_wp2_with fail
      go_region_law (first | (go_simp; go_at_call 42; refine (step6_any W wb b base wd L fp fq k id kk hkk _ (HP.out.upd (Upd.refl [] wr).drew) (by omega)).mono ?_; rintro e w6 h6; obtain ⟨rfl, base6, L6, fp6, fq6, hP6, hl6⟩ := h6.to; obtain ⟨ao6, cap6, hB6, -⟩ := hP6.2.1.cells; have q0 := hB6.cell (j := 0) rfl; have q1 := hB6.cell (j := 1) rfl; have lb6 := hB6.lt; obtain ⟨n6, hn6⟩ : ∃ n, L6.length = n := ⟨_, rfl⟩; rw [hn6] at q0 hl6; have HN6 := Lib.hid hn6; obtain ⟨f6, hf6⟩ : ∃ n, farN base6 wd L6 = n := ⟨_, rfl⟩; have HF6 := Lib.hid hf6; have HP6 := Lib.hid hP6; clear hP6 hn6 hB6 h6 hf6) | (go_simp; go_at_call 43; refine HP6.out.1.base_.mono ?_; rintro e w7 ⟨rfl, rfl⟩) | (go_simp; go_at_call 44; refine HP6.out.1.len.mono ?_; rintro e w7 ⟨rfl, hU7⟩; rw [HN6.out]; have HP7 := Lib.hid (HP6.out.upd hU7); have r0 := (hU7.cell lb6 (by simp) 0).trans q0; have lb7 := Nat.lt_of_lt_of_le lb6 hU7.size; clear hU7) | (go_simp; go_at_call 45; refine HP7.out.1.over_.mono ?_; rintro e w8 ⟨rfl, hU8⟩; rw [HF6.out]; have HP8 := Lib.hid (HP7.out.upd hU8); clear hU8) | (go_simp; go_at_call 46; refine HP8.out.over_.mono ?_; rintro e w9 ⟨rfl, hU9⟩; rw [HF6.out]; have HP9 := Lib.hid (HP8.out.upd hU9); clear hU9))
      all_goals
        go_wp2
        exact ⟨⟨i + 1, base6, L6, fp6, fq6, by congr 1, by omega, by have := HN6.out; omega, HP9.out⟩, by first | (simp [intOf]; done) | (simp [intOf]; omega)⟩
    · have t1 : Hid (decide (i < m) = true ∧ decide ((i : Int) < 80) = false ∨ decide (i < m) = false) := by
        have := HC.out
        unfold Hid
        by_cases h : i < m
        · left; exact ⟨by simp; omega, by simp; omega⟩
        · right; simp; omega
      obtain ⟨ao6, cap6, hB6, hR, -⟩ := HP.out.2.1.cells
      have q0 := hB6.cell (j := 0) rfl
      have lb6 := hB6.lt
      obtain ⟨n, hn⟩ : ∃ n, L.length = n := ⟨_, rfl⟩
      rw [hn] at q0 hR
      have HN := Lib.hid hn
      have HR := Lib.hid hR
      have hn80 : n ≤ 80 := by omega
      clear hn hR hLi hB6
      rcases t1.out with ⟨t2, t3⟩ | t2
      all_goals
        clear t1
        go_wp2_with fail
        go_region_held3 (fun w2 => Upd [] wr w2 ∧ ∀ (b o : Nat), b < wr.heap.size → b ∉ ([] : List Nat) → w2.cell? ⟨b, o, none⟩ = wr.cell? ⟨b, o, none⟩)
          (first | exact Held.init _ _ | assumption | exact Held.step (by assumption) hBb | exact Held.step (by assumption) hBa)
          (first | (go_at_call 47; refine ((HP.out.upd (Upd.refl [] wr).drew).1.all).mono ?_; rintro e w6 ⟨aoa, capa, rfl, hRa, -, hBa⟩; rw [HN.out] at hRa ⊢; have HRa := Lib.hid hRa; clear hRa) | (go_at_call 33; refine (plain_any aoa ao6 n capa cap6 L _ HN.out (by omega) HRa.out (HR.out.upd ((Upd.refl [] wr).drew.trans hBa) (by simp))).mono ?_; rintro e w7 ⟨rfl, hBb⟩))
        go_wp2
        go_ret
        exact ⟨rfl, ((HP.out.1.updW.trans ((Upd.refl [] wr).drew.trans hBa)).trans hBb)⟩
end Go.Proofs.YtbnifhdnpeiheaaDoor
