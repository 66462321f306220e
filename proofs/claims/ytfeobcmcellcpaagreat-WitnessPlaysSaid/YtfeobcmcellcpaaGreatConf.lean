/-
  The walk of the statements' Config. No condition.
-/
import Derived.Test.YtfeobcmcellcpaaGreatPB
import Derived.Test.YtfeobcmcellcpaaGreatQuiet
set_option linter.unusedVariables false
set_option linter.unusedSimpArgs false
namespace Go.Proofs.YtfeobcmcellcpaaGreat
open Go.RowKit

/-- Config tells a config that may be. -/
def ConfTo (w : World) (e : Ending) (w' : World) : Prop := ∃ (a b c d : Int) (u : Nat), e = .returned (.agg #[.int .i64 a, .int .i64 b, .int .i64 c, .int .i64 d, .int .u64 u]) ∧ (1 ≤ a ∧ a ≤ 4) ∧ (1 ≤ b ∧ b ≤ 4) ∧ (1 ≤ c ∧ c ≤ 6) ∧ (0 ≤ d ∧ d < 12) ∧ (1 ≤ u ∧ u ≤ 4611686018427387904) ∧ Upd [] w w'
theorem conf_done {w w' : World} {a b c d : Int} {u : Nat} (ha : 1 ≤ a ∧ a ≤ 4) (hb : 1 ≤ b ∧ b ≤ 4) (hc : 1 ≤ c ∧ c ≤ 6) (hd : 0 ≤ d ∧ d < 12) (hu : 1 ≤ u ∧ u ≤ 4611686018427387904) (hU : Upd [] w w') :
    ConfTo w (.returned (.agg #[.int .i64 a, .int .i64 b, .int .i64 c, .int .i64 d, .int .u64 u])) w' := ⟨a, b, c, d, u, rfl, ha, hb, hc, hd, hu, hU⟩

set_option maxHeartbeats 4000000 in
set_option maxRecDepth 100000 in
theorem conf_any (sh sl wo wd : Int) (un : Nat) (w : World) : Calls Tryz.prog 40 #[.agg #[.int .i64 sh, .int .i64 sl, .int .i64 wo, .int .i64 wd, .int .u64 un]] w (ConfTo w) := by
  obtain ⟨a, ha⟩ : ∃ q, modI sh 4 = q := ⟨_, rfl⟩
  obtain ⟨b, hb⟩ : ∃ q, modI sl 4 = q := ⟨_, rfl⟩
  obtain ⟨c, hc⟩ : ∃ q, modI wo 6 = q := ⟨_, rfl⟩
  obtain ⟨d, hd⟩ : ∃ q, modI wd 12 = q := ⟨_, rfl⟩
  have ba := modI_bd sh 4 (by omega) (by omega)
  have bb := modI_bd sl 4 (by omega) (by omega)
  have bc := modI_bd wo 6 (by omega) (by omega)
  have bd := modI_bd wd 12 (by omega) (by omega)
  rw [ha] at ba
  rw [hb] at bb
  rw [hc] at bc
  rw [hd] at bd
  have wa : wrap64 (1 + a) = 1 + a := by unfold wrap64; omega
  have wb : wrap64 (1 + b) = 1 + b := by unfold wrap64; omega
  have wc : wrap64 (1 + c) = 1 + c := by unfold wrap64; omega
  have va : IntKind.i64.wrap (1 + a) = 1 + a := by rw [IntKind.wrap_i64]; omega
  have vb : IntKind.i64.wrap (1 + b) = 1 + b := by rw [IntKind.wrap_i64]; omega
  have vc : IntKind.i64.wrap (1 + c) = 1 + c := by rw [IntKind.wrap_i64]; omega
  have HB1 : Hid ((1 ≤ 1 + a ∧ 1 + a ≤ 4) ∧ (1 ≤ 1 + b ∧ 1 + b ≤ 4) ∧ (1 ≤ 1 + c ∧ 1 + c ≤ 6) ∧ (0 ≤ d ∧ d < 12)) := ⟨by omega, by omega, by omega, by omega⟩
  have HA : Hid (∀ w, Calls Tryz.prog 13 #[.int .i64 sh, .int .i64 4] w (fun e w' => e = .returned (.int .i64 a) ∧ w = w')) := fun w => by rw [← ha]; exact mod_any sh 4 (by omega) (by omega) w
  have HB : Hid (∀ w, Calls Tryz.prog 13 #[.int .i64 sl, .int .i64 4] w (fun e w' => e = .returned (.int .i64 b) ∧ w = w')) := fun w => by rw [← hb]; exact mod_any sl 4 (by omega) (by omega) w
  have HC : Hid (∀ w, Calls Tryz.prog 13 #[.int .i64 wo, .int .i64 6] w (fun e w' => e = .returned (.int .i64 c) ∧ w = w')) := fun w => by rw [← hc]; exact mod_any wo 6 (by omega) (by omega) w
  have HD : Hid (∀ w, Calls Tryz.prog 13 #[.int .i64 wd, .int .i64 12] w (fun e w' => e = .returned (.int .i64 d) ∧ w = w')) := fun w => by rw [← hd]; exact mod_any wd 12 (by omega) (by omega) w
  obtain ⟨u4, hu4⟩ : ∃ q, un % 4 = q := ⟨_, rfl⟩
  obtain ⟨u5, hu5⟩ : ∃ q, 1 + un % 5000 = q := ⟨_, rfl⟩
  obtain ⟨u6, hu6⟩ : ∃ q, 1 + un % 4611686018427387904 = q := ⟨_, rfl⟩
  have h4 : (un : Int) % 4 = (u4 : Int) := by omega
  have h4t : ((un : Int)).tmod 4 = (u4 : Int) := by rw [Int.tmod_eq_emod_of_nonneg (by omega)]; exact h4
  have h5 : IntKind.u64.wrap (1 + (un : Int) % 5000) = (u5 : Int) := by rw [IntKind.wrap_u64]; omega
  have h5t : IntKind.u64.wrap (1 + ((un : Int)).tmod 5000) = (u5 : Int) := by rw [Int.tmod_eq_emod_of_nonneg (by omega)]; exact h5
  have h6 : IntKind.u64.wrap (1 + (un : Int) % 4611686018427387904) = (u6 : Int) := by rw [IntKind.wrap_u64]; omega
  have h6t : IntKind.u64.wrap (1 + ((un : Int)).tmod 4611686018427387904) = (u6 : Int) := by rw [Int.tmod_eq_emod_of_nonneg (by omega)]; exact h6
  have H5 : Hid (1 ≤ u5 ∧ u5 ≤ 4611686018427387904) := by unfold Hid; omega
  have H6 : Hid (1 ≤ u6 ∧ u6 ≤ 4611686018427387904) := by unfold Hid; omega
  clear ha hb hc hd ba bb bc bd hu5 hu6
  by_cases hq : u4 = 3
  · have ta : (u4 == 3) = true := by simp [hq]
    have tb : ((u4 : Int) == 3) = true := by simp [hq]
    clear hq hu4
    go_enter Tryz.func40, Tryz.ntmps40
    go_wp2_with fail
    refine wp_region_tail 17 (by kernel_rfl) (by kernel_rfl) ?_
    simp only [List.take_succ_cons, List.take_zero, List.drop_succ_cons, List.drop_zero]
    repeat (go_big_quiet_step (fail))
    go_big_quiet_step (exact ((HA.out _).mono (fun _ _ h => ⟨h.1, h.2.symm⟩)) _)
    repeat (go_big_quiet_step (fail))
    go_big_quiet_step (exact ((HB.out _).mono (fun _ _ h => ⟨h.1, h.2.symm⟩)) _)
    repeat (go_big_quiet_step (fail))
    go_big_quiet_step (exact ((HC.out _).mono (fun _ _ h => ⟨h.1, h.2.symm⟩)) _)
    repeat (go_big_quiet_step (fail))
    go_big_quiet_step (exact ((HD.out _).mono (fun _ _ h => ⟨h.1, h.2.symm⟩)) _)
    repeat (go_big_quiet_step (fail))
    refine wpQuiet_nil ?_
    go_wp2_with fail
    refine bodyPost_ret (v := .agg #[.int .i64 (1 + a), .int .i64 (1 + b), .int .i64 (1 + c), .int .i64 d, .int .u64 u6]) (by simp [results, Tryz.results40, go_sem]) rfl ?_
    exact conf_done HB1.out.1 HB1.out.2.1 HB1.out.2.2.1 HB1.out.2.2.2 H6.out (((Upd.refl [] w).alloc _).alloc _).drew
  · have ta : (u4 == 3) = false := by simp [hq]
    have tb : ((u4 : Int) == 3) = false := by simp; omega
    clear hq hu4
    go_enter Tryz.func40, Tryz.ntmps40
    go_wp2_with fail
    refine wp_region_tail 17 (by kernel_rfl) (by kernel_rfl) ?_
    simp only [List.take_succ_cons, List.take_zero, List.drop_succ_cons, List.drop_zero]
    repeat (go_big_quiet_step (fail))
    go_big_quiet_step (exact ((HA.out _).mono (fun _ _ h => ⟨h.1, h.2.symm⟩)) _)
    repeat (go_big_quiet_step (fail))
    go_big_quiet_step (exact ((HB.out _).mono (fun _ _ h => ⟨h.1, h.2.symm⟩)) _)
    repeat (go_big_quiet_step (fail))
    go_big_quiet_step (exact ((HC.out _).mono (fun _ _ h => ⟨h.1, h.2.symm⟩)) _)
    repeat (go_big_quiet_step (fail))
    go_big_quiet_step (exact ((HD.out _).mono (fun _ _ h => ⟨h.1, h.2.symm⟩)) _)
    repeat (go_big_quiet_step (fail))
    refine wpQuiet_nil ?_
    go_wp2_with fail
    refine bodyPost_ret (v := .agg #[.int .i64 (1 + a), .int .i64 (1 + b), .int .i64 (1 + c), .int .i64 d, .int .u64 u5]) (by simp [results, Tryz.results40, go_sem]) rfl ?_
    exact conf_done HB1.out.1 HB1.out.2.1 HB1.out.2.2.1 HB1.out.2.2.2 H5.out (((Upd.refl [] w).alloc _).alloc _).drew
end Go.Proofs.YtfeobcmcellcpaaGreat
