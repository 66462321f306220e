/-
  The walk of the law WitnessCall. No condition.
-/
import Derived.Test.YtmfndemnogpmcaaMs
import Derived.Test.YtmfndemnogpmcaaMp
set_option linter.unusedVariables false
set_option linter.unusedSimpArgs false
namespace Go.Proofs.Ytmfndemnogpmcaa
open Go.RowKit

/-- Mod by a length and one more: some number, not below 0, whatever the length. -/
theorem mod_len (v : Int) (n : Nat) (hn : n ≤ 9223372036854775807) : ∃ (q y : Int), IntKind.i64.wrap ((n : Int) + 1) = q ∧ wrap64 ((n : Int) + 1) = q ∧ 0 ≤ y ∧ ∀ w, Calls Try.prog 7 #[.int .i64 v, .int .i64 q] w (fun e w' => e = .returned (.int .i64 y) ∧ w = w') := by
  by_cases h : n = 9223372036854775807
  · subst h
    refine ⟨-9223372036854775808, wrap64 ((IntKind.u64.wrap v).tmod 9223372036854775808), by rw [IntKind.wrap_i64]; rfl, by unfold wrap64; rfl, ?_, fun w => ?_⟩
    · have h0 : 0 ≤ IntKind.u64.wrap v := by rw [IntKind.wrap_u64]; omega
      rw [Int.tmod_eq_emod_of_nonneg h0]
      unfold wrap64
      omega
    · go_enter Try.func7, Try.ntmps7
      go_wp2
      go_ret
      exact ⟨rfl, rfl⟩
  · refine ⟨(n : Int) + 1, modI v ((n : Int) + 1), by rw [IntKind.wrap_i64]; omega, by unfold wrap64; omega, (modI_bd v _ (by omega) (by omega)).1, fun w => mod_any v _ (by omega) (by omega) w⟩
theorem lvB_sub {ao : Option Addr} {n c x : Nat} (h : x ∈ lvB (.slice ao n c)) : x ∈ blkO ao := by
  cases ao with
  | none => simp [lvB] at h
  | some a =>
    cases n with
    | zero => simp [lvB] at h
    | succ n => simpa [lvB, blkO] using h

set_option maxRecDepth 100000 in
set_option maxHeartbeats 16000000 in
theorem wcall_walk (pv : Value) (p : Pl) (x : Pt) (near : Bool) (w : World) (hp : PlanAt w pv p) (hx : PtAt w x) : Calls Try.prog 3 #[pv, ptV x, .bool near] w (RetUpd [] w (.bool true)) := by
  obtain ⟨lv, rfl, hL⟩ := hp
  obtain ⟨⟨A, B, C, D, U⟩, E9⟩ := p
  obtain ⟨st, who9, place9, ⟨e9, LL, nn, vv⟩, xlv⟩ := x
  obtain ⟨lo, lc, hlv, -⟩ := hx
  simp only at hlv hL
  obtain ⟨k, hk⟩ : ∃ k, LL.length = k := ⟨_, rfl⟩
  rw [hk] at hlv
  subst hlv
  have HLS := Lib.hid hL
  obtain ⟨hlm, ao9, c9, rfl, -⟩ := lists_at hL
  obtain ⟨n9, hn⟩ : ∃ n, E9.length = n := ⟨_, rfl⟩
  have HN := Lib.hid hn
  rw [hn] at hlm ⊢
  have bn : n9 ≤ 9223372036854775807 := hlm
  unfold ptV
  simp only
  have h2 := two_new w 27 33 [.int .i64 A, .int .i64 B, .int .i64 C, .int .i64 D, .int .u64 U, .slice ao9 n9 c9] [.int .i64 st, .int .i64 who9, .int .i64 place9, .int .i64 e9, .slice lo k lc, .int .i64 nn, .int .u64 vv]
  obtain ⟨wz, hwz⟩ : ∃ y, ((w.alloc (.cells #[.int .i64 A, .int .i64 B, .int .i64 C, .int .i64 D, .int .u64 U, .slice ao9 n9 c9] 27)).alloc (.cells #[.int .i64 st, .int .i64 who9, .int .i64 place9, .int .i64 e9, .slice lo k lc, .int .i64 nn, .int .u64 vv] 33)) = y := ⟨_, rfl⟩
  obtain ⟨b3, hb3⟩ : ∃ y, w.heap.size = y := ⟨_, rfl⟩
  have hb34 : Blk wz b3 27 [.int .i64 A, .int .i64 B, .int .i64 C, .int .i64 D, .int .u64 U, .slice ao9 n9 c9] ∧ Blk wz (b3 + 1) 33 [.int .i64 st, .int .i64 who9, .int .i64 place9, .int .i64 e9, .slice lo k lc, .int .i64 nn, .int .u64 vv] ∧ Upd [] w wz := by
    rw [← hwz, ← hb3]; exact h2
  have HB3 := Lib.hid hb34.1
  have HB4 := Lib.hid hb34.2.1
  have HUZ := Lib.hid hb34.2.2
  have HW3 := Lib.hid hb3
  have HPL : Hid (PlanAt wz (.agg #[.int .i64 A, .int .i64 B, .int .i64 C, .int .i64 D, .int .u64 U, .slice ao9 n9 c9]) ⟨⟨A, B, C, D, U⟩, E9⟩) := by
    have := HLS.out.upd HUZ.out
    rw [HN.out] at this
    exact ⟨_, rfl, this⟩
  clear h2 hb34 hL hn hlm hk
  have HW4 : Hid (w.heap.size ≤ b3 + 1) := by have := HW3.out; unfold Hid; omega
  have HPW : Hid (∀ w', Upd [] w w' → PlanAt w' (.agg #[.int .i64 A, .int .i64 B, .int .i64 C, .int .i64 D, .int .u64 U, .slice ao9 n9 c9]) ⟨⟨A, B, C, D, U⟩, E9⟩) := fun w' hu => by
    have := HLS.out.upd hu
    rw [HN.out] at this
    exact ⟨_, rfl, this⟩
  obtain ⟨b4, hb4⟩ : ∃ y, b3 + 1 = y := ⟨_, rfl⟩
  rw [hb4] at HB4 HW4
  have HNE : Hid (b4 ≠ b3) := by unfold Hid; omega
  have y5 := HB3.out.cell (j := 5) rfl
  have ly := HB3.out.lt
  go_enter Try.func3, Try.ntmps3
  cases near with
  | false =>
    go_upto_region 9 with (fail)
    clear hwz hb3 hb4 y5 ly
    have y0 := HB3.out.cell (j := 0) rfl
    have y1 := HB3.out.cell (j := 1) rfl
    have y2 := HB3.out.cell (j := 2) rfl
    have y3 := HB3.out.cell (j := 3) rfl
    have y4 := HB3.out.cell (j := 4) rfl
    have y5 := HB3.out.cell (j := 5) rfl
    have ly := HB3.out.lt
    have x0 := HB4.out.cell (j := 0) rfl
    have x1 := HB4.out.cell (j := 1) rfl
    have x2 := HB4.out.cell (j := 2) rfl
    have x3 := HB4.out.cell (j := 3) rfl
    have x4 := HB4.out.cell (j := 4) rfl
    have x5 := HB4.out.cell (j := 5) rfl
    have x6 := HB4.out.cell (j := 6) rfl
    have lx := HB4.out.lt
    obtain ⟨RR, hRR⟩ : ∃ y, callP E9 ⟨st, who9, place9, ⟨e9, LL, nn, vv⟩, .slice lo k lc⟩ = y := ⟨_, rfl⟩
    have HC : Hid (∀ w', Upd [] wz w' → Calls Try.prog 9 #[.agg #[.int .i64 A, .int .i64 B, .int .i64 C, .int .i64 D, .int .u64 U, .slice ao9 n9 c9], .agg #[.int .i64 st, .int .i64 who9, .int .i64 place9, .int .i64 e9, .slice lo k lc, .int .i64 nn, .int .u64 vv]] w' (RetUpd [] w' (callV RR))) := fun w' hu => by
      have := wcall_any (p := ⟨⟨A, B, C, D, U⟩, E9⟩) (x := ⟨st, who9, place9, ⟨e9, LL, nn, vv⟩, .slice lo k lc⟩) (HPL.out.upd hu)
      rw [hRR] at this
      exact this
    have HD : Hid (∀ w', Upd [] wz w' → Calls Try.prog 10 #[.agg #[.int .i64 A, .int .i64 B, .int .i64 C, .int .i64 D, .int .u64 U, .slice ao9 n9 c9], .agg #[.int .i64 st, .int .i64 who9, .int .i64 place9, .int .i64 e9, .slice lo k lc, .int .i64 nn, .int .u64 vv]] w' (RetUpd [] w' (callV RR))) := fun w' hu => by
      have := dcall_any (p := ⟨⟨A, B, C, D, U⟩, E9⟩) (x := ⟨st, who9, place9, ⟨e9, LL, nn, vv⟩, .slice lo k lc⟩) (HPL.out.upd hu)
      rw [hRR] at this
      exact this
    have HAW := Lib.hid (fun w' => awake27_any w')
    clear hRR
    obtain ⟨cc, okk, hcv⟩ : ∃ (cc : Cl) (okk : Bool), callV RR = .tuple #[.agg #[.int .i64 cc.op, .int .i64 cc.flow, .int .i64 cc.a, .int .i64 cc.b], .bool okk] := by
      cases RR with
      | none => exact ⟨zCl, false, rfl⟩
      | some c => exact ⟨c, true, rfl⟩
    rw [hcv] at HC HD
    clear hcv
    go_wp2_with fail
    refine (HC.out _ (Upd.refl _ _)).mono ?_
    rintro e wa ⟨rfl, hua⟩
    have HUA := Lib.hid hua
    clear hua y0 y1 y2 y3 y4 y5 ly x0 x1 x2 x3 x4 x5 x6 lx
    have hb3 := HB3.out.upd HUA.out (by simp)
    have hb4 := HB4.out.upd HUA.out (by simp)
    have y0 := hb3.cell (j := 0) rfl
    have y1 := hb3.cell (j := 1) rfl
    have y2 := hb3.cell (j := 2) rfl
    have y3 := hb3.cell (j := 3) rfl
    have y4 := hb3.cell (j := 4) rfl
    have y5 := hb3.cell (j := 5) rfl
    have ly := hb3.lt
    have x0 := hb4.cell (j := 0) rfl
    have x1 := hb4.cell (j := 1) rfl
    have x2 := hb4.cell (j := 2) rfl
    have x3 := hb4.cell (j := 3) rfl
    have x4 := hb4.cell (j := 4) rfl
    have x5 := hb4.cell (j := 5) rfl
    have x6 := hb4.cell (j := 6) rfl
    have lx := hb4.lt
    clear hb3 hb4
    go_wp2_with fail
    refine (HD.out _ (HUA.out.trans ((Upd.refl [] wa).alloc _))).mono ?_
    rintro e wd ⟨rfl, hud⟩
    have hbA := (Blk.new wa 38 [.int .i64 cc.op, .int .i64 cc.flow, .int .i64 cc.a, .int .i64 cc.b]).upd hud (by simp)
    have HBA := Lib.hid hbA
    have HUD : Hid (Upd [] w wd) := HUZ.out.trans (HUA.out.trans (((Upd.refl [] wa).alloc _).trans hud))
    clear hbA hud y0 y1 y2 y3 y4 y5 ly x0 x1 x2 x3 x4 x5 x6 lx
    go_wp2_with fail
    refine (HAW.out _).mono ?_
    rintro e we ⟨rfl, hue⟩
    have hbD := (Blk.new wd 38 [.int .i64 cc.op, .int .i64 cc.flow, .int .i64 cc.a, .int .i64 cc.b]).upd hue (by simp)
    have hbA := (HBA.out.upd ((Upd.refl [] wd).alloc (.cells #[.int .i64 cc.op, .int .i64 cc.flow, .int .i64 cc.a, .int .i64 cc.b] 38)) (by simp)).upd hue (by simp)
    have HUE : Hid (Upd [] w we) := HUD.out.trans (((Upd.refl [] wd).alloc _).trans hue)
    have q0 := hbD.cell (j := 0) rfl
    have q1 := hbD.cell (j := 1) rfl
    have q2 := hbD.cell (j := 2) rfl
    have q3 := hbD.cell (j := 3) rfl
    have lq := hbD.lt
    have r0 := hbA.cell (j := 0) rfl
    have r1 := hbA.cell (j := 1) rfl
    have r2 := hbA.cell (j := 2) rfl
    have r3 := hbA.cell (j := 3) rfl
    have lr := hbA.lt
    clear hbD hbA hue
    go_wp2
    go_ret
    exact ⟨by first | rfl | simp, HUE.out⟩
  | true =>
    by_cases hn0 : 0 < n9
    · have t0 : decide (0 < n9) = true := by simp [hn0]
      have t0' : decide ((0 : Int) < (n9 : Int)) = true := decide_eq_true (by omega)
      have x1 := HB4.out.cell (j := 1) rfl
      have x2 := HB4.out.cell (j := 2) rfl
      have g1 := HB4.out.free 1
      have g2 := HB4.out.free 2
      have lx := HB4.out.lt
      obtain ⟨q, yy, hq1, hq2, hy0, hM⟩ := mod_len who9 n9 bn
      have HM := Lib.hid hM
      clear hM hn0
      go_wp2_with fail
      clear hwz hb3 hb4
      refine (HM.out _).mono ?_
      rintro e we ⟨rfl, rfl⟩
      go_wp2_with fail
      refine (mod_any _ 5 (by omega) (by omega) _).mono ?_
      rintro e we ⟨rfl, rfl⟩
      have hpb := modI_bd place9 5 (by omega) (by omega)
      obtain ⟨place9, hpl⟩ : ∃ v, modI place9 5 = v := ⟨_, rfl⟩
      rw [hpl] at hpb ⊢
      obtain ⟨who9, hwho⟩ : ∃ v, yy = v := ⟨_, rfl⟩
      rw [hwho] at hy0 ⊢
      clear hpl hwho hq1 hq2 HM t0 t0'
      go_upto_region 4 with (fail)
      obtain ⟨wy, hwy⟩ : ∃ v, (wz.setCell ⟨b4, 1, none⟩ (.int .i64 who9)).setCell ⟨b4, 2, none⟩ (.int .i64 place9) = v := ⟨_, rfl⟩
      have huy : Upd [b4] wz wy := by rw [← hwy]; exact ((Upd.refl [b4] wz).setCell (.inl (by simp)) _).setCell (.inl (by simp)) _
      have HB4 : Hid (Blk wy b4 33 [.int .i64 st, .int .i64 who9, .int .i64 place9, .int .i64 e9, .slice lo k lc, .int .i64 nn, .int .u64 vv]) := by unfold Hid; rw [← hwy]; exact (HB4.out.set 1 (.int .i64 who9)).set 2 (.int .i64 place9)
      have HB3 := Lib.hid (HB3.out.upd huy (by simpa using HNE.out.symm))
      have HUY : Hid (Upd [] w wy) := HUZ.out.then huy (fun _ _ h => h) (fun i hi hm => by have := HW4.out; simp only [List.mem_cons, List.not_mem_nil, or_false] at hm; omega)
      rw [hwy]
      clear hwy huy y5 ly x1 x2 g1 g2 lx HUZ HPL
      have y5 := HB3.out.cell (j := 5) rfl
      have ly := HB3.out.lt
      have x0 := HB4.out.cell (j := 0) rfl
      have x1 := HB4.out.cell (j := 1) rfl
      have x2 := HB4.out.cell (j := 2) rfl
      have lx := HB4.out.lt
      obtain ⟨m2, h2⟩ : ∃ v, modI st 2 = v := ⟨_, rfl⟩
      have HM2 : Hid (∀ w, Calls Try.prog 7 #[.int .i64 st, .int .i64 2] w (fun e w' => e = .returned (.int .i64 m2) ∧ w = w')) := fun w => by rw [← h2]; exact mod_any _ 2 (by omega) (by omega) w
      clear h2
      by_cases c1 : who9 < (n9 : Int)
      · have t1 : decide (who9 < (n9 : Int)) = true := by simp [c1]
        obtain ⟨i, hi⟩ : ∃ i : Nat, who9 = i := ⟨who9.toNat, by omega⟩
        rw [hi] at t1 c1 hy0 x1 HB4 ⊢
        have t1' : decide (i < n9) = true := decide_eq_true (by omega)
        obtain ⟨l, hl⟩ : ∃ l, E9[i]? = some l := ⟨_, List.getElem?_eq_getElem (by rw [HN.out]; omega)⟩
        obtain ⟨-, ao', cap', e1, hat⟩ := lists_at (HLS.out.upd HUY.out)
        rw [HN.out] at e1
        cases e1
        obtain ⟨gb, go, hao, lg, v0, hm, lo', lc', hlv, -⟩ := hat i l hl
        rw [hlv] at v0
        rw [hao] at y5
        obtain ⟨m, hmm⟩ : ∃ m, l.L.length = m := ⟨_, rfl⟩
        rw [hmm] at v0 hm
        have bm : m ≤ 9223372036854775807 := hm
        have bi : (i : Int) < (n9 : Int) := c1
        have HAO := Lib.hid hao
        clear hat hlv hl hmm hm hi hao
        by_cases c2 : place9 < (m : Int)
        · have t2 : decide (place9 < (m : Int)) = true := by simp [c2]
          clear c2
          by_cases c3 : m2 = 0
          · have t3 : (m2 == 0) = true := by simp [c3]
            clear c3
            go_quiet (first | (go_at_call 7; exact Calls.quiet_of_same ((HM2.out _).mono (fun _ _ h => ⟨h.1, h.2.symm⟩))))
            obtain ⟨wp, hwp⟩ : ∃ v, wy.drewN nq = v := ⟨_, rfl⟩
            have up : Upd [] wy wp := by rw [← hwp]; exact (Upd.refl [] wy).drewN _
            have HB3 := Lib.hid (HB3.out.upd up (by simp))
            have HB4 := Lib.hid (HB4.out.upd up (by simp))
            have HUP := Lib.hid (HUY.out.trans up)
            have HPP : Hid (Calls Try.prog 8 #[.agg #[.int .i64 A, .int .i64 B, .int .i64 C, .int .i64 D, .int .u64 U, .slice ao9 n9 c9], .int .i64 5] wp (PlTo wp)) := pplan_some (HPW.out _ HUP.out)
            rw [hwp]
            clear hwp up y5 x0 x1 x2 ly lx
            have y0 := HB3.out.cell (j := 0) rfl
            have y1 := HB3.out.cell (j := 1) rfl
            have y2 := HB3.out.cell (j := 2) rfl
            have y3 := HB3.out.cell (j := 3) rfl
            have y4 := HB3.out.cell (j := 4) rfl
            have y5 := HB3.out.cell (j := 5) rfl
            have ly := HB3.out.lt
            go_wp2_with fail
            refine HPP.out.mono ?_
            rintro e wq ⟨A, B, C, D, U, ao8, cap8, E8, rfl, hls8, hlen8, hnew8, huq⟩
            clear y0 y1 y2 y3 y4 y5 ly HPP HPW
            have HB3q := Lib.hid (HB3.out.upd huq (by simp))
            have HB4q := Lib.hid (HB4.out.upd huq (by simp))
            have HUQ := Lib.hid (HUP.out.trans huq)
            have HLQ := Lib.hid hls8
            have HPQ := Lib.hid huq
            have HL8 := Lib.hid hlen8
            have HNW8 := Lib.hid hnew8
            have HSP : Hid (b3 < wp.heap.size ∧ b4 < wp.heap.size) := ⟨HB3.out.lt, HB4.out.lt⟩
            clear hls8 hlen8 hnew8 huq
            have y0 := HB3q.out.cell (j := 0) rfl
            have y1 := HB3q.out.cell (j := 1) rfl
            have y2 := HB3q.out.cell (j := 2) rfl
            have y3 := HB3q.out.cell (j := 3) rfl
            have y4 := HB3q.out.cell (j := 4) rfl
            have y5 := HB3q.out.cell (j := 5) rfl
            have g0 := HB3q.out.free 0
            have g1 := HB3q.out.free 1
            have g2 := HB3q.out.free 2
            have g3 := HB3q.out.free 3
            have g4 := HB3q.out.free 4
            have g5 := HB3q.out.free 5
            have ly := HB3q.out.lt
            obtain ⟨n8, hn8⟩ : ∃ v, E8.length = v := ⟨_, rfl⟩
            have HN8 := Lib.hid hn8
            rw [hn8]
            go_upto_region 6 with (fail)
            obtain ⟨w6, hw6⟩ : ∃ v, (((((wq.setCell ⟨b3, 0, none⟩ (.int .i64 A)).setCell ⟨b3, 1, none⟩ (.int .i64 B)).setCell ⟨b3, 2, none⟩ (.int .i64 C)).setCell ⟨b3, 3, none⟩ (.int .i64 D)).setCell ⟨b3, 4, none⟩ (.int .u64 U)).setCell ⟨b3, 5, none⟩ (.slice ao8 n8 cap8) = v := ⟨_, rfl⟩
            have hu6 : Upd [b3] wq w6 := by rw [← hw6]; exact (((((Upd.refl [b3] wq).setCell (.inl (by simp)) _).setCell (.inl (by simp)) _).setCell (.inl (by simp)) _).setCell (.inl (by simp)) _).setCell (.inl (by simp)) _ |>.setCell (.inl (by simp)) _
            have hb6 : Blk w6 b3 27 [.int .i64 A, .int .i64 B, .int .i64 C, .int .i64 D, .int .u64 U, .slice ao8 n8 cap8] := by rw [← hw6]; exact (((((HB3q.out.set 0 (.int .i64 A)).set 1 (.int .i64 B)).set 2 (.int .i64 C)).set 3 (.int .i64 D)).set 4 (.int .u64 U)).set 5 (.slice ao8 n8 cap8)
            have hb46 := HB4q.out.upd hu6 (by simpa using HNE.out)
            rw [hw6]
            clear hw6 y0 y1 y2 y3 y4 y5 g0 g1 g2 g3 g4 g5 ly hn8
            obtain ⟨v1, hv1⟩ : ∃ v, w6.alloc (.cells #[.int .i64 5, .int .i64 0, .int .i64 3, .int .i64 0, .int .i64 5, .int .i64 0, .int .i64 99, .int .i64 0, .int .i64 6, .int .i64 0, .int .i64 4, .int .i64 0] 38) = v := ⟨_, rfl⟩
            obtain ⟨v2, hv2⟩ : ∃ v, v1.alloc (.cells #[.slice (some ⟨w6.heap.size, 0, none⟩) 3 3] 35) = v := ⟨_, rfl⟩
            have q1 : Upd [] w6 v1 := by rw [← hv1]; exact (Upd.refl [] w6).alloc _
            have q2 : Upd [] v1 v2 := by rw [← hv2]; exact (Upd.refl [] v1).alloc _
            have e1 : Blk v1 w6.heap.size 38 [.int .i64 5, .int .i64 0, .int .i64 3, .int .i64 0, .int .i64 5, .int .i64 0, .int .i64 99, .int .i64 0, .int .i64 6, .int .i64 0, .int .i64 4, .int .i64 0] := by rw [← hv1]; exact Blk.new w6 38 [.int .i64 5, .int .i64 0, .int .i64 3, .int .i64 0, .int .i64 5, .int .i64 0, .int .i64 99, .int .i64 0, .int .i64 6, .int .i64 0, .int .i64 4, .int .i64 0]
            have hrow : RowO v2 35 1 (some ⟨v1.heap.size, 0, none⟩) 1 1 ([(⟨.slice (some ⟨w6.heap.size, 0, none⟩) 3 3, [⟨5, 0, 3, 0⟩, ⟨5, 0, 99, 0⟩, ⟨6, 0, 4, 0⟩]⟩ : Li)].flatMap liVs) := by
              rw [← hv2]; exact (Row.mk' (cur := #[.slice (some ⟨w6.heap.size, 0, none⟩) 3 3]) rfl (heap_alloc_new v1 _) (Nat.le_refl _) (by simp [maxLen]) rfl rfl).o
            have HSZ6 : Hid (wp.heap.size ≤ w6.heap.size ∧ w6.heap.size < v1.heap.size ∧ v1.heap.size < v2.heap.size) := ⟨Nat.le_trans HPQ.out.size hu6.size, by rw [← hv1]; simp, by rw [← hv2]; simp⟩
            have HB36 := Lib.hid ((hb6.upd q1 (by simp)).upd q2 (by simp))
            have HB46 := Lib.hid ((hb46.upd q1 (by simp)).upd q2 (by simp))
            have HE12 := Lib.hid (e1.upd q2 (by simp))
            have HU6 := Lib.hid hu6
            have HQ12 := Lib.hid (q1.trans q2)
            have HROW := Lib.hid hrow
            obtain ⟨i0, hi0, hz0, hz1, hz2⟩ := info_parts infoCallS_
            have hsl8 := HLQ.out.1
            rw [HN8.out] at hsl8
            obtain ⟨_, _, es8, hm8, hxl8, hc8⟩ := hsl8
            cases es8
            have hone : ∀ u ∈ E8.flatMap liVs, u.oneCell' = true := fun u hu => by
              obtain ⟨x, hx, hxu⟩ := List.mem_flatMap.1 hu
              obtain ⟨a, b, e, -⟩ := HLQ.out.2 x hx
              simp only [liVs, List.mem_cons, List.not_mem_nil, or_false] at hxu
              rw [hxu, e]; rfl
            have HSRC : Hid (Src v2 1 ao8 n8 (E8.flatMap liVs)) := by
              refine ⟨hxl8, hone, ?_⟩
              rcases hc8 with h | ⟨b, off, rfl, hb, hc⟩
              · subst h
                cases ao8 with
                | none => exact .inl ⟨rfl, rfl⟩
                | some a => exact .inr ⟨a, rfl, fun j u hj => by rw [List.eq_nil_of_length_eq_zero (show (E8.flatMap liVs).length = 0 by omega)] at hj; simp at hj⟩
              · refine .inr ⟨_, rfl, fun j u hj => ?_⟩
                have hbb : b ≠ b3 := fun e => by have := HNW8.out.1 b (by simp [blkO]); have := HSP.out.1; omega
                rw [add_none, (HQ12.out).cell (Nat.lt_of_lt_of_le hb HU6.out.size) (by simp), HU6.out.cell hb (by simpa using hbb)]
                exact hc j u hj
            have HBD : Hid (1 + n8 ≤ maxLen ∧ (1 + n8) * 24 ≤ 140737488355328) := ⟨by unfold maxLen; have := HL8.out; have := HN8.out; omega, by have := HL8.out; have := HN8.out; omega⟩
            have y5 := HB36.out.cell (j := 5) rfl
            have ly := HB36.out.lt
            have fin8 : 1 + n8 ≤ 9223372036854775807 := by have := HL8.out; have := HN8.out; omega
            clear hb6 hb46 q1 q2 e1 hrow hone hc8 hxl8 hm8 hu6
            go_upto_region 7 with (at_builtin; (refine wpList_app2 _ (by rfl) _ _ _ (by rfl) 35 i0 _ 1 24 underlyingLists_ hi0 hz0 hz1 hz2 rfl (by omega) (some ⟨v1.heap.size, 0, none⟩) 1 1 ([(⟨.slice (some ⟨w6.heap.size, 0, none⟩) 3 3, [⟨5, 0, 3, 0⟩, ⟨5, 0, 99, 0⟩, ⟨6, 0, 4, 0⟩]⟩ : Li)].flatMap liVs) (by rfl) HROW.out ao8 n8 cap8 (E8.flatMap liVs) (by rfl) HSRC.out HBD.out.1 HBD.out.2 ?_); (intro ao3 cap3 w7 hA3; have hb37 := HB36.out.upd hA3.upd (fun hm => by have h1 := HSP.out; have h2 := HSZ6.out; simp [blkO] at hm; omega); have c5 := hb37.cell (j := 5) rfl; have f5 := hb37.free 5; have l5 := hb37.lt; have HB37 := Lib.hid hb37; have HA3 := Lib.hid hA3; clear hA3 hb37))
            have HU7 : Hid (Upd [] w w7) := by
              have h1 : Upd [] w w6 := HUQ.out.then HU6.out (fun _ _ h => h) (fun i hi hm => by have := HW3.out; simp only [List.mem_cons, List.not_mem_nil, or_false] at hm; omega)
              exact (h1.trans HQ12.out).then HA3.out.upd (fun _ _ h => h) (fun i hi hm => by have h1 := HSZ6.out; have h2 := HUP.out.size; simp [blkO] at hm; omega)
            have HUZ : Hid (Upd [] w (w7.setCell ⟨b3, 5, none⟩ (.slice ao3 (1 + n8) cap3))) := HU7.out.setCell (p := ⟨b3, 5, none⟩) (.inr (by have := HW3.out; show w.heap.size ≤ b3; omega)) _
            have HB3 := Lib.hid (HB37.out.set 5 (.slice ao3 (1 + n8) cap3))
            have HB4 := Lib.hid ((HB46.out.upd HA3.out.upd (fun hm => by have h1 := HSP.out; have h2 := HSZ6.out; simp [blkO] at hm; omega)).setFar (a := ⟨b3, 5, none⟩) HNE.out.symm (.slice ao3 (1 + n8) cap3))
            have HFAR : Hid (∀ c, c ∈ blkO ao3 → c ≠ b3 ∧ c ≠ b4) := fun c hc => by
              have h1 := HSP.out
              have h2 := HSZ6.out
              rcases HA3.out.at_ c hc with h | h
              · simp [blkO] at h; omega
              · omega
            have HPF : Hid (∀ w', Upd [b4] (w7.setCell ⟨b3, 5, none⟩ (.slice ao3 (1 + n8) cap3)) w' → PlanAt w' (.agg #[.int .i64 A, .int .i64 B, .int .i64 C, .int .i64 D, .int .u64 U, .slice ao3 (1 + n8) cap3]) ⟨⟨A, B, C, D, U⟩, ⟨.slice (some ⟨w6.heap.size, 0, none⟩) 3 3, [⟨5, 0, 3, 0⟩, ⟨5, 0, 99, 0⟩, ⟨6, 0, 4, 0⟩]⟩ :: E8⟩) := fun w' hu => by
              have us : Upd [b3] w7 (w7.setCell ⟨b3, 5, none⟩ (.slice ao3 (1 + n8) cap3)) := (Upd.refl [b3] w7).setCell (.inl (by simp)) _
              have s1 := HSP.out
              have s2 := HSZ6.out
              refine ⟨_, rfl, ?_, fun x hx => ?_⟩
              · have h1 := HA3.out.row.sl
                have h2 := (h1.updS us (fun c hc hm => by have := HFAR.out c (lvB_sub hc); simp only [List.mem_cons, List.not_mem_nil, or_false] at hm; omega)).updS hu (fun c hc hm => by have := HFAR.out c (lvB_sub hc); simp only [List.mem_cons, List.not_mem_nil, or_false] at hm; omega)
                rw [List.length_cons, HN8.out, Nat.add_comm n8 1]
                simpa using h2
              · rcases List.mem_cons.1 hx with rfl | hx
                · have h1 := HE12.out.sl 4 3 3 rfl (by simp [maxLen])
                  exact ((h1.updS HA3.out.upd (fun c hc hm => by simp [lvB, blkO] at hc hm; omega)).updS us (fun c hc hm => by simp [lvB] at hc hm; omega)).updS hu (fun c hc hm => by simp [lvB] at hc hm; omega)
                · have h1 := HLQ.out.2 x hx
                  have hl := h1.lvB_lt
                  have hn := HNW8.out.2 x hx
                  have hq6 := HU6.out.size
                  exact ((((h1.updS HU6.out (fun c hc hm => by have := hn c hc; simp only [List.mem_cons, List.not_mem_nil, or_false] at hm; omega)).upd HQ12.out).updS HA3.out.upd (fun c hc hm => by have := hl c hc; simp [blkO] at hm; omega)).updS us (fun c hc hm => by have := hn c hc; simp only [List.mem_cons, List.not_mem_nil, or_false] at hm; omega)).updS hu (fun c hc hm => by have := hn c hc; simp only [List.mem_cons, List.not_mem_nil, or_false] at hm; omega)
            have HPL := Lib.hid (HPF.out _ (Upd.refl _ _))
            clear y5 ly fin8
            obtain ⟨wz, hwz⟩ : ∃ v, w7.setCell ⟨b3, 5, none⟩ (.slice ao3 (1 + n8) cap3) = v := ⟨_, rfl⟩
            rw [hwz] at HUZ HB3 HB4 HPF HPL ⊢
            obtain ⟨n9, hn9⟩ : ∃ v, 1 + n8 = v := ⟨_, rfl⟩
            rw [hn9] at HB3 HPF HPL ⊢
            obtain ⟨ao9, hao9⟩ : ∃ v : Option Addr, v = ao3 := ⟨_, rfl⟩
            obtain ⟨c9, hc9⟩ : ∃ v, v = cap3 := ⟨_, rfl⟩
            rw [← hao9, ← hc9] at HB3 HPF HPL ⊢
            obtain ⟨E9, hE9⟩ : ∃ v : List Li, v = ⟨.slice (some ⟨w6.heap.size, 0, none⟩) 3 3, [⟨5, 0, 3, 0⟩, ⟨5, 0, 99, 0⟩, ⟨6, 0, 4, 0⟩]⟩ :: E8 := ⟨_, rfl⟩
            rw [← hE9] at HPF HPL
            clear hwz hn9 hao9 hc9 hE9 hi0 hz0 hz1 hz2 c5 f5 l5 hv1 hv2
            obtain ⟨who9, hwq⟩ : ∃ v : Int, (i : Int) = v := ⟨_, rfl⟩
            rw [hwq] at HB4 ⊢
            clear hwq
            obtain ⟨m3, h3⟩ : ∃ v, modI st 3 = v := ⟨_, rfl⟩
            have HM3 : Hid (∀ w, Calls Try.prog 7 #[.int .i64 st, .int .i64 3] w (fun e w' => e = .returned (.int .i64 m3) ∧ w = w')) := fun w => by rw [← h3]; exact mod_any _ 3 (by omega) (by omega) w
            have z0 := HB4.out.cell (j := 0) rfl
            have lz := HB4.out.lt
            clear h3
            go_wp2_with fail
            refine (HM3.out _).mono ?_
            rintro e we ⟨rfl, rfl⟩
            clear z0 lz
            by_cases d3 : m3 = 0
            · have s3 : (m3 == 0) = true := by simp [d3]
              have z3 := HB4.out.cell (j := 3) rfl
              have g3 := HB4.out.free 3
              have lz := HB4.out.lt
              clear d3
              go_upto_region 9 with (fail)
              have HB4 := Lib.hid (HB4.out.set 3 (.int .i64 1))
              have HB3 := Lib.hid (HB3.out.setFar (a := ⟨b4, 3, none⟩) HNE.out (.int .i64 1))
              have HUZ : Hid (Upd [] w (wz.setCell ⟨b4, 3, none⟩ (.int .i64 1))) := HUZ.out.setCell (p := ⟨b4, 3, none⟩) (.inr HW4.out) (.int .i64 1)
              have HPL := Lib.hid (HPF.out _ ((Upd.refl [b4] wz).setCell (p := ⟨b4, 3, none⟩) (.inl (by simp)) (.int .i64 1)))
              clear z3 g3 lz HPF
              obtain ⟨wx, hwx⟩ : ∃ v, wz.setCell ⟨b4, 3, none⟩ (.int .i64 1) = v := ⟨_, rfl⟩
              rw [hwx] at HB3 HB4 HUZ HPL ⊢
              clear hwx
              obtain ⟨wz, hwz2⟩ : ∃ v : World, v = wx := ⟨_, rfl⟩
              subst hwz2
              have y0 := HB3.out.cell (j := 0) rfl
              have y1 := HB3.out.cell (j := 1) rfl
              have y2 := HB3.out.cell (j := 2) rfl
              have y3 := HB3.out.cell (j := 3) rfl
              have y4 := HB3.out.cell (j := 4) rfl
              have y5 := HB3.out.cell (j := 5) rfl
              have ly := HB3.out.lt
              have x0 := HB4.out.cell (j := 0) rfl
              have x1 := HB4.out.cell (j := 1) rfl
              have x2 := HB4.out.cell (j := 2) rfl
              have x3 := HB4.out.cell (j := 3) rfl
              have x4 := HB4.out.cell (j := 4) rfl
              have x5 := HB4.out.cell (j := 5) rfl
              have x6 := HB4.out.cell (j := 6) rfl
              have lx := HB4.out.lt
              obtain ⟨RR, hRR⟩ : ∃ y, callP E9 ⟨st, who9, place9, ⟨1, LL, nn, vv⟩, .slice lo k lc⟩ = y := ⟨_, rfl⟩
              have HC : Hid (∀ w', Upd [] wz w' → Calls Try.prog 9 #[.agg #[.int .i64 A, .int .i64 B, .int .i64 C, .int .i64 D, .int .u64 U, .slice ao9 n9 c9], .agg #[.int .i64 st, .int .i64 who9, .int .i64 place9, .int .i64 1, .slice lo k lc, .int .i64 nn, .int .u64 vv]] w' (RetUpd [] w' (callV RR))) := fun w' hu => by
                have := wcall_any (p := ⟨⟨A, B, C, D, U⟩, E9⟩) (x := ⟨st, who9, place9, ⟨1, LL, nn, vv⟩, .slice lo k lc⟩) (HPL.out.upd hu)
                rw [hRR] at this
                exact this
              have HD : Hid (∀ w', Upd [] wz w' → Calls Try.prog 10 #[.agg #[.int .i64 A, .int .i64 B, .int .i64 C, .int .i64 D, .int .u64 U, .slice ao9 n9 c9], .agg #[.int .i64 st, .int .i64 who9, .int .i64 place9, .int .i64 1, .slice lo k lc, .int .i64 nn, .int .u64 vv]] w' (RetUpd [] w' (callV RR))) := fun w' hu => by
                have := dcall_any (p := ⟨⟨A, B, C, D, U⟩, E9⟩) (x := ⟨st, who9, place9, ⟨1, LL, nn, vv⟩, .slice lo k lc⟩) (HPL.out.upd hu)
                rw [hRR] at this
                exact this
              have HAW := Lib.hid (fun w' => awake27_any w')
              clear hRR
              obtain ⟨cc, okk, hcv⟩ : ∃ (cc : Cl) (okk : Bool), callV RR = .tuple #[.agg #[.int .i64 cc.op, .int .i64 cc.flow, .int .i64 cc.a, .int .i64 cc.b], .bool okk] := by
                cases RR with
                | none => exact ⟨zCl, false, rfl⟩
                | some c => exact ⟨c, true, rfl⟩
              rw [hcv] at HC HD
              clear hcv
              go_wp2_with fail
              refine (HC.out _ (Upd.refl _ _)).mono ?_
              rintro e wa ⟨rfl, hua⟩
              have HUA := Lib.hid hua
              clear hua y0 y1 y2 y3 y4 y5 ly x0 x1 x2 x3 x4 x5 x6 lx
              have hb3 := HB3.out.upd HUA.out (by simp)
              have hb4 := HB4.out.upd HUA.out (by simp)
              have y0 := hb3.cell (j := 0) rfl
              have y1 := hb3.cell (j := 1) rfl
              have y2 := hb3.cell (j := 2) rfl
              have y3 := hb3.cell (j := 3) rfl
              have y4 := hb3.cell (j := 4) rfl
              have y5 := hb3.cell (j := 5) rfl
              have ly := hb3.lt
              have x0 := hb4.cell (j := 0) rfl
              have x1 := hb4.cell (j := 1) rfl
              have x2 := hb4.cell (j := 2) rfl
              have x3 := hb4.cell (j := 3) rfl
              have x4 := hb4.cell (j := 4) rfl
              have x5 := hb4.cell (j := 5) rfl
              have x6 := hb4.cell (j := 6) rfl
              have lx := hb4.lt
              clear hb3 hb4
              go_wp2_with fail
              refine (HD.out _ (HUA.out.trans ((Upd.refl [] wa).alloc _))).mono ?_
              rintro e wd ⟨rfl, hud⟩
              have hbA := (Blk.new wa 38 [.int .i64 cc.op, .int .i64 cc.flow, .int .i64 cc.a, .int .i64 cc.b]).upd hud (by simp)
              have HBA := Lib.hid hbA
              have HUD : Hid (Upd [] w wd) := HUZ.out.trans (HUA.out.trans (((Upd.refl [] wa).alloc _).trans hud))
              clear hbA hud y0 y1 y2 y3 y4 y5 ly x0 x1 x2 x3 x4 x5 x6 lx
              go_wp2_with fail
              refine (HAW.out _).mono ?_
              rintro e we ⟨rfl, hue⟩
              have hbD := (Blk.new wd 38 [.int .i64 cc.op, .int .i64 cc.flow, .int .i64 cc.a, .int .i64 cc.b]).upd hue (by simp)
              have hbA := (HBA.out.upd ((Upd.refl [] wd).alloc (.cells #[.int .i64 cc.op, .int .i64 cc.flow, .int .i64 cc.a, .int .i64 cc.b] 38)) (by simp)).upd hue (by simp)
              have HUE : Hid (Upd [] w we) := HUD.out.trans (((Upd.refl [] wd).alloc _).trans hue)
              have q0 := hbD.cell (j := 0) rfl
              have q1 := hbD.cell (j := 1) rfl
              have q2 := hbD.cell (j := 2) rfl
              have q3 := hbD.cell (j := 3) rfl
              have lq := hbD.lt
              have r0 := hbA.cell (j := 0) rfl
              have r1 := hbA.cell (j := 1) rfl
              have r2 := hbA.cell (j := 2) rfl
              have r3 := hbA.cell (j := 3) rfl
              have lr := hbA.lt
              clear hbD hbA hue
              go_wp2
              go_ret
              exact ⟨by first | rfl | simp, HUE.out⟩
            · have s3 : (m3 == 0) = false := by simp [d3]
              clear d3 HPF
              have y0 := HB3.out.cell (j := 0) rfl
              have y1 := HB3.out.cell (j := 1) rfl
              have y2 := HB3.out.cell (j := 2) rfl
              have y3 := HB3.out.cell (j := 3) rfl
              have y4 := HB3.out.cell (j := 4) rfl
              have y5 := HB3.out.cell (j := 5) rfl
              have ly := HB3.out.lt
              have x0 := HB4.out.cell (j := 0) rfl
              have x1 := HB4.out.cell (j := 1) rfl
              have x2 := HB4.out.cell (j := 2) rfl
              have x3 := HB4.out.cell (j := 3) rfl
              have x4 := HB4.out.cell (j := 4) rfl
              have x5 := HB4.out.cell (j := 5) rfl
              have x6 := HB4.out.cell (j := 6) rfl
              have lx := HB4.out.lt
              obtain ⟨RR, hRR⟩ : ∃ y, callP E9 ⟨st, who9, place9, ⟨e9, LL, nn, vv⟩, .slice lo k lc⟩ = y := ⟨_, rfl⟩
              have HC : Hid (∀ w', Upd [] wz w' → Calls Try.prog 9 #[.agg #[.int .i64 A, .int .i64 B, .int .i64 C, .int .i64 D, .int .u64 U, .slice ao9 n9 c9], .agg #[.int .i64 st, .int .i64 who9, .int .i64 place9, .int .i64 e9, .slice lo k lc, .int .i64 nn, .int .u64 vv]] w' (RetUpd [] w' (callV RR))) := fun w' hu => by
                have := wcall_any (p := ⟨⟨A, B, C, D, U⟩, E9⟩) (x := ⟨st, who9, place9, ⟨e9, LL, nn, vv⟩, .slice lo k lc⟩) (HPL.out.upd hu)
                rw [hRR] at this
                exact this
              have HD : Hid (∀ w', Upd [] wz w' → Calls Try.prog 10 #[.agg #[.int .i64 A, .int .i64 B, .int .i64 C, .int .i64 D, .int .u64 U, .slice ao9 n9 c9], .agg #[.int .i64 st, .int .i64 who9, .int .i64 place9, .int .i64 e9, .slice lo k lc, .int .i64 nn, .int .u64 vv]] w' (RetUpd [] w' (callV RR))) := fun w' hu => by
                have := dcall_any (p := ⟨⟨A, B, C, D, U⟩, E9⟩) (x := ⟨st, who9, place9, ⟨e9, LL, nn, vv⟩, .slice lo k lc⟩) (HPL.out.upd hu)
                rw [hRR] at this
                exact this
              have HAW := Lib.hid (fun w' => awake27_any w')
              clear hRR
              obtain ⟨cc, okk, hcv⟩ : ∃ (cc : Cl) (okk : Bool), callV RR = .tuple #[.agg #[.int .i64 cc.op, .int .i64 cc.flow, .int .i64 cc.a, .int .i64 cc.b], .bool okk] := by
                cases RR with
                | none => exact ⟨zCl, false, rfl⟩
                | some c => exact ⟨c, true, rfl⟩
              rw [hcv] at HC HD
              clear hcv
              go_wp2_with fail
              refine (HC.out _ (Upd.refl _ _)).mono ?_
              rintro e wa ⟨rfl, hua⟩
              have HUA := Lib.hid hua
              clear hua y0 y1 y2 y3 y4 y5 ly x0 x1 x2 x3 x4 x5 x6 lx
              have hb3 := HB3.out.upd HUA.out (by simp)
              have hb4 := HB4.out.upd HUA.out (by simp)
              have y0 := hb3.cell (j := 0) rfl
              have y1 := hb3.cell (j := 1) rfl
              have y2 := hb3.cell (j := 2) rfl
              have y3 := hb3.cell (j := 3) rfl
              have y4 := hb3.cell (j := 4) rfl
              have y5 := hb3.cell (j := 5) rfl
              have ly := hb3.lt
              have x0 := hb4.cell (j := 0) rfl
              have x1 := hb4.cell (j := 1) rfl
              have x2 := hb4.cell (j := 2) rfl
              have x3 := hb4.cell (j := 3) rfl
              have x4 := hb4.cell (j := 4) rfl
              have x5 := hb4.cell (j := 5) rfl
              have x6 := hb4.cell (j := 6) rfl
              have lx := hb4.lt
              clear hb3 hb4
              go_wp2_with fail
              refine (HD.out _ (HUA.out.trans ((Upd.refl [] wa).alloc _))).mono ?_
              rintro e wd ⟨rfl, hud⟩
              have hbA := (Blk.new wa 38 [.int .i64 cc.op, .int .i64 cc.flow, .int .i64 cc.a, .int .i64 cc.b]).upd hud (by simp)
              have HBA := Lib.hid hbA
              have HUD : Hid (Upd [] w wd) := HUZ.out.trans (HUA.out.trans (((Upd.refl [] wa).alloc _).trans hud))
              clear hbA hud y0 y1 y2 y3 y4 y5 ly x0 x1 x2 x3 x4 x5 x6 lx
              go_wp2_with fail
              refine (HAW.out _).mono ?_
              rintro e we ⟨rfl, hue⟩
              have hbD := (Blk.new wd 38 [.int .i64 cc.op, .int .i64 cc.flow, .int .i64 cc.a, .int .i64 cc.b]).upd hue (by simp)
              have hbA := (HBA.out.upd ((Upd.refl [] wd).alloc (.cells #[.int .i64 cc.op, .int .i64 cc.flow, .int .i64 cc.a, .int .i64 cc.b] 38)) (by simp)).upd hue (by simp)
              have HUE : Hid (Upd [] w we) := HUD.out.trans (((Upd.refl [] wd).alloc _).trans hue)
              have q0 := hbD.cell (j := 0) rfl
              have q1 := hbD.cell (j := 1) rfl
              have q2 := hbD.cell (j := 2) rfl
              have q3 := hbD.cell (j := 3) rfl
              have lq := hbD.lt
              have r0 := hbA.cell (j := 0) rfl
              have r1 := hbA.cell (j := 1) rfl
              have r2 := hbA.cell (j := 2) rfl
              have r3 := hbA.cell (j := 3) rfl
              have lr := hbA.lt
              clear hbD hbA hue
              go_wp2
              go_ret
              exact ⟨by first | rfl | simp, HUE.out⟩
          · have t3 : (m2 == 0) = false := by simp [c3]
            clear c3
            go_quiet (first | (go_at_call 7; exact Calls.quiet_of_same ((HM2.out _).mono (fun _ _ h => ⟨h.1, h.2.symm⟩))))
            obtain ⟨wz, hwz⟩ : ∃ v, wy.drewN nq = v := ⟨_, rfl⟩
            have uz : Upd [] wy wz := by rw [← hwz]; exact (Upd.refl [] wy).drewN _
            have HB3 := Lib.hid (HB3.out.upd uz (by simp))
            have HB4 := Lib.hid (HB4.out.upd uz (by simp))
            have HUZ := Lib.hid (HUY.out.trans uz)
            have HPF : Hid (∀ w', Upd [b4] wz w' → PlanAt w' (.agg #[.int .i64 A, .int .i64 B, .int .i64 C, .int .i64 D, .int .u64 U, .slice ao9 n9 c9]) ⟨⟨A, B, C, D, U⟩, E9⟩) := fun w' hu => HPW.out w' (HUZ.out.then hu (fun _ _ h => h) (fun i hi hm => by have := HW4.out; simp only [List.mem_cons, List.not_mem_nil, or_false] at hm; omega))
            have HPL := Lib.hid (HPF.out wz (Upd.refl _ _))
            rw [hwz]
            clear hwz uz y5 x0 x1 x2 ly lx
            obtain ⟨who9, hwq⟩ : ∃ v : Int, (i : Int) = v := ⟨_, rfl⟩
            rw [hwq] at HB4 ⊢
            clear hwq
            obtain ⟨m3, h3⟩ : ∃ v, modI st 3 = v := ⟨_, rfl⟩
            have HM3 : Hid (∀ w, Calls Try.prog 7 #[.int .i64 st, .int .i64 3] w (fun e w' => e = .returned (.int .i64 m3) ∧ w = w')) := fun w => by rw [← h3]; exact mod_any _ 3 (by omega) (by omega) w
            have z0 := HB4.out.cell (j := 0) rfl
            have lz := HB4.out.lt
            clear h3
            go_wp2_with fail
            refine (HM3.out _).mono ?_
            rintro e we ⟨rfl, rfl⟩
            clear z0 lz
            by_cases d3 : m3 = 0
            · have s3 : (m3 == 0) = true := by simp [d3]
              have z3 := HB4.out.cell (j := 3) rfl
              have g3 := HB4.out.free 3
              have lz := HB4.out.lt
              clear d3
              go_upto_region 9 with (fail)
              have HB4 := Lib.hid (HB4.out.set 3 (.int .i64 1))
              have HB3 := Lib.hid (HB3.out.setFar (a := ⟨b4, 3, none⟩) HNE.out (.int .i64 1))
              have HUZ : Hid (Upd [] w (wz.setCell ⟨b4, 3, none⟩ (.int .i64 1))) := HUZ.out.setCell (p := ⟨b4, 3, none⟩) (.inr HW4.out) (.int .i64 1)
              have HPL := Lib.hid (HPF.out _ ((Upd.refl [b4] wz).setCell (p := ⟨b4, 3, none⟩) (.inl (by simp)) (.int .i64 1)))
              clear z3 g3 lz HPF
              obtain ⟨wx, hwx⟩ : ∃ v, wz.setCell ⟨b4, 3, none⟩ (.int .i64 1) = v := ⟨_, rfl⟩
              rw [hwx] at HB3 HB4 HUZ HPL ⊢
              clear hwx
              obtain ⟨wz, hwz2⟩ : ∃ v : World, v = wx := ⟨_, rfl⟩
              subst hwz2
              have y0 := HB3.out.cell (j := 0) rfl
              have y1 := HB3.out.cell (j := 1) rfl
              have y2 := HB3.out.cell (j := 2) rfl
              have y3 := HB3.out.cell (j := 3) rfl
              have y4 := HB3.out.cell (j := 4) rfl
              have y5 := HB3.out.cell (j := 5) rfl
              have ly := HB3.out.lt
              have x0 := HB4.out.cell (j := 0) rfl
              have x1 := HB4.out.cell (j := 1) rfl
              have x2 := HB4.out.cell (j := 2) rfl
              have x3 := HB4.out.cell (j := 3) rfl
              have x4 := HB4.out.cell (j := 4) rfl
              have x5 := HB4.out.cell (j := 5) rfl
              have x6 := HB4.out.cell (j := 6) rfl
              have lx := HB4.out.lt
              obtain ⟨RR, hRR⟩ : ∃ y, callP E9 ⟨st, who9, place9, ⟨1, LL, nn, vv⟩, .slice lo k lc⟩ = y := ⟨_, rfl⟩
              have HC : Hid (∀ w', Upd [] wz w' → Calls Try.prog 9 #[.agg #[.int .i64 A, .int .i64 B, .int .i64 C, .int .i64 D, .int .u64 U, .slice ao9 n9 c9], .agg #[.int .i64 st, .int .i64 who9, .int .i64 place9, .int .i64 1, .slice lo k lc, .int .i64 nn, .int .u64 vv]] w' (RetUpd [] w' (callV RR))) := fun w' hu => by
                have := wcall_any (p := ⟨⟨A, B, C, D, U⟩, E9⟩) (x := ⟨st, who9, place9, ⟨1, LL, nn, vv⟩, .slice lo k lc⟩) (HPL.out.upd hu)
                rw [hRR] at this
                exact this
              have HD : Hid (∀ w', Upd [] wz w' → Calls Try.prog 10 #[.agg #[.int .i64 A, .int .i64 B, .int .i64 C, .int .i64 D, .int .u64 U, .slice ao9 n9 c9], .agg #[.int .i64 st, .int .i64 who9, .int .i64 place9, .int .i64 1, .slice lo k lc, .int .i64 nn, .int .u64 vv]] w' (RetUpd [] w' (callV RR))) := fun w' hu => by
                have := dcall_any (p := ⟨⟨A, B, C, D, U⟩, E9⟩) (x := ⟨st, who9, place9, ⟨1, LL, nn, vv⟩, .slice lo k lc⟩) (HPL.out.upd hu)
                rw [hRR] at this
                exact this
              have HAW := Lib.hid (fun w' => awake27_any w')
              clear hRR
              obtain ⟨cc, okk, hcv⟩ : ∃ (cc : Cl) (okk : Bool), callV RR = .tuple #[.agg #[.int .i64 cc.op, .int .i64 cc.flow, .int .i64 cc.a, .int .i64 cc.b], .bool okk] := by
                cases RR with
                | none => exact ⟨zCl, false, rfl⟩
                | some c => exact ⟨c, true, rfl⟩
              rw [hcv] at HC HD
              clear hcv
              go_wp2_with fail
              refine (HC.out _ (Upd.refl _ _)).mono ?_
              rintro e wa ⟨rfl, hua⟩
              have HUA := Lib.hid hua
              clear hua y0 y1 y2 y3 y4 y5 ly x0 x1 x2 x3 x4 x5 x6 lx
              have hb3 := HB3.out.upd HUA.out (by simp)
              have hb4 := HB4.out.upd HUA.out (by simp)
              have y0 := hb3.cell (j := 0) rfl
              have y1 := hb3.cell (j := 1) rfl
              have y2 := hb3.cell (j := 2) rfl
              have y3 := hb3.cell (j := 3) rfl
              have y4 := hb3.cell (j := 4) rfl
              have y5 := hb3.cell (j := 5) rfl
              have ly := hb3.lt
              have x0 := hb4.cell (j := 0) rfl
              have x1 := hb4.cell (j := 1) rfl
              have x2 := hb4.cell (j := 2) rfl
              have x3 := hb4.cell (j := 3) rfl
              have x4 := hb4.cell (j := 4) rfl
              have x5 := hb4.cell (j := 5) rfl
              have x6 := hb4.cell (j := 6) rfl
              have lx := hb4.lt
              clear hb3 hb4
              go_wp2_with fail
              refine (HD.out _ (HUA.out.trans ((Upd.refl [] wa).alloc _))).mono ?_
              rintro e wd ⟨rfl, hud⟩
              have hbA := (Blk.new wa 38 [.int .i64 cc.op, .int .i64 cc.flow, .int .i64 cc.a, .int .i64 cc.b]).upd hud (by simp)
              have HBA := Lib.hid hbA
              have HUD : Hid (Upd [] w wd) := HUZ.out.trans (HUA.out.trans (((Upd.refl [] wa).alloc _).trans hud))
              clear hbA hud y0 y1 y2 y3 y4 y5 ly x0 x1 x2 x3 x4 x5 x6 lx
              go_wp2_with fail
              refine (HAW.out _).mono ?_
              rintro e we ⟨rfl, hue⟩
              have hbD := (Blk.new wd 38 [.int .i64 cc.op, .int .i64 cc.flow, .int .i64 cc.a, .int .i64 cc.b]).upd hue (by simp)
              have hbA := (HBA.out.upd ((Upd.refl [] wd).alloc (.cells #[.int .i64 cc.op, .int .i64 cc.flow, .int .i64 cc.a, .int .i64 cc.b] 38)) (by simp)).upd hue (by simp)
              have HUE : Hid (Upd [] w we) := HUD.out.trans (((Upd.refl [] wd).alloc _).trans hue)
              have q0 := hbD.cell (j := 0) rfl
              have q1 := hbD.cell (j := 1) rfl
              have q2 := hbD.cell (j := 2) rfl
              have q3 := hbD.cell (j := 3) rfl
              have lq := hbD.lt
              have r0 := hbA.cell (j := 0) rfl
              have r1 := hbA.cell (j := 1) rfl
              have r2 := hbA.cell (j := 2) rfl
              have r3 := hbA.cell (j := 3) rfl
              have lr := hbA.lt
              clear hbD hbA hue
              go_wp2
              go_ret
              exact ⟨by first | rfl | simp, HUE.out⟩
            · have s3 : (m3 == 0) = false := by simp [d3]
              clear d3 HPF
              have y0 := HB3.out.cell (j := 0) rfl
              have y1 := HB3.out.cell (j := 1) rfl
              have y2 := HB3.out.cell (j := 2) rfl
              have y3 := HB3.out.cell (j := 3) rfl
              have y4 := HB3.out.cell (j := 4) rfl
              have y5 := HB3.out.cell (j := 5) rfl
              have ly := HB3.out.lt
              have x0 := HB4.out.cell (j := 0) rfl
              have x1 := HB4.out.cell (j := 1) rfl
              have x2 := HB4.out.cell (j := 2) rfl
              have x3 := HB4.out.cell (j := 3) rfl
              have x4 := HB4.out.cell (j := 4) rfl
              have x5 := HB4.out.cell (j := 5) rfl
              have x6 := HB4.out.cell (j := 6) rfl
              have lx := HB4.out.lt
              obtain ⟨RR, hRR⟩ : ∃ y, callP E9 ⟨st, who9, place9, ⟨e9, LL, nn, vv⟩, .slice lo k lc⟩ = y := ⟨_, rfl⟩
              have HC : Hid (∀ w', Upd [] wz w' → Calls Try.prog 9 #[.agg #[.int .i64 A, .int .i64 B, .int .i64 C, .int .i64 D, .int .u64 U, .slice ao9 n9 c9], .agg #[.int .i64 st, .int .i64 who9, .int .i64 place9, .int .i64 e9, .slice lo k lc, .int .i64 nn, .int .u64 vv]] w' (RetUpd [] w' (callV RR))) := fun w' hu => by
                have := wcall_any (p := ⟨⟨A, B, C, D, U⟩, E9⟩) (x := ⟨st, who9, place9, ⟨e9, LL, nn, vv⟩, .slice lo k lc⟩) (HPL.out.upd hu)
                rw [hRR] at this
                exact this
              have HD : Hid (∀ w', Upd [] wz w' → Calls Try.prog 10 #[.agg #[.int .i64 A, .int .i64 B, .int .i64 C, .int .i64 D, .int .u64 U, .slice ao9 n9 c9], .agg #[.int .i64 st, .int .i64 who9, .int .i64 place9, .int .i64 e9, .slice lo k lc, .int .i64 nn, .int .u64 vv]] w' (RetUpd [] w' (callV RR))) := fun w' hu => by
                have := dcall_any (p := ⟨⟨A, B, C, D, U⟩, E9⟩) (x := ⟨st, who9, place9, ⟨e9, LL, nn, vv⟩, .slice lo k lc⟩) (HPL.out.upd hu)
                rw [hRR] at this
                exact this
              have HAW := Lib.hid (fun w' => awake27_any w')
              clear hRR
              obtain ⟨cc, okk, hcv⟩ : ∃ (cc : Cl) (okk : Bool), callV RR = .tuple #[.agg #[.int .i64 cc.op, .int .i64 cc.flow, .int .i64 cc.a, .int .i64 cc.b], .bool okk] := by
                cases RR with
                | none => exact ⟨zCl, false, rfl⟩
                | some c => exact ⟨c, true, rfl⟩
              rw [hcv] at HC HD
              clear hcv
              go_wp2_with fail
              refine (HC.out _ (Upd.refl _ _)).mono ?_
              rintro e wa ⟨rfl, hua⟩
              have HUA := Lib.hid hua
              clear hua y0 y1 y2 y3 y4 y5 ly x0 x1 x2 x3 x4 x5 x6 lx
              have hb3 := HB3.out.upd HUA.out (by simp)
              have hb4 := HB4.out.upd HUA.out (by simp)
              have y0 := hb3.cell (j := 0) rfl
              have y1 := hb3.cell (j := 1) rfl
              have y2 := hb3.cell (j := 2) rfl
              have y3 := hb3.cell (j := 3) rfl
              have y4 := hb3.cell (j := 4) rfl
              have y5 := hb3.cell (j := 5) rfl
              have ly := hb3.lt
              have x0 := hb4.cell (j := 0) rfl
              have x1 := hb4.cell (j := 1) rfl
              have x2 := hb4.cell (j := 2) rfl
              have x3 := hb4.cell (j := 3) rfl
              have x4 := hb4.cell (j := 4) rfl
              have x5 := hb4.cell (j := 5) rfl
              have x6 := hb4.cell (j := 6) rfl
              have lx := hb4.lt
              clear hb3 hb4
              go_wp2_with fail
              refine (HD.out _ (HUA.out.trans ((Upd.refl [] wa).alloc _))).mono ?_
              rintro e wd ⟨rfl, hud⟩
              have hbA := (Blk.new wa 38 [.int .i64 cc.op, .int .i64 cc.flow, .int .i64 cc.a, .int .i64 cc.b]).upd hud (by simp)
              have HBA := Lib.hid hbA
              have HUD : Hid (Upd [] w wd) := HUZ.out.trans (HUA.out.trans (((Upd.refl [] wa).alloc _).trans hud))
              clear hbA hud y0 y1 y2 y3 y4 y5 ly x0 x1 x2 x3 x4 x5 x6 lx
              go_wp2_with fail
              refine (HAW.out _).mono ?_
              rintro e we ⟨rfl, hue⟩
              have hbD := (Blk.new wd 38 [.int .i64 cc.op, .int .i64 cc.flow, .int .i64 cc.a, .int .i64 cc.b]).upd hue (by simp)
              have hbA := (HBA.out.upd ((Upd.refl [] wd).alloc (.cells #[.int .i64 cc.op, .int .i64 cc.flow, .int .i64 cc.a, .int .i64 cc.b] 38)) (by simp)).upd hue (by simp)
              have HUE : Hid (Upd [] w we) := HUD.out.trans (((Upd.refl [] wd).alloc _).trans hue)
              have q0 := hbD.cell (j := 0) rfl
              have q1 := hbD.cell (j := 1) rfl
              have q2 := hbD.cell (j := 2) rfl
              have q3 := hbD.cell (j := 3) rfl
              have lq := hbD.lt
              have r0 := hbA.cell (j := 0) rfl
              have r1 := hbA.cell (j := 1) rfl
              have r2 := hbA.cell (j := 2) rfl
              have r3 := hbA.cell (j := 3) rfl
              have lr := hbA.lt
              clear hbD hbA hue
              go_wp2
              go_ret
              exact ⟨by first | rfl | simp, HUE.out⟩
        · have t2 : decide (place9 < (m : Int)) = false := by simp; omega
          clear c2
          go_quiet (first | (go_at_call 7; exact Calls.quiet_of_same ((HM2.out _).mono (fun _ _ h => ⟨h.1, h.2.symm⟩))))
          obtain ⟨wz, hwz⟩ : ∃ v, wy.drewN nq = v := ⟨_, rfl⟩
          have uz : Upd [] wy wz := by rw [← hwz]; exact (Upd.refl [] wy).drewN _
          have HB3 := Lib.hid (HB3.out.upd uz (by simp))
          have HB4 := Lib.hid (HB4.out.upd uz (by simp))
          have HUZ := Lib.hid (HUY.out.trans uz)
          have HPF : Hid (∀ w', Upd [b4] wz w' → PlanAt w' (.agg #[.int .i64 A, .int .i64 B, .int .i64 C, .int .i64 D, .int .u64 U, .slice ao9 n9 c9]) ⟨⟨A, B, C, D, U⟩, E9⟩) := fun w' hu => HPW.out w' (HUZ.out.then hu (fun _ _ h => h) (fun i hi hm => by have := HW4.out; simp only [List.mem_cons, List.not_mem_nil, or_false] at hm; omega))
          have HPL := Lib.hid (HPF.out wz (Upd.refl _ _))
          rw [hwz]
          clear hwz uz y5 x0 x1 x2 ly lx
          obtain ⟨who9, hwq⟩ : ∃ v : Int, (i : Int) = v := ⟨_, rfl⟩
          rw [hwq] at HB4 ⊢
          clear hwq
          obtain ⟨m3, h3⟩ : ∃ v, modI st 3 = v := ⟨_, rfl⟩
          have HM3 : Hid (∀ w, Calls Try.prog 7 #[.int .i64 st, .int .i64 3] w (fun e w' => e = .returned (.int .i64 m3) ∧ w = w')) := fun w => by rw [← h3]; exact mod_any _ 3 (by omega) (by omega) w
          have z0 := HB4.out.cell (j := 0) rfl
          have lz := HB4.out.lt
          clear h3
          go_wp2_with fail
          refine (HM3.out _).mono ?_
          rintro e we ⟨rfl, rfl⟩
          clear z0 lz
          by_cases d3 : m3 = 0
          · have s3 : (m3 == 0) = true := by simp [d3]
            have z3 := HB4.out.cell (j := 3) rfl
            have g3 := HB4.out.free 3
            have lz := HB4.out.lt
            clear d3
            go_upto_region 9 with (fail)
            have HB4 := Lib.hid (HB4.out.set 3 (.int .i64 1))
            have HB3 := Lib.hid (HB3.out.setFar (a := ⟨b4, 3, none⟩) HNE.out (.int .i64 1))
            have HUZ : Hid (Upd [] w (wz.setCell ⟨b4, 3, none⟩ (.int .i64 1))) := HUZ.out.setCell (p := ⟨b4, 3, none⟩) (.inr HW4.out) (.int .i64 1)
            have HPL := Lib.hid (HPF.out _ ((Upd.refl [b4] wz).setCell (p := ⟨b4, 3, none⟩) (.inl (by simp)) (.int .i64 1)))
            clear z3 g3 lz HPF
            obtain ⟨wx, hwx⟩ : ∃ v, wz.setCell ⟨b4, 3, none⟩ (.int .i64 1) = v := ⟨_, rfl⟩
            rw [hwx] at HB3 HB4 HUZ HPL ⊢
            clear hwx
            obtain ⟨wz, hwz2⟩ : ∃ v : World, v = wx := ⟨_, rfl⟩
            subst hwz2
            have y0 := HB3.out.cell (j := 0) rfl
            have y1 := HB3.out.cell (j := 1) rfl
            have y2 := HB3.out.cell (j := 2) rfl
            have y3 := HB3.out.cell (j := 3) rfl
            have y4 := HB3.out.cell (j := 4) rfl
            have y5 := HB3.out.cell (j := 5) rfl
            have ly := HB3.out.lt
            have x0 := HB4.out.cell (j := 0) rfl
            have x1 := HB4.out.cell (j := 1) rfl
            have x2 := HB4.out.cell (j := 2) rfl
            have x3 := HB4.out.cell (j := 3) rfl
            have x4 := HB4.out.cell (j := 4) rfl
            have x5 := HB4.out.cell (j := 5) rfl
            have x6 := HB4.out.cell (j := 6) rfl
            have lx := HB4.out.lt
            obtain ⟨RR, hRR⟩ : ∃ y, callP E9 ⟨st, who9, place9, ⟨1, LL, nn, vv⟩, .slice lo k lc⟩ = y := ⟨_, rfl⟩
            have HC : Hid (∀ w', Upd [] wz w' → Calls Try.prog 9 #[.agg #[.int .i64 A, .int .i64 B, .int .i64 C, .int .i64 D, .int .u64 U, .slice ao9 n9 c9], .agg #[.int .i64 st, .int .i64 who9, .int .i64 place9, .int .i64 1, .slice lo k lc, .int .i64 nn, .int .u64 vv]] w' (RetUpd [] w' (callV RR))) := fun w' hu => by
              have := wcall_any (p := ⟨⟨A, B, C, D, U⟩, E9⟩) (x := ⟨st, who9, place9, ⟨1, LL, nn, vv⟩, .slice lo k lc⟩) (HPL.out.upd hu)
              rw [hRR] at this
              exact this
            have HD : Hid (∀ w', Upd [] wz w' → Calls Try.prog 10 #[.agg #[.int .i64 A, .int .i64 B, .int .i64 C, .int .i64 D, .int .u64 U, .slice ao9 n9 c9], .agg #[.int .i64 st, .int .i64 who9, .int .i64 place9, .int .i64 1, .slice lo k lc, .int .i64 nn, .int .u64 vv]] w' (RetUpd [] w' (callV RR))) := fun w' hu => by
              have := dcall_any (p := ⟨⟨A, B, C, D, U⟩, E9⟩) (x := ⟨st, who9, place9, ⟨1, LL, nn, vv⟩, .slice lo k lc⟩) (HPL.out.upd hu)
              rw [hRR] at this
              exact this
            have HAW := Lib.hid (fun w' => awake27_any w')
            clear hRR
            obtain ⟨cc, okk, hcv⟩ : ∃ (cc : Cl) (okk : Bool), callV RR = .tuple #[.agg #[.int .i64 cc.op, .int .i64 cc.flow, .int .i64 cc.a, .int .i64 cc.b], .bool okk] := by
              cases RR with
              | none => exact ⟨zCl, false, rfl⟩
              | some c => exact ⟨c, true, rfl⟩
            rw [hcv] at HC HD
            clear hcv
            go_wp2_with fail
            refine (HC.out _ (Upd.refl _ _)).mono ?_
            rintro e wa ⟨rfl, hua⟩
            have HUA := Lib.hid hua
            clear hua y0 y1 y2 y3 y4 y5 ly x0 x1 x2 x3 x4 x5 x6 lx
            have hb3 := HB3.out.upd HUA.out (by simp)
            have hb4 := HB4.out.upd HUA.out (by simp)
            have y0 := hb3.cell (j := 0) rfl
            have y1 := hb3.cell (j := 1) rfl
            have y2 := hb3.cell (j := 2) rfl
            have y3 := hb3.cell (j := 3) rfl
            have y4 := hb3.cell (j := 4) rfl
            have y5 := hb3.cell (j := 5) rfl
            have ly := hb3.lt
            have x0 := hb4.cell (j := 0) rfl
            have x1 := hb4.cell (j := 1) rfl
            have x2 := hb4.cell (j := 2) rfl
            have x3 := hb4.cell (j := 3) rfl
            have x4 := hb4.cell (j := 4) rfl
            have x5 := hb4.cell (j := 5) rfl
            have x6 := hb4.cell (j := 6) rfl
            have lx := hb4.lt
            clear hb3 hb4
            go_wp2_with fail
            refine (HD.out _ (HUA.out.trans ((Upd.refl [] wa).alloc _))).mono ?_
            rintro e wd ⟨rfl, hud⟩
            have hbA := (Blk.new wa 38 [.int .i64 cc.op, .int .i64 cc.flow, .int .i64 cc.a, .int .i64 cc.b]).upd hud (by simp)
            have HBA := Lib.hid hbA
            have HUD : Hid (Upd [] w wd) := HUZ.out.trans (HUA.out.trans (((Upd.refl [] wa).alloc _).trans hud))
            clear hbA hud y0 y1 y2 y3 y4 y5 ly x0 x1 x2 x3 x4 x5 x6 lx
            go_wp2_with fail
            refine (HAW.out _).mono ?_
            rintro e we ⟨rfl, hue⟩
            have hbD := (Blk.new wd 38 [.int .i64 cc.op, .int .i64 cc.flow, .int .i64 cc.a, .int .i64 cc.b]).upd hue (by simp)
            have hbA := (HBA.out.upd ((Upd.refl [] wd).alloc (.cells #[.int .i64 cc.op, .int .i64 cc.flow, .int .i64 cc.a, .int .i64 cc.b] 38)) (by simp)).upd hue (by simp)
            have HUE : Hid (Upd [] w we) := HUD.out.trans (((Upd.refl [] wd).alloc _).trans hue)
            have q0 := hbD.cell (j := 0) rfl
            have q1 := hbD.cell (j := 1) rfl
            have q2 := hbD.cell (j := 2) rfl
            have q3 := hbD.cell (j := 3) rfl
            have lq := hbD.lt
            have r0 := hbA.cell (j := 0) rfl
            have r1 := hbA.cell (j := 1) rfl
            have r2 := hbA.cell (j := 2) rfl
            have r3 := hbA.cell (j := 3) rfl
            have lr := hbA.lt
            clear hbD hbA hue
            go_wp2
            go_ret
            exact ⟨by first | rfl | simp, HUE.out⟩
          · have s3 : (m3 == 0) = false := by simp [d3]
            clear d3 HPF
            have y0 := HB3.out.cell (j := 0) rfl
            have y1 := HB3.out.cell (j := 1) rfl
            have y2 := HB3.out.cell (j := 2) rfl
            have y3 := HB3.out.cell (j := 3) rfl
            have y4 := HB3.out.cell (j := 4) rfl
            have y5 := HB3.out.cell (j := 5) rfl
            have ly := HB3.out.lt
            have x0 := HB4.out.cell (j := 0) rfl
            have x1 := HB4.out.cell (j := 1) rfl
            have x2 := HB4.out.cell (j := 2) rfl
            have x3 := HB4.out.cell (j := 3) rfl
            have x4 := HB4.out.cell (j := 4) rfl
            have x5 := HB4.out.cell (j := 5) rfl
            have x6 := HB4.out.cell (j := 6) rfl
            have lx := HB4.out.lt
            obtain ⟨RR, hRR⟩ : ∃ y, callP E9 ⟨st, who9, place9, ⟨e9, LL, nn, vv⟩, .slice lo k lc⟩ = y := ⟨_, rfl⟩
            have HC : Hid (∀ w', Upd [] wz w' → Calls Try.prog 9 #[.agg #[.int .i64 A, .int .i64 B, .int .i64 C, .int .i64 D, .int .u64 U, .slice ao9 n9 c9], .agg #[.int .i64 st, .int .i64 who9, .int .i64 place9, .int .i64 e9, .slice lo k lc, .int .i64 nn, .int .u64 vv]] w' (RetUpd [] w' (callV RR))) := fun w' hu => by
              have := wcall_any (p := ⟨⟨A, B, C, D, U⟩, E9⟩) (x := ⟨st, who9, place9, ⟨e9, LL, nn, vv⟩, .slice lo k lc⟩) (HPL.out.upd hu)
              rw [hRR] at this
              exact this
            have HD : Hid (∀ w', Upd [] wz w' → Calls Try.prog 10 #[.agg #[.int .i64 A, .int .i64 B, .int .i64 C, .int .i64 D, .int .u64 U, .slice ao9 n9 c9], .agg #[.int .i64 st, .int .i64 who9, .int .i64 place9, .int .i64 e9, .slice lo k lc, .int .i64 nn, .int .u64 vv]] w' (RetUpd [] w' (callV RR))) := fun w' hu => by
              have := dcall_any (p := ⟨⟨A, B, C, D, U⟩, E9⟩) (x := ⟨st, who9, place9, ⟨e9, LL, nn, vv⟩, .slice lo k lc⟩) (HPL.out.upd hu)
              rw [hRR] at this
              exact this
            have HAW := Lib.hid (fun w' => awake27_any w')
            clear hRR
            obtain ⟨cc, okk, hcv⟩ : ∃ (cc : Cl) (okk : Bool), callV RR = .tuple #[.agg #[.int .i64 cc.op, .int .i64 cc.flow, .int .i64 cc.a, .int .i64 cc.b], .bool okk] := by
              cases RR with
              | none => exact ⟨zCl, false, rfl⟩
              | some c => exact ⟨c, true, rfl⟩
            rw [hcv] at HC HD
            clear hcv
            go_wp2_with fail
            refine (HC.out _ (Upd.refl _ _)).mono ?_
            rintro e wa ⟨rfl, hua⟩
            have HUA := Lib.hid hua
            clear hua y0 y1 y2 y3 y4 y5 ly x0 x1 x2 x3 x4 x5 x6 lx
            have hb3 := HB3.out.upd HUA.out (by simp)
            have hb4 := HB4.out.upd HUA.out (by simp)
            have y0 := hb3.cell (j := 0) rfl
            have y1 := hb3.cell (j := 1) rfl
            have y2 := hb3.cell (j := 2) rfl
            have y3 := hb3.cell (j := 3) rfl
            have y4 := hb3.cell (j := 4) rfl
            have y5 := hb3.cell (j := 5) rfl
            have ly := hb3.lt
            have x0 := hb4.cell (j := 0) rfl
            have x1 := hb4.cell (j := 1) rfl
            have x2 := hb4.cell (j := 2) rfl
            have x3 := hb4.cell (j := 3) rfl
            have x4 := hb4.cell (j := 4) rfl
            have x5 := hb4.cell (j := 5) rfl
            have x6 := hb4.cell (j := 6) rfl
            have lx := hb4.lt
            clear hb3 hb4
            go_wp2_with fail
            refine (HD.out _ (HUA.out.trans ((Upd.refl [] wa).alloc _))).mono ?_
            rintro e wd ⟨rfl, hud⟩
            have hbA := (Blk.new wa 38 [.int .i64 cc.op, .int .i64 cc.flow, .int .i64 cc.a, .int .i64 cc.b]).upd hud (by simp)
            have HBA := Lib.hid hbA
            have HUD : Hid (Upd [] w wd) := HUZ.out.trans (HUA.out.trans (((Upd.refl [] wa).alloc _).trans hud))
            clear hbA hud y0 y1 y2 y3 y4 y5 ly x0 x1 x2 x3 x4 x5 x6 lx
            go_wp2_with fail
            refine (HAW.out _).mono ?_
            rintro e we ⟨rfl, hue⟩
            have hbD := (Blk.new wd 38 [.int .i64 cc.op, .int .i64 cc.flow, .int .i64 cc.a, .int .i64 cc.b]).upd hue (by simp)
            have hbA := (HBA.out.upd ((Upd.refl [] wd).alloc (.cells #[.int .i64 cc.op, .int .i64 cc.flow, .int .i64 cc.a, .int .i64 cc.b] 38)) (by simp)).upd hue (by simp)
            have HUE : Hid (Upd [] w we) := HUD.out.trans (((Upd.refl [] wd).alloc _).trans hue)
            have q0 := hbD.cell (j := 0) rfl
            have q1 := hbD.cell (j := 1) rfl
            have q2 := hbD.cell (j := 2) rfl
            have q3 := hbD.cell (j := 3) rfl
            have lq := hbD.lt
            have r0 := hbA.cell (j := 0) rfl
            have r1 := hbA.cell (j := 1) rfl
            have r2 := hbA.cell (j := 2) rfl
            have r3 := hbA.cell (j := 3) rfl
            have lr := hbA.lt
            clear hbD hbA hue
            go_wp2
            go_ret
            exact ⟨by first | rfl | simp, HUE.out⟩
      · have t1 : decide (who9 < (n9 : Int)) = false := by simp; omega
        clear c1
        go_quiet (first | (go_at_call 7; exact Calls.quiet_of_same ((HM2.out _).mono (fun _ _ h => ⟨h.1, h.2.symm⟩))))
        obtain ⟨wz, hwz⟩ : ∃ v, wy.drewN nq = v := ⟨_, rfl⟩
        have uz : Upd [] wy wz := by rw [← hwz]; exact (Upd.refl [] wy).drewN _
        have HB3 := Lib.hid (HB3.out.upd uz (by simp))
        have HB4 := Lib.hid (HB4.out.upd uz (by simp))
        have HUZ := Lib.hid (HUY.out.trans uz)
        have HPF : Hid (∀ w', Upd [b4] wz w' → PlanAt w' (.agg #[.int .i64 A, .int .i64 B, .int .i64 C, .int .i64 D, .int .u64 U, .slice ao9 n9 c9]) ⟨⟨A, B, C, D, U⟩, E9⟩) := fun w' hu => HPW.out w' (HUZ.out.then hu (fun _ _ h => h) (fun i hi hm => by have := HW4.out; simp only [List.mem_cons, List.not_mem_nil, or_false] at hm; omega))
        have HPL := Lib.hid (HPF.out wz (Upd.refl _ _))
        rw [hwz]
        clear hwz uz y5 x0 x1 x2 ly lx
        skip
        obtain ⟨m3, h3⟩ : ∃ v, modI st 3 = v := ⟨_, rfl⟩
        have HM3 : Hid (∀ w, Calls Try.prog 7 #[.int .i64 st, .int .i64 3] w (fun e w' => e = .returned (.int .i64 m3) ∧ w = w')) := fun w => by rw [← h3]; exact mod_any _ 3 (by omega) (by omega) w
        have z0 := HB4.out.cell (j := 0) rfl
        have lz := HB4.out.lt
        clear h3
        go_wp2_with fail
        refine (HM3.out _).mono ?_
        rintro e we ⟨rfl, rfl⟩
        clear z0 lz
        by_cases d3 : m3 = 0
        · have s3 : (m3 == 0) = true := by simp [d3]
          have z3 := HB4.out.cell (j := 3) rfl
          have g3 := HB4.out.free 3
          have lz := HB4.out.lt
          clear d3
          go_upto_region 9 with (fail)
          have HB4 := Lib.hid (HB4.out.set 3 (.int .i64 1))
          have HB3 := Lib.hid (HB3.out.setFar (a := ⟨b4, 3, none⟩) HNE.out (.int .i64 1))
          have HUZ : Hid (Upd [] w (wz.setCell ⟨b4, 3, none⟩ (.int .i64 1))) := HUZ.out.setCell (p := ⟨b4, 3, none⟩) (.inr HW4.out) (.int .i64 1)
          have HPL := Lib.hid (HPF.out _ ((Upd.refl [b4] wz).setCell (p := ⟨b4, 3, none⟩) (.inl (by simp)) (.int .i64 1)))
          clear z3 g3 lz HPF
          obtain ⟨wx, hwx⟩ : ∃ v, wz.setCell ⟨b4, 3, none⟩ (.int .i64 1) = v := ⟨_, rfl⟩
          rw [hwx] at HB3 HB4 HUZ HPL ⊢
          clear hwx
          obtain ⟨wz, hwz2⟩ : ∃ v : World, v = wx := ⟨_, rfl⟩
          subst hwz2
          have y0 := HB3.out.cell (j := 0) rfl
          have y1 := HB3.out.cell (j := 1) rfl
          have y2 := HB3.out.cell (j := 2) rfl
          have y3 := HB3.out.cell (j := 3) rfl
          have y4 := HB3.out.cell (j := 4) rfl
          have y5 := HB3.out.cell (j := 5) rfl
          have ly := HB3.out.lt
          have x0 := HB4.out.cell (j := 0) rfl
          have x1 := HB4.out.cell (j := 1) rfl
          have x2 := HB4.out.cell (j := 2) rfl
          have x3 := HB4.out.cell (j := 3) rfl
          have x4 := HB4.out.cell (j := 4) rfl
          have x5 := HB4.out.cell (j := 5) rfl
          have x6 := HB4.out.cell (j := 6) rfl
          have lx := HB4.out.lt
          obtain ⟨RR, hRR⟩ : ∃ y, callP E9 ⟨st, who9, place9, ⟨1, LL, nn, vv⟩, .slice lo k lc⟩ = y := ⟨_, rfl⟩
          have HC : Hid (∀ w', Upd [] wz w' → Calls Try.prog 9 #[.agg #[.int .i64 A, .int .i64 B, .int .i64 C, .int .i64 D, .int .u64 U, .slice ao9 n9 c9], .agg #[.int .i64 st, .int .i64 who9, .int .i64 place9, .int .i64 1, .slice lo k lc, .int .i64 nn, .int .u64 vv]] w' (RetUpd [] w' (callV RR))) := fun w' hu => by
            have := wcall_any (p := ⟨⟨A, B, C, D, U⟩, E9⟩) (x := ⟨st, who9, place9, ⟨1, LL, nn, vv⟩, .slice lo k lc⟩) (HPL.out.upd hu)
            rw [hRR] at this
            exact this
          have HD : Hid (∀ w', Upd [] wz w' → Calls Try.prog 10 #[.agg #[.int .i64 A, .int .i64 B, .int .i64 C, .int .i64 D, .int .u64 U, .slice ao9 n9 c9], .agg #[.int .i64 st, .int .i64 who9, .int .i64 place9, .int .i64 1, .slice lo k lc, .int .i64 nn, .int .u64 vv]] w' (RetUpd [] w' (callV RR))) := fun w' hu => by
            have := dcall_any (p := ⟨⟨A, B, C, D, U⟩, E9⟩) (x := ⟨st, who9, place9, ⟨1, LL, nn, vv⟩, .slice lo k lc⟩) (HPL.out.upd hu)
            rw [hRR] at this
            exact this
          have HAW := Lib.hid (fun w' => awake27_any w')
          clear hRR
          obtain ⟨cc, okk, hcv⟩ : ∃ (cc : Cl) (okk : Bool), callV RR = .tuple #[.agg #[.int .i64 cc.op, .int .i64 cc.flow, .int .i64 cc.a, .int .i64 cc.b], .bool okk] := by
            cases RR with
            | none => exact ⟨zCl, false, rfl⟩
            | some c => exact ⟨c, true, rfl⟩
          rw [hcv] at HC HD
          clear hcv
          go_wp2_with fail
          refine (HC.out _ (Upd.refl _ _)).mono ?_
          rintro e wa ⟨rfl, hua⟩
          have HUA := Lib.hid hua
          clear hua y0 y1 y2 y3 y4 y5 ly x0 x1 x2 x3 x4 x5 x6 lx
          have hb3 := HB3.out.upd HUA.out (by simp)
          have hb4 := HB4.out.upd HUA.out (by simp)
          have y0 := hb3.cell (j := 0) rfl
          have y1 := hb3.cell (j := 1) rfl
          have y2 := hb3.cell (j := 2) rfl
          have y3 := hb3.cell (j := 3) rfl
          have y4 := hb3.cell (j := 4) rfl
          have y5 := hb3.cell (j := 5) rfl
          have ly := hb3.lt
          have x0 := hb4.cell (j := 0) rfl
          have x1 := hb4.cell (j := 1) rfl
          have x2 := hb4.cell (j := 2) rfl
          have x3 := hb4.cell (j := 3) rfl
          have x4 := hb4.cell (j := 4) rfl
          have x5 := hb4.cell (j := 5) rfl
          have x6 := hb4.cell (j := 6) rfl
          have lx := hb4.lt
          clear hb3 hb4
          go_wp2_with fail
          refine (HD.out _ (HUA.out.trans ((Upd.refl [] wa).alloc _))).mono ?_
          rintro e wd ⟨rfl, hud⟩
          have hbA := (Blk.new wa 38 [.int .i64 cc.op, .int .i64 cc.flow, .int .i64 cc.a, .int .i64 cc.b]).upd hud (by simp)
          have HBA := Lib.hid hbA
          have HUD : Hid (Upd [] w wd) := HUZ.out.trans (HUA.out.trans (((Upd.refl [] wa).alloc _).trans hud))
          clear hbA hud y0 y1 y2 y3 y4 y5 ly x0 x1 x2 x3 x4 x5 x6 lx
          go_wp2_with fail
          refine (HAW.out _).mono ?_
          rintro e we ⟨rfl, hue⟩
          have hbD := (Blk.new wd 38 [.int .i64 cc.op, .int .i64 cc.flow, .int .i64 cc.a, .int .i64 cc.b]).upd hue (by simp)
          have hbA := (HBA.out.upd ((Upd.refl [] wd).alloc (.cells #[.int .i64 cc.op, .int .i64 cc.flow, .int .i64 cc.a, .int .i64 cc.b] 38)) (by simp)).upd hue (by simp)
          have HUE : Hid (Upd [] w we) := HUD.out.trans (((Upd.refl [] wd).alloc _).trans hue)
          have q0 := hbD.cell (j := 0) rfl
          have q1 := hbD.cell (j := 1) rfl
          have q2 := hbD.cell (j := 2) rfl
          have q3 := hbD.cell (j := 3) rfl
          have lq := hbD.lt
          have r0 := hbA.cell (j := 0) rfl
          have r1 := hbA.cell (j := 1) rfl
          have r2 := hbA.cell (j := 2) rfl
          have r3 := hbA.cell (j := 3) rfl
          have lr := hbA.lt
          clear hbD hbA hue
          go_wp2
          go_ret
          exact ⟨by first | rfl | simp, HUE.out⟩
        · have s3 : (m3 == 0) = false := by simp [d3]
          clear d3 HPF
          have y0 := HB3.out.cell (j := 0) rfl
          have y1 := HB3.out.cell (j := 1) rfl
          have y2 := HB3.out.cell (j := 2) rfl
          have y3 := HB3.out.cell (j := 3) rfl
          have y4 := HB3.out.cell (j := 4) rfl
          have y5 := HB3.out.cell (j := 5) rfl
          have ly := HB3.out.lt
          have x0 := HB4.out.cell (j := 0) rfl
          have x1 := HB4.out.cell (j := 1) rfl
          have x2 := HB4.out.cell (j := 2) rfl
          have x3 := HB4.out.cell (j := 3) rfl
          have x4 := HB4.out.cell (j := 4) rfl
          have x5 := HB4.out.cell (j := 5) rfl
          have x6 := HB4.out.cell (j := 6) rfl
          have lx := HB4.out.lt
          obtain ⟨RR, hRR⟩ : ∃ y, callP E9 ⟨st, who9, place9, ⟨e9, LL, nn, vv⟩, .slice lo k lc⟩ = y := ⟨_, rfl⟩
          have HC : Hid (∀ w', Upd [] wz w' → Calls Try.prog 9 #[.agg #[.int .i64 A, .int .i64 B, .int .i64 C, .int .i64 D, .int .u64 U, .slice ao9 n9 c9], .agg #[.int .i64 st, .int .i64 who9, .int .i64 place9, .int .i64 e9, .slice lo k lc, .int .i64 nn, .int .u64 vv]] w' (RetUpd [] w' (callV RR))) := fun w' hu => by
            have := wcall_any (p := ⟨⟨A, B, C, D, U⟩, E9⟩) (x := ⟨st, who9, place9, ⟨e9, LL, nn, vv⟩, .slice lo k lc⟩) (HPL.out.upd hu)
            rw [hRR] at this
            exact this
          have HD : Hid (∀ w', Upd [] wz w' → Calls Try.prog 10 #[.agg #[.int .i64 A, .int .i64 B, .int .i64 C, .int .i64 D, .int .u64 U, .slice ao9 n9 c9], .agg #[.int .i64 st, .int .i64 who9, .int .i64 place9, .int .i64 e9, .slice lo k lc, .int .i64 nn, .int .u64 vv]] w' (RetUpd [] w' (callV RR))) := fun w' hu => by
            have := dcall_any (p := ⟨⟨A, B, C, D, U⟩, E9⟩) (x := ⟨st, who9, place9, ⟨e9, LL, nn, vv⟩, .slice lo k lc⟩) (HPL.out.upd hu)
            rw [hRR] at this
            exact this
          have HAW := Lib.hid (fun w' => awake27_any w')
          clear hRR
          obtain ⟨cc, okk, hcv⟩ : ∃ (cc : Cl) (okk : Bool), callV RR = .tuple #[.agg #[.int .i64 cc.op, .int .i64 cc.flow, .int .i64 cc.a, .int .i64 cc.b], .bool okk] := by
            cases RR with
            | none => exact ⟨zCl, false, rfl⟩
            | some c => exact ⟨c, true, rfl⟩
          rw [hcv] at HC HD
          clear hcv
          go_wp2_with fail
          refine (HC.out _ (Upd.refl _ _)).mono ?_
          rintro e wa ⟨rfl, hua⟩
          have HUA := Lib.hid hua
          clear hua y0 y1 y2 y3 y4 y5 ly x0 x1 x2 x3 x4 x5 x6 lx
          have hb3 := HB3.out.upd HUA.out (by simp)
          have hb4 := HB4.out.upd HUA.out (by simp)
          have y0 := hb3.cell (j := 0) rfl
          have y1 := hb3.cell (j := 1) rfl
          have y2 := hb3.cell (j := 2) rfl
          have y3 := hb3.cell (j := 3) rfl
          have y4 := hb3.cell (j := 4) rfl
          have y5 := hb3.cell (j := 5) rfl
          have ly := hb3.lt
          have x0 := hb4.cell (j := 0) rfl
          have x1 := hb4.cell (j := 1) rfl
          have x2 := hb4.cell (j := 2) rfl
          have x3 := hb4.cell (j := 3) rfl
          have x4 := hb4.cell (j := 4) rfl
          have x5 := hb4.cell (j := 5) rfl
          have x6 := hb4.cell (j := 6) rfl
          have lx := hb4.lt
          clear hb3 hb4
          go_wp2_with fail
          refine (HD.out _ (HUA.out.trans ((Upd.refl [] wa).alloc _))).mono ?_
          rintro e wd ⟨rfl, hud⟩
          have hbA := (Blk.new wa 38 [.int .i64 cc.op, .int .i64 cc.flow, .int .i64 cc.a, .int .i64 cc.b]).upd hud (by simp)
          have HBA := Lib.hid hbA
          have HUD : Hid (Upd [] w wd) := HUZ.out.trans (HUA.out.trans (((Upd.refl [] wa).alloc _).trans hud))
          clear hbA hud y0 y1 y2 y3 y4 y5 ly x0 x1 x2 x3 x4 x5 x6 lx
          go_wp2_with fail
          refine (HAW.out _).mono ?_
          rintro e we ⟨rfl, hue⟩
          have hbD := (Blk.new wd 38 [.int .i64 cc.op, .int .i64 cc.flow, .int .i64 cc.a, .int .i64 cc.b]).upd hue (by simp)
          have hbA := (HBA.out.upd ((Upd.refl [] wd).alloc (.cells #[.int .i64 cc.op, .int .i64 cc.flow, .int .i64 cc.a, .int .i64 cc.b] 38)) (by simp)).upd hue (by simp)
          have HUE : Hid (Upd [] w we) := HUD.out.trans (((Upd.refl [] wd).alloc _).trans hue)
          have q0 := hbD.cell (j := 0) rfl
          have q1 := hbD.cell (j := 1) rfl
          have q2 := hbD.cell (j := 2) rfl
          have q3 := hbD.cell (j := 3) rfl
          have lq := hbD.lt
          have r0 := hbA.cell (j := 0) rfl
          have r1 := hbA.cell (j := 1) rfl
          have r2 := hbA.cell (j := 2) rfl
          have r3 := hbA.cell (j := 3) rfl
          have lr := hbA.lt
          clear hbD hbA hue
          go_wp2
          go_ret
          exact ⟨by first | rfl | simp, HUE.out⟩
    · have t0 : decide (0 < n9) = false := by simp; omega
      have t0' : decide ((0 : Int) < (n9 : Int)) = false := decide_eq_false (by omega)
      clear hn0
      go_upto_region 9 with (fail)
      clear hwz hb3 hb4 y5 ly t0 t0'
      have y0 := HB3.out.cell (j := 0) rfl
      have y1 := HB3.out.cell (j := 1) rfl
      have y2 := HB3.out.cell (j := 2) rfl
      have y3 := HB3.out.cell (j := 3) rfl
      have y4 := HB3.out.cell (j := 4) rfl
      have y5 := HB3.out.cell (j := 5) rfl
      have ly := HB3.out.lt
      have x0 := HB4.out.cell (j := 0) rfl
      have x1 := HB4.out.cell (j := 1) rfl
      have x2 := HB4.out.cell (j := 2) rfl
      have x3 := HB4.out.cell (j := 3) rfl
      have x4 := HB4.out.cell (j := 4) rfl
      have x5 := HB4.out.cell (j := 5) rfl
      have x6 := HB4.out.cell (j := 6) rfl
      have lx := HB4.out.lt
      obtain ⟨RR, hRR⟩ : ∃ y, callP E9 ⟨st, who9, place9, ⟨e9, LL, nn, vv⟩, .slice lo k lc⟩ = y := ⟨_, rfl⟩
      have HC : Hid (∀ w', Upd [] wz w' → Calls Try.prog 9 #[.agg #[.int .i64 A, .int .i64 B, .int .i64 C, .int .i64 D, .int .u64 U, .slice ao9 n9 c9], .agg #[.int .i64 st, .int .i64 who9, .int .i64 place9, .int .i64 e9, .slice lo k lc, .int .i64 nn, .int .u64 vv]] w' (RetUpd [] w' (callV RR))) := fun w' hu => by
        have := wcall_any (p := ⟨⟨A, B, C, D, U⟩, E9⟩) (x := ⟨st, who9, place9, ⟨e9, LL, nn, vv⟩, .slice lo k lc⟩) (HPL.out.upd hu)
        rw [hRR] at this
        exact this
      have HD : Hid (∀ w', Upd [] wz w' → Calls Try.prog 10 #[.agg #[.int .i64 A, .int .i64 B, .int .i64 C, .int .i64 D, .int .u64 U, .slice ao9 n9 c9], .agg #[.int .i64 st, .int .i64 who9, .int .i64 place9, .int .i64 e9, .slice lo k lc, .int .i64 nn, .int .u64 vv]] w' (RetUpd [] w' (callV RR))) := fun w' hu => by
        have := dcall_any (p := ⟨⟨A, B, C, D, U⟩, E9⟩) (x := ⟨st, who9, place9, ⟨e9, LL, nn, vv⟩, .slice lo k lc⟩) (HPL.out.upd hu)
        rw [hRR] at this
        exact this
      have HAW := Lib.hid (fun w' => awake27_any w')
      clear hRR
      obtain ⟨cc, okk, hcv⟩ : ∃ (cc : Cl) (okk : Bool), callV RR = .tuple #[.agg #[.int .i64 cc.op, .int .i64 cc.flow, .int .i64 cc.a, .int .i64 cc.b], .bool okk] := by
        cases RR with
        | none => exact ⟨zCl, false, rfl⟩
        | some c => exact ⟨c, true, rfl⟩
      rw [hcv] at HC HD
      clear hcv
      go_wp2_with fail
      refine (HC.out _ (Upd.refl _ _)).mono ?_
      rintro e wa ⟨rfl, hua⟩
      have HUA := Lib.hid hua
      clear hua y0 y1 y2 y3 y4 y5 ly x0 x1 x2 x3 x4 x5 x6 lx
      have hb3 := HB3.out.upd HUA.out (by simp)
      have hb4 := HB4.out.upd HUA.out (by simp)
      have y0 := hb3.cell (j := 0) rfl
      have y1 := hb3.cell (j := 1) rfl
      have y2 := hb3.cell (j := 2) rfl
      have y3 := hb3.cell (j := 3) rfl
      have y4 := hb3.cell (j := 4) rfl
      have y5 := hb3.cell (j := 5) rfl
      have ly := hb3.lt
      have x0 := hb4.cell (j := 0) rfl
      have x1 := hb4.cell (j := 1) rfl
      have x2 := hb4.cell (j := 2) rfl
      have x3 := hb4.cell (j := 3) rfl
      have x4 := hb4.cell (j := 4) rfl
      have x5 := hb4.cell (j := 5) rfl
      have x6 := hb4.cell (j := 6) rfl
      have lx := hb4.lt
      clear hb3 hb4
      go_wp2_with fail
      refine (HD.out _ (HUA.out.trans ((Upd.refl [] wa).alloc _))).mono ?_
      rintro e wd ⟨rfl, hud⟩
      have hbA := (Blk.new wa 38 [.int .i64 cc.op, .int .i64 cc.flow, .int .i64 cc.a, .int .i64 cc.b]).upd hud (by simp)
      have HBA := Lib.hid hbA
      have HUD : Hid (Upd [] w wd) := HUZ.out.trans (HUA.out.trans (((Upd.refl [] wa).alloc _).trans hud))
      clear hbA hud y0 y1 y2 y3 y4 y5 ly x0 x1 x2 x3 x4 x5 x6 lx
      go_wp2_with fail
      refine (HAW.out _).mono ?_
      rintro e we ⟨rfl, hue⟩
      have hbD := (Blk.new wd 38 [.int .i64 cc.op, .int .i64 cc.flow, .int .i64 cc.a, .int .i64 cc.b]).upd hue (by simp)
      have hbA := (HBA.out.upd ((Upd.refl [] wd).alloc (.cells #[.int .i64 cc.op, .int .i64 cc.flow, .int .i64 cc.a, .int .i64 cc.b] 38)) (by simp)).upd hue (by simp)
      have HUE : Hid (Upd [] w we) := HUD.out.trans (((Upd.refl [] wd).alloc _).trans hue)
      have q0 := hbD.cell (j := 0) rfl
      have q1 := hbD.cell (j := 1) rfl
      have q2 := hbD.cell (j := 2) rfl
      have q3 := hbD.cell (j := 3) rfl
      have lq := hbD.lt
      have r0 := hbA.cell (j := 0) rfl
      have r1 := hbA.cell (j := 1) rfl
      have r2 := hbA.cell (j := 2) rfl
      have r3 := hbA.cell (j := 3) rfl
      have lr := hbA.lt
      clear hbD hbA hue
      go_wp2
      go_ret
      exact ⟨by first | rfl | simp, HUE.out⟩
end Go.Proofs.Ytmfndemnogpmcaa
