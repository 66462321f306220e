/-
  Texts of this claim, joined: Mq0, MqA, MqB, MqD, MqC, Mq. No condition.
-/
import Derived.Test.YtfeobcmcellcpaaGreatMp
import Derived.Test.YtfeobcmcellcpaaGreatConf
set_option linter.unusedVariables false
set_option linter.unusedSimpArgs false
/-! Mq0 -/
namespace Go.Proofs.YtfeobcmcellcpaaGreat
open Go.RowKit

def SomeCl (w : World) (e : Ending) (w' : World) : Prop := ∃ c : Cl, e = .returned (clV c) ∧ Upd [] w w'
theorem pc_fin {w w3 W : World} {q r : Nat} {c : Cl} (hU : Upd [] w w3) (hW : Upd [r] w3 W) (hq : w.heap.size ≤ q) (hr : w.heap.size ≤ r) : SomeCl w (.returned (clV c)) (callW W q c) :=
  ⟨c, rfl, (hU.then hW (fun _ _ h => h) (fun i hi hm => by simp only [List.mem_cons, List.not_mem_nil, or_false] at hm; omega)).then (callW_upd W q c) (fun _ _ h => h) (fun i hi hm => by simp only [List.mem_cons, List.not_mem_nil, or_false] at hm; omega)⟩
theorem pc_find {w w3 W : World} {q r : Nat} {c : Cl} (hU : Upd [] w w3) (hW : Upd [r] w3 W) (hq : w.heap.size ≤ q) (hr : w.heap.size ≤ r) : SomeCl w (.returned (clV c)) (callW W q c).drew := by
  obtain ⟨c', h1, h2⟩ := pc_fin (c := c) hU hW hq hr
  exact ⟨c', h1, h2.drew⟩
end Go.Proofs.YtfeobcmcellcpaaGreat

/-! MqA -/
namespace Go.Proofs.YtfeobcmcellcpaaGreat
open Go.RowKit

set_option maxRecDepth 100000 in
set_option maxHeartbeats 16000000 in
theorem pcall_a (c : Cl) (w : World) (hd : modI c.op 10 = 0) : Calls Tryz.prog 51 #[clV c] w (SomeCl w) := by
  obtain ⟨m23, h23⟩ : ∃ y, modI c.flow 23 = y := ⟨_, rfl⟩
  obtain ⟨m5, h5⟩ : ∃ y, modI c.flow 5 = y := ⟨_, rfl⟩
  obtain ⟨m10, h10⟩ : ∃ y, modI c.op 10 = y := ⟨_, rfl⟩
  rw [h10] at hd
  have H23 : Hid (∀ w, Calls Tryz.prog 13 #[.int .i64 c.flow, .int .i64 23] w (fun e w' => e = .returned (.int .i64 m23) ∧ w = w')) := fun w => by rw [← h23]; exact mod_any _ 23 (by omega) (by omega) w
  have H5 : Hid (∀ w, Calls Tryz.prog 13 #[.int .i64 c.flow, .int .i64 5] w (fun e w' => e = .returned (.int .i64 m5) ∧ w = w')) := fun w => by rw [← h5]; exact mod_any _ 5 (by omega) (by omega) w
  have H10 : Hid (∀ w, Calls Tryz.prog 13 #[.int .i64 c.op, .int .i64 10] w (fun e w' => e = .returned (.int .i64 m10) ∧ w = w')) := fun w => by rw [← h10]; exact mod_any _ 10 (by omega) (by omega) w
  obtain ⟨w1, hw1⟩ : ∃ y, w.alloc (.cells #[.int .i64 c.op, .int .i64 c.flow, .int .i64 c.a, .int .i64 c.b] 46) = y := ⟨_, rfl⟩
  obtain ⟨w2, hw2⟩ : ∃ y, w1.alloc (.cells #[.int .i64 0, .int .i64 0, .int .i64 0, .int .i64 0] 46) = y := ⟨_, rfl⟩
  have u1 : Upd [] w w1 := by rw [← hw1]; exact (Upd.refl [] w).alloc _
  have u2 : Upd [] w1 w2 := by rw [← hw2]; exact (Upd.refl [] w1).alloc _
  have b1 : Blk w1 w.heap.size 46 [.int .i64 c.op, .int .i64 c.flow, .int .i64 c.a, .int .i64 c.b] := by rw [← hw1]; exact Blk.new w 46 [.int .i64 c.op, .int .i64 c.flow, .int .i64 c.a, .int .i64 c.b]
  have b2 : Blk w2 w1.heap.size 46 [.int .i64 0, .int .i64 0, .int .i64 0, .int .i64 0] := by rw [← hw2]; exact Blk.new w1 46 [.int .i64 0, .int .i64 0, .int .i64 0, .int .i64 0]
  have b1 := b1.upd u2 (by simp)
  have hs1 : w1.heap.size = w.heap.size + 1 := by rw [← hw1]; simp
  obtain ⟨p, hp⟩ : ∃ y, w.heap.size = y := ⟨_, rfl⟩
  obtain ⟨q, hq⟩ : ∃ y, w1.heap.size = y := ⟨_, rfl⟩
  have hpq : p ≠ q := by omega
  have hqp := hpq.symm
  have HU2 := Lib.hid (u1.trans u2)
  have HQ : Hid (w.heap.size ≤ q) := by unfold Hid; omega
  rw [hp] at b1
  rw [hq] at b2
  have x0 := b1.cell (j := 0) rfl
  have x1 := b1.cell (j := 1) rfl
  have x2 := b1.cell (j := 2) rfl
  have x3 := b1.cell (j := 3) rfl
  have lp := b1.lt
  have y0 := b2.cell (j := 0) rfl
  have y1 := b2.cell (j := 1) rfl
  have y2 := b2.cell (j := 2) rfl
  have y3 := b2.cell (j := 3) rfl
  have f0 := b2.free 0
  have f1 := b2.free 1
  have f2 := b2.free 2
  have f3 := b2.free 3
  have lq := b2.lt
  have HB1 := Lib.hid b1
  have HB2 := Lib.hid b2
  unfold clV
  clear u1 u2 b1 b2 hs1 h23 h5 h10
  go_enter Tryz.func51, Tryz.ntmps51
  go_wp2_with fail
  clear hp hq hw1 hw2
  refine (H23.out _).mono ?_
  rintro e w9 ⟨rfl, rfl⟩
  by_cases c1 : m23 = 22
  · have t1 : (m23 == 22) = true := by simp [c1]
    clear c1
    go_wp2_with fail
    refine bodyPost_ret (v := .agg #[.int .i64 c.op, .int .i64 c.flow, .int .i64 c.a, .int .i64 c.b]) (by simp [results, Tryz.results51, go_sem, y0, y1, y2, y3]) rfl ?_
    exact ⟨c, rfl, HU2.out.then (callW_upd _ q c) (fun _ _ h => h) (fun i hi hm => by have := HQ.out; simp only [List.mem_cons, List.not_mem_nil, or_false] at hm; omega)⟩
  · have t1 : (m23 == 22) = false := by simp [c1]
    clear c1
    go_wp2_with fail
    refine (H5.out _).mono ?_
    rintro e w9 ⟨rfl, rfl⟩
    go_wp2_with fail
    obtain ⟨w3, hw3⟩ : ∃ y, w2.alloc (.cells #[.int .i64 0, .int .i64 m5, .int .i64 0, .int .i64 0] 46) = y := ⟨_, rfl⟩
    have hu3 : Upd [] w2 w3 := by rw [← hw3]; exact (Upd.refl [] w2).alloc _
    have hb3 : Blk w3 w2.heap.size 46 [.int .i64 0, .int .i64 m5, .int .i64 0, .int .i64 0] := by rw [← hw3]; exact Blk.new w2 46 [.int .i64 0, .int .i64 m5, .int .i64 0, .int .i64 0]
    obtain ⟨r, hr⟩ : ∃ y, w2.heap.size = y := ⟨_, rfl⟩
    rw [hr] at hb3 lp lq
    have hpr : p ≠ r := by omega
    have hqr : q ≠ r := by omega
    have hrp := hpr.symm
    have hrq := hqr.symm
    have HRW : Hid (w.heap.size ≤ r) := by have := HU2.out.size; unfold Hid; omega
    have HU3 := Lib.hid (HU2.out.trans hu3)
    rw [hw3]
    have hb1 := HB1.out.upd hu3 (by simp)
    have hb2 := HB2.out.upd hu3 (by simp)
    clear x0 x1 x2 x3 y0 y1 y2 y3 f0 f1 f2 f3 lp lq hu3
    have x0 := hb1.cell (j := 0) rfl
    have x1 := hb1.cell (j := 1) rfl
    have x2 := hb1.cell (j := 2) rfl
    have x3 := hb1.cell (j := 3) rfl
    have y0 := hb2.cell (j := 0) rfl
    have y1 := hb2.cell (j := 1) rfl
    have y2 := hb2.cell (j := 2) rfl
    have y3 := hb2.cell (j := 3) rfl
    have z0 := hb3.cell (j := 0) rfl
    have z1 := hb3.cell (j := 1) rfl
    have z2 := hb3.cell (j := 2) rfl
    have z3 := hb3.cell (j := 3) rfl
    have f0 := hb2.free 0
    have f1 := hb2.free 1
    have f2 := hb2.free 2
    have f3 := hb2.free 3
    have g0 := hb3.free 0
    have g1 := hb3.free 1
    have g2 := hb3.free 2
    have g3 := hb3.free 3
    have lp := hb1.lt
    have lq := hb2.lt
    have lr := hb3.lt
    rw [hr]
    have HBQ := Lib.hid hb2
    have HBR := Lib.hid hb3
    clear hb1 hb2 hb3 hw3 hr
    refine (H10.out _).mono ?_
    rintro e w9 ⟨rfl, rfl⟩
    have s0 : (m10 == 0) = true := by simp [hd]
    clear hd
    go_wp2_with fail
    have e0 : w3.drew.cell? ⟨p, 2, none⟩ = _ := x2
    have e1 : w3.drew.cell? ⟨p, 3, none⟩ = _ := x3
    go_region_with (go_at_call 13; refine (mod_any _ _ (by omega) (by omega) _).mono ?_; rintro e w9 ⟨rfl, rfl⟩)
    all_goals
      go_wp2_with fail
      refine bodyPost_ret (v := .agg #[.int .i64 1, .int .i64 m5, .int .i64 (wrap64 (1 + modI c.a 5)), .int .i64 (wrap64 (1 + modI c.b 3))]) (by simp [results, Tryz.results51, go_sem, y0, y1, y2, y3, z0, z1, z2, z3]) rfl ?_
      refine pc_find (c := ⟨1, m5, (wrap64 (1 + modI c.a 5)), (wrap64 (1 + modI c.b 3))⟩) HU3.out ?_ HQ.out HRW.out
      exact (((Upd.refl [r] w3).setCell (.inl (by simp)) _).setCell (.inl (by simp)) _).setCell (.inl (by simp)) _
end Go.Proofs.YtfeobcmcellcpaaGreat

/-! MqB -/
namespace Go.Proofs.YtfeobcmcellcpaaGreat
open Go.RowKit

set_option maxRecDepth 100000 in
set_option maxHeartbeats 16000000 in
theorem pcall_b (c : Cl) (w : World) (hd : modI c.op 10 ≠ 0 ∧ modI c.op 10 ≠ 1 ∧ modI c.op 10 ≠ 6 ∧ modI c.op 10 ≠ 7 ∧ modI c.op 10 ≠ 8 ∧ modI c.op 10 ≠ 9) (he : modI c.a 13 ≠ 12) : Calls Tryz.prog 51 #[clV c] w (SomeCl w) := by
  obtain ⟨m23, h23⟩ : ∃ y, modI c.flow 23 = y := ⟨_, rfl⟩
  obtain ⟨m5, h5⟩ : ∃ y, modI c.flow 5 = y := ⟨_, rfl⟩
  obtain ⟨m10, h10⟩ : ∃ y, modI c.op 10 = y := ⟨_, rfl⟩
  rw [h10] at hd
  have H23 : Hid (∀ w, Calls Tryz.prog 13 #[.int .i64 c.flow, .int .i64 23] w (fun e w' => e = .returned (.int .i64 m23) ∧ w = w')) := fun w => by rw [← h23]; exact mod_any _ 23 (by omega) (by omega) w
  have H5 : Hid (∀ w, Calls Tryz.prog 13 #[.int .i64 c.flow, .int .i64 5] w (fun e w' => e = .returned (.int .i64 m5) ∧ w = w')) := fun w => by rw [← h5]; exact mod_any _ 5 (by omega) (by omega) w
  have H10 : Hid (∀ w, Calls Tryz.prog 13 #[.int .i64 c.op, .int .i64 10] w (fun e w' => e = .returned (.int .i64 m10) ∧ w = w')) := fun w => by rw [← h10]; exact mod_any _ 10 (by omega) (by omega) w
  obtain ⟨w1, hw1⟩ : ∃ y, w.alloc (.cells #[.int .i64 c.op, .int .i64 c.flow, .int .i64 c.a, .int .i64 c.b] 46) = y := ⟨_, rfl⟩
  obtain ⟨w2, hw2⟩ : ∃ y, w1.alloc (.cells #[.int .i64 0, .int .i64 0, .int .i64 0, .int .i64 0] 46) = y := ⟨_, rfl⟩
  have u1 : Upd [] w w1 := by rw [← hw1]; exact (Upd.refl [] w).alloc _
  have u2 : Upd [] w1 w2 := by rw [← hw2]; exact (Upd.refl [] w1).alloc _
  have b1 : Blk w1 w.heap.size 46 [.int .i64 c.op, .int .i64 c.flow, .int .i64 c.a, .int .i64 c.b] := by rw [← hw1]; exact Blk.new w 46 [.int .i64 c.op, .int .i64 c.flow, .int .i64 c.a, .int .i64 c.b]
  have b2 : Blk w2 w1.heap.size 46 [.int .i64 0, .int .i64 0, .int .i64 0, .int .i64 0] := by rw [← hw2]; exact Blk.new w1 46 [.int .i64 0, .int .i64 0, .int .i64 0, .int .i64 0]
  have b1 := b1.upd u2 (by simp)
  have hs1 : w1.heap.size = w.heap.size + 1 := by rw [← hw1]; simp
  obtain ⟨p, hp⟩ : ∃ y, w.heap.size = y := ⟨_, rfl⟩
  obtain ⟨q, hq⟩ : ∃ y, w1.heap.size = y := ⟨_, rfl⟩
  have hpq : p ≠ q := by omega
  have hqp := hpq.symm
  have HU2 := Lib.hid (u1.trans u2)
  have HQ : Hid (w.heap.size ≤ q) := by unfold Hid; omega
  rw [hp] at b1
  rw [hq] at b2
  have x0 := b1.cell (j := 0) rfl
  have x1 := b1.cell (j := 1) rfl
  have x2 := b1.cell (j := 2) rfl
  have x3 := b1.cell (j := 3) rfl
  have lp := b1.lt
  have y0 := b2.cell (j := 0) rfl
  have y1 := b2.cell (j := 1) rfl
  have y2 := b2.cell (j := 2) rfl
  have y3 := b2.cell (j := 3) rfl
  have f0 := b2.free 0
  have f1 := b2.free 1
  have f2 := b2.free 2
  have f3 := b2.free 3
  have lq := b2.lt
  have HB1 := Lib.hid b1
  have HB2 := Lib.hid b2
  unfold clV
  clear u1 u2 b1 b2 hs1 h23 h5 h10
  go_enter Tryz.func51, Tryz.ntmps51
  go_wp2_with fail
  clear hp hq hw1 hw2
  refine (H23.out _).mono ?_
  rintro e w9 ⟨rfl, rfl⟩
  by_cases c1 : m23 = 22
  · have t1 : (m23 == 22) = true := by simp [c1]
    clear c1
    go_wp2_with fail
    refine bodyPost_ret (v := .agg #[.int .i64 c.op, .int .i64 c.flow, .int .i64 c.a, .int .i64 c.b]) (by simp [results, Tryz.results51, go_sem, y0, y1, y2, y3]) rfl ?_
    exact ⟨c, rfl, HU2.out.then (callW_upd _ q c) (fun _ _ h => h) (fun i hi hm => by have := HQ.out; simp only [List.mem_cons, List.not_mem_nil, or_false] at hm; omega)⟩
  · have t1 : (m23 == 22) = false := by simp [c1]
    clear c1
    go_wp2_with fail
    refine (H5.out _).mono ?_
    rintro e w9 ⟨rfl, rfl⟩
    go_wp2_with fail
    obtain ⟨w3, hw3⟩ : ∃ y, w2.alloc (.cells #[.int .i64 0, .int .i64 m5, .int .i64 0, .int .i64 0] 46) = y := ⟨_, rfl⟩
    have hu3 : Upd [] w2 w3 := by rw [← hw3]; exact (Upd.refl [] w2).alloc _
    have hb3 : Blk w3 w2.heap.size 46 [.int .i64 0, .int .i64 m5, .int .i64 0, .int .i64 0] := by rw [← hw3]; exact Blk.new w2 46 [.int .i64 0, .int .i64 m5, .int .i64 0, .int .i64 0]
    obtain ⟨r, hr⟩ : ∃ y, w2.heap.size = y := ⟨_, rfl⟩
    rw [hr] at hb3 lp lq
    have hpr : p ≠ r := by omega
    have hqr : q ≠ r := by omega
    have hrp := hpr.symm
    have hrq := hqr.symm
    have HRW : Hid (w.heap.size ≤ r) := by have := HU2.out.size; unfold Hid; omega
    have HU3 := Lib.hid (HU2.out.trans hu3)
    rw [hw3]
    have hb1 := HB1.out.upd hu3 (by simp)
    have hb2 := HB2.out.upd hu3 (by simp)
    clear x0 x1 x2 x3 y0 y1 y2 y3 f0 f1 f2 f3 lp lq hu3
    have x0 := hb1.cell (j := 0) rfl
    have x1 := hb1.cell (j := 1) rfl
    have x2 := hb1.cell (j := 2) rfl
    have x3 := hb1.cell (j := 3) rfl
    have y0 := hb2.cell (j := 0) rfl
    have y1 := hb2.cell (j := 1) rfl
    have y2 := hb2.cell (j := 2) rfl
    have y3 := hb2.cell (j := 3) rfl
    have z0 := hb3.cell (j := 0) rfl
    have z1 := hb3.cell (j := 1) rfl
    have z2 := hb3.cell (j := 2) rfl
    have z3 := hb3.cell (j := 3) rfl
    have f0 := hb2.free 0
    have f1 := hb2.free 1
    have f2 := hb2.free 2
    have f3 := hb2.free 3
    have g0 := hb3.free 0
    have g1 := hb3.free 1
    have g2 := hb3.free 2
    have g3 := hb3.free 3
    have lp := hb1.lt
    have lq := hb2.lt
    have lr := hb3.lt
    rw [hr]
    have HBQ := Lib.hid hb2
    have HBR := Lib.hid hb3
    clear hb1 hb2 hb3 hw3 hr
    refine (H10.out _).mono ?_
    rintro e w9 ⟨rfl, rfl⟩
    have s0 : (m10 == 0) = false := by simp [hd.1]
    have s1 : (m10 == 1) = false := by simp [hd.2.1]
    have s6 : (m10 == 6) = false := by simp [hd.2.2.1]
    have s7 : (m10 == 7) = false := by simp [hd.2.2.2.1]
    have s8 : (m10 == 8) = false := by simp [hd.2.2.2.2.1]
    have s9 : (m10 == 9) = false := by simp [hd.2.2.2.2.2]
    clear hd
    go_wp2_with fail
    have e0 : w3.drew.cell? ⟨p, 2, none⟩ = _ := x2
    have e1 : w3.drew.cell? ⟨p, 3, none⟩ = _ := x3
    obtain ⟨m13, h13⟩ : ∃ y, modI c.a 13 = y := ⟨_, rfl⟩
    rw [h13] at he
    have H13 : Hid (∀ w, Calls Tryz.prog 13 #[.int .i64 c.a, .int .i64 13] w (fun e w' => e = .returned (.int .i64 m13) ∧ w = w')) := fun w => by rw [← h13]; exact mod_any _ 13 (by omega) (by omega) w
    clear h13
    have s13 : (m13 == 12) = false := by simp [he]
    clear he
    go_region_with (go_at_call 13; refine (mod_any _ _ (by omega) (by omega) _).mono ?_; rintro e w9 ⟨rfl, rfl⟩)
    all_goals
      go_wp2_with fail
      refine (H13.out _).mono ?_
      rintro e w9 ⟨rfl, rfl⟩
      go_wp2_with fail
      refine bodyPost_ret (v := .agg #[.int .i64 3, .int .i64 m5, .int .i64 (wrap64 (1 + modI c.a 9)), .int .i64 (modI c.b 1000)]) (by simp [results, Tryz.results51, go_sem, y0, y1, y2, y3, z0, z1, z2, z3]) rfl ?_
      refine pc_find (c := ⟨3, m5, (wrap64 (1 + modI c.a 9)), (modI c.b 1000)⟩) HU3.out ?_ HQ.out HRW.out
      exact (((Upd.refl [r] w3).setCell (.inl (by simp)) _).setCell (.inl (by simp)) _).setCell (.inl (by simp)) _
end Go.Proofs.YtfeobcmcellcpaaGreat

/-! MqD -/
namespace Go.Proofs.YtfeobcmcellcpaaGreat
open Go.RowKit

set_option maxRecDepth 100000 in
set_option maxHeartbeats 16000000 in
theorem pcall_b2 (c : Cl) (w : World) (hd : modI c.op 10 ≠ 0 ∧ modI c.op 10 ≠ 1 ∧ modI c.op 10 ≠ 6 ∧ modI c.op 10 ≠ 7 ∧ modI c.op 10 ≠ 8 ∧ modI c.op 10 ≠ 9) (he : modI c.a 13 = 12) : Calls Tryz.prog 51 #[clV c] w (SomeCl w) := by
  obtain ⟨m23, h23⟩ : ∃ y, modI c.flow 23 = y := ⟨_, rfl⟩
  obtain ⟨m5, h5⟩ : ∃ y, modI c.flow 5 = y := ⟨_, rfl⟩
  obtain ⟨m10, h10⟩ : ∃ y, modI c.op 10 = y := ⟨_, rfl⟩
  rw [h10] at hd
  have H23 : Hid (∀ w, Calls Tryz.prog 13 #[.int .i64 c.flow, .int .i64 23] w (fun e w' => e = .returned (.int .i64 m23) ∧ w = w')) := fun w => by rw [← h23]; exact mod_any _ 23 (by omega) (by omega) w
  have H5 : Hid (∀ w, Calls Tryz.prog 13 #[.int .i64 c.flow, .int .i64 5] w (fun e w' => e = .returned (.int .i64 m5) ∧ w = w')) := fun w => by rw [← h5]; exact mod_any _ 5 (by omega) (by omega) w
  have H10 : Hid (∀ w, Calls Tryz.prog 13 #[.int .i64 c.op, .int .i64 10] w (fun e w' => e = .returned (.int .i64 m10) ∧ w = w')) := fun w => by rw [← h10]; exact mod_any _ 10 (by omega) (by omega) w
  obtain ⟨w1, hw1⟩ : ∃ y, w.alloc (.cells #[.int .i64 c.op, .int .i64 c.flow, .int .i64 c.a, .int .i64 c.b] 46) = y := ⟨_, rfl⟩
  obtain ⟨w2, hw2⟩ : ∃ y, w1.alloc (.cells #[.int .i64 0, .int .i64 0, .int .i64 0, .int .i64 0] 46) = y := ⟨_, rfl⟩
  have u1 : Upd [] w w1 := by rw [← hw1]; exact (Upd.refl [] w).alloc _
  have u2 : Upd [] w1 w2 := by rw [← hw2]; exact (Upd.refl [] w1).alloc _
  have b1 : Blk w1 w.heap.size 46 [.int .i64 c.op, .int .i64 c.flow, .int .i64 c.a, .int .i64 c.b] := by rw [← hw1]; exact Blk.new w 46 [.int .i64 c.op, .int .i64 c.flow, .int .i64 c.a, .int .i64 c.b]
  have b2 : Blk w2 w1.heap.size 46 [.int .i64 0, .int .i64 0, .int .i64 0, .int .i64 0] := by rw [← hw2]; exact Blk.new w1 46 [.int .i64 0, .int .i64 0, .int .i64 0, .int .i64 0]
  have b1 := b1.upd u2 (by simp)
  have hs1 : w1.heap.size = w.heap.size + 1 := by rw [← hw1]; simp
  obtain ⟨p, hp⟩ : ∃ y, w.heap.size = y := ⟨_, rfl⟩
  obtain ⟨q, hq⟩ : ∃ y, w1.heap.size = y := ⟨_, rfl⟩
  have hpq : p ≠ q := by omega
  have hqp := hpq.symm
  have HU2 := Lib.hid (u1.trans u2)
  have HQ : Hid (w.heap.size ≤ q) := by unfold Hid; omega
  rw [hp] at b1
  rw [hq] at b2
  have x0 := b1.cell (j := 0) rfl
  have x1 := b1.cell (j := 1) rfl
  have x2 := b1.cell (j := 2) rfl
  have x3 := b1.cell (j := 3) rfl
  have lp := b1.lt
  have y0 := b2.cell (j := 0) rfl
  have y1 := b2.cell (j := 1) rfl
  have y2 := b2.cell (j := 2) rfl
  have y3 := b2.cell (j := 3) rfl
  have f0 := b2.free 0
  have f1 := b2.free 1
  have f2 := b2.free 2
  have f3 := b2.free 3
  have lq := b2.lt
  have HB1 := Lib.hid b1
  have HB2 := Lib.hid b2
  unfold clV
  clear u1 u2 b1 b2 hs1 h23 h5 h10
  go_enter Tryz.func51, Tryz.ntmps51
  go_wp2_with fail
  clear hp hq hw1 hw2
  refine (H23.out _).mono ?_
  rintro e w9 ⟨rfl, rfl⟩
  by_cases c1 : m23 = 22
  · have t1 : (m23 == 22) = true := by simp [c1]
    clear c1
    go_wp2_with fail
    refine bodyPost_ret (v := .agg #[.int .i64 c.op, .int .i64 c.flow, .int .i64 c.a, .int .i64 c.b]) (by simp [results, Tryz.results51, go_sem, y0, y1, y2, y3]) rfl ?_
    exact ⟨c, rfl, HU2.out.then (callW_upd _ q c) (fun _ _ h => h) (fun i hi hm => by have := HQ.out; simp only [List.mem_cons, List.not_mem_nil, or_false] at hm; omega)⟩
  · have t1 : (m23 == 22) = false := by simp [c1]
    clear c1
    go_wp2_with fail
    refine (H5.out _).mono ?_
    rintro e w9 ⟨rfl, rfl⟩
    go_wp2_with fail
    obtain ⟨w3, hw3⟩ : ∃ y, w2.alloc (.cells #[.int .i64 0, .int .i64 m5, .int .i64 0, .int .i64 0] 46) = y := ⟨_, rfl⟩
    have hu3 : Upd [] w2 w3 := by rw [← hw3]; exact (Upd.refl [] w2).alloc _
    have hb3 : Blk w3 w2.heap.size 46 [.int .i64 0, .int .i64 m5, .int .i64 0, .int .i64 0] := by rw [← hw3]; exact Blk.new w2 46 [.int .i64 0, .int .i64 m5, .int .i64 0, .int .i64 0]
    obtain ⟨r, hr⟩ : ∃ y, w2.heap.size = y := ⟨_, rfl⟩
    rw [hr] at hb3 lp lq
    have hpr : p ≠ r := by omega
    have hqr : q ≠ r := by omega
    have hrp := hpr.symm
    have hrq := hqr.symm
    have HRW : Hid (w.heap.size ≤ r) := by have := HU2.out.size; unfold Hid; omega
    have HU3 := Lib.hid (HU2.out.trans hu3)
    rw [hw3]
    have hb1 := HB1.out.upd hu3 (by simp)
    have hb2 := HB2.out.upd hu3 (by simp)
    clear x0 x1 x2 x3 y0 y1 y2 y3 f0 f1 f2 f3 lp lq hu3
    have x0 := hb1.cell (j := 0) rfl
    have x1 := hb1.cell (j := 1) rfl
    have x2 := hb1.cell (j := 2) rfl
    have x3 := hb1.cell (j := 3) rfl
    have y0 := hb2.cell (j := 0) rfl
    have y1 := hb2.cell (j := 1) rfl
    have y2 := hb2.cell (j := 2) rfl
    have y3 := hb2.cell (j := 3) rfl
    have z0 := hb3.cell (j := 0) rfl
    have z1 := hb3.cell (j := 1) rfl
    have z2 := hb3.cell (j := 2) rfl
    have z3 := hb3.cell (j := 3) rfl
    have f0 := hb2.free 0
    have f1 := hb2.free 1
    have f2 := hb2.free 2
    have f3 := hb2.free 3
    have g0 := hb3.free 0
    have g1 := hb3.free 1
    have g2 := hb3.free 2
    have g3 := hb3.free 3
    have lp := hb1.lt
    have lq := hb2.lt
    have lr := hb3.lt
    rw [hr]
    have HBQ := Lib.hid hb2
    have HBR := Lib.hid hb3
    clear hb1 hb2 hb3 hw3 hr
    refine (H10.out _).mono ?_
    rintro e w9 ⟨rfl, rfl⟩
    have s0 : (m10 == 0) = false := by simp [hd.1]
    have s1 : (m10 == 1) = false := by simp [hd.2.1]
    have s6 : (m10 == 6) = false := by simp [hd.2.2.1]
    have s7 : (m10 == 7) = false := by simp [hd.2.2.2.1]
    have s8 : (m10 == 8) = false := by simp [hd.2.2.2.2.1]
    have s9 : (m10 == 9) = false := by simp [hd.2.2.2.2.2]
    clear hd
    go_wp2_with fail
    have e0 : w3.drew.cell? ⟨p, 2, none⟩ = _ := x2
    have e1 : w3.drew.cell? ⟨p, 3, none⟩ = _ := x3
    obtain ⟨m13, h13⟩ : ∃ y, modI c.a 13 = y := ⟨_, rfl⟩
    rw [h13] at he
    have H13 : Hid (∀ w, Calls Tryz.prog 13 #[.int .i64 c.a, .int .i64 13] w (fun e w' => e = .returned (.int .i64 m13) ∧ w = w')) := fun w => by rw [← h13]; exact mod_any _ 13 (by omega) (by omega) w
    clear h13
    have s13 : (m13 == 12) = true := by simp [he]
    obtain ⟨m65, h65⟩ : ∃ y, modI c.a 65536 = y := ⟨_, rfl⟩
    have H65 : Hid (∀ w, Calls Tryz.prog 13 #[.int .i64 c.a, .int .i64 65536] w (fun e w' => e = .returned (.int .i64 m65) ∧ w = w')) := fun w => by rw [← h65]; exact mod_any _ 65536 (by omega) (by omega) w
    clear he h65
    go_region_with (go_at_call 13; refine (mod_any _ _ (by omega) (by omega) _).mono ?_; rintro e w9 ⟨rfl, rfl⟩)
    all_goals
      go_wp2_with fail
      refine (H13.out _).mono ?_
      rintro e w9 ⟨rfl, rfl⟩
      go_wp2_with fail
      refine (H65.out _).mono ?_
      rintro e w9 ⟨rfl, rfl⟩
      obtain ⟨w8, hw8⟩ : ∃ v, (((w3.setCell ⟨r, 0, none⟩ (.int .i64 3)).setCell ⟨r, 2, none⟩ (.int .i64 (wrap64 (1 + modI c.a 9)))).setCell ⟨r, 3, none⟩ (.int .i64 (modI c.b 1000))).drew = v := ⟨_, rfl⟩
      have hu8 : Upd [r] w3 w8 := by rw [← hw8]; exact ((((Upd.refl [r] w3).setCell (.inl (by simp)) _).setCell (.inl (by simp)) _).setCell (.inl (by simp)) _).drew
      have hb8 : Blk w8 r 46 [.int .i64 3, .int .i64 m5, .int .i64 (wrap64 (1 + modI c.a 9)), .int .i64 (modI c.b 1000)] := by rw [← hw8]; exact (((HBR.out.set 0 (.int .i64 3)).set 2 (.int .i64 (wrap64 (1 + modI c.a 9)))).set 3 (.int .i64 (modI c.b 1000))).upd (Upd.refl [] _).drew (by simp)
      have hq8 := HBQ.out.upd hu8 (by simpa using hqr)
      have HU8 : Hid (Upd [] w w8) := HU3.out.then hu8 (fun _ _ h => h) (fun i hi hm => by have := HRW.out; simp only [List.mem_cons, List.not_mem_nil, or_false] at hm; omega)
      rw [hw8]
      clear hw8 hu8 x0 x1 x2 x3 y0 y1 y2 y3 z0 z1 z2 z3 f0 f1 f2 f3 g0 g1 g2 g3 lp lq lr e0 e1 HU3
      have y0 := hq8.cell (j := 0) rfl
      have y1 := hq8.cell (j := 1) rfl
      have y2 := hq8.cell (j := 2) rfl
      have y3 := hq8.cell (j := 3) rfl
      have f0 := hq8.free 0
      have f1 := hq8.free 1
      have f2 := hq8.free 2
      have f3 := hq8.free 3
      have z0 := hb8.cell (j := 0) rfl
      have z1 := hb8.cell (j := 1) rfl
      have z2 := hb8.cell (j := 2) rfl
      have z3 := hb8.cell (j := 3) rfl
      have g2 := hb8.free 2
      have lq := hq8.lt
      have lr := hb8.lt
      obtain ⟨t9, ht9⟩ : ∃ v, wrap64 (1 + modI c.a 9) = v := ⟨_, rfl⟩
      obtain ⟨t8, ht8⟩ : ∃ v, modI c.b 1000 = v := ⟨_, rfl⟩
      rw [ht9] at z2
      rw [ht8] at z3
      clear hb8 hq8
      go_wp2_with fail
      refine bodyPost_ret (v := .agg #[.int .i64 3, .int .i64 m5, .int .i64 (wrap64 (1 + m65)), .int .i64 t8]) (by simp [results, Tryz.results51, go_sem, y0, y1, y2, y3, z0, z1, z2, z3]) rfl ?_
      refine pc_fin (c := ⟨3, m5, wrap64 (1 + m65), t8⟩) HU8.out ?_ HQ.out HRW.out
      exact (Upd.refl [r] w8).setCell (.inl (by simp)) _
end Go.Proofs.YtfeobcmcellcpaaGreat

/-! MqC -/
namespace Go.Proofs.YtfeobcmcellcpaaGreat
open Go.RowKit

set_option maxRecDepth 100000 in
set_option maxHeartbeats 16000000 in
theorem pcall_c (c : Cl) (w : World) (hd : modI c.op 10 = 1 ∨ modI c.op 10 = 6 ∨ modI c.op 10 = 7 ∨ modI c.op 10 = 8 ∨ modI c.op 10 = 9) : Calls Tryz.prog 51 #[clV c] w (SomeCl w) := by
  obtain ⟨m23, h23⟩ : ∃ y, modI c.flow 23 = y := ⟨_, rfl⟩
  obtain ⟨m5, h5⟩ : ∃ y, modI c.flow 5 = y := ⟨_, rfl⟩
  obtain ⟨m10, h10⟩ : ∃ y, modI c.op 10 = y := ⟨_, rfl⟩
  rw [h10] at hd
  have H23 : Hid (∀ w, Calls Tryz.prog 13 #[.int .i64 c.flow, .int .i64 23] w (fun e w' => e = .returned (.int .i64 m23) ∧ w = w')) := fun w => by rw [← h23]; exact mod_any _ 23 (by omega) (by omega) w
  have H5 : Hid (∀ w, Calls Tryz.prog 13 #[.int .i64 c.flow, .int .i64 5] w (fun e w' => e = .returned (.int .i64 m5) ∧ w = w')) := fun w => by rw [← h5]; exact mod_any _ 5 (by omega) (by omega) w
  have H10 : Hid (∀ w, Calls Tryz.prog 13 #[.int .i64 c.op, .int .i64 10] w (fun e w' => e = .returned (.int .i64 m10) ∧ w = w')) := fun w => by rw [← h10]; exact mod_any _ 10 (by omega) (by omega) w
  obtain ⟨w1, hw1⟩ : ∃ y, w.alloc (.cells #[.int .i64 c.op, .int .i64 c.flow, .int .i64 c.a, .int .i64 c.b] 46) = y := ⟨_, rfl⟩
  obtain ⟨w2, hw2⟩ : ∃ y, w1.alloc (.cells #[.int .i64 0, .int .i64 0, .int .i64 0, .int .i64 0] 46) = y := ⟨_, rfl⟩
  have u1 : Upd [] w w1 := by rw [← hw1]; exact (Upd.refl [] w).alloc _
  have u2 : Upd [] w1 w2 := by rw [← hw2]; exact (Upd.refl [] w1).alloc _
  have b1 : Blk w1 w.heap.size 46 [.int .i64 c.op, .int .i64 c.flow, .int .i64 c.a, .int .i64 c.b] := by rw [← hw1]; exact Blk.new w 46 [.int .i64 c.op, .int .i64 c.flow, .int .i64 c.a, .int .i64 c.b]
  have b2 : Blk w2 w1.heap.size 46 [.int .i64 0, .int .i64 0, .int .i64 0, .int .i64 0] := by rw [← hw2]; exact Blk.new w1 46 [.int .i64 0, .int .i64 0, .int .i64 0, .int .i64 0]
  have b1 := b1.upd u2 (by simp)
  have hs1 : w1.heap.size = w.heap.size + 1 := by rw [← hw1]; simp
  obtain ⟨p, hp⟩ : ∃ y, w.heap.size = y := ⟨_, rfl⟩
  obtain ⟨q, hq⟩ : ∃ y, w1.heap.size = y := ⟨_, rfl⟩
  have hpq : p ≠ q := by omega
  have hqp := hpq.symm
  have HU2 := Lib.hid (u1.trans u2)
  have HQ : Hid (w.heap.size ≤ q) := by unfold Hid; omega
  rw [hp] at b1
  rw [hq] at b2
  have x0 := b1.cell (j := 0) rfl
  have x1 := b1.cell (j := 1) rfl
  have x2 := b1.cell (j := 2) rfl
  have x3 := b1.cell (j := 3) rfl
  have lp := b1.lt
  have y0 := b2.cell (j := 0) rfl
  have y1 := b2.cell (j := 1) rfl
  have y2 := b2.cell (j := 2) rfl
  have y3 := b2.cell (j := 3) rfl
  have f0 := b2.free 0
  have f1 := b2.free 1
  have f2 := b2.free 2
  have f3 := b2.free 3
  have lq := b2.lt
  have HB1 := Lib.hid b1
  have HB2 := Lib.hid b2
  unfold clV
  clear u1 u2 b1 b2 hs1 h23 h5 h10
  go_enter Tryz.func51, Tryz.ntmps51
  go_wp2_with fail
  clear hp hq hw1 hw2
  refine (H23.out _).mono ?_
  rintro e w9 ⟨rfl, rfl⟩
  by_cases c1 : m23 = 22
  · have t1 : (m23 == 22) = true := by simp [c1]
    clear c1
    go_wp2_with fail
    refine bodyPost_ret (v := .agg #[.int .i64 c.op, .int .i64 c.flow, .int .i64 c.a, .int .i64 c.b]) (by simp [results, Tryz.results51, go_sem, y0, y1, y2, y3]) rfl ?_
    exact ⟨c, rfl, HU2.out.then (callW_upd _ q c) (fun _ _ h => h) (fun i hi hm => by have := HQ.out; simp only [List.mem_cons, List.not_mem_nil, or_false] at hm; omega)⟩
  · have t1 : (m23 == 22) = false := by simp [c1]
    clear c1
    go_wp2_with fail
    refine (H5.out _).mono ?_
    rintro e w9 ⟨rfl, rfl⟩
    go_wp2_with fail
    obtain ⟨w3, hw3⟩ : ∃ y, w2.alloc (.cells #[.int .i64 0, .int .i64 m5, .int .i64 0, .int .i64 0] 46) = y := ⟨_, rfl⟩
    have hu3 : Upd [] w2 w3 := by rw [← hw3]; exact (Upd.refl [] w2).alloc _
    have hb3 : Blk w3 w2.heap.size 46 [.int .i64 0, .int .i64 m5, .int .i64 0, .int .i64 0] := by rw [← hw3]; exact Blk.new w2 46 [.int .i64 0, .int .i64 m5, .int .i64 0, .int .i64 0]
    obtain ⟨r, hr⟩ : ∃ y, w2.heap.size = y := ⟨_, rfl⟩
    rw [hr] at hb3 lp lq
    have hpr : p ≠ r := by omega
    have hqr : q ≠ r := by omega
    have hrp := hpr.symm
    have hrq := hqr.symm
    have HRW : Hid (w.heap.size ≤ r) := by have := HU2.out.size; unfold Hid; omega
    have HU3 := Lib.hid (HU2.out.trans hu3)
    rw [hw3]
    have hb1 := HB1.out.upd hu3 (by simp)
    have hb2 := HB2.out.upd hu3 (by simp)
    clear x0 x1 x2 x3 y0 y1 y2 y3 f0 f1 f2 f3 lp lq hu3
    have x0 := hb1.cell (j := 0) rfl
    have x1 := hb1.cell (j := 1) rfl
    have x2 := hb1.cell (j := 2) rfl
    have x3 := hb1.cell (j := 3) rfl
    have y0 := hb2.cell (j := 0) rfl
    have y1 := hb2.cell (j := 1) rfl
    have y2 := hb2.cell (j := 2) rfl
    have y3 := hb2.cell (j := 3) rfl
    have z0 := hb3.cell (j := 0) rfl
    have z1 := hb3.cell (j := 1) rfl
    have z2 := hb3.cell (j := 2) rfl
    have z3 := hb3.cell (j := 3) rfl
    have f0 := hb2.free 0
    have f1 := hb2.free 1
    have f2 := hb2.free 2
    have f3 := hb2.free 3
    have g0 := hb3.free 0
    have g1 := hb3.free 1
    have g2 := hb3.free 2
    have g3 := hb3.free 3
    have lp := hb1.lt
    have lq := hb2.lt
    have lr := hb3.lt
    rw [hr]
    have HBQ := Lib.hid hb2
    have HBR := Lib.hid hb3
    clear hb1 hb2 hb3 hw3 hr
    refine (H10.out _).mono ?_
    rintro e w9 ⟨rfl, rfl⟩
    have s0 : (m10 == 0) = false := by simp; omega
    by_cases d1 : m10 = 1
    · have s1 : (m10 == 1) = true := by simp [d1]
      clear hd d1
      go_wp2_with fail
      refine bodyPost_ret (v := .agg #[.int .i64 2, .int .i64 m5, .int .i64 0, .int .i64 0]) (by simp [results, Tryz.results51, go_sem, y0, y1, y2, y3, z0, z1, z2, z3]) rfl ?_
      refine pc_fin (c := ⟨2, m5, 0, 0⟩) HU3.out ?_ HQ.out HRW.out
      exact (Upd.refl [r] w3).setCell (.inl (by simp)) _
    · have s1 : (m10 == 1) = false := by simp [d1]
      by_cases d6 : m10 = 6
      · have s6 : (m10 == 6) = true := by simp [d6]
        clear hd d1 d6
        go_wp2_with fail
        refine bodyPost_ret (v := .agg #[.int .i64 4, .int .i64 0, .int .i64 0, .int .i64 0]) (by simp [results, Tryz.results51, go_sem, y0, y1, y2, y3, z0, z1, z2, z3]) rfl ?_
        refine pc_fin (c := ⟨4, 0, 0, 0⟩) HU3.out ?_ HQ.out HRW.out
        exact ((((Upd.refl [r] w3).setCell (.inl (by simp)) _).setCell (.inl (by simp)) _).setCell (.inl (by simp)) _).setCell (.inl (by simp)) _
      · have s6 : (m10 == 6) = false := by simp [d6]
        by_cases d7 : m10 = 7
        · have s7 : (m10 == 7) = true := by simp [d7]
          clear hd d1 d6 d7
          go_wp2_with fail
          refine bodyPost_ret (v := .agg #[.int .i64 4, .int .i64 0, .int .i64 0, .int .i64 0]) (by simp [results, Tryz.results51, go_sem, y0, y1, y2, y3, z0, z1, z2, z3]) rfl ?_
          refine pc_fin (c := ⟨4, 0, 0, 0⟩) HU3.out ?_ HQ.out HRW.out
          exact ((((Upd.refl [r] w3).setCell (.inl (by simp)) _).setCell (.inl (by simp)) _).setCell (.inl (by simp)) _).setCell (.inl (by simp)) _
        · have s7 : (m10 == 7) = false := by simp [d7]
          by_cases d8 : m10 = 8
          · have s8 : (m10 == 8) = true := by simp [d8]
            clear hd d1 d6 d7 d8
            go_wp2_with fail
            refine (mod_any _ _ (by omega) (by omega) _).mono ?_
            rintro e w9 ⟨rfl, rfl⟩
            go_wp2_with fail
            refine bodyPost_ret (v := .agg #[.int .i64 5, .int .i64 0, .int .i64 (modI c.a 6), .int .i64 0]) (by simp [results, Tryz.results51, go_sem, y0, y1, y2, y3, z0, z1, z2, z3]) rfl ?_
            refine pc_fin (c := ⟨5, 0, (modI c.a 6), 0⟩) HU3.out ?_ HQ.out HRW.out
            exact ((((Upd.refl [r] w3).setCell (.inl (by simp)) _).setCell (.inl (by simp)) _).setCell (.inl (by simp)) _).setCell (.inl (by simp)) _
          · have s8 : (m10 == 8) = false := by simp [d8]
            have s9 : (m10 == 9) = true := by simp; omega
            clear hd d1 d6 d7 d8
            go_wp2_with fail
            refine bodyPost_ret (v := .agg #[.int .i64 6, .int .i64 0, .int .i64 0, .int .i64 0]) (by simp [results, Tryz.results51, go_sem, y0, y1, y2, y3, z0, z1, z2, z3]) rfl ?_
            refine pc_fin (c := ⟨6, 0, 0, 0⟩) HU3.out ?_ HQ.out HRW.out
            exact ((((Upd.refl [r] w3).setCell (.inl (by simp)) _).setCell (.inl (by simp)) _).setCell (.inl (by simp)) _).setCell (.inl (by simp)) _
end Go.Proofs.YtfeobcmcellcpaaGreat

/-! Mq -/
namespace Go.Proofs.YtfeobcmcellcpaaGreat
open Go.RowKit

theorem pcall_some (c : Cl) (w : World) : Calls Tryz.prog 51 #[clV c] w (SomeCl w) := by
  by_cases h0 : modI c.op 10 = 0
  · exact pcall_a c w h0
  · by_cases h1 : modI c.op 10 = 1 ∨ modI c.op 10 = 6 ∨ modI c.op 10 = 7 ∨ modI c.op 10 = 8 ∨ modI c.op 10 = 9
    · exact pcall_c c w h1
    · by_cases h13 : modI c.a 13 = 12
      · exact pcall_b2 c w (by omega) h13
      · exact pcall_b c w (by omega) h13
end Go.Proofs.YtfeobcmcellcpaaGreat
