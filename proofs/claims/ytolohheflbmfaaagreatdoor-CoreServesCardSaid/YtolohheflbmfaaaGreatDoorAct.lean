/-
  law21: an act's object and size, Config. No condition.
-/
import Derived.Test.YtolohheflbmfaaaGreatDoorPB
import Derived.Test.YtolohheflbmfaaaGreatDoorQuiet
import Derived.Test.YtolohheflbmfaaaGreatDoorFlat
set_option linter.unusedVariables false
set_option linter.unusedSimpArgs false
namespace Go.Proofs.YtolohheflbmfaaaGreatDoor
open Go.RowKit

/-! ### size -/
def sizeI (z : Int) : Int := if modI z 19 = 18 then z else modI z 3000 - 3
theorem sizeI_bd {z : Int} (h : z < 9223372036854775808) : sizeI z < 9223372036854775808 := by
  unfold sizeI; split
  · exact h
  · have := (modI_bd z 3000 (by omega) (by omega)).2; omega
def actV (kind obj size flow most : Int) (r : Nat) (more : Bool) : Value := .agg #[.int .i64 kind, .int .i64 obj, .int .i64 size, .int .i64 flow, .int .i64 most, .int .u64 r, .bool more]

set_option maxHeartbeats 800000 in
theorem size21_any (kind obj z flow most : Int) (r : Nat) (more : Bool) (w : World) : Calls Tryz.prog 20 #[.agg #[.int .i64 kind, .int .i64 obj, .int .i64 z, .int .i64 flow, .int .i64 most, .int .u64 r, .bool more]] w (RetUpd [] w (.int .i64 (sizeI z))) := by
  obtain ⟨q, hq⟩ : ∃ q, sizeI z = q := ⟨_, rfl⟩
  rw [hq]
  obtain ⟨m, hm⟩ : ∃ m, modI z 19 = m := ⟨_, rfl⟩
  obtain ⟨p, hp⟩ : ∃ p, modI z 3000 = p := ⟨_, rfl⟩
  have hpb := modI_bd z 3000 (by omega) (by omega)
  rw [hp] at hpb
  have HR := Lib.hid hq
  have HM := Lib.hid hm
  have HP := Lib.hid hp
  clear hq hm hp
  by_cases h : m = 18
  · have hb : (m == 18) = true := by simp [h]
    have HK : Hid (z = q) := by unfold Hid; have := HR.out; unfold sizeI at this; rw [HM.out, if_pos h] at this; exact this
    clear h
    go_enter Tryz.func20, Tryz.ntmps20
    go_wp2_with fail
    refine (mod_any z 19 (by omega) (by omega) _).mono ?_
    rintro e w2 ⟨rfl, rfl⟩
    rw [HM.out]
    go_wp2
    go_ret
    exact ⟨ret_int HK.out, (Upd.refl _ w).alloc _⟩
  · have hb : (m == 18) = false := by simp [h]
    have HK : Hid (p - 3 = q) := by unfold Hid; have := HR.out; unfold sizeI at this; rw [HM.out, if_neg h, HP.out] at this; exact this
    have hw : wrap64 (p - 3) = p - 3 := by unfold wrap64; omega
    clear h
    go_enter Tryz.func20, Tryz.ntmps20
    go_wp2_with fail
    refine (mod_any z 19 (by omega) (by omega) _).mono ?_
    rintro e w2 ⟨rfl, rfl⟩
    rw [HM.out]
    go_wp2_with fail
    refine (mod_any z 3000 (by omega) (by omega) _).mono ?_
    rintro e w3 ⟨rfl, rfl⟩
    rw [HP.out]
    go_wp2
    go_ret
    exact ⟨ret_int (by first | exact HK.out | (rw [hw]; exact HK.out)), (Upd.refl _ w).alloc _⟩

/-! ### object -/
def ObjTo (w : World) (e : Ending) (w' : World) : Prop := ∃ (obj flow most : Int) (r : Nat), e = .returned (.tuple #[.int .i64 obj, .agg #[.int .i64 flow, .int .i64 most, .int .u64 r]]) ∧ r < 18446744073709551616 ∧ Upd [] w w'
theorem obj_done {w w' : World} {obj flow most : Int} {r : Nat} (hr : r < 18446744073709551616) (hU : Upd [] w w') : ObjTo w (.returned (.tuple #[.int .i64 obj, .agg #[.int .i64 flow, .int .i64 most, .int .u64 r]])) w' := ⟨obj, flow, most, r, rfl, hr, hU⟩

set_option maxRecDepth 100000 in
set_option maxHeartbeats 16000000 in
theorem object21_any (kind obj z flow most : Int) (r : Nat) (more : Bool) (hr : r < 18446744073709551616) (w : World) : Calls Tryz.prog 17 #[.agg #[.int .i64 kind, .int .i64 obj, .int .i64 z, .int .i64 flow, .int .i64 most, .int .u64 r, .bool more]] w (ObjTo w) := by
  obtain ⟨m, hm⟩ : ∃ m, modI flow 23 = m := ⟨_, rfl⟩
  obtain ⟨p, hp⟩ : ∃ p, modI obj 23 = p := ⟨_, rfl⟩
  obtain ⟨m6, hm6⟩ : ∃ m, modI flow 6 = m := ⟨_, rfl⟩
  obtain ⟨p6, hp6⟩ : ∃ p, modI obj 6 = p := ⟨_, rfl⟩
  obtain ⟨r9, hr9⟩ : ∃ q, r % 9 = q := ⟨_, rfl⟩
  obtain ⟨rr, hrw⟩ : ∃ q, 1 + r % 40 = q := ⟨_, rfl⟩
  have hmi : (r : Int) % 9 = (r9 : Int) := by omega
  have hmi2 : ((r : Int)).tmod 9 = (r9 : Int) := by rw [Int.tmod_eq_emod_of_nonneg (by omega)]; exact hmi
  have hmj : IntKind.u64.wrap (1 + (r : Int) % 40) = (rr : Int) := by rw [IntKind.wrap_u64]; omega
  have hmk : IntKind.u64.wrap (1 + ((r : Int)).tmod 40) = (rr : Int) := by rw [Int.tmod_eq_emod_of_nonneg (by omega)]; exact hmj
  have hrw2 : rr < 18446744073709551616 := by omega
  have HM := Lib.hid hm
  have HP := Lib.hid hp
  have HM6 := Lib.hid hm6
  have HP6 := Lib.hid hp6
  have HR := Lib.hid hr
  have HRW := Lib.hid hrw2
  have HR9 := Lib.hid (show r9 < 9 by omega)
  clear hm hp hm6 hp6 hr9 hrw hrw2 hr
  by_cases hA : m = 22
  · have ta : (m == 22) = true := by simp [hA]
    clear hA
    by_cases hB : p = 22
    · have tb : (p == 22) = true := by simp [hB]
      clear hB
      by_cases hC : r9 < 7
      · have tc : decide (r9 < 7) = true := by simp [hC]
        have td : decide ((r9 : Int) < 7) = true := by simp; omega
        clear hC
        go_enter Tryz.func17, Tryz.ntmps17
        go_wp2_with fail
        obtain ⟨w1, hw1⟩ : ∃ x, (w.alloc (.cells #[.int .i64 kind, .int .i64 obj, .int .i64 z, .int .i64 flow, .int .i64 most, .int .u64 r, .bool more] 37)).alloc (.cells #[.int .i64 0, .int .i64 0, .int .u64 0] 35) = x := ⟨_, rfl⟩
        have hU1 : Upd [] w w1 := by rw [← hw1]; exact ((Upd.refl [] w).alloc _).alloc _
        have hBa : Blk w1 w.heap.size 37 [.int .i64 kind, .int .i64 obj, .int .i64 z, .int .i64 flow, .int .i64 most, .int .u64 r, .bool more] := by rw [← hw1]; exact (Blk.new w 37 _).upd ((Upd.refl [] _).alloc _) (by simp)
        have hBo : Blk w1 (w.heap.size + 1) 35 [.int .i64 0, .int .i64 0, .int .u64 0] := by rw [← hw1, show w.heap.size + 1 = (w.alloc (.cells #[.int .i64 kind, .int .i64 obj, .int .i64 z, .int .i64 flow, .int .i64 most, .int .u64 r, .bool more] 37)).heap.size by simp]; exact Blk.new (w.alloc (.cells #[.int .i64 kind, .int .i64 obj, .int .i64 z, .int .i64 flow, .int .i64 most, .int .u64 r, .bool more] 37)) 35 _
        rw [hw1]
        obtain ⟨ba, hba⟩ : ∃ x, w.heap.size = x := ⟨_, rfl⟩
        obtain ⟨bo, hbo⟩ : ∃ x, w.heap.size + 1 = x := ⟨_, rfl⟩
        rw [hbo] at hBo ⊢
        rw [hba] at hBa ⊢
        have a1 := hBa.cell (j := 1) rfl
        have a3 := hBa.cell (j := 3) rfl
        have a4 := hBa.cell (j := 4) rfl
        have a5 := hBa.cell (j := 5) rfl
        have la := hBa.lt
        have o0 := hBo.free 0
        have b0 := hBo.cell (j := 0) rfl
        have b1 := hBo.cell (j := 1) rfl
        have b2 := hBo.cell (j := 2) rfl
        have o1 := hBo.free 1
        have o2 := hBo.free 2
        have lo := hBo.lt
        have HNW : Hid (w.heap.size ≤ bo) := by unfold Hid; omega
        have HU1 := Lib.hid hU1
        have HBO := Lib.hid hBo
        clear hw1 hba hbo hU1 hBa hBo
        go_region
        all_goals
          go_wp2_with fail
          refine (mod_any flow 23 (by omega) (by omega) _).mono ?_
          rintro e w2 ⟨rfl, rfl⟩
          rw [HM.out]
          go_wp2_with fail
          refine (mod_any obj 23 (by omega) (by omega) _).mono ?_
          rintro e w2 ⟨rfl, rfl⟩
          rw [HP.out]
          go_wp2_with fail
          go_region
          all_goals
            go_wp2_with fail
            have hq := (((HBO.out.set 0 (.int .i64 flow)).set 1 (.int .i64 most)).set 2 (.int .u64 rr)).upd ((Upd.refl [] _).alloc (.cells #[.int .i64 flow, .int .i64 most, .int .u64 rr] 35)) (by simp)
            have q0 := hq.cell (j := 0) rfl
            have q1 := hq.cell (j := 1) rfl
            have q2 := hq.cell (j := 2) rfl
            refine bodyPost_ret (v := .tuple #[.int .i64 obj, .agg #[.int .i64 flow, .int .i64 most, .int .u64 rr]]) (by simp [results, Tryz.results17, go_sem, q0, q1, q2]) rfl ?_
            exact obj_done HRW.out (by repeat (first | exact HU1.out | refine Upd.drew ?_ | refine Upd.alloc ?_ _ | refine Upd.setCell ?_ (.inr HNW.out) _))
      · have tc : decide (r9 < 7) = false := by simp [hC]
        have td : decide ((r9 : Int) < 7) = false := by simp; omega
        clear hC
        go_enter Tryz.func17, Tryz.ntmps17
        go_wp2_with fail
        obtain ⟨w1, hw1⟩ : ∃ x, (w.alloc (.cells #[.int .i64 kind, .int .i64 obj, .int .i64 z, .int .i64 flow, .int .i64 most, .int .u64 r, .bool more] 37)).alloc (.cells #[.int .i64 0, .int .i64 0, .int .u64 0] 35) = x := ⟨_, rfl⟩
        have hU1 : Upd [] w w1 := by rw [← hw1]; exact ((Upd.refl [] w).alloc _).alloc _
        have hBa : Blk w1 w.heap.size 37 [.int .i64 kind, .int .i64 obj, .int .i64 z, .int .i64 flow, .int .i64 most, .int .u64 r, .bool more] := by rw [← hw1]; exact (Blk.new w 37 _).upd ((Upd.refl [] _).alloc _) (by simp)
        have hBo : Blk w1 (w.heap.size + 1) 35 [.int .i64 0, .int .i64 0, .int .u64 0] := by rw [← hw1, show w.heap.size + 1 = (w.alloc (.cells #[.int .i64 kind, .int .i64 obj, .int .i64 z, .int .i64 flow, .int .i64 most, .int .u64 r, .bool more] 37)).heap.size by simp]; exact Blk.new (w.alloc (.cells #[.int .i64 kind, .int .i64 obj, .int .i64 z, .int .i64 flow, .int .i64 most, .int .u64 r, .bool more] 37)) 35 _
        rw [hw1]
        obtain ⟨ba, hba⟩ : ∃ x, w.heap.size = x := ⟨_, rfl⟩
        obtain ⟨bo, hbo⟩ : ∃ x, w.heap.size + 1 = x := ⟨_, rfl⟩
        rw [hbo] at hBo ⊢
        rw [hba] at hBa ⊢
        have a1 := hBa.cell (j := 1) rfl
        have a3 := hBa.cell (j := 3) rfl
        have a4 := hBa.cell (j := 4) rfl
        have a5 := hBa.cell (j := 5) rfl
        have la := hBa.lt
        have o0 := hBo.free 0
        have b0 := hBo.cell (j := 0) rfl
        have b1 := hBo.cell (j := 1) rfl
        have b2 := hBo.cell (j := 2) rfl
        have o1 := hBo.free 1
        have o2 := hBo.free 2
        have lo := hBo.lt
        have HNW : Hid (w.heap.size ≤ bo) := by unfold Hid; omega
        have HU1 := Lib.hid hU1
        have HBO := Lib.hid hBo
        clear hw1 hba hbo hU1 hBa hBo
        go_region
        all_goals
          go_wp2_with fail
          refine (mod_any flow 23 (by omega) (by omega) _).mono ?_
          rintro e w2 ⟨rfl, rfl⟩
          rw [HM.out]
          go_wp2_with fail
          refine (mod_any obj 23 (by omega) (by omega) _).mono ?_
          rintro e w2 ⟨rfl, rfl⟩
          rw [HP.out]
          go_wp2_with fail
          go_region
          all_goals
            go_wp2_with fail
            have hq := (((HBO.out.set 0 (.int .i64 flow)).set 1 (.int .i64 most)).set 2 (.int .u64 r)).upd ((Upd.refl [] _).alloc (.cells #[.int .i64 flow, .int .i64 most, .int .u64 r] 35)) (by simp)
            have q0 := hq.cell (j := 0) rfl
            have q1 := hq.cell (j := 1) rfl
            have q2 := hq.cell (j := 2) rfl
            refine bodyPost_ret (v := .tuple #[.int .i64 obj, .agg #[.int .i64 flow, .int .i64 most, .int .u64 r]]) (by simp [results, Tryz.results17, go_sem, q0, q1, q2]) rfl ?_
            exact obj_done HR.out (by repeat (first | exact HU1.out | refine Upd.drew ?_ | refine Upd.alloc ?_ _ | refine Upd.setCell ?_ (.inr HNW.out) _))
    · have tb : (p == 22) = false := by simp [hB]
      clear hB
      by_cases hC : r9 < 7
      · have tc : decide (r9 < 7) = true := by simp [hC]
        have td : decide ((r9 : Int) < 7) = true := by simp; omega
        clear hC
        go_enter Tryz.func17, Tryz.ntmps17
        go_wp2_with fail
        obtain ⟨w1, hw1⟩ : ∃ x, (w.alloc (.cells #[.int .i64 kind, .int .i64 obj, .int .i64 z, .int .i64 flow, .int .i64 most, .int .u64 r, .bool more] 37)).alloc (.cells #[.int .i64 0, .int .i64 0, .int .u64 0] 35) = x := ⟨_, rfl⟩
        have hU1 : Upd [] w w1 := by rw [← hw1]; exact ((Upd.refl [] w).alloc _).alloc _
        have hBa : Blk w1 w.heap.size 37 [.int .i64 kind, .int .i64 obj, .int .i64 z, .int .i64 flow, .int .i64 most, .int .u64 r, .bool more] := by rw [← hw1]; exact (Blk.new w 37 _).upd ((Upd.refl [] _).alloc _) (by simp)
        have hBo : Blk w1 (w.heap.size + 1) 35 [.int .i64 0, .int .i64 0, .int .u64 0] := by rw [← hw1, show w.heap.size + 1 = (w.alloc (.cells #[.int .i64 kind, .int .i64 obj, .int .i64 z, .int .i64 flow, .int .i64 most, .int .u64 r, .bool more] 37)).heap.size by simp]; exact Blk.new (w.alloc (.cells #[.int .i64 kind, .int .i64 obj, .int .i64 z, .int .i64 flow, .int .i64 most, .int .u64 r, .bool more] 37)) 35 _
        rw [hw1]
        obtain ⟨ba, hba⟩ : ∃ x, w.heap.size = x := ⟨_, rfl⟩
        obtain ⟨bo, hbo⟩ : ∃ x, w.heap.size + 1 = x := ⟨_, rfl⟩
        rw [hbo] at hBo ⊢
        rw [hba] at hBa ⊢
        have a1 := hBa.cell (j := 1) rfl
        have a3 := hBa.cell (j := 3) rfl
        have a4 := hBa.cell (j := 4) rfl
        have a5 := hBa.cell (j := 5) rfl
        have la := hBa.lt
        have o0 := hBo.free 0
        have b0 := hBo.cell (j := 0) rfl
        have b1 := hBo.cell (j := 1) rfl
        have b2 := hBo.cell (j := 2) rfl
        have o1 := hBo.free 1
        have o2 := hBo.free 2
        have lo := hBo.lt
        have HNW : Hid (w.heap.size ≤ bo) := by unfold Hid; omega
        have HU1 := Lib.hid hU1
        have HBO := Lib.hid hBo
        clear hw1 hba hbo hU1 hBa hBo
        go_region
        all_goals
          go_wp2_with fail
          refine (mod_any flow 23 (by omega) (by omega) _).mono ?_
          rintro e w2 ⟨rfl, rfl⟩
          rw [HM.out]
          go_wp2_with fail
          refine (mod_any obj 23 (by omega) (by omega) _).mono ?_
          rintro e w2 ⟨rfl, rfl⟩
          rw [HP.out]
          go_wp2_with fail
          refine (mod_any obj 6 (by omega) (by omega) _).mono ?_
          rintro e w2 ⟨rfl, rfl⟩
          rw [HP6.out]
          go_wp2_with fail
          go_region
          all_goals
            go_wp2_with fail
            have hq := (((HBO.out.set 0 (.int .i64 flow)).set 1 (.int .i64 most)).set 2 (.int .u64 rr)).upd ((Upd.refl [] _).alloc (.cells #[.int .i64 flow, .int .i64 most, .int .u64 rr] 35)) (by simp)
            have q0 := hq.cell (j := 0) rfl
            have q1 := hq.cell (j := 1) rfl
            have q2 := hq.cell (j := 2) rfl
            refine bodyPost_ret (v := .tuple #[.int .i64 p6, .agg #[.int .i64 flow, .int .i64 most, .int .u64 rr]]) (by simp [results, Tryz.results17, go_sem, q0, q1, q2]) rfl ?_
            exact obj_done HRW.out (by repeat (first | exact HU1.out | refine Upd.drew ?_ | refine Upd.alloc ?_ _ | refine Upd.setCell ?_ (.inr HNW.out) _))
      · have tc : decide (r9 < 7) = false := by simp [hC]
        have td : decide ((r9 : Int) < 7) = false := by simp; omega
        clear hC
        go_enter Tryz.func17, Tryz.ntmps17
        go_wp2_with fail
        obtain ⟨w1, hw1⟩ : ∃ x, (w.alloc (.cells #[.int .i64 kind, .int .i64 obj, .int .i64 z, .int .i64 flow, .int .i64 most, .int .u64 r, .bool more] 37)).alloc (.cells #[.int .i64 0, .int .i64 0, .int .u64 0] 35) = x := ⟨_, rfl⟩
        have hU1 : Upd [] w w1 := by rw [← hw1]; exact ((Upd.refl [] w).alloc _).alloc _
        have hBa : Blk w1 w.heap.size 37 [.int .i64 kind, .int .i64 obj, .int .i64 z, .int .i64 flow, .int .i64 most, .int .u64 r, .bool more] := by rw [← hw1]; exact (Blk.new w 37 _).upd ((Upd.refl [] _).alloc _) (by simp)
        have hBo : Blk w1 (w.heap.size + 1) 35 [.int .i64 0, .int .i64 0, .int .u64 0] := by rw [← hw1, show w.heap.size + 1 = (w.alloc (.cells #[.int .i64 kind, .int .i64 obj, .int .i64 z, .int .i64 flow, .int .i64 most, .int .u64 r, .bool more] 37)).heap.size by simp]; exact Blk.new (w.alloc (.cells #[.int .i64 kind, .int .i64 obj, .int .i64 z, .int .i64 flow, .int .i64 most, .int .u64 r, .bool more] 37)) 35 _
        rw [hw1]
        obtain ⟨ba, hba⟩ : ∃ x, w.heap.size = x := ⟨_, rfl⟩
        obtain ⟨bo, hbo⟩ : ∃ x, w.heap.size + 1 = x := ⟨_, rfl⟩
        rw [hbo] at hBo ⊢
        rw [hba] at hBa ⊢
        have a1 := hBa.cell (j := 1) rfl
        have a3 := hBa.cell (j := 3) rfl
        have a4 := hBa.cell (j := 4) rfl
        have a5 := hBa.cell (j := 5) rfl
        have la := hBa.lt
        have o0 := hBo.free 0
        have b0 := hBo.cell (j := 0) rfl
        have b1 := hBo.cell (j := 1) rfl
        have b2 := hBo.cell (j := 2) rfl
        have o1 := hBo.free 1
        have o2 := hBo.free 2
        have lo := hBo.lt
        have HNW : Hid (w.heap.size ≤ bo) := by unfold Hid; omega
        have HU1 := Lib.hid hU1
        have HBO := Lib.hid hBo
        clear hw1 hba hbo hU1 hBa hBo
        go_region
        all_goals
          go_wp2_with fail
          refine (mod_any flow 23 (by omega) (by omega) _).mono ?_
          rintro e w2 ⟨rfl, rfl⟩
          rw [HM.out]
          go_wp2_with fail
          refine (mod_any obj 23 (by omega) (by omega) _).mono ?_
          rintro e w2 ⟨rfl, rfl⟩
          rw [HP.out]
          go_wp2_with fail
          refine (mod_any obj 6 (by omega) (by omega) _).mono ?_
          rintro e w2 ⟨rfl, rfl⟩
          rw [HP6.out]
          go_wp2_with fail
          go_region
          all_goals
            go_wp2_with fail
            have hq := (((HBO.out.set 0 (.int .i64 flow)).set 1 (.int .i64 most)).set 2 (.int .u64 r)).upd ((Upd.refl [] _).alloc (.cells #[.int .i64 flow, .int .i64 most, .int .u64 r] 35)) (by simp)
            have q0 := hq.cell (j := 0) rfl
            have q1 := hq.cell (j := 1) rfl
            have q2 := hq.cell (j := 2) rfl
            refine bodyPost_ret (v := .tuple #[.int .i64 p6, .agg #[.int .i64 flow, .int .i64 most, .int .u64 r]]) (by simp [results, Tryz.results17, go_sem, q0, q1, q2]) rfl ?_
            exact obj_done HR.out (by repeat (first | exact HU1.out | refine Upd.drew ?_ | refine Upd.alloc ?_ _ | refine Upd.setCell ?_ (.inr HNW.out) _))
  · have ta : (m == 22) = false := by simp [hA]
    clear hA
    by_cases hB : p = 22
    · have tb : (p == 22) = true := by simp [hB]
      clear hB
      by_cases hC : r9 < 7
      · have tc : decide (r9 < 7) = true := by simp [hC]
        have td : decide ((r9 : Int) < 7) = true := by simp; omega
        clear hC
        go_enter Tryz.func17, Tryz.ntmps17
        go_wp2_with fail
        obtain ⟨w1, hw1⟩ : ∃ x, (w.alloc (.cells #[.int .i64 kind, .int .i64 obj, .int .i64 z, .int .i64 flow, .int .i64 most, .int .u64 r, .bool more] 37)).alloc (.cells #[.int .i64 0, .int .i64 0, .int .u64 0] 35) = x := ⟨_, rfl⟩
        have hU1 : Upd [] w w1 := by rw [← hw1]; exact ((Upd.refl [] w).alloc _).alloc _
        have hBa : Blk w1 w.heap.size 37 [.int .i64 kind, .int .i64 obj, .int .i64 z, .int .i64 flow, .int .i64 most, .int .u64 r, .bool more] := by rw [← hw1]; exact (Blk.new w 37 _).upd ((Upd.refl [] _).alloc _) (by simp)
        have hBo : Blk w1 (w.heap.size + 1) 35 [.int .i64 0, .int .i64 0, .int .u64 0] := by rw [← hw1, show w.heap.size + 1 = (w.alloc (.cells #[.int .i64 kind, .int .i64 obj, .int .i64 z, .int .i64 flow, .int .i64 most, .int .u64 r, .bool more] 37)).heap.size by simp]; exact Blk.new (w.alloc (.cells #[.int .i64 kind, .int .i64 obj, .int .i64 z, .int .i64 flow, .int .i64 most, .int .u64 r, .bool more] 37)) 35 _
        rw [hw1]
        obtain ⟨ba, hba⟩ : ∃ x, w.heap.size = x := ⟨_, rfl⟩
        obtain ⟨bo, hbo⟩ : ∃ x, w.heap.size + 1 = x := ⟨_, rfl⟩
        rw [hbo] at hBo ⊢
        rw [hba] at hBa ⊢
        have a1 := hBa.cell (j := 1) rfl
        have a3 := hBa.cell (j := 3) rfl
        have a4 := hBa.cell (j := 4) rfl
        have a5 := hBa.cell (j := 5) rfl
        have la := hBa.lt
        have o0 := hBo.free 0
        have b0 := hBo.cell (j := 0) rfl
        have b1 := hBo.cell (j := 1) rfl
        have b2 := hBo.cell (j := 2) rfl
        have o1 := hBo.free 1
        have o2 := hBo.free 2
        have lo := hBo.lt
        have HNW : Hid (w.heap.size ≤ bo) := by unfold Hid; omega
        have HU1 := Lib.hid hU1
        have HBO := Lib.hid hBo
        clear hw1 hba hbo hU1 hBa hBo
        go_region
        all_goals
          go_wp2_with fail
          refine (mod_any flow 23 (by omega) (by omega) _).mono ?_
          rintro e w2 ⟨rfl, rfl⟩
          rw [HM.out]
          go_wp2_with fail
          refine (mod_any flow 6 (by omega) (by omega) _).mono ?_
          rintro e w2 ⟨rfl, rfl⟩
          rw [HM6.out]
          go_wp2_with fail
          refine (mod_any obj 23 (by omega) (by omega) _).mono ?_
          rintro e w2 ⟨rfl, rfl⟩
          rw [HP.out]
          go_wp2_with fail
          go_region
          all_goals
            go_wp2_with fail
            have hq := (((HBO.out.set 0 (.int .i64 m6)).set 1 (.int .i64 most)).set 2 (.int .u64 rr)).upd ((Upd.refl [] _).alloc (.cells #[.int .i64 m6, .int .i64 most, .int .u64 rr] 35)) (by simp)
            have q0 := hq.cell (j := 0) rfl
            have q1 := hq.cell (j := 1) rfl
            have q2 := hq.cell (j := 2) rfl
            refine bodyPost_ret (v := .tuple #[.int .i64 obj, .agg #[.int .i64 m6, .int .i64 most, .int .u64 rr]]) (by simp [results, Tryz.results17, go_sem, q0, q1, q2]) rfl ?_
            exact obj_done HRW.out (by repeat (first | exact HU1.out | refine Upd.drew ?_ | refine Upd.alloc ?_ _ | refine Upd.setCell ?_ (.inr HNW.out) _))
      · have tc : decide (r9 < 7) = false := by simp [hC]
        have td : decide ((r9 : Int) < 7) = false := by simp; omega
        clear hC
        go_enter Tryz.func17, Tryz.ntmps17
        go_wp2_with fail
        obtain ⟨w1, hw1⟩ : ∃ x, (w.alloc (.cells #[.int .i64 kind, .int .i64 obj, .int .i64 z, .int .i64 flow, .int .i64 most, .int .u64 r, .bool more] 37)).alloc (.cells #[.int .i64 0, .int .i64 0, .int .u64 0] 35) = x := ⟨_, rfl⟩
        have hU1 : Upd [] w w1 := by rw [← hw1]; exact ((Upd.refl [] w).alloc _).alloc _
        have hBa : Blk w1 w.heap.size 37 [.int .i64 kind, .int .i64 obj, .int .i64 z, .int .i64 flow, .int .i64 most, .int .u64 r, .bool more] := by rw [← hw1]; exact (Blk.new w 37 _).upd ((Upd.refl [] _).alloc _) (by simp)
        have hBo : Blk w1 (w.heap.size + 1) 35 [.int .i64 0, .int .i64 0, .int .u64 0] := by rw [← hw1, show w.heap.size + 1 = (w.alloc (.cells #[.int .i64 kind, .int .i64 obj, .int .i64 z, .int .i64 flow, .int .i64 most, .int .u64 r, .bool more] 37)).heap.size by simp]; exact Blk.new (w.alloc (.cells #[.int .i64 kind, .int .i64 obj, .int .i64 z, .int .i64 flow, .int .i64 most, .int .u64 r, .bool more] 37)) 35 _
        rw [hw1]
        obtain ⟨ba, hba⟩ : ∃ x, w.heap.size = x := ⟨_, rfl⟩
        obtain ⟨bo, hbo⟩ : ∃ x, w.heap.size + 1 = x := ⟨_, rfl⟩
        rw [hbo] at hBo ⊢
        rw [hba] at hBa ⊢
        have a1 := hBa.cell (j := 1) rfl
        have a3 := hBa.cell (j := 3) rfl
        have a4 := hBa.cell (j := 4) rfl
        have a5 := hBa.cell (j := 5) rfl
        have la := hBa.lt
        have o0 := hBo.free 0
        have b0 := hBo.cell (j := 0) rfl
        have b1 := hBo.cell (j := 1) rfl
        have b2 := hBo.cell (j := 2) rfl
        have o1 := hBo.free 1
        have o2 := hBo.free 2
        have lo := hBo.lt
        have HNW : Hid (w.heap.size ≤ bo) := by unfold Hid; omega
        have HU1 := Lib.hid hU1
        have HBO := Lib.hid hBo
        clear hw1 hba hbo hU1 hBa hBo
        go_region
        all_goals
          go_wp2_with fail
          refine (mod_any flow 23 (by omega) (by omega) _).mono ?_
          rintro e w2 ⟨rfl, rfl⟩
          rw [HM.out]
          go_wp2_with fail
          refine (mod_any flow 6 (by omega) (by omega) _).mono ?_
          rintro e w2 ⟨rfl, rfl⟩
          rw [HM6.out]
          go_wp2_with fail
          refine (mod_any obj 23 (by omega) (by omega) _).mono ?_
          rintro e w2 ⟨rfl, rfl⟩
          rw [HP.out]
          go_wp2_with fail
          go_region
          all_goals
            go_wp2_with fail
            have hq := (((HBO.out.set 0 (.int .i64 m6)).set 1 (.int .i64 most)).set 2 (.int .u64 r)).upd ((Upd.refl [] _).alloc (.cells #[.int .i64 m6, .int .i64 most, .int .u64 r] 35)) (by simp)
            have q0 := hq.cell (j := 0) rfl
            have q1 := hq.cell (j := 1) rfl
            have q2 := hq.cell (j := 2) rfl
            refine bodyPost_ret (v := .tuple #[.int .i64 obj, .agg #[.int .i64 m6, .int .i64 most, .int .u64 r]]) (by simp [results, Tryz.results17, go_sem, q0, q1, q2]) rfl ?_
            exact obj_done HR.out (by repeat (first | exact HU1.out | refine Upd.drew ?_ | refine Upd.alloc ?_ _ | refine Upd.setCell ?_ (.inr HNW.out) _))
    · have tb : (p == 22) = false := by simp [hB]
      clear hB
      by_cases hC : r9 < 7
      · have tc : decide (r9 < 7) = true := by simp [hC]
        have td : decide ((r9 : Int) < 7) = true := by simp; omega
        clear hC
        go_enter Tryz.func17, Tryz.ntmps17
        go_wp2_with fail
        obtain ⟨w1, hw1⟩ : ∃ x, (w.alloc (.cells #[.int .i64 kind, .int .i64 obj, .int .i64 z, .int .i64 flow, .int .i64 most, .int .u64 r, .bool more] 37)).alloc (.cells #[.int .i64 0, .int .i64 0, .int .u64 0] 35) = x := ⟨_, rfl⟩
        have hU1 : Upd [] w w1 := by rw [← hw1]; exact ((Upd.refl [] w).alloc _).alloc _
        have hBa : Blk w1 w.heap.size 37 [.int .i64 kind, .int .i64 obj, .int .i64 z, .int .i64 flow, .int .i64 most, .int .u64 r, .bool more] := by rw [← hw1]; exact (Blk.new w 37 _).upd ((Upd.refl [] _).alloc _) (by simp)
        have hBo : Blk w1 (w.heap.size + 1) 35 [.int .i64 0, .int .i64 0, .int .u64 0] := by rw [← hw1, show w.heap.size + 1 = (w.alloc (.cells #[.int .i64 kind, .int .i64 obj, .int .i64 z, .int .i64 flow, .int .i64 most, .int .u64 r, .bool more] 37)).heap.size by simp]; exact Blk.new (w.alloc (.cells #[.int .i64 kind, .int .i64 obj, .int .i64 z, .int .i64 flow, .int .i64 most, .int .u64 r, .bool more] 37)) 35 _
        rw [hw1]
        obtain ⟨ba, hba⟩ : ∃ x, w.heap.size = x := ⟨_, rfl⟩
        obtain ⟨bo, hbo⟩ : ∃ x, w.heap.size + 1 = x := ⟨_, rfl⟩
        rw [hbo] at hBo ⊢
        rw [hba] at hBa ⊢
        have a1 := hBa.cell (j := 1) rfl
        have a3 := hBa.cell (j := 3) rfl
        have a4 := hBa.cell (j := 4) rfl
        have a5 := hBa.cell (j := 5) rfl
        have la := hBa.lt
        have o0 := hBo.free 0
        have b0 := hBo.cell (j := 0) rfl
        have b1 := hBo.cell (j := 1) rfl
        have b2 := hBo.cell (j := 2) rfl
        have o1 := hBo.free 1
        have o2 := hBo.free 2
        have lo := hBo.lt
        have HNW : Hid (w.heap.size ≤ bo) := by unfold Hid; omega
        have HU1 := Lib.hid hU1
        have HBO := Lib.hid hBo
        clear hw1 hba hbo hU1 hBa hBo
        go_region
        all_goals
          go_wp2_with fail
          refine (mod_any flow 23 (by omega) (by omega) _).mono ?_
          rintro e w2 ⟨rfl, rfl⟩
          rw [HM.out]
          go_wp2_with fail
          refine (mod_any flow 6 (by omega) (by omega) _).mono ?_
          rintro e w2 ⟨rfl, rfl⟩
          rw [HM6.out]
          go_wp2_with fail
          refine (mod_any obj 23 (by omega) (by omega) _).mono ?_
          rintro e w2 ⟨rfl, rfl⟩
          rw [HP.out]
          go_wp2_with fail
          refine (mod_any obj 6 (by omega) (by omega) _).mono ?_
          rintro e w2 ⟨rfl, rfl⟩
          rw [HP6.out]
          go_wp2_with fail
          go_region
          all_goals
            go_wp2_with fail
            have hq := (((HBO.out.set 0 (.int .i64 m6)).set 1 (.int .i64 most)).set 2 (.int .u64 rr)).upd ((Upd.refl [] _).alloc (.cells #[.int .i64 m6, .int .i64 most, .int .u64 rr] 35)) (by simp)
            have q0 := hq.cell (j := 0) rfl
            have q1 := hq.cell (j := 1) rfl
            have q2 := hq.cell (j := 2) rfl
            refine bodyPost_ret (v := .tuple #[.int .i64 p6, .agg #[.int .i64 m6, .int .i64 most, .int .u64 rr]]) (by simp [results, Tryz.results17, go_sem, q0, q1, q2]) rfl ?_
            exact obj_done HRW.out (by repeat (first | exact HU1.out | refine Upd.drew ?_ | refine Upd.alloc ?_ _ | refine Upd.setCell ?_ (.inr HNW.out) _))
      · have tc : decide (r9 < 7) = false := by simp [hC]
        have td : decide ((r9 : Int) < 7) = false := by simp; omega
        clear hC
        go_enter Tryz.func17, Tryz.ntmps17
        go_wp2_with fail
        obtain ⟨w1, hw1⟩ : ∃ x, (w.alloc (.cells #[.int .i64 kind, .int .i64 obj, .int .i64 z, .int .i64 flow, .int .i64 most, .int .u64 r, .bool more] 37)).alloc (.cells #[.int .i64 0, .int .i64 0, .int .u64 0] 35) = x := ⟨_, rfl⟩
        have hU1 : Upd [] w w1 := by rw [← hw1]; exact ((Upd.refl [] w).alloc _).alloc _
        have hBa : Blk w1 w.heap.size 37 [.int .i64 kind, .int .i64 obj, .int .i64 z, .int .i64 flow, .int .i64 most, .int .u64 r, .bool more] := by rw [← hw1]; exact (Blk.new w 37 _).upd ((Upd.refl [] _).alloc _) (by simp)
        have hBo : Blk w1 (w.heap.size + 1) 35 [.int .i64 0, .int .i64 0, .int .u64 0] := by rw [← hw1, show w.heap.size + 1 = (w.alloc (.cells #[.int .i64 kind, .int .i64 obj, .int .i64 z, .int .i64 flow, .int .i64 most, .int .u64 r, .bool more] 37)).heap.size by simp]; exact Blk.new (w.alloc (.cells #[.int .i64 kind, .int .i64 obj, .int .i64 z, .int .i64 flow, .int .i64 most, .int .u64 r, .bool more] 37)) 35 _
        rw [hw1]
        obtain ⟨ba, hba⟩ : ∃ x, w.heap.size = x := ⟨_, rfl⟩
        obtain ⟨bo, hbo⟩ : ∃ x, w.heap.size + 1 = x := ⟨_, rfl⟩
        rw [hbo] at hBo ⊢
        rw [hba] at hBa ⊢
        have a1 := hBa.cell (j := 1) rfl
        have a3 := hBa.cell (j := 3) rfl
        have a4 := hBa.cell (j := 4) rfl
        have a5 := hBa.cell (j := 5) rfl
        have la := hBa.lt
        have o0 := hBo.free 0
        have b0 := hBo.cell (j := 0) rfl
        have b1 := hBo.cell (j := 1) rfl
        have b2 := hBo.cell (j := 2) rfl
        have o1 := hBo.free 1
        have o2 := hBo.free 2
        have lo := hBo.lt
        have HNW : Hid (w.heap.size ≤ bo) := by unfold Hid; omega
        have HU1 := Lib.hid hU1
        have HBO := Lib.hid hBo
        clear hw1 hba hbo hU1 hBa hBo
        go_region
        all_goals
          go_wp2_with fail
          refine (mod_any flow 23 (by omega) (by omega) _).mono ?_
          rintro e w2 ⟨rfl, rfl⟩
          rw [HM.out]
          go_wp2_with fail
          refine (mod_any flow 6 (by omega) (by omega) _).mono ?_
          rintro e w2 ⟨rfl, rfl⟩
          rw [HM6.out]
          go_wp2_with fail
          refine (mod_any obj 23 (by omega) (by omega) _).mono ?_
          rintro e w2 ⟨rfl, rfl⟩
          rw [HP.out]
          go_wp2_with fail
          refine (mod_any obj 6 (by omega) (by omega) _).mono ?_
          rintro e w2 ⟨rfl, rfl⟩
          rw [HP6.out]
          go_wp2_with fail
          go_region
          all_goals
            go_wp2_with fail
            have hq := (((HBO.out.set 0 (.int .i64 m6)).set 1 (.int .i64 most)).set 2 (.int .u64 r)).upd ((Upd.refl [] _).alloc (.cells #[.int .i64 m6, .int .i64 most, .int .u64 r] 35)) (by simp)
            have q0 := hq.cell (j := 0) rfl
            have q1 := hq.cell (j := 1) rfl
            have q2 := hq.cell (j := 2) rfl
            refine bodyPost_ret (v := .tuple #[.int .i64 p6, .agg #[.int .i64 m6, .int .i64 most, .int .u64 r]]) (by simp [results, Tryz.results17, go_sem, q0, q1, q2]) rfl ?_
            exact obj_done HR.out (by repeat (first | exact HU1.out | refine Upd.drew ?_ | refine Upd.alloc ?_ _ | refine Upd.setCell ?_ (.inr HNW.out) _))
/-! ### Acts that came in, cell by cell -/
theorem act_cells {w : World} {v : Value} {n : Nat} {D : Nat → Nat → Value} (h : FlatAt w [some .i64, some .i64, some .i64, some .i64, some .i64, some .u64, none] v n D) :
    ∃ ao cap, v = .slice ao n cap ∧ n ≤ maxLen ∧ (n = 0 ∨ ∃ b off, ao = some ⟨b, off, none⟩ ∧ b < w.heap.size ∧ ∀ i, i < n → ∃ (k o z f m : Int) (r : Nat) (mo : Bool),
      w.cell? ⟨b, off + i * 7, none⟩ = some (.int .i64 k) ∧ w.cell? ⟨b, off + i * 7 + 1, none⟩ = some (.int .i64 o) ∧ w.cell? ⟨b, off + i * 7 + 2, none⟩ = some (.int .i64 z) ∧ w.cell? ⟨b, off + i * 7 + 3, none⟩ = some (.int .i64 f) ∧ w.cell? ⟨b, off + i * 7 + 4, none⟩ = some (.int .i64 m) ∧ w.cell? ⟨b, off + i * 7 + 5, none⟩ = some (.int .u64 r) ∧ w.cell? ⟨b, off + i * 7 + 6, none⟩ = some (.bool mo) ∧ z < 9223372036854775808 ∧ r < 18446744073709551616) := by
  obtain ⟨ao, cap, hv, hm, h | ⟨b, off, ha, hb, hc⟩⟩ := h
  · exact ⟨ao, cap, hv, hm, .inl h⟩
  · refine ⟨ao, cap, hv, hm, .inr ⟨b, off, ha, hb, fun i hi => ?_⟩⟩
    obtain ⟨c0, k, e0, _⟩ := hc i hi 0 (some .i64) rfl
    obtain ⟨c1, o, e1, _⟩ := hc i hi 1 (some .i64) rfl
    obtain ⟨c2, z, e2, hz⟩ := hc i hi 2 (some .i64) rfl
    obtain ⟨c3, f, e3, _⟩ := hc i hi 3 (some .i64) rfl
    obtain ⟨c4, m, e4, _⟩ := hc i hi 4 (some .i64) rfl
    obtain ⟨c5, r, e5, hr⟩ := hc i hi 5 (some .u64) rfl
    obtain ⟨c6, mo, e6⟩ := hc i hi 6 none rfl
    have hzb := (wf_i64_bd hz).2
    have hrb := wf_u64_bd hr
    have er : ((r.toNat : Nat) : Int) = r := by omega
    simp only [List.length_cons, List.length_nil, ← Nat.add_assoc] at c0 c1 c2 c3 c4 c5 c6
    refine ⟨k, o, z, f, m, r.toNat, mo, by simpa [e0] using c0, by simpa [e1] using c1, by simpa [e2] using c2, by simpa [e3] using c3, by simpa [e4] using c4, by rw [er]; simpa [e5] using c5, by simpa [e6] using c6, by omega, by omega⟩
end Go.Proofs.YtolohheflbmfaaaGreatDoor
