/-
  law08: awake. Condition: where a table of the library's lies.
-/
import Derived.Test.YtkepeolbpgnlbaaGreatDoorQk
set_option linter.unusedVariables false
set_option linter.unusedSimpArgs false
namespace Go.Proofs.YtkepeolbpgnlbaaGreatDoor
open Go.RowKit

theorem basesV_u (M : List Sh) : basesV M = uVs (M.map fun s => (s.1 : Int)) := by unfold basesV uVs; rw [List.map_map]; rfl

set_option maxRecDepth 100000 in
set_option maxHeartbeats 8000000 in
theorem awake8_any (w : World) (hT : TabAt 0 Lib.deBruijn64tab w) : Calls Tryz.prog 8 #[] w (RetUpd [] w (.bool true)) := by
  have HN := Lib.hid (QG.new (Upd.refl [] w) hT 2 0)
  have a1 : pushM [(0, []), (0, [])] 9 0 = [(0, [((9 : Int), (0 : Int))]), (0, [])] ∧ pushL [(0, []), (0, [])] [] 9 0 = [((9 : Int), (0 : Int))] ∧ takeQ [(0, []), (0, [])] 9 0 = true := by decide +kernel
  have a2 : pushM [(0, [((9 : Int), (0 : Int))]), (0, [])] 3 1 = [(0, [((9 : Int), (0 : Int))]), (0, [((3 : Int), (1 : Int))])] ∧ pushL [(0, [((9 : Int), (0 : Int))]), (0, [])] [((9 : Int), (0 : Int))] 3 1 = [((3 : Int), (1 : Int)), ((9 : Int), (0 : Int))] ∧ takeQ [(0, [((9 : Int), (0 : Int))]), (0, [])] 3 1 = true := by decide +kernel
  have a3 : pushM [(0, [((9 : Int), (0 : Int))]), (0, [((3 : Int), (1 : Int))])] 4 2 = [(0, [((4 : Int), (2 : Int)), ((9 : Int), (0 : Int))]), (0, [((3 : Int), (1 : Int))])] ∧ pushL [(0, [((9 : Int), (0 : Int))]), (0, [((3 : Int), (1 : Int))])] [((3 : Int), (1 : Int)), ((9 : Int), (0 : Int))] 4 2 = [((3 : Int), (1 : Int)), ((4 : Int), (2 : Int)), ((9 : Int), (0 : Int))] ∧ takeQ [(0, [((9 : Int), (0 : Int))]), (0, [((3 : Int), (1 : Int))])] 4 2 = true := by decide +kernel
  have a4 : popM [(0, [((4 : Int), (2 : Int)), ((9 : Int), (0 : Int))]), (0, [((3 : Int), (1 : Int))])] [((3 : Int), (1 : Int)), ((4 : Int), (2 : Int)), ((9 : Int), (0 : Int))] = [(0, [((4 : Int), (2 : Int)), ((9 : Int), (0 : Int))]), (3, [])] := by decide +kernel
  have A1 := Lib.hid a1
  have A2 := Lib.hid a2
  have A3 := Lib.hid a3
  have A4 := Lib.hid a4
  clear hT a1 a2 a3 a4
  go_enter Tryz.func8, Tryz.ntmps8
  go_wp2_with fail
  refine HN.out.mono ?_
  rintro e w1 ⟨qb, fp, rfl, h1, -, -⟩
  rw [show zeroM (leavesOf 2) = [(0, []), (0, [])] by decide +kernel] at h1
  have H1 := Lib.hid h1
  clear h1
  go_wp2_with fail
  refine (H1.out.push 9 (by omega) 0 (by simp)).mono ?_
  rintro e w2 ⟨rfl, fpw2, hw2, -⟩
  rw [A1.out.1] at hw2
  rw [A1.out.2.1] at hw2
  rw [A1.out.2.2]
  have Hw2 := Lib.hid hw2
  clear hw2
  go_wp2_with fail
  refine (Hw2.out.push 3 (by omega) 1 (by simp)).mono ?_
  rintro e w3 ⟨rfl, fpw3, hw3, -⟩
  rw [A2.out.1] at hw3
  rw [A2.out.2.1] at hw3
  rw [A2.out.2.2]
  have Hw3 := Lib.hid hw3
  clear hw3
  go_wp2_with fail
  refine (Hw3.out.push 4 (by omega) 2 (by simp)).mono ?_
  rintro e w4 ⟨rfl, fpw4, hw4, -⟩
  rw [A3.out.1] at hw4
  rw [A3.out.2.1] at hw4
  rw [A3.out.2.2]
  have Hw4 := Lib.hid hw4
  clear hw4
  go_wp2_with fail
  refine Hw4.out.pop.mono ?_
  rintro e w5 ⟨rfl, fp5, h5, -⟩
  rw [A4.out] at h5
  have H5 := Lib.hid h5
  clear h5
  unfold firstV itV
  have HX := Lib.hid (Blk.new w5 37 [.int .u64 3, .int .i64 1])
  have x0 := HX.out.cell (j := 0) rfl
  have x1 := HX.out.cell (j := 1) rfl
  have hU5 := (Upd.refl [] w5).alloc (.cells #[.int .u64 3, .int .i64 1] 37)
  have H6 := Lib.hid (H5.out.upd hU5)
  clear hU5
  go_wp2_with fail
  refine H6.out.bases.mono ?_
  rintro e w6 ⟨ao, cap, rfl, hR, hf, hU⟩
  rw [basesV_u] at hR
  have hR2 : RowO w6 29 1 ao 2 cap (uVs [0, 3]) := hR
  have H7 := Lib.hid (H6.out.upd hU)
  have hL : RowO (w6.alloc (.cells #[.int .u64 0, .int .u64 3] 29)) 29 1 (some ⟨w6.heap.size, 0, none⟩) 2 2 (uVs [0, 3]) :=
    (Row.mk' (cur := #[.int .u64 0, .int .u64 3]) rfl (heap_alloc_new w6 _) (Nat.le_refl _) (by unfold maxLen; omega) rfl rfl).o
  have HP := Lib.hid (uplain_any ao (some ⟨w6.heap.size, 0, none⟩) 2 cap 2 [0, 3] _ rfl (by omega) (hR2.upd ((Upd.refl [] w6).alloc (.cells #[.int .u64 0, .int .u64 3] 29)) (by simp)) hL)
  clear hR hR2 hf hU hL x0 x1
  rw [show [((0 : Nat), [((4 : Int), (2 : Int)), (9, 0)]), (3, [])].length = 2 from rfl]
  go_wp2_with fail
  refine HP.out.mono ?_
  rintro e w7 ⟨rfl, hU⟩
  have H8 := Lib.hid (H7.out.upd (((Upd.refl [] w6).alloc (.cells #[.int .u64 0, .int .u64 3] 29)).trans hU))
  clear hU
  go_wp2_with fail
  refine (H8.out.len (by simp)).mono ?_
  rintro e w8 ⟨rfl, hU⟩
  have H9 := Lib.hid (H8.out.upd hU)
  clear hU
  go_wp2
  go_ret
  exact ⟨rfl, H9.out.updW⟩
end Go.Proofs.YtkepeolbpgnlbaaGreatDoor
