/-
  The walks of the heap's order, of Plain and Spoil at items. No condition.
-/
import Derived.Test.YtilibinmbmgedaaHeapK
import Derived.Shelf.SlSortCmp.InsertionK
namespace Go.Proofs.Ytilibinmbmgedaa
open Go.RowKit Go.Lib Go.Sort

def cmpI (a b : It) : Int := if ahead a b = true then -1 else if ahead b a = true then 1 else 0

set_option maxHeartbeats 400000 in
theorem ahead_grow (a b : It) (w : World) :
    Calls Try.prog 41 #[.agg #[.int .u64 a.1, .int .i64 a.2], .agg #[.int .u64 b.1, .int .i64 b.2]] w (fun e w' => e = .returned (.bool (ahead a b)) ∧ ∃ os, w' = grow w os) := by
  obtain ⟨k1, i1⟩ := a
  obtain ⟨k2, i2⟩ := b
  go_enter Try.func41, Try.ntmps41
  go_wp2
  all_goals
    go_ret
    refine ⟨ret_bool ?_, _, by rw [alloc_eq_grow, alloc_eq_grow, grow_grow]⟩
    try (simp [ahead, *]; done)

theorem grow_upd (w : World) (os : Array Obj) : Upd [] w (grow w os) := by
  refine ⟨rfl, rfl, rfl, by simp [grow], fun k hk _ => ?_⟩
  simp [grow, Array.getElem?_append_left hk]

set_option maxHeartbeats 4000000 in
theorem order_grow (a b : It) (w : World) :
    Calls Try.prog 32 #[.agg #[.int .u64 a.1, .int .i64 a.2], .agg #[.int .u64 b.1, .int .i64 b.2]] w (fun e w' => e = .returned (.int .i64 (cmpI a b)) ∧ ∃ q os', w' = grow (w.drewN q) os') := by
  obtain ⟨W2, hW2⟩ : ∃ W2 : World, W2 = (w.alloc (.cells #[.int .u64 a.1, .int .i64 a.2] 37)).alloc (.cells #[.int .u64 b.1, .int .i64 b.2] 37) := ⟨_, rfl⟩
  have hg2 : W2 = grow w #[.cells #[.int .u64 a.1, .int .i64 a.2] 37, .cells #[.int .u64 b.1, .int .i64 b.2] 37] := by rw [hW2, alloc_eq_grow, alloc_eq_grow, grow_grow]; rfl
  have hA : Blk W2 w.heap.size 37 [.int .u64 a.1, .int .i64 a.2] := by rw [hW2]; exact (heap_two w _ _).1
  have hB : Blk W2 (w.heap.size + 1) 37 [.int .u64 b.1, .int .i64 b.2] := by rw [hW2]; exact (heap_two w _ _).2
  have HW2 := Lib.hid hW2
  have HG2 := Lib.hid hg2
  have HA := Lib.hid hA
  have HB := Lib.hid hB
  clear hW2 hg2 hA hB
  go_enter Try.func32, Try.ntmps32
  go_wp2_with fail
  rw [← HW2.out]
  refine (ahead_grow a b W2).mono ?_
  rintro e w3 ⟨rfl, os, hw3⟩
  have HW3 := Lib.hid hw3
  have hu3 : Upd [] W2 w3 := by rw [hw3]; exact grow_upd _ _
  clear hw3
  cases h1 : ahead a b with
  | true =>
    have hc : Hid (cmpI a b = -1) := by unfold Hid cmpI; rw [if_pos h1]
    go_wp2
    go_ret
    exact ⟨by rw [hc.out]; rfl, 0, _, by rw [HW3.out, HG2.out, grow_grow]; rfl⟩
  | false =>
    have a3 := HA.out.upd hu3 (by simp)
    have b3 := HB.out.upd hu3 (by simp)
    have k0 := a3.cell (j := 0) rfl
    have k1 := a3.cell (j := 1) rfl
    have k2 := b3.cell (j := 0) rfl
    have k3 := b3.cell (j := 1) rfl
    have H1 := Lib.hid h1
    clear hu3 a3 b3 h1
    go_wp2_with fail
    refine (ahead_grow b a w3).mono ?_
    rintro e w4 ⟨rfl, os4, hw4⟩
    have HW4 := Lib.hid hw4
    clear hw4
    cases h2 : ahead b a with
    | true =>
      have hc : Hid (cmpI a b = 1) := by unfold Hid cmpI; rw [if_neg (by rw [H1.out]; simp), if_pos h2]
      go_wp2
      go_ret
      exact ⟨by rw [hc.out]; rfl, 0, _, by rw [HW4.out, HW3.out, HG2.out, grow_grow, grow_grow]; rfl⟩
    | false =>
      have hc : Hid (cmpI a b = 0) := by unfold Hid cmpI; rw [if_neg (by rw [H1.out]; simp), if_neg (by rw [h2]; simp)]
      go_wp2
      go_ret
      exact ⟨by rw [hc.out]; rfl, 0, _, by rw [HW4.out, HW3.out, HG2.out, grow_grow, grow_grow]; rfl⟩

theorem ltOf_cmpI (x y : It) : ltOf cmpI x y = ahead x y := by
  unfold ltOf cmpI
  cases h1 : ahead x y with
  | true => simp
  | false => cases h2 : ahead y x <;> simp
theorem swo_cmpI : SWO (ltOf cmpI) where
  irrefl x := by rw [ltOf_cmpI]; exact ahead_irrefl x
  trans x y z h1 h2 := by rw [ltOf_cmpI] at *; exact ahead_trans h1 h2
  ntrans x y z h1 h2 := by rw [ltOf_cmpI] at *; rw [ahead_no] at *; omega
end Go.Proofs.Ytilibinmbmgedaa
