/-
  The document's model: Right, New. No condition.
-/
import Derived.Test.YtfeobcmcellcpaaGreatPe
set_option linter.unusedVariables false
set_option linter.unusedSimpArgs false
namespace Go.Proofs.YtfeobcmcellcpaaGreat
open Go.RowKit

theorem right_no {c : Cf} (h : ¬ ((1 ≤ c.sh ∧ c.sh ≤ 4) ∧ (1 ≤ c.sl ∧ c.sl ≤ 4) ∧ (1 ≤ c.wo ∧ c.wo ≤ 6) ∧ (0 ≤ c.wd ∧ c.wd ≤ 40) ∧ (1 ≤ c.unit ∧ c.unit ≤ 4611686018427387904))) : rightC c = false := by
  cases hc : rightC c with
  | false => rfl
  | true => exact absurd (rightC_bd hc) h
theorem right_yes {c : Cf} (h : (1 ≤ c.sh ∧ c.sh ≤ 4) ∧ (1 ≤ c.sl ∧ c.sl ≤ 4) ∧ (1 ≤ c.wo ∧ c.wo ≤ 6) ∧ (0 ≤ c.wd ∧ c.wd ≤ 40) ∧ (1 ≤ c.unit ∧ c.unit ≤ 4611686018427387904)) : rightC c = true := by
  unfold rightC
  simp only [Bool.and_eq_true, decide_eq_true_eq]
  exact ⟨⟨⟨⟨h.1, h.2.1⟩, h.2.2.1⟩, h.2.2.2.1⟩, h.2.2.2.2⟩

set_option maxHeartbeats 8000000 in
theorem dright_any (c : Cf) (w : World) : Calls Tryz.prog 54 #[cfV c] w (RetUpd [] w (.bool (rightC c))) := by
  unfold cfV
  by_cases h0 : 1 ≤ c.sh
  case neg =>
    rw [right_no (fun h => h0 (by omega))]
    have t0_0 : decide (1 ≤ c.sh) = false := by simp; omega
    clear h0
    go_enter Tryz.func54, Tryz.ntmps54
    go_wp2
    go_ret
    exact ⟨rfl, (Upd.refl [] w).alloc _⟩
  have t0_0 : decide (1 ≤ c.sh) = true := by simp; omega
  by_cases h1 : c.sh ≤ 4
  case neg =>
    rw [right_no (fun h => h1 (by omega))]
    have t1_0 : decide (c.sh ≤ 4) = false := by simp; omega
    clear h0 h1
    go_enter Tryz.func54, Tryz.ntmps54
    go_wp2
    go_ret
    exact ⟨rfl, (Upd.refl [] w).alloc _⟩
  have t1_0 : decide (c.sh ≤ 4) = true := by simp; omega
  by_cases h2 : 1 ≤ c.sl
  case neg =>
    rw [right_no (fun h => h2 (by omega))]
    have t2_0 : decide (1 ≤ c.sl) = false := by simp; omega
    clear h0 h1 h2
    go_enter Tryz.func54, Tryz.ntmps54
    go_wp2
    go_ret
    exact ⟨rfl, (Upd.refl [] w).alloc _⟩
  have t2_0 : decide (1 ≤ c.sl) = true := by simp; omega
  by_cases h3 : c.sl ≤ 4
  case neg =>
    rw [right_no (fun h => h3 (by omega))]
    have t3_0 : decide (c.sl ≤ 4) = false := by simp; omega
    clear h0 h1 h2 h3
    go_enter Tryz.func54, Tryz.ntmps54
    go_wp2
    go_ret
    exact ⟨rfl, (Upd.refl [] w).alloc _⟩
  have t3_0 : decide (c.sl ≤ 4) = true := by simp; omega
  by_cases h4 : 1 ≤ c.wo
  case neg =>
    rw [right_no (fun h => h4 (by omega))]
    have t4_0 : decide (1 ≤ c.wo) = false := by simp; omega
    clear h0 h1 h2 h3 h4
    go_enter Tryz.func54, Tryz.ntmps54
    go_wp2
    go_ret
    exact ⟨rfl, (Upd.refl [] w).alloc _⟩
  have t4_0 : decide (1 ≤ c.wo) = true := by simp; omega
  by_cases h5 : c.wo ≤ 6
  case neg =>
    rw [right_no (fun h => h5 (by omega))]
    have t5_0 : decide (c.wo ≤ 6) = false := by simp; omega
    clear h0 h1 h2 h3 h4 h5
    go_enter Tryz.func54, Tryz.ntmps54
    go_wp2
    go_ret
    exact ⟨rfl, (Upd.refl [] w).alloc _⟩
  have t5_0 : decide (c.wo ≤ 6) = true := by simp; omega
  by_cases h6 : 0 ≤ c.wd
  case neg =>
    rw [right_no (fun h => h6 (by omega))]
    have t6_0 : decide (0 ≤ c.wd) = false := by simp; omega
    clear h0 h1 h2 h3 h4 h5 h6
    go_enter Tryz.func54, Tryz.ntmps54
    go_wp2
    go_ret
    exact ⟨rfl, (Upd.refl [] w).alloc _⟩
  have t6_0 : decide (0 ≤ c.wd) = true := by simp; omega
  by_cases h7 : c.wd ≤ 40
  case neg =>
    rw [right_no (fun h => h7 (by omega))]
    have t7_0 : decide (c.wd ≤ 40) = false := by simp; omega
    clear h0 h1 h2 h3 h4 h5 h6 h7
    go_enter Tryz.func54, Tryz.ntmps54
    go_wp2
    go_ret
    exact ⟨rfl, (Upd.refl [] w).alloc _⟩
  have t7_0 : decide (c.wd ≤ 40) = true := by simp; omega
  by_cases h8 : 1 ≤ c.unit
  case neg =>
    rw [right_no (fun h => h8 (by omega))]
    have t8_0 : decide (1 ≤ c.unit) = false := by simp; omega
    have t8_1 : decide ((1 : Int) ≤ (c.unit : Int)) = false := by simp; omega
    clear h0 h1 h2 h3 h4 h5 h6 h7 h8
    go_enter Tryz.func54, Tryz.ntmps54
    go_wp2
    go_ret
    exact ⟨rfl, (Upd.refl [] w).alloc _⟩
  have t8_0 : decide (1 ≤ c.unit) = true := by simp; omega
  have t8_1 : decide ((1 : Int) ≤ (c.unit : Int)) = true := by simp; omega
  by_cases h9 : c.unit ≤ 4611686018427387904
  case neg =>
    rw [right_no (fun h => h9 (by omega))]
    have t9_0 : decide (c.unit ≤ 4611686018427387904) = false := by simp; omega
    have t9_1 : decide ((c.unit : Int) ≤ 4611686018427387904) = false := by simp; omega
    clear h0 h1 h2 h3 h4 h5 h6 h7 h8 h9
    go_enter Tryz.func54, Tryz.ntmps54
    go_wp2
    go_ret
    exact ⟨rfl, (Upd.refl [] w).alloc _⟩
  have t9_0 : decide (c.unit ≤ 4611686018427387904) = true := by simp; omega
  have t9_1 : decide ((c.unit : Int) ≤ 4611686018427387904) = true := by simp; omega
  rw [right_yes ⟨⟨h0, h1⟩, ⟨h2, h3⟩, ⟨h4, h5⟩, ⟨h6, h7⟩, ⟨h8, h9⟩⟩]
  clear h0 h1 h2 h3 h4 h5 h6 h7 h8 h9
  go_enter Tryz.func54, Tryz.ntmps54
  go_wp2
  go_ret
  exact ⟨rfl, (Upd.refl [] w).alloc _⟩
def DNewTo (W : World) (c : Cf) (w : World) (e : Ending) (w' : World) : Prop := ∃ mb G, e = .returned (.pointer (some ⟨mb, 0, none⟩)) ∧ DG W mb c ms0 G w' ∧ Upd [] w w' ∧ ∀ x ∈ G, w.heap.size ≤ x
theorem sfg_empty {W w : World} {sb : Nat} (h : Blk w sb 67 [.slice none 0 0, .int .u64 0, .int .u64 0]) (hb : W.heap.size ≤ sb) : SfG W sb ⟨[], 0, 0⟩ [sb] w :=
  ⟨none, 0, [], { blk := h, row := RowO.nil _ _ _, ents := fun _ h => (by cases h), dis := List.Pairwise.nil, own := fun _ h => (by cases h), d := by simp [blkO], new := fun c hc => by simp only [blkO, List.mem_cons, List.not_mem_nil, or_false] at hc; omega, newE := fun _ h => (by cases h), srt := List.Pairwise.nil, small := by simp, v64 := by simp, m64 := by simp }, rfl, rfl⟩
theorem dnew_done {W w : World} {c : Cf} (hr : rightC c = true) (hW : W.heap.size ≤ w.heap.size) : DNewTo W c w (.returned (.pointer (some ⟨w.heap.size + 1 + 1, 0, none⟩))) (((w.alloc (.cells #[.int .i64 c.sh, .int .i64 c.sl, .int .i64 c.wo, .int .i64 c.wd, .int .u64 c.unit] 24)).alloc (.cells #[.slice none 0 0, .int .u64 0, .int .u64 0] 67)).alloc (.cells #[.int .i64 c.sh, .int .i64 c.sl, .int .i64 c.wo, .int .i64 c.wd, .int .u64 c.unit, .pointer (some ⟨w.heap.size + 1, 0, none⟩), .int .i64 0] 70)) := by
  obtain ⟨w1, hw1⟩ : ∃ y, w.alloc (.cells #[.int .i64 c.sh, .int .i64 c.sl, .int .i64 c.wo, .int .i64 c.wd, .int .u64 c.unit] 24) = y := ⟨_, rfl⟩
  have s1 : w1.heap.size = w.heap.size + 1 := by rw [← hw1]; simp
  have u1 : Upd [] w w1 := by rw [← hw1]; exact (Upd.refl [] w).alloc _
  rw [hw1]
  have b2 := Blk.new w1 67 [.slice none 0 0, .int .u64 0, .int .u64 0]
  obtain ⟨w2, hw2⟩ : ∃ y, w1.alloc (.cells #[.slice none 0 0, .int .u64 0, .int .u64 0] 67) = y := ⟨_, rfl⟩
  have s2 : w2.heap.size = w1.heap.size + 1 := by rw [← hw2]; simp
  have u2 : Upd [] w1 w2 := by rw [← hw2]; exact (Upd.refl [] w1).alloc _
  rw [hw2] at b2 ⊢
  have b3 := Blk.new w2 70 [.int .i64 c.sh, .int .i64 c.sl, .int .i64 c.wo, .int .i64 c.wd, .int .u64 c.unit, .pointer (some ⟨w.heap.size + 1, 0, none⟩), .int .i64 0]
  obtain ⟨w3, hw3⟩ : ∃ y, w2.alloc (.cells #[.int .i64 c.sh, .int .i64 c.sl, .int .i64 c.wo, .int .i64 c.wd, .int .u64 c.unit, .pointer (some ⟨w.heap.size + 1, 0, none⟩), .int .i64 0] 70) = y := ⟨_, rfl⟩
  have u3 : Upd [] w2 w3 := by rw [← hw3]; exact (Upd.refl [] w2).alloc _
  have b3' : Blk w3 w2.heap.size 70 [.int .i64 c.sh, .int .i64 c.sl, .int .i64 c.wo, .int .i64 c.wd, .int .u64 c.unit, .pointer (some ⟨w.heap.size + 1, 0, none⟩), .int .i64 0] := by rw [← hw3]; exact b3
  rw [show w2.alloc (.cells #[.int .i64 c.sh, .int .i64 c.sl, .int .i64 c.wo, .int .i64 c.wd, .int .u64 c.unit, .pointer (some ⟨w.heap.size + 1, 0, none⟩), .int .i64 0] 70) = w3 from hw3]
  rw [s2, s1] at b3'
  rw [s1] at b2
  refine ⟨w.heap.size + 1 + 1, [w.heap.size + 1 + 1, w.heap.size + 1], rfl, ⟨w.heap.size + 1, [w.heap.size + 1], ⟨b3', (sfg_empty (b2.upd u3 (by simp)) (by omega)), by simp, by omega⟩, MOk.new hr, rfl⟩, (u1.trans u2).trans u3, fun x hx => ?_⟩
  simp only [List.mem_cons, List.not_mem_nil, or_false] at hx
  omega

set_option maxHeartbeats 4000000 in
theorem dmnew_any {W w : World} (c : Cf) (hr : rightC c = true) (hW : W.heap.size ≤ w.heap.size) : Calls Tryz.prog 41 #[cfV c] w (DNewTo W c w) := by
  have HR := Lib.hid hr
  unfold cfV
  clear hr
  go_enter Tryz.func41, Tryz.ntmps41
  go_wp2_with fail
  go_ret
  exact dnew_done HR.out hW
end Go.Proofs.YtfeobcmcellcpaaGreat
