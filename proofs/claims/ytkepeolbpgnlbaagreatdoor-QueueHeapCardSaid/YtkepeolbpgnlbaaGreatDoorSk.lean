/-
  law06.step: a deed done to a wheel and to the document's: both tell the same. No condition.
-/
import Derived.Test.YtkepeolbpgnlbaaGreatDoorSj
import Derived.Test.YtkepeolbpgnlbaaGreatDoorPB
set_option linter.unusedVariables false
set_option linter.unusedSimpArgs false
namespace Go.Proofs.YtkepeolbpgnlbaaGreatDoor
open Go.RowKit

/-- The item of a deed: some key. -/
def Item6 (w1 : World) (nm : Int) (s : Value) (wx : World) : Prop := ∃ k : Nat, k < 18446744073709551616 ∧ ItemVar w1 ((k : Int), nm) s wx

theorem szero_at {w1 w3 : World} (h : Upd [] (w1.alloc (.cells #[.int .u64 0, .int .i64 0] 37)).drew w3) :
    w3.cell? ⟨w1.heap.size, 0, none⟩ = some (.int .u64 0) ∧ w3.cell? ⟨w1.heap.size, 1, none⟩ = some (.int .i64 0) ∧ w3.frozen? ⟨w1.heap.size, 0, none⟩ = false ∧ w3.frozen? ⟨w1.heap.size, 1, none⟩ = false ∧ w1.heap.size < w3.heap.size := by
  have hB := (Blk.new w1 37 [.int .u64 0, .int .i64 0]).upd (((Upd.refl [] _).drew).trans h) (by simp)
  exact ⟨hB.cell rfl, hB.cell rfl, hB.free _, hB.free _, hB.lt⟩
theorem szero_at' {w1 w3 : World} (h : Upd [] (w1.alloc (.cells #[.int .u64 0, .int .i64 0] 37)) w3) :
    w3.cell? ⟨w1.heap.size, 0, none⟩ = some (.int .u64 0) ∧ w3.cell? ⟨w1.heap.size, 1, none⟩ = some (.int .i64 0) ∧ w3.frozen? ⟨w1.heap.size, 0, none⟩ = false ∧ w3.frozen? ⟨w1.heap.size, 1, none⟩ = false ∧ w1.heap.size < w3.heap.size := by
  have hB := (Blk.new w1 37 [.int .u64 0, .int .i64 0]).upd h (by simp)
  exact ⟨hB.cell rfl, hB.cell rfl, hB.free _, hB.free _, hB.lt⟩
theorem szero_keep {w3 w4 : World} {g : Nat} (h : Upd [] w3 w4) (q0 : w3.cell? ⟨g, 0, none⟩ = some (.int .u64 0)) (q1 : w3.cell? ⟨g, 1, none⟩ = some (.int .i64 0)) (q2 : w3.frozen? ⟨g, 0, none⟩ = false) (q3 : w3.frozen? ⟨g, 1, none⟩ = false) (q4 : g < w3.heap.size) :
    w4.cell? ⟨g, 0, none⟩ = some (.int .u64 0) ∧ w4.cell? ⟨g, 1, none⟩ = some (.int .i64 0) ∧ w4.frozen? ⟨g, 0, none⟩ = false ∧ w4.frozen? ⟨g, 1, none⟩ = false ∧ g < w4.heap.size :=
  ⟨(h.cell q4 (by simp) 0).trans q0, (h.cell q4 (by simp) 1).trans q1, (h.frozen q4 (by simp) 0).trans q2, (h.frozen q4 (by simp) 1).trans q3, Nat.lt_of_lt_of_le q4 h.size⟩

theorem szero_S {S : List Nat} {w1 w3 : World} (hn : w1.heap.size ∉ S) (h : Upd S (w1.alloc (.cells #[.int .u64 0, .int .i64 0] 37)).drew w3) :
    w3.cell? ⟨w1.heap.size, 0, none⟩ = some (.int .u64 0) ∧ w3.cell? ⟨w1.heap.size, 1, none⟩ = some (.int .i64 0) ∧ w3.frozen? ⟨w1.heap.size, 0, none⟩ = false ∧ w3.frozen? ⟨w1.heap.size, 1, none⟩ = false ∧ w1.heap.size < w3.heap.size := by
  have hB := (Blk.new w1 37 [.int .u64 0, .int .i64 0]).upd (((Upd.refl S _).drew).trans h) hn
  exact ⟨hB.cell rfl, hB.cell rfl, hB.free _, hB.free _, hB.lt⟩
theorem szero_S' {S : List Nat} {w1 w3 : World} (hn : w1.heap.size ∉ S) (h : Upd S (w1.alloc (.cells #[.int .u64 0, .int .i64 0] 37)) w3) :
    w3.cell? ⟨w1.heap.size, 0, none⟩ = some (.int .u64 0) ∧ w3.cell? ⟨w1.heap.size, 1, none⟩ = some (.int .i64 0) ∧ w3.frozen? ⟨w1.heap.size, 0, none⟩ = false ∧ w3.frozen? ⟨w1.heap.size, 1, none⟩ = false ∧ w1.heap.size < w3.heap.size := by
  have hB := (Blk.new w1 37 [.int .u64 0, .int .i64 0]).upd h hn
  exact ⟨hB.cell rfl, hB.cell rfl, hB.free _, hB.free _, hB.lt⟩

theorem SR.k2 {W w : World} {wb b base wd : Nat} {L : List It} {fp fq : List Nat} (h : SR W wb b base wd L fp fq w) : ∀ x ∈ L, x.1 = (kn x : Int) ∧ kn x < 18446744073709551616 := fun x hx => ⟨(h.2.2.2 x hx).1, (h.2.2.2 x hx).2.1⟩

end Go.Proofs.YtkepeolbpgnlbaaGreatDoor
