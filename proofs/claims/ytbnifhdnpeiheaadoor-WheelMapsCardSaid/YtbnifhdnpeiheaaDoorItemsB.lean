/-
  The walk of the reference's cut. No condition.
-/
import Derived.Test.YtbnifhdnpeiheaaDoorItemsA
set_option linter.unusedVariables false
set_option linter.unusedSimpArgs false
namespace Go.Proofs.YtbnifhdnpeiheaaDoor
open Go.RowKit

/-- What a deed on a list leaves: the list anew, in an array of its own; of the block b nothing but its cell. -/
def ItsTo (w : World) (b o : Nat) (L' : List It) (w' : World) : Prop :=
  ∃ ao' cap', ItsAt w' b o ao' cap' L' ∧ (∀ c ∈ blkO ao', w.heap.size ≤ c) ∧ Upd [b] w w' ∧ (∀ ty cs, Blk w b ty cs → Blk w' b ty (cs.set o (.slice ao' L'.length cap'))) ∧
    ∀ e size n cap xs, Row w e size b n cap xs → Row w' e size b n cap (xs.set o (.slice ao' L'.length cap'))

theorem its_done {w w1 w' : World} {b o cap cap' n' N : Nat} {ao ao' : Option Addr} {L L' : List It} (h : ItsAt w b o ao cap L) (hU : Upd [] w w1) (hrow : RowO w1 35 2 ao' n' cap' (L'.flatMap itVs)) (hf : ∀ c ∈ blkO ao', N ≤ c) (hN : w.heap.size ≤ N)
    (hn : L'.length = n') (hnd : NdI L') (hsr : Srt L') (hsm : n' ≤ 1000) {S : List Nat} (hu : Upd S (w1.setCell ⟨b, o, none⟩ (.slice ao' n' cap')) w') (hS : ∀ c ∈ S, w.heap.size ≤ c ∧ c < N) : ItsTo w b o L' w' := by
  subst hn
  have hbl := h.lt
  have hb1 : b < w1.heap.size := Nat.lt_of_lt_of_le h.lt hU.size
  have hbS : b ∉ S := fun e => by have := (hS b e).1; omega
  have hba : b ∉ blkO ao' := fun e => by have := hf b e; omega
  have hu1 : Upd [b] w1 (w1.setCell ⟨b, o, none⟩ (.slice ao' L'.length cap')) := (Upd.refl _ _).setCell (by simp) _
  have hc1 : w1.cell? ⟨b, o, none⟩ = some (.slice ao L.length cap) := by rw [hU.cell h.lt (by simp)]; exact h.cell
  have hz1 : w1.frozen? ⟨b, o, none⟩ = false := by rw [hU.frozen h.lt (by simp)]; exact h.free
  have hsz : b < (w1.setCell ⟨b, o, none⟩ (.slice ao' L'.length cap')).heap.size := by simpa using hb1
  have hU0 : Upd [b] w (w1.setCell ⟨b, o, none⟩ (.slice ao' L'.length cap')) := hU.nil.trans hu1
  refine ⟨ao', cap', { cell := ?_, free := ?_, row := ?_, lt := Nat.lt_of_lt_of_le hsz hu.size, apart := hba, small := hsm, nd := hnd, srt := hsr }, fun c hc => Nat.le_trans hN (hf c hc), hU0.then hu (fun _ _ hm => hm) (fun i hi hm => by have := (hS i hm).1; omega), fun ty cs hB => ?_, fun e size n cap xs hB => ?_⟩
  · rw [hu.cell hsz hbS, World.cell?_setCell_same _ _ _ hc1]
  · rw [hu.frozen hsz hbS]; simpa using hz1
  · refine (hrow.upd hu1 (fun c hc => by simp; intro e; subst e; exact hba hc)).upd hu (fun c hc e => ?_)
    have := hf c hc; have := (hS c e).2; omega
  · exact ((hB.upd hU (by simp)).set o _).upd hu hbS
  · exact ((hB.upd hU (by simp)).set o _).upd hu hbS

end Go.Proofs.YtbnifhdnpeiheaaDoor
