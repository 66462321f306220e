/-
  What a region holds behind a call that writes blocks of its own. No condition.
-/
import Derived.Test.YtfeobcmcellcpaaGreatPB
set_option linter.unusedVariables false
set_option linter.unusedSimpArgs false
namespace Go.Proofs.YtfeobcmcellcpaaGreat
open Go.RowKit

theorem Held.more {S T : List Nat} {W w w' : World} (h : Upd S W w ∧ ∀ b o, b < W.heap.size → b ∉ S → w.cell? ⟨b, o, none⟩ = W.cell? ⟨b, o, none⟩) (k : Upd T w w') (hT : ∀ c ∈ T, c ∈ S ∨ W.heap.size ≤ c) :
    Upd S W w' ∧ ∀ b o, b < W.heap.size → b ∉ S → w'.cell? ⟨b, o, none⟩ = W.cell? ⟨b, o, none⟩ := by
  have hu : Upd S W w' := h.1.then k (fun _ _ h => h) (fun i hi hm => by
    rcases hT i hm with h | h
    · exact h
    · omega)
  exact ⟨hu, fun b o hb hn => hu.cell hb hn o⟩
theorem Held.self (S : List Nat) (W : World) : Upd S W W ∧ ∀ b o, b < W.heap.size → b ∉ S → W.cell? ⟨b, o, none⟩ = W.cell? ⟨b, o, none⟩ := ⟨Upd.refl S W, fun _ _ _ _ => rfl⟩
end Go.Proofs.YtfeobcmcellcpaaGreat
