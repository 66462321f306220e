/-
  Footprints: what a deed may write, and what is new. No condition.
-/
import Derived.Test.YtmfndemnogpmcaaPB
set_option linter.unusedVariables false
set_option linter.unusedSimpArgs false
namespace Go.Proofs.Ytmfndemnogpmcaa
open Go.RowKit

/-! ### Footprints -/
def Fr (F F' : List Nat) (w w' : World) : Prop := (∀ c ∈ F', c ∈ F ∨ w.heap.size ≤ c) ∧ Upd F w w'
theorem Fr.refl (F : List Nat) (w : World) : Fr F F w w := ⟨fun c hc => .inl hc, Upd.refl _ _⟩
theorem Fr.trans {F F' F'' : List Nat} {w w' w'' : World} (h : Fr F F' w w') (k : Fr F' F'' w' w'') : Fr F F'' w w'' := by
  have hs := h.2.size
  refine ⟨fun c hc => ?_, h.2.then k.2 (fun _ _ e => e) (fun i hi e => ?_)⟩
  · rcases k.1 c hc with e | e
    · exact h.1 c e
    · right; omega
  · rcases h.1 i e with e | e
    · exact e
    · omega
theorem Fr.of {F : List Nat} {w w' : World} (h : Upd [] w w') : Fr F F w w' := ⟨fun c hc => .inl hc, h.nil⟩
theorem Fr.up {F F' : List Nat} {w w' w'' : World} (h : Fr F F' w w') (hu : Upd [] w' w'') : Fr F F' w w'' := h.trans (Fr.of hu)

end Go.Proofs.Ytmfndemnogpmcaa
