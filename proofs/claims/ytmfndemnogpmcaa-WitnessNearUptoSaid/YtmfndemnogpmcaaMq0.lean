/-
  What the statements' Call tells: some call. No condition.
-/
import Derived.Test.YtmfndemnogpmcaaMp
import Derived.Test.YtmfndemnogpmcaaConf
set_option linter.unusedVariables false
set_option linter.unusedSimpArgs false
namespace Go.Proofs.Ytmfndemnogpmcaa
open Go.RowKit

def SomeCl (w : World) (e : Ending) (w' : World) : Prop := ∃ c : Cl, e = .returned (clV c) ∧ Upd [] w w'
theorem pc_fin {w w3 W : World} {q r : Nat} {c : Cl} (hU : Upd [] w w3) (hW : Upd [r] w3 W) (hq : w.heap.size ≤ q) (hr : w.heap.size ≤ r) : SomeCl w (.returned (clV c)) (callW W q c) :=
  ⟨c, rfl, (hU.then hW (fun _ _ h => h) (fun i hi hm => by simp only [List.mem_cons, List.not_mem_nil, or_false] at hm; omega)).then (callW_upd W q c) (fun _ _ h => h) (fun i hi hm => by simp only [List.mem_cons, List.not_mem_nil, or_false] at hm; omega)⟩
theorem pc_find {w w3 W : World} {q r : Nat} {c : Cl} (hU : Upd [] w w3) (hW : Upd [r] w3 W) (hq : w.heap.size ≤ q) (hr : w.heap.size ≤ r) : SomeCl w (.returned (clV c)) (callW W q c).drew := by
  obtain ⟨c', h1, h2⟩ := pc_fin (c := c) hU hW hq hr
  exact ⟨c', h1, h2.drew⟩
end Go.Proofs.Ytmfndemnogpmcaa
