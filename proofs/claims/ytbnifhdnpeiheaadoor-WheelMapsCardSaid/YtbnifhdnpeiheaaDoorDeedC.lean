/-
  A row of deeds that came in, cell by cell. No condition.
-/
import Derived.Test.YtbnifhdnpeiheaaDoorDeed
import Derived.Test.YtbnifhdnpeiheaaDoorArgs
set_option linter.unusedVariables false
set_option linter.unusedSimpArgs false
namespace Go.Proofs.YtbnifhdnpeiheaaDoor
open Go.RowKit

theorem deed_cells {w : World} {v : Value} {n : Nat} {D : Nat → Nat → Int} (h : RowsAt w [.i64, .u64, .i64] v n D) : ∃ ao cap, v = .slice ao n cap ∧ n ≤ maxLen ∧ (n = 0 ∨ ∃ b off, ao = some ⟨b, off, none⟩ ∧ b < w.heap.size ∧
    ∀ i, i < n → w.cell? ⟨b, off + i * 3, none⟩ = some (.int .i64 (D i 0)) ∧ w.cell? ⟨b, off + i * 3 + 1, none⟩ = some (.int .u64 (D i 1)) ∧ w.cell? ⟨b, off + i * 3 + 2, none⟩ = some (.int .i64 (D i 2)) ∧ 0 ≤ D i 1 ∧ D i 1 < 18446744073709551616) := by
  obtain ⟨ao, cap, hv, hm, h | ⟨b, off, ha, hb, hc⟩⟩ := h
  · exact ⟨ao, cap, hv, hm, .inl h⟩
  · refine ⟨ao, cap, hv, hm, .inr ⟨b, off, ha, hb, fun i hi => ⟨by simpa using (hc i hi 0 .i64 rfl).1, by simpa [Nat.add_assoc] using (hc i hi 1 .u64 rfl).1, by simpa [Nat.add_assoc] using (hc i hi 2 .i64 rfl).1, (wf_u64_bd (hc i hi 1 .u64 rfl).2).1, ?_⟩⟩⟩
    have := (wf_u64_bd (hc i hi 1 .u64 rfl).2).2
    omega
end Go.Proofs.YtbnifhdnpeiheaaDoor
