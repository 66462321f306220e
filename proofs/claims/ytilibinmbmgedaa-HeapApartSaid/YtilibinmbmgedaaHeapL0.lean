/-
  Small laws for the statements' walks: pushes, rows of items. No condition.
-/
import Derived.Test.YtilibinmbmgedaaHeapK
import Derived.Test.YtilibinmbmgedaaArgs
namespace Go.Proofs.Ytilibinmbmgedaa
open Go.RowKit

theorem hasI_ins (L : List It) (x : It) : hasI (if hasI L x.2 = true then L else insI x L) x.2 = true := by
  split
  · assumption
  · rw [hasI_iff]; exact ⟨x, (insI_perm x L).mem_iff.2 (by simp), rfl⟩
theorem len_ins (L : List It) (x : It) : (if hasI L x.2 = true then L else insI x L).length = if hasI L x.2 = true then L.length else L.length + 1 := by
  split
  · rfl
  · rw [(insI_perm x L).length_eq]; rfl
theorem agg_cells {w : World} {v : Value} {n : Nat} {D : Nat → Nat → Int} (h : RowsAt w [.u64, .i64] v n D) : ∃ ao cap, v = .slice ao n cap ∧ n ≤ maxLen ∧ (n = 0 ∨ ∃ b off, ao = some ⟨b, off, none⟩ ∧ b < w.heap.size ∧
    ∀ i, i < n → w.cell? ⟨b, off + i * 2, none⟩ = some (.int .u64 (D i 0)) ∧ w.cell? ⟨b, off + i * 2 + 1, none⟩ = some (.int .i64 (D i 1))) := by
  obtain ⟨ao, cap, hv, hm, h | ⟨b, off, ha, hb, hc⟩⟩ := h
  · exact ⟨ao, cap, hv, hm, .inl h⟩
  · exact ⟨ao, cap, hv, hm, .inr ⟨b, off, ha, hb, fun i hi => ⟨by simpa using (hc i hi 0 .u64 rfl).1, by simpa [Nat.add_assoc] using (hc i hi 1 .i64 rfl).1⟩⟩⟩

end Go.Proofs.Ytilibinmbmgedaa
