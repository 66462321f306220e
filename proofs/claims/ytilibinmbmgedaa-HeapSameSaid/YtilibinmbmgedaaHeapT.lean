/-
  HeapSame's plain law: which items are in, in whatever order they came. No condition.
-/
import Derived.Test.YtilibinmbmgedaaHeapS
import Derived.Test.YtilibinmbmgedaaHeapL0
namespace Go.Proofs.Ytilibinmbmgedaa
open Go.RowKit

def keyI (D : Nat → Int) (j : Nat) : It := (D j % 9, (j : Int))
/-- A list in order of just the items with the numbers P. -/
def In (D : Nat → Int) (P : Nat → Prop) (L : List It) : Prop := Srt L ∧ ∀ x, x ∈ L ↔ ∃ j, P j ∧ x = keyI D j
theorem In.nil (D : Nat → Int) : In D (fun _ => False) [] := ⟨List.Pairwise.nil, fun x => by simp⟩
theorem In.has {D : Nat → Int} {P : Nat → Prop} {L : List It} (h : In D P L) (k : Nat) : hasI L (k : Int) = true ↔ P k := by
  rw [hasI_iff]
  constructor
  · rintro ⟨x, hx, e⟩
    obtain ⟨j, hj, rfl⟩ := (h.2 x).1 hx
    have : j = k := by simp [keyI] at e; omega
    rw [← this]; exact hj
  · intro hp
    exact ⟨keyI D k, (h.2 _).2 ⟨k, hp, rfl⟩, rfl⟩
theorem In.push {D : Nat → Int} {P : Nat → Prop} {L : List It} (h : In D P L) (k : Nat) : In D (fun j => P j ∨ j = k) (if hasI L (keyI D k).2 = true then L else insI (keyI D k) L) := by
  have hk : (keyI D k).2 = (k : Int) := rfl
  rw [hk]
  by_cases hh : hasI L (k : Int) = true
  · rw [if_pos hh]
    refine ⟨h.1, fun x => ?_⟩
    rw [h.2 x]
    constructor
    · rintro ⟨j, hj, e⟩; exact ⟨j, .inl hj, e⟩
    · rintro ⟨j, hj | rfl, e⟩
      · exact ⟨j, hj, e⟩
      · exact ⟨j, (h.has j).1 hh, e⟩
  · rw [if_neg hh]
    have hf : hasI L (k : Int) = false := by simpa using hh
    refine ⟨insI_srt h.1 (by rw [hk]; exact (hasI_no _ _).1 hf), fun x => ?_⟩
    rw [(insI_perm (keyI D k) L).mem_iff, List.mem_cons, h.2 x]
    constructor
    · rintro (rfl | ⟨j, hj, e⟩)
      · exact ⟨k, .inr rfl, rfl⟩
      · exact ⟨j, .inl hj, e⟩
    · rintro ⟨j, hj | rfl, e⟩
      · exact .inr ⟨j, hj, e⟩
      · exact .inl e
theorem In.congr {D : Nat → Int} {P Q : Nat → Prop} {L : List It} (h : In D P L) (hPQ : ∀ j, P j ↔ Q j) : In D Q L := ⟨h.1, fun x => by rw [h.2 x]; constructor <;> (rintro ⟨j, hj, e⟩; first | exact ⟨j, (hPQ j).1 hj, e⟩ | exact ⟨j, (hPQ j).2 hj, e⟩)⟩
theorem In.eq {D : Nat → Int} {P Q : Nat → Prop} {L M : List It} (h : In D P L) (g : In D Q M) (hPQ : ∀ j, P j ↔ Q j) : L = M := srt_mem_eq h.1 g.1 (fun x => by rw [(h.congr hPQ).2 x, g.2 x])
theorem len_push_le (L : List It) (x : It) : (if hasI L x.2 = true then L else insI x L).length ≤ L.length + 1 := by rw [len_ins]; split <;> omega
end Go.Proofs.Ytilibinmbmgedaa
