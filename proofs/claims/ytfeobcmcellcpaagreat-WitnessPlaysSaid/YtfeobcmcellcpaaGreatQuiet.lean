/-
  A region that draws its order and whose callees only make memory: one walk in the order of the text, over a family of worlds. No condition.
-/
import Derived.Test.YtfeobcmcellcpaaGreatPB
import Derived.BigQuiet
import Derived.StillTailTactics
set_option linter.unusedVariables false
set_option linter.unusedSimpArgs false
namespace Go.Proofs.YtfeobcmcellcpaaGreat
open Go.RowKit

/-- All worlds that are w0 but for the blocks of S and for new ones, named by one function. -/
theorem upd_fam (S : List Nat) (w0 : World) : ∃ (T : Type) (_ : Nonempty T) (F : T → World), (∀ z, Upd S w0 (F z)) ∧ ∀ w, Upd S w0 w → ∃ z, w = F z :=
  ⟨{x : World // Upd S w0 x}, ⟨⟨w0, Upd.refl S w0⟩⟩, Subtype.val, fun z => z.2, fun w h => ⟨⟨w, h⟩, rfl⟩⟩
theorem wp_region_fam {P : Program} {T : Type} (F : T → World) {id : Nat} {Q : Exit → Act → World → Prop} {a : Act} {w : World} {l : List Oper} (hm : P.follows .mixedOrders = true) (hB : Region.lexB .any l.toArray = true) (h0 : ∃ z, w.drew = F z)
    (h : wpQuiet P l.toArray (fun w' => ∃ z, w' = F z) (fun a' => ∀ w', (∃ z, w' = F z) → Q .normal a' w') l a) : (Code.region id l.toArray true).wp P Q a w :=
  wp_region_quiet (C := fun w' => ∃ z, w' = F z) hm hB h0 (by simpa using h)

/-! ### Reads, then a tail whose order is forced -/
theorem still_of_quiet {P : Program} {o : Oper} {a : Act} {w : World} {K : Act → Prop} (h : o.quiet P a (fun w' => w' = w) K) : o.still P a w K := by
  obtain ⟨v, h1, h2⟩ := h
  have h3 := h1 w rfl
  unfold Oper.quietAt at h3
  unfold Oper.still
  generalize (execOp a.eval o).run P w = r at *
  cases r with
  | ok n w' =>
    cases n <;> simp only [Oper.quietUpon] at h3 <;> simp only [Oper.stillUpon]
    case value u => exact ⟨h3.1, by rw [h3.2]; exact h2⟩
    case skip => exact ⟨h3.1, by rw [← h3.2]; exact h2⟩
    case enter f args => exact ⟨h3.1, v, h3.2, h2⟩
  | halt x w' => simp only [Oper.quietUpon] at h3
theorem wpStill_of_quiet {P : Program} {ops : Array Oper} {w : World} {Q : Act → Prop} : ∀ (l : List Oper) (a : Act), wpQuiet P ops (fun w' => w' = w) Q l a → wpStill P ops w Q l a
  | [], _, h => h
  | o :: rest, a, h => by
    unfold wpQuiet at h
    unfold wpStill
    split
    · rename_i hw
      rw [if_pos hw] at h
      obtain ⟨v, h1, h2⟩ := h
      exact still_of_quiet ⟨v, h1, wpStill_of_quiet rest _ h2⟩
    · rename_i hw
      rw [if_neg hw] at h
      exact wpStill_of_quiet rest _ h
theorem wp_region_tail {P : Program} {id : Nat} {Q : Exit → Act → World → Prop} {a : Act} {w : World} {l : List Oper} (n : Nat) (hm : P.follows .mixedOrders = true) (hB : Region.lexTailB .any l.toArray n = true)
    (h : wpQuiet P l.toArray (fun w' => w' = w.drew) (fun a' => wpList P l.toArray Q (l.drop n) a' w.drew) (l.take n) a) : (Code.region id l.toArray true).wp P Q a w :=
  wp_region_still_tail n hm hB (wpStill_of_quiet _ _ h)
end Go.Proofs.YtfeobcmcellcpaaGreat
