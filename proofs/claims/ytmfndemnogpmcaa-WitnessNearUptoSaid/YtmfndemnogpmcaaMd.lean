/-
  Who is first, whatever order flows are looked at in. No condition.
-/
import Derived.Test.YtmfndemnogpmcaaMc
set_option linter.unusedVariables false
set_option linter.unusedSimpArgs false
namespace Go.Proofs.Ytmfndemnogpmcaa
open Go.RowKit

theorem min_best {F : List Fl} (hs : F.Pairwise (fun a b => a.id < b.id)) {f : Fl} (hf : f ∈ F) (hn : nonE f = true) (hm : ∀ g ∈ F, nonE g = true → ¬ (g.start < f.start ∨ (g.start = f.start ∧ g.id < f.id))) : ∃ i : Nat, bestF F = i ∧ F[i]? = some f := by
  obtain ⟨k, hk, hkf⟩ := List.getElem_of_mem hf
  have hkk : F[k]? = some f := by rw [List.getElem?_eq_getElem hk, hkf]
  rcases best_spec F F.length (Nat.le_refl _) with ⟨-, h2⟩ | ⟨b, g, h1, h2, h3, h4, h5⟩
  · have := h2 k f hk hkk; rw [this] at hn; cases hn
  · have hg := List.mem_of_getElem? h3
    have hno := hm g hg h4
    have : b = k := by
      rcases h5 k f hk hkk hn with h | ⟨h, hbk⟩
      · exact absurd (.inl h) hno
      · rcases Nat.lt_or_ge b k with hlt | hge
        · exfalso
          obtain ⟨hb', e⟩ := List.getElem?_eq_some_iff.1 h3
          have := List.pairwise_iff_getElem.1 hs b k hb' hk hlt
          rw [e, hkf] at this
          exact hno (.inr ⟨h, this⟩)
        · omega
    subst this
    exact ⟨b, h1, hkk⟩
theorem none_best {F : List Fl} (h : ∀ f ∈ F, nonE f = false) : bestF F = -1 := by
  rcases best_spec F F.length (Nat.le_refl _) with ⟨h1, -⟩ | ⟨b, g, -, -, h3, h4, -⟩
  · exact h1
  · have := h g (List.mem_of_getElem? h3); rw [this] at h4; cases h4

/-- A flow's start and number. -/
def stI (f : Fl) : It := ((f.start : Int), f.id)

/-- The least one of a row, the first of its kind: as MinFunc finds it. -/
def minTo (L : List It) : Nat → It
  | 0 => L.getD 0 (0, 0)
  | k + 1 => match L[k + 1]? with
    | some x => if x.1 < (minTo L k).1 ∨ (x.1 = (minTo L k).1 ∧ x.2 < (minTo L k).2) then x else minTo L k
    | none => minTo L k
theorem minTo_spec (L : List It) : ∀ k, k < L.length → minTo L k ∈ L ∧ ∀ j x, j ≤ k → L[j]? = some x → ¬ (x.1 < (minTo L k).1 ∨ (x.1 = (minTo L k).1 ∧ x.2 < (minTo L k).2)) := by
  intro k
  induction k with
  | zero =>
    intro h
    have e : minTo L 0 = L[0] := by show L.getD 0 (0, 0) = _; rw [List.getD_eq_getElem?_getD, List.getElem?_eq_getElem h]; rfl
    refine ⟨by rw [e]; exact List.getElem_mem _, fun j x hj hx => ?_⟩
    obtain rfl : j = 0 := by omega
    rw [List.getElem?_eq_getElem h, Option.some.injEq] at hx
    rw [e, ← hx]; omega
  | succ k ih =>
    intro h
    obtain ⟨h1, h2⟩ := ih (by omega)
    have e : L[k + 1]? = some L[k + 1] := List.getElem?_eq_getElem h
    have hm : minTo L (k + 1) = if L[k + 1].1 < (minTo L k).1 ∨ (L[k + 1].1 = (minTo L k).1 ∧ L[k + 1].2 < (minTo L k).2) then L[k + 1] else minTo L k := by
      show (match L[k + 1]? with | some x => _ | none => _) = _
      rw [e]
    rw [hm]
    split
    · rename_i hc
      refine ⟨List.getElem_mem _, fun j x hj hx => ?_⟩
      by_cases hjk : j = k + 1
      · subst hjk; rw [e, Option.some.injEq] at hx; rw [← hx]; omega
      · have := h2 j x (by omega) hx; omega
    · rename_i hc
      refine ⟨h1, fun j x hj hx => ?_⟩
      by_cases hjk : j = k + 1
      · subst hjk; rw [e, Option.some.injEq] at hx; rw [← hx]; exact hc
      · exact h2 j x (by omega) hx
theorem minTo_step {L : List It} {k : Nat} {x : It} (h : L[k + 1]? = some x) : minTo L (k + 1) = if x.1 < (minTo L k).1 ∨ (x.1 = (minTo L k).1 ∧ x.2 < (minTo L k).2) then x else minTo L k := by
  show (match L[k + 1]? with | some x => _ | none => _) = _
  rw [h]

/-- The starts, in any order: the least is who is first. -/
theorem least_best {F : List Fl} {L : List It} (hs : F.Pairwise (fun a b => a.id < b.id)) (hL : L.Perm ((F.filter nonE).map stI)) (h0 : 0 < L.length) : ∃ (i : Nat) (f : Fl), bestF F = i ∧ F[i]? = some f ∧ nonE f = true ∧ minTo L (L.length - 1) = stI f := by
  obtain ⟨h1, h2⟩ := minTo_spec L (L.length - 1) (by omega)
  obtain ⟨f, hf, hst⟩ := List.mem_map.1 (hL.mem_iff.1 h1)
  obtain ⟨hfF, hn⟩ := List.mem_filter.1 hf
  rw [← hst] at h2
  obtain ⟨i, hi, hif⟩ := min_best hs hfF hn (fun g hg hgn hc => by
    obtain ⟨j, hj, e⟩ := List.getElem_of_mem (hL.mem_iff.2 (List.mem_map_of_mem (List.mem_filter.2 ⟨hg, hgn⟩)) : stI g ∈ L)
    refine h2 j (stI g) (by omega) (by rw [List.getElem?_eq_getElem hj, e]) ?_
    simp only [stI]; omega)
  exact ⟨i, f, hi, hif, hn, hst.symm⟩
theorem empty_best {F : List Fl} {L : List It} (hL : L.Perm ((F.filter nonE).map stI)) (h0 : L.length = 0) : bestF F = -1 := by
  refine none_best (fun f hf => ?_)
  cases hn : nonE f with
  | false => rfl
  | true =>
    exfalso
    have : stI f ∈ L := hL.mem_iff.2 (List.mem_map_of_mem (List.mem_filter.2 ⟨hf, hn⟩))
    rw [List.eq_nil_of_length_eq_zero h0] at this; cases this
end Go.Proofs.Ytmfndemnogpmcaa
