/-
  Arguments that are rows of rows of structs of numbers and truths: what their cells are. No condition.
-/
import Derived.Test.YtmfndemnogpmcaaFlat
set_option linter.unusedVariables false
set_option linter.unusedSimpArgs false
namespace Go.Proofs.Ytmfndemnogpmcaa
open Go.ChangeShapes Go.WideShapes Go.ChangeAt Go.RowKit Go.Deep

/-- A row of structs that was trod: what it is. -/
theorem flat_trod {H : Type} {enc : TypeId × Value → H} {P : Program} {w : World} {t e : TypeId} {ks : List (Option IntKind)} {fuel : Nat} {cs : List Value} {x : DataW H × List MemPlace} (ht : P.underlying t = some (.slice e)) (hf8 : flatKinds P 8 e = some ks)
    (hC : P.cellsOf e = ks.length) (h0 : 0 < ks.length) (hf : DataW.trod enc P w 0 (fun _ => true) true fuel t cs = some x) : ∃ v n D, cs = [v] ∧ FlatAt w ks v n D := by
  rcases open_slice ht hf with ⟨hcs, _⟩ | ⟨a, len, cap, m, n, D, Pl, hcs, _, hlc, hcm, hm, _, hi⟩
  · exact ⟨_, 0, fun _ _ => .bool false, hcs, none, 0, rfl, by unfold maxLen; omega, .inl rfl⟩
  · have hmc : m = cap := by simpa using hm
    subst hmc
    have each : ∀ i, i < len → ∀ (j : Nat) (k : Option IntKind), ks[j]? = some k → ∃ x, w.cell? (a.add (i * ks.length + j)) = some x ∧ skOk k x := by
      intro i hi' j k hjk
      obtain ⟨cs', hc, ht'⟩ := hi i (by omega)
      rw [hC] at hc
      obtain ⟨x, hx1, hx2⟩ := flat_cells 8 e ks hf8 _ _ _ ht' j k hjk
      obtain ⟨_, hcl, hat⟩ := World.cells?_some hc
      have hjl : j < ks.length := by
        rcases Nat.lt_or_ge j ks.length with h | h
        · exact h
        · rw [List.getElem?_eq_none h] at hjk; cases hjk
      have hcell := hat j hjl
      refine ⟨x, ?_, hx2⟩
      rw [← Go.Deep.add_add, hcell]
      exact hx1
    rcases Nat.eq_zero_or_pos len with rfl | hpos
    · exact ⟨_, 0, fun _ _ => .bool false, hcs, some a, m, rfl, by omega, .inl rfl⟩
    · obtain ⟨k0, hk0⟩ : ∃ k, ks[0]? = some k := ⟨ks[0], List.getElem?_eq_getElem h0⟩
      obtain ⟨x0, hx0, _⟩ := each 0 hpos 0 k0 hk0
      obtain ⟨b, off, sp⟩ := a
      have hsp : sp = none := by
        have := spot_none hx0
        rw [Nat.zero_mul, Nat.zero_add] at this
        simpa [Addr.add] using this
      subst hsp
      have hb := World.block_lt_of_cell? w _ hx0
      rw [add_none] at hb
      refine ⟨_, len, fun i j => (w.cell? ⟨b, off + (i * ks.length + j), none⟩).getD (.bool false), hcs, some ⟨b, off, none⟩, m, rfl, by omega, .inr ⟨b, off, rfl, hb, fun i hi' j k hjk => ?_⟩⟩
      obtain ⟨x, hx, hw⟩ := each i hi' j k hjk
      rw [add_none] at hx
      simp only [hx, Option.getD_some]
      exact ⟨trivial, hw⟩

/-- A row of n rows: what they are. -/
def GridAt (w : World) (ks : List (Option IntKind)) (v : Value) (n : Nat) (V : Nat → Value) : Prop :=
  ∃ ao cap, v = .slice ao n cap ∧ n ≤ maxLen ∧ (n = 0 ∨ ∃ b off, ao = some ⟨b, off, none⟩ ∧ b < w.heap.size ∧ ∀ i, i < n → w.cell? ⟨b, off + i, none⟩ = some (V i) ∧ ∃ m D, FlatAt w ks (V i) m D)
theorem grid_trod {H : Type} {enc : TypeId × Value → H} {P : Program} {w : World} {t e c : TypeId} {ks : List (Option IntKind)} {fuel : Nat} {cs : List Value} {x : DataW H × List MemPlace} (ht : P.underlying t = some (.slice e)) (he : P.underlying e = some (.slice c)) (hf8 : flatKinds P 8 c = some ks)
    (hCe : P.cellsOf e = 1) (hC : P.cellsOf c = ks.length) (h0 : 0 < ks.length) (hf : DataW.trod enc P w 0 (fun _ => true) true fuel t cs = some x) : ∃ v n V, cs = [v] ∧ GridAt w ks v n V := by
  rcases open_slice ht hf with ⟨hcs, _⟩ | ⟨a, len, cap, m, n, D, Pl, hcs, _, hlc, hcm, hm, _, hi⟩
  · exact ⟨_, 0, fun _ => .bool false, hcs, none, 0, rfl, by unfold maxLen; omega, .inl rfl⟩
  · have hmc : m = cap := by simpa using hm
    subst hmc
    have each : ∀ i, i < len → ∃ v, w.cell? (a.add i) = some v ∧ ∃ m D, FlatAt w ks v m D := by
      intro i hi'
      obtain ⟨cs', hc, ht'⟩ := hi i (by omega)
      rw [hCe] at hc
      obtain ⟨v, k, D', rfl, hfl⟩ := flat_trod he hf8 hC h0 ht'
      obtain ⟨_, _, hat⟩ := World.cells?_some hc
      have h2 := hat 0 (by omega)
      refine ⟨v, ?_, k, D', hfl⟩
      rw [Nat.mul_one] at h2
      have e1 : (a.add i).add 0 = a.add i := by rw [Go.Deep.add_add, Nat.add_zero]
      rw [e1] at h2
      rw [h2]; rfl
    rcases Nat.eq_zero_or_pos len with rfl | hpos
    · exact ⟨_, 0, fun _ => .bool false, hcs, some a, m, rfl, by omega, .inl rfl⟩
    · obtain ⟨x0, hx0, _⟩ := each 0 hpos
      obtain ⟨b, off, sp⟩ := a
      have hsp : sp = none := by
        have := spot_none hx0
        simpa [Addr.add] using this
      subst hsp
      have hb := World.block_lt_of_cell? w _ hx0
      rw [add_none] at hb
      refine ⟨_, len, fun i => (w.cell? ⟨b, off + i, none⟩).getD (.bool false), hcs, some ⟨b, off, none⟩, m, rfl, by omega, .inr ⟨b, off, rfl, hb, fun i hi' => ?_⟩⟩
      obtain ⟨x, hx, hw⟩ := each i hi'
      rw [add_none] at hx
      simp only [hx, Option.getD_some]
      exact ⟨trivial, hw⟩
end Go.Proofs.Ytmfndemnogpmcaa
