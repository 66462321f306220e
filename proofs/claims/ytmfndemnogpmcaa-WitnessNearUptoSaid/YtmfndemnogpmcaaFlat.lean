/-
  Arguments that are rows of structs of numbers and truths, nested: what their cells are. No condition.
-/
import Derived.Test.YtmfndemnogpmcaaPB
set_option linter.unusedVariables false
set_option linter.unusedSimpArgs false
namespace Go.Proofs.Ytmfndemnogpmcaa
open Go.ChangeShapes Go.WideShapes Go.ChangeAt Go.RowKit Go.Deep

/-- A cell: a number of a kind, or (none) a truth. -/
def skOk : Option IntKind → Value → Prop
  | some k, v => ∃ x, v = .int k x ∧ (Lit.int k x).wf = true
  | none, v => ∃ b, v = .bool b
def flatFields (P : Program) (g : TypeId → Option (List (Option IntKind))) : List Field → List (Option IntKind) → Option (List (Option IntKind))
  | [], acc => some acc
  | fld :: rest, acc => match g fld.type with
    | some ks => if fld.offset = acc.length ∧ P.cellsOf fld.type = ks.length then flatFields P g rest (acc ++ ks) else none
    | none => none
def flatKinds (P : Program) : Nat → TypeId → Option (List (Option IntKind))
  | 0, _ => none
  | f + 1, t => match P.underlying t with
    | some (.int k) => some [some k]
    | some .bool => some [none]
    | some (.struct fs) => flatFields P (flatKinds P f) fs.toList []
    | _ => none
theorem flatFields_spec {P : Program} {g : TypeId → Option (List (Option IntKind))} : ∀ (fs : List Field) (acc ks : List (Option IntKind)), flatFields P g fs acc = some ks →
    (∀ j, j < acc.length → ks[j]? = acc[j]?) ∧ ∀ (j : Nat) (k : Option IntKind), acc.length ≤ j → ks[j]? = some k → ∃ (i : Nat) (fld : Field) (kf : List (Option IntKind)), fs[i]? = some fld ∧ g fld.type = some kf ∧ P.cellsOf fld.type = kf.length ∧ fld.offset ≤ j ∧ kf[j - fld.offset]? = some k
  | [], acc, ks, h => by
    simp only [flatFields, Option.some.injEq] at h
    subst h
    refine ⟨fun _ _ => rfl, fun j k hj hk => ?_⟩
    rw [List.getElem?_eq_none hj] at hk; cases hk
  | fld :: rest, acc, ks, h => by
    simp only [flatFields] at h
    cases hg : g fld.type with
    | none => rw [hg] at h; cases h
    | some kf =>
      rw [hg] at h
      simp only at h
      split at h
      · rename_i hc
        obtain ⟨i1, i2⟩ := flatFields_spec rest (acc ++ kf) ks h
        refine ⟨fun j hj => ?_, fun j k hj hk => ?_⟩
        · rw [i1 j (by rw [List.length_append]; omega), List.getElem?_append_left hj]
        · by_cases hlt : j < (acc ++ kf).length
          · rw [i1 j hlt, List.getElem?_append_right hj] at hk
            exact ⟨0, fld, kf, rfl, hg, hc.2, by rw [hc.1]; exact hj, by rw [hc.1]; exact hk⟩
          · obtain ⟨i, f', kf', h1, h2⟩ := i2 j k (by omega) hk
            exact ⟨i + 1, f', kf', by simpa using h1, h2⟩
      · cases h
section
variable {H : Type} {enc : TypeId × Value → H} {P : Program} {w : World} {base : Nat} {spare : Nat → Bool} {held : Bool}
theorem flat_cells : ∀ (f : Nat) (t : TypeId) (ks : List (Option IntKind)), flatKinds P f t = some ks → ∀ (n : Nat) (cs : List Value) (x : DataW H × List MemPlace), DataW.trod enc P w base spare held n t cs = some x →
    ∀ (j : Nat) (k : Option IntKind), ks[j]? = some k → ∃ v, cs[j]? = some v ∧ skOk k v
  | 0, _, _, h => by cases h
  | f + 1, t, ks, h => by
    intro n cs x hx j k hk
    unfold flatKinds at h
    cases hu : P.underlying t with
    | none => rw [hu] at h; cases h
    | some u =>
      rw [hu] at h
      cases u <;> simp only [reduceCtorEq] at h
      case int q =>
        obtain ⟨z, rfl, _, hw⟩ := DataW.trod_int hu hx
        simp only [Option.some.injEq] at h
        subst h
        cases j with
        | zero => simp at hk; subst hk; exact ⟨_, rfl, z, rfl, hw⟩
        | succ j => simp at hk
      case bool =>
        obtain ⟨z, rfl, _⟩ := DataW.trod_bool hu hx
        simp only [Option.some.injEq] at h
        subst h
        cases j with
        | zero => simp at hk; subst hk; exact ⟨_, rfl, z, rfl⟩
        | succ j => simp at hk
      case struct fs =>
        obtain ⟨xs, m, _, _, _, hlen, hff⟩ := DataW.trod_struct hu hx
        obtain ⟨_, i2⟩ := flatFields_spec _ _ _ h
        obtain ⟨i, fld, kf, h1, h2, h3, h4, h5⟩ := i2 j k (Nat.zero_le _) hk
        have h1' : fs[i]? = some fld := by rw [Array.getElem?_toList] at h1; exact h1
        have hil : i < fs.size := (Array.getElem?_eq_some_iff.1 h1').1
        have hf := hff i fld h1'
        have hxi : xs[i]? = some (xs[i]'(by omega)) := List.getElem?_eq_getElem (by omega)
        obtain ⟨v, hv1, hv2⟩ := flat_cells f fld.type kf h2 m _ _ (hf.trans hxi) (j - fld.offset) k h5
        refine ⟨v, ?_, hv2⟩
        have hjl : j - fld.offset < kf.length := by
          rcases Nat.lt_or_ge (j - fld.offset) kf.length with h | h
          · exact h
          · rw [List.getElem?_eq_none h] at h5; cases h5
        rw [List.getElem?_take_of_lt (by omega), List.getElem?_drop] at hv1
        rw [show j = fld.offset + (j - fld.offset) by omega]
        exact hv1
end
/-- A slice of n structs whose cells are of the kinds ks: what they are. -/
def FlatAt (w : World) (ks : List (Option IntKind)) (v : Value) (n : Nat) (D : Nat → Nat → Value) : Prop :=
  ∃ ao cap, v = .slice ao n cap ∧ n ≤ maxLen ∧ (n = 0 ∨ ∃ b off, ao = some ⟨b, off, none⟩ ∧ b < w.heap.size ∧
    ∀ i, i < n → ∀ j k, ks[j]? = some k → w.cell? ⟨b, off + (i * ks.length + j), none⟩ = some (D i j) ∧ skOk k (D i j))
theorem open_flat {H : Type} {enc : TypeId × Value → H} {P : Program} {w : World} {t e : TypeId} {ks : List (Option IntKind)} {r : Reach} {b0 : Nat} {v : Value} {d : DataW H} {p : List MemPlace} (ht : P.underlying t = some (.slice e)) (hf8 : flatKinds P 8 e = some ks)
    (hC : P.cellsOf e = ks.length) (h0 : 0 < ks.length) (hv : Value.okWide P w r b0 t v) (h : DataW.Trod enc P w 0 (fun _ => true) true t v d p) : ∃ n D, FlatAt w ks v n D := by
  obtain ⟨ao, len, cap, rfl⟩ := okWide_slice ht hv
  obtain ⟨fuel, hf⟩ := h
  rcases open_slice ht hf with ⟨hcs, _⟩ | ⟨a, len', cap', m, n, D, Pl, hcs, _, hlc, hcm, hm, _, hi⟩
  · simp [Value.cells] at hcs
    obtain ⟨rfl, rfl, rfl⟩ := hcs
    exact ⟨0, fun _ _ => .bool false, none, 0, rfl, by unfold maxLen; omega, .inl rfl⟩
  · simp [Value.cells] at hcs
    obtain ⟨rfl, rfl, rfl⟩ := hcs
    have hmc : m = cap := by simpa using hm
    subst hmc
    have each : ∀ i, i < len → ∀ (j : Nat) (k : Option IntKind), ks[j]? = some k → ∃ x, w.cell? (a.add (i * ks.length + j)) = some x ∧ skOk k x := by
      intro i hi' j k hjk
      obtain ⟨cs', hc, ht'⟩ := hi i (by omega)
      rw [hC] at hc
      obtain ⟨x, hx1, hx2⟩ := flat_cells 8 e ks hf8 _ _ _ ht' j k hjk
      obtain ⟨_, hcl, hat⟩ := World.cells?_some hc
      have hjl : j < ks.length := by
        rcases Nat.lt_or_ge j ks.length with h | h
        · exact h
        · rw [List.getElem?_eq_none h] at hjk; cases hjk
      have hcell := hat j hjl
      refine ⟨x, ?_, hx2⟩
      rw [← Go.Deep.add_add, hcell]
      exact hx1
    rcases Nat.eq_zero_or_pos len with rfl | hpos
    · exact ⟨0, fun _ _ => .bool false, some a, m, rfl, by omega, .inl rfl⟩
    · obtain ⟨k0, hk0⟩ : ∃ k, ks[0]? = some k := ⟨ks[0], List.getElem?_eq_getElem h0⟩
      obtain ⟨x0, hx0, _⟩ := each 0 hpos 0 k0 hk0
      obtain ⟨b, off, sp⟩ := a
      have hsp : sp = none := by
        have := spot_none hx0
        rw [Nat.zero_mul, Nat.zero_add] at this
        simpa [Addr.add] using this
      subst hsp
      have hb := World.block_lt_of_cell? w _ hx0
      rw [add_none] at hb
      refine ⟨len, fun i j => (w.cell? ⟨b, off + (i * ks.length + j), none⟩).getD (.bool false), some ⟨b, off, none⟩, m, rfl, by omega, .inr ⟨b, off, rfl, hb, fun i hi' j k hjk => ?_⟩⟩
      obtain ⟨x, hx, hw⟩ := each i hi' j k hjk
      rw [add_none] at hx
      simp only [hx, Option.getD_some]
      exact ⟨trivial, hw⟩

/-- An argument that is a struct of four ints and a u64. -/
theorem open_conf {H : Type} {enc : TypeId × Value → H} {P : Program} {w : World} {t : TypeId} {fs : Array Field} {r : Reach} {b0 : Nat} {v : Value} {d : DataW H} {p : List MemPlace} (ht : P.underlying t = some (.struct fs))
    (hf8 : flatKinds P 8 t = some [some .i64, some .i64, some .i64, some .i64, some .u64]) (hC : P.cellsOf t = 5) (hv : Value.okWide P w r b0 t v) (h : DataW.Trod enc P w 0 (fun _ => true) true t v d p) :
    ∃ (a b c d : Int) (u : Nat), v = .agg #[.int .i64 a, .int .i64 b, .int .i64 c, .int .i64 d, .int .u64 u] ∧ u < 18446744073709551616 := by
  obtain ⟨cs, rfl, hsz⟩ := okWide_struct ht hv
  rw [hC] at hsz
  obtain ⟨fuel, hf⟩ := h
  have key := flat_cells 8 t _ hf8 _ _ _ hf
  obtain ⟨v0, e0, a, rfl, _⟩ := key 0 (some .i64) rfl
  obtain ⟨v1, e1, b, rfl, _⟩ := key 1 (some .i64) rfl
  obtain ⟨v2, e2, c, rfl, _⟩ := key 2 (some .i64) rfl
  obtain ⟨v3, e3, d, rfl, _⟩ := key 3 (some .i64) rfl
  obtain ⟨v4, e4, u, rfl, hu⟩ := key 4 (some .u64) rfl
  have hbd := wf_u64_bd hu
  have hcs : (Value.cells (.agg cs)).toList = cs.toList := by simp [Value.cells]
  refine ⟨a, b, c, d, u.toNat, ?_, by omega⟩
  obtain ⟨l⟩ := cs
  simp only [Value.cells] at e0 e1 e2 e3 e4
  match l, hsz with
  | [x0, x1, x2, x3, x4], _ =>
    simp at e0 e1 e2 e3 e4
    subst e0 e1 e2 e3 e4
    have : ((u.toNat : Nat) : Int) = u := by omega
    rw [this]
end Go.Proofs.Ytmfndemnogpmcaa
