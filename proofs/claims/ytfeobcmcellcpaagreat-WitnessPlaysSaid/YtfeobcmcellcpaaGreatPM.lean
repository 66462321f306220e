/-
  Texts of this claim, joined: Flat, Grid, PlanA, Ma, Fg, Mb. No condition.
-/
import Derived.Test.YtfeobcmcellcpaaGreatPB
import Derived.Test.YtfeobcmcellcpaaGreatPF
set_option linter.unusedVariables false
set_option linter.unusedSimpArgs false
/-! Flat -/
namespace Go.Proofs.YtfeobcmcellcpaaGreat
open Go.ChangeShapes Go.WideShapes Go.ChangeAt Go.RowKit Go.Deep

/-- A cell: a number of a kind, or (none) a truth. -/
def skOk : Option IntKind → Value → Prop
  | some k, v => ∃ x, v = .int k x ∧ (Lit.int k x).wf = true
  | none, v => ∃ b, v = .bool b
def flatFields (P : Program) (g : TypeId → Option (List (Option IntKind))) : List Field → List (Option IntKind) → Option (List (Option IntKind))
  | [], acc => some acc
  | fld :: rest, acc => match g fld.type with
    | some ks => if fld.offset = acc.length ∧ P.cellsOf fld.type = ks.length then flatFields P g rest (acc ++ ks) else none
    | none => none
def flatKinds (P : Program) : Nat → TypeId → Option (List (Option IntKind))
  | 0, _ => none
  | f + 1, t => match P.underlying t with
    | some (.int k) => some [some k]
    | some .bool => some [none]
    | some (.struct fs) => flatFields P (flatKinds P f) fs.toList []
    | _ => none
theorem flatFields_spec {P : Program} {g : TypeId → Option (List (Option IntKind))} : ∀ (fs : List Field) (acc ks : List (Option IntKind)), flatFields P g fs acc = some ks →
    (∀ j, j < acc.length → ks[j]? = acc[j]?) ∧ ∀ (j : Nat) (k : Option IntKind), acc.length ≤ j → ks[j]? = some k → ∃ (i : Nat) (fld : Field) (kf : List (Option IntKind)), fs[i]? = some fld ∧ g fld.type = some kf ∧ P.cellsOf fld.type = kf.length ∧ fld.offset ≤ j ∧ kf[j - fld.offset]? = some k
  | [], acc, ks, h => by
    simp only [flatFields, Option.some.injEq] at h
    subst h
    refine ⟨fun _ _ => rfl, fun j k hj hk => ?_⟩
    rw [List.getElem?_eq_none hj] at hk; cases hk
  | fld :: rest, acc, ks, h => by
    simp only [flatFields] at h
    cases hg : g fld.type with
    | none => rw [hg] at h; cases h
    | some kf =>
      rw [hg] at h
      simp only at h
      split at h
      · rename_i hc
        obtain ⟨i1, i2⟩ := flatFields_spec rest (acc ++ kf) ks h
        refine ⟨fun j hj => ?_, fun j k hj hk => ?_⟩
        · rw [i1 j (by rw [List.length_append]; omega), List.getElem?_append_left hj]
        · by_cases hlt : j < (acc ++ kf).length
          · rw [i1 j hlt, List.getElem?_append_right hj] at hk
            exact ⟨0, fld, kf, rfl, hg, hc.2, by rw [hc.1]; exact hj, by rw [hc.1]; exact hk⟩
          · obtain ⟨i, f', kf', h1, h2⟩ := i2 j k (by omega) hk
            exact ⟨i + 1, f', kf', by simpa using h1, h2⟩
      · cases h
section
variable {H : Type} {enc : TypeId × Value → H} {P : Program} {w : World} {base : Nat} {spare : Nat → Bool} {held : Bool}
theorem flat_cells : ∀ (f : Nat) (t : TypeId) (ks : List (Option IntKind)), flatKinds P f t = some ks → ∀ (n : Nat) (cs : List Value) (x : DataW H × List MemPlace), DataW.trod enc P w base spare held n t cs = some x →
    ∀ (j : Nat) (k : Option IntKind), ks[j]? = some k → ∃ v, cs[j]? = some v ∧ skOk k v
  | 0, _, _, h => by cases h
  | f + 1, t, ks, h => by
    intro n cs x hx j k hk
    unfold flatKinds at h
    cases hu : P.underlying t with
    | none => rw [hu] at h; cases h
    | some u =>
      rw [hu] at h
      cases u <;> simp only [reduceCtorEq] at h
      case int q =>
        obtain ⟨z, rfl, _, hw⟩ := DataW.trod_int hu hx
        simp only [Option.some.injEq] at h
        subst h
        cases j with
        | zero => simp at hk; subst hk; exact ⟨_, rfl, z, rfl, hw⟩
        | succ j => simp at hk
      case bool =>
        obtain ⟨z, rfl, _⟩ := DataW.trod_bool hu hx
        simp only [Option.some.injEq] at h
        subst h
        cases j with
        | zero => simp at hk; subst hk; exact ⟨_, rfl, z, rfl⟩
        | succ j => simp at hk
      case struct fs =>
        obtain ⟨xs, m, _, _, _, hlen, hff⟩ := DataW.trod_struct hu hx
        obtain ⟨_, i2⟩ := flatFields_spec _ _ _ h
        obtain ⟨i, fld, kf, h1, h2, h3, h4, h5⟩ := i2 j k (Nat.zero_le _) hk
        have h1' : fs[i]? = some fld := by rw [Array.getElem?_toList] at h1; exact h1
        have hil : i < fs.size := (Array.getElem?_eq_some_iff.1 h1').1
        have hf := hff i fld h1'
        have hxi : xs[i]? = some (xs[i]'(by omega)) := List.getElem?_eq_getElem (by omega)
        obtain ⟨v, hv1, hv2⟩ := flat_cells f fld.type kf h2 m _ _ (hf.trans hxi) (j - fld.offset) k h5
        refine ⟨v, ?_, hv2⟩
        have hjl : j - fld.offset < kf.length := by
          rcases Nat.lt_or_ge (j - fld.offset) kf.length with h | h
          · exact h
          · rw [List.getElem?_eq_none h] at h5; cases h5
        rw [List.getElem?_take_of_lt (by omega), List.getElem?_drop] at hv1
        rw [show j = fld.offset + (j - fld.offset) by omega]
        exact hv1
end
/-- A slice of n structs whose cells are of the kinds ks: what they are. -/
def FlatAt (w : World) (ks : List (Option IntKind)) (v : Value) (n : Nat) (D : Nat → Nat → Value) : Prop :=
  ∃ ao cap, v = .slice ao n cap ∧ n ≤ maxLen ∧ (n = 0 ∨ ∃ b off, ao = some ⟨b, off, none⟩ ∧ b < w.heap.size ∧
    ∀ i, i < n → ∀ j k, ks[j]? = some k → w.cell? ⟨b, off + (i * ks.length + j), none⟩ = some (D i j) ∧ skOk k (D i j))
theorem open_flat {H : Type} {enc : TypeId × Value → H} {P : Program} {w : World} {t e : TypeId} {ks : List (Option IntKind)} {r : Reach} {b0 : Nat} {v : Value} {d : DataW H} {p : List MemPlace} (ht : P.underlying t = some (.slice e)) (hf8 : flatKinds P 8 e = some ks)
    (hC : P.cellsOf e = ks.length) (h0 : 0 < ks.length) (hv : Value.okWide P w r b0 t v) (h : DataW.Trod enc P w 0 (fun _ => true) true t v d p) : ∃ n D, FlatAt w ks v n D := by
  obtain ⟨ao, len, cap, rfl⟩ := okWide_slice ht hv
  obtain ⟨fuel, hf⟩ := h
  rcases open_slice ht hf with ⟨hcs, _⟩ | ⟨a, len', cap', m, n, D, Pl, hcs, _, hlc, hcm, hm, _, hi⟩
  · simp [Value.cells] at hcs
    obtain ⟨rfl, rfl, rfl⟩ := hcs
    exact ⟨0, fun _ _ => .bool false, none, 0, rfl, by unfold maxLen; omega, .inl rfl⟩
  · simp [Value.cells] at hcs
    obtain ⟨rfl, rfl, rfl⟩ := hcs
    have hmc : m = cap := by simpa using hm
    subst hmc
    have each : ∀ i, i < len → ∀ (j : Nat) (k : Option IntKind), ks[j]? = some k → ∃ x, w.cell? (a.add (i * ks.length + j)) = some x ∧ skOk k x := by
      intro i hi' j k hjk
      obtain ⟨cs', hc, ht'⟩ := hi i (by omega)
      rw [hC] at hc
      obtain ⟨x, hx1, hx2⟩ := flat_cells 8 e ks hf8 _ _ _ ht' j k hjk
      obtain ⟨_, hcl, hat⟩ := World.cells?_some hc
      have hjl : j < ks.length := by
        rcases Nat.lt_or_ge j ks.length with h | h
        · exact h
        · rw [List.getElem?_eq_none h] at hjk; cases hjk
      have hcell := hat j hjl
      refine ⟨x, ?_, hx2⟩
      rw [← Go.Deep.add_add, hcell]
      exact hx1
    rcases Nat.eq_zero_or_pos len with rfl | hpos
    · exact ⟨0, fun _ _ => .bool false, some a, m, rfl, by omega, .inl rfl⟩
    · obtain ⟨k0, hk0⟩ : ∃ k, ks[0]? = some k := ⟨ks[0], List.getElem?_eq_getElem h0⟩
      obtain ⟨x0, hx0, _⟩ := each 0 hpos 0 k0 hk0
      obtain ⟨b, off, sp⟩ := a
      have hsp : sp = none := by
        have := spot_none hx0
        rw [Nat.zero_mul, Nat.zero_add] at this
        simpa [Addr.add] using this
      subst hsp
      have hb := World.block_lt_of_cell? w _ hx0
      rw [add_none] at hb
      refine ⟨len, fun i j => (w.cell? ⟨b, off + (i * ks.length + j), none⟩).getD (.bool false), some ⟨b, off, none⟩, m, rfl, by omega, .inr ⟨b, off, rfl, hb, fun i hi' j k hjk => ?_⟩⟩
      obtain ⟨x, hx, hw⟩ := each i hi' j k hjk
      rw [add_none] at hx
      simp only [hx, Option.getD_some]
      exact ⟨trivial, hw⟩

/-- An argument that is a struct of four ints and a u64. -/
theorem open_conf {H : Type} {enc : TypeId × Value → H} {P : Program} {w : World} {t : TypeId} {fs : Array Field} {r : Reach} {b0 : Nat} {v : Value} {d : DataW H} {p : List MemPlace} (ht : P.underlying t = some (.struct fs))
    (hf8 : flatKinds P 8 t = some [some .i64, some .i64, some .i64, some .i64, some .u64]) (hC : P.cellsOf t = 5) (hv : Value.okWide P w r b0 t v) (h : DataW.Trod enc P w 0 (fun _ => true) true t v d p) :
    ∃ (a b c d : Int) (u : Nat), v = .agg #[.int .i64 a, .int .i64 b, .int .i64 c, .int .i64 d, .int .u64 u] ∧ u < 18446744073709551616 := by
  obtain ⟨cs, rfl, hsz⟩ := okWide_struct ht hv
  rw [hC] at hsz
  obtain ⟨fuel, hf⟩ := h
  have key := flat_cells 8 t _ hf8 _ _ _ hf
  obtain ⟨v0, e0, a, rfl, _⟩ := key 0 (some .i64) rfl
  obtain ⟨v1, e1, b, rfl, _⟩ := key 1 (some .i64) rfl
  obtain ⟨v2, e2, c, rfl, _⟩ := key 2 (some .i64) rfl
  obtain ⟨v3, e3, d, rfl, _⟩ := key 3 (some .i64) rfl
  obtain ⟨v4, e4, u, rfl, hu⟩ := key 4 (some .u64) rfl
  have hbd := wf_u64_bd hu
  have hcs : (Value.cells (.agg cs)).toList = cs.toList := by simp [Value.cells]
  refine ⟨a, b, c, d, u.toNat, ?_, by omega⟩
  obtain ⟨l⟩ := cs
  simp only [Value.cells] at e0 e1 e2 e3 e4
  match l, hsz with
  | [x0, x1, x2, x3, x4], _ =>
    simp at e0 e1 e2 e3 e4
    subst e0 e1 e2 e3 e4
    have : ((u.toNat : Nat) : Int) = u := by omega
    rw [this]
end Go.Proofs.YtfeobcmcellcpaaGreat

/-! Grid -/
namespace Go.Proofs.YtfeobcmcellcpaaGreat
open Go.ChangeShapes Go.WideShapes Go.ChangeAt Go.RowKit Go.Deep

/-- A row of structs that was trod: what it is. -/
theorem flat_trod {H : Type} {enc : TypeId × Value → H} {P : Program} {w : World} {t e : TypeId} {ks : List (Option IntKind)} {fuel : Nat} {cs : List Value} {x : DataW H × List MemPlace} (ht : P.underlying t = some (.slice e)) (hf8 : flatKinds P 8 e = some ks)
    (hC : P.cellsOf e = ks.length) (h0 : 0 < ks.length) (hf : DataW.trod enc P w 0 (fun _ => true) true fuel t cs = some x) : ∃ v n D, cs = [v] ∧ FlatAt w ks v n D := by
  rcases open_slice ht hf with ⟨hcs, _⟩ | ⟨a, len, cap, m, n, D, Pl, hcs, _, hlc, hcm, hm, _, hi⟩
  · exact ⟨_, 0, fun _ _ => .bool false, hcs, none, 0, rfl, by unfold maxLen; omega, .inl rfl⟩
  · have hmc : m = cap := by simpa using hm
    subst hmc
    have each : ∀ i, i < len → ∀ (j : Nat) (k : Option IntKind), ks[j]? = some k → ∃ x, w.cell? (a.add (i * ks.length + j)) = some x ∧ skOk k x := by
      intro i hi' j k hjk
      obtain ⟨cs', hc, ht'⟩ := hi i (by omega)
      rw [hC] at hc
      obtain ⟨x, hx1, hx2⟩ := flat_cells 8 e ks hf8 _ _ _ ht' j k hjk
      obtain ⟨_, hcl, hat⟩ := World.cells?_some hc
      have hjl : j < ks.length := by
        rcases Nat.lt_or_ge j ks.length with h | h
        · exact h
        · rw [List.getElem?_eq_none h] at hjk; cases hjk
      have hcell := hat j hjl
      refine ⟨x, ?_, hx2⟩
      rw [← Go.Deep.add_add, hcell]
      exact hx1
    rcases Nat.eq_zero_or_pos len with rfl | hpos
    · exact ⟨_, 0, fun _ _ => .bool false, hcs, some a, m, rfl, by omega, .inl rfl⟩
    · obtain ⟨k0, hk0⟩ : ∃ k, ks[0]? = some k := ⟨ks[0], List.getElem?_eq_getElem h0⟩
      obtain ⟨x0, hx0, _⟩ := each 0 hpos 0 k0 hk0
      obtain ⟨b, off, sp⟩ := a
      have hsp : sp = none := by
        have := spot_none hx0
        rw [Nat.zero_mul, Nat.zero_add] at this
        simpa [Addr.add] using this
      subst hsp
      have hb := World.block_lt_of_cell? w _ hx0
      rw [add_none] at hb
      refine ⟨_, len, fun i j => (w.cell? ⟨b, off + (i * ks.length + j), none⟩).getD (.bool false), hcs, some ⟨b, off, none⟩, m, rfl, by omega, .inr ⟨b, off, rfl, hb, fun i hi' j k hjk => ?_⟩⟩
      obtain ⟨x, hx, hw⟩ := each i hi' j k hjk
      rw [add_none] at hx
      simp only [hx, Option.getD_some]
      exact ⟨trivial, hw⟩

/-- A row of n rows: what they are. -/
def GridAt (w : World) (ks : List (Option IntKind)) (v : Value) (n : Nat) (V : Nat → Value) : Prop :=
  ∃ ao cap, v = .slice ao n cap ∧ n ≤ maxLen ∧ (n = 0 ∨ ∃ b off, ao = some ⟨b, off, none⟩ ∧ b < w.heap.size ∧ ∀ i, i < n → w.cell? ⟨b, off + i, none⟩ = some (V i) ∧ ∃ m D, FlatAt w ks (V i) m D)
theorem grid_trod {H : Type} {enc : TypeId × Value → H} {P : Program} {w : World} {t e c : TypeId} {ks : List (Option IntKind)} {fuel : Nat} {cs : List Value} {x : DataW H × List MemPlace} (ht : P.underlying t = some (.slice e)) (he : P.underlying e = some (.slice c)) (hf8 : flatKinds P 8 c = some ks)
    (hCe : P.cellsOf e = 1) (hC : P.cellsOf c = ks.length) (h0 : 0 < ks.length) (hf : DataW.trod enc P w 0 (fun _ => true) true fuel t cs = some x) : ∃ v n V, cs = [v] ∧ GridAt w ks v n V := by
  rcases open_slice ht hf with ⟨hcs, _⟩ | ⟨a, len, cap, m, n, D, Pl, hcs, _, hlc, hcm, hm, _, hi⟩
  · exact ⟨_, 0, fun _ => .bool false, hcs, none, 0, rfl, by unfold maxLen; omega, .inl rfl⟩
  · have hmc : m = cap := by simpa using hm
    subst hmc
    have each : ∀ i, i < len → ∃ v, w.cell? (a.add i) = some v ∧ ∃ m D, FlatAt w ks v m D := by
      intro i hi'
      obtain ⟨cs', hc, ht'⟩ := hi i (by omega)
      rw [hCe] at hc
      obtain ⟨v, k, D', rfl, hfl⟩ := flat_trod he hf8 hC h0 ht'
      obtain ⟨_, _, hat⟩ := World.cells?_some hc
      have h2 := hat 0 (by omega)
      refine ⟨v, ?_, k, D', hfl⟩
      rw [Nat.mul_one] at h2
      have e1 : (a.add i).add 0 = a.add i := by rw [Go.Deep.add_add, Nat.add_zero]
      rw [e1] at h2
      rw [h2]; rfl
    rcases Nat.eq_zero_or_pos len with rfl | hpos
    · exact ⟨_, 0, fun _ => .bool false, hcs, some a, m, rfl, by omega, .inl rfl⟩
    · obtain ⟨x0, hx0, _⟩ := each 0 hpos
      obtain ⟨b, off, sp⟩ := a
      have hsp : sp = none := by
        have := spot_none hx0
        simpa [Addr.add] using this
      subst hsp
      have hb := World.block_lt_of_cell? w _ hx0
      rw [add_none] at hb
      refine ⟨_, len, fun i => (w.cell? ⟨b, off + i, none⟩).getD (.bool false), hcs, some ⟨b, off, none⟩, m, rfl, by omega, .inr ⟨b, off, rfl, hb, fun i hi' => ?_⟩⟩
      obtain ⟨x, hx, hw⟩ := each i hi'
      rw [add_none] at hx
      simp only [hx, Option.getD_some]
      exact ⟨trivial, hw⟩
end Go.Proofs.YtfeobcmcellcpaaGreat

/-! PlanA -/
namespace Go.Proofs.YtfeobcmcellcpaaGreat
open Go.ChangeShapes Go.WideShapes Go.ChangeAt Go.RowKit Go.Deep

theorem open_plan {H : Type} {enc : TypeId × Value → H} {P : Program} {w : World} {t e c : TypeId} {f0 f1 : Field} {ks : List (Option IntKind)} {r : Reach} {b0 : Nat} {v : Value} {d : DataW H} {p : List MemPlace} (ht : P.underlying t = some (.struct #[f0, f1]))
    (h00 : f0.offset = 0) (h01 : P.cellsOf f0.type = 5) (hk0 : flatKinds P 8 f0.type = some [some .i64, some .i64, some .i64, some .i64, some .u64]) (h10 : f1.offset = 5) (h11 : P.cellsOf f1.type = 1)
    (hl : P.underlying f1.type = some (.slice e)) (he : P.underlying e = some (.slice c)) (hf8 : flatKinds P 8 c = some ks) (hCe : P.cellsOf e = 1) (hC : P.cellsOf c = ks.length) (hk : 0 < ks.length) (hCt : P.cellsOf t = 6) (hv : Value.okWide P w r b0 t v) (h : DataW.Trod enc P w 0 (fun _ => true) true t v d p) :
    ∃ (a1 a2 a3 a4 : Int) (u : Nat) (lv : Value) (n : Nat) (V : Nat → Value), v = .agg #[.int .i64 a1, .int .i64 a2, .int .i64 a3, .int .i64 a4, .int .u64 u, lv] ∧ u < 18446744073709551616 ∧ GridAt w ks lv n V := by
  obtain ⟨cs, rfl, hsz⟩ := okWide_struct ht hv
  rw [hCt] at hsz
  obtain ⟨fuel, hf⟩ := h
  cases fuel with
  | zero => cases hf
  | succ fuel =>
    obtain ⟨xs, m, _, _, _, hlen, hff⟩ := DataW.trod_struct ht hf
    have hs2 : xs.length = 2 := by simpa using hlen
    have g0 := (hff 0 f0 rfl).trans (List.getElem?_eq_getElem (by omega))
    have g1 := (hff 1 f1 rfl).trans (List.getElem?_eq_getElem (by omega))
    have key := flat_cells 8 f0.type _ hk0 _ _ _ g0
    obtain ⟨lv, n, V, hlv, hg⟩ := grid_trod hl he hf8 hCe hC hk g1
    obtain ⟨v0, e0, a, rfl, _⟩ := key 0 (some .i64) rfl
    obtain ⟨v1, e1, b, rfl, _⟩ := key 1 (some .i64) rfl
    obtain ⟨v2, e2, c', rfl, _⟩ := key 2 (some .i64) rfl
    obtain ⟨v3, e3, d', rfl, _⟩ := key 3 (some .i64) rfl
    obtain ⟨v4, e4, u, rfl, hu⟩ := key 4 (some .u64) rfl
    have hbd := wf_u64_bd hu
    obtain ⟨l⟩ := cs
    rw [h00, h01] at e0 e1 e2 e3 e4
    rw [h10, h11] at hlv
    simp only [Value.cells] at e0 e1 e2 e3 e4 hlv
    match l, hsz with
    | [x0, x1, x2, x3, x4, x5], _ =>
      simp at e0 e1 e2 e3 e4 hlv
      subst e0 e1 e2 e3 e4 hlv
      refine ⟨a, b, c', d', u.toNat, x5, n, V, ?_, by omega, hg⟩
      have : ((u.toNat : Nat) : Int) = u := by omega
      rw [this]
end Go.Proofs.YtfeobcmcellcpaaGreat

/-! Ma -/
namespace Go.Proofs.YtfeobcmcellcpaaGreat
open Go.RowKit

/-! ### Slices that are read, wherever they lie -/
/-- A slice of n elements of a size: what it holds. -/
def SlAt (w : World) (size : Nat) (v : Value) (n : Nat) (xs : List Value) : Prop :=
  ∃ ao cap, v = .slice ao n cap ∧ n ≤ maxLen ∧ xs.length = n * size ∧ (n = 0 ∨ ∃ b off, ao = some ⟨b, off, none⟩ ∧ b < w.heap.size ∧ ∀ j u, xs[j]? = some u → w.cell? ⟨b, off + j, none⟩ = some u)
theorem SlAt.upd {w w' : World} {size n : Nat} {v : Value} {xs : List Value} (h : SlAt w size v n xs) (hu : Upd [] w w') : SlAt w' size v n xs := by
  obtain ⟨ao, cap, rfl, h1, h2, h3⟩ := h
  refine ⟨ao, cap, rfl, h1, h2, ?_⟩
  rcases h3 with h3 | ⟨b, off, rfl, hb, hc⟩
  · exact .inl h3
  · exact .inr ⟨b, off, rfl, Nat.lt_of_lt_of_le hb hu.size, fun j u hj => by rw [hu.cell hb (by simp)]; exact hc j u hj⟩
theorem SlAt.nil (w : World) (size : Nat) : SlAt w size (.slice none 0 0) 0 [] := ⟨none, 0, rfl, by unfold maxLen; omega, by simp, .inl rfl⟩
theorem RowO.sl {w : World} {e : TypeId} {size : Nat} {ao : Option Addr} {n cap : Nat} {xs : List Value} (h : RowO w e size ao n cap xs) : SlAt w size (.slice ao n cap) n xs := by
  have hc := h.cap_le
  refine ⟨ao, cap, rfl, by omega, h.len, ?_⟩
  rcases h.cases with ⟨rfl, rfl, rfl, rfl⟩ | ⟨g, rfl, hr⟩
  · exact .inl rfl
  · exact .inr ⟨g, 0, rfl, hr.lt, fun j u hj => by rw [Nat.zero_add]; exact hr.cell hj⟩

/-- The elements of a slice, one by one. -/
theorem SlAt.get {α : Type} {w : World} {v : Value} {n : Nat} (vs : α → List Value) (size : Nat) (hl : ∀ x, (vs x).length = size) {L : List α} (h : SlAt w size v n (L.flatMap vs)) (hs : 0 < size) : L.length = n ∧ n ≤ maxLen ∧ ∃ ao cap, v = .slice ao n cap ∧
    (n = 0 ∨ ∃ b off, ao = some ⟨b, off, none⟩ ∧ b < w.heap.size ∧ ∀ i x, L[i]? = some x → ∀ j u, (vs x)[j]? = some u → w.cell? ⟨b, off + i * size + j, none⟩ = some u) := by
  obtain ⟨ao, cap, rfl, h1, h2, h3⟩ := h
  rw [flat_len vs size hl] at h2
  refine ⟨Nat.eq_of_mul_eq_mul_right hs h2, h1, ao, cap, rfl, ?_⟩
  rcases h3 with h3 | ⟨b, off, rfl, hb, hc⟩
  · exact .inl h3
  · refine .inr ⟨b, off, rfl, hb, fun i x hx j u hj => ?_⟩
    have hjs : j < size := by
      rw [← hl x]
      exact (List.getElem?_eq_some_iff.1 hj).1
    rw [Nat.add_assoc]
    refine hc _ _ ?_
    rw [flat_get vs size hl L i j hjs x hx]; exact hj

/-! ### Plain -/
structure Cf where
  sh : Int
  sl : Int
  wo : Int
  wd : Int
  unit : Nat
def cfVs (c : Cf) : List Value := [.int .i64 c.sh, .int .i64 c.sl, .int .i64 c.wo, .int .i64 c.wd, .int .u64 c.unit]
def cfV (c : Cf) : Value := .agg #[.int .i64 c.sh, .int .i64 c.sl, .int .i64 c.wo, .int .i64 c.wd, .int .u64 c.unit]
def rightC (c : Cf) : Bool := decide (1 ≤ c.sh ∧ c.sh ≤ 4) && decide (1 ≤ c.sl ∧ c.sl ≤ 4) && decide (1 ≤ c.wo ∧ c.wo ≤ 6) && decide (0 ≤ c.wd ∧ c.wd ≤ 40) && decide (1 ≤ c.unit ∧ c.unit ≤ 4611686018427387904)
structure Cl where
  op : Int
  flow : Int
  a : Int
  b : Int
def zCl : Cl := ⟨0, 0, 0, 0⟩
def clVs (c : Cl) : List Value := [.int .i64 c.op, .int .i64 c.flow, .int .i64 c.a, .int .i64 c.b]
def clV (c : Cl) : Value := .agg #[.int .i64 c.op, .int .i64 c.flow, .int .i64 c.a, .int .i64 c.b]
theorem clVs_len (c : Cl) : (clVs c).length = 4 := rfl
theorem clVs_one (c : Cl) : ∀ u ∈ clVs c, u.oneCell' = true := by
  intro u hu
  simp only [clVs, List.mem_cons, List.not_mem_nil, or_false] at hu
  rcases hu with rfl | rfl | rfl | rfl <;> rfl

/-- What a call tells. -/
structure Rt where
  e : Int
  L : List Pk
  n : Int
  v : Nat
def rtE (e : Int) : Rt := ⟨e, [], 0, 0⟩

/-- A list of calls in memory. -/
structure Li where
  v : Value
  L : List Cl
def liVs (x : Li) : List Value := [x.v]
theorem liVs_len (x : Li) : (liVs x).length = 1 := rfl
structure Pl where
  c : Cf
  L : List Li

/-- A plan's lists in memory. -/
def ListsAt (w : World) (v : Value) (L : List Li) : Prop := SlAt w 1 v L.length (L.flatMap liVs) ∧ ∀ x ∈ L, SlAt w 4 x.v x.L.length (x.L.flatMap clVs)
def PlanAt (w : World) (v : Value) (p : Pl) : Prop := ∃ lv, v = .agg #[.int .i64 p.c.sh, .int .i64 p.c.sl, .int .i64 p.c.wo, .int .i64 p.c.wd, .int .u64 p.c.unit, lv] ∧ ListsAt w lv p.L
theorem ListsAt.upd {w w' : World} {v : Value} {L : List Li} (h : ListsAt w v L) (hu : Upd [] w w') : ListsAt w' v L := ⟨h.1.upd hu, fun x hx => (h.2 x hx).upd hu⟩
theorem PlanAt.upd {w w' : World} {v : Value} {p : Pl} (h : PlanAt w v p) (hu : Upd [] w w') : PlanAt w' v p := by obtain ⟨lv, h1, h2⟩ := h; exact ⟨lv, h1, h2.upd hu⟩

/-- A point; where its packets lie. -/
structure Pt where
  step : Int
  who : Int
  place : Int
  r : Rt
  lv : Value
def ptVs (x : Pt) : List Value := [.int .i64 x.step, .int .i64 x.who, .int .i64 x.place, .int .i64 x.r.e, x.lv, .int .i64 x.r.n, .int .u64 x.r.v]
def ptV (x : Pt) : Value := .agg #[.int .i64 x.step, .int .i64 x.who, .int .i64 x.place, .int .i64 x.r.e, x.lv, .int .i64 x.r.n, .int .u64 x.r.v]
theorem ptVs_len (x : Pt) : (ptVs x).length = 7 := rfl
def PtAt (w : World) (x : Pt) : Prop := SlAt w 3 x.lv x.r.L.length (x.r.L.flatMap pkVs)
def PtsAt' (w : World) (v : Value) (l : List Pt) : Prop := SlAt w 7 v l.length (l.flatMap ptVs) ∧ ∀ x ∈ l, PtAt w x
theorem PtAt.upd {w w' : World} {x : Pt} (h : PtAt w x) (hu : Upd [] w w') : PtAt w' x := SlAt.upd h hu
theorem PtsAt'.upd {w w' : World} {v : Value} {l : List Pt} (h : PtsAt' w v l) (hu : Upd [] w w') : PtsAt' w' v l := ⟨h.1.upd hu, fun x hx => (h.2 x hx).upd hu⟩

/-- A Ret in memory. -/
def RtAt (w : World) (v : Value) (r : Rt) : Prop := ∃ lv, v = .agg #[.int .i64 r.e, lv, .int .i64 r.n, .int .u64 r.v] ∧ SlAt w 3 lv r.L.length (r.L.flatMap pkVs)
theorem RtAt.upd {w w' : World} {v : Value} {r : Rt} (h : RtAt w v r) (hu : Upd [] w w') : RtAt w' v r := by obtain ⟨lv, h1, h2⟩ := h; exact ⟨lv, h1, h2.upd hu⟩

/-- A call of a history; where its packets lie. -/
structure Dn where
  who : Int
  place : Int
  c : Cl
  r : Rt
  lv : Value
  frm : Int
  til : Int
def dnVs (x : Dn) : List Value := [.int .i64 x.who, .int .i64 x.place, .int .i64 x.c.op, .int .i64 x.c.flow, .int .i64 x.c.a, .int .i64 x.c.b, .int .i64 x.r.e, x.lv, .int .i64 x.r.n, .int .u64 x.r.v, .int .i64 x.frm, .int .i64 x.til]
def dnV (x : Dn) : Value := .agg #[.int .i64 x.who, .int .i64 x.place, .int .i64 x.c.op, .int .i64 x.c.flow, .int .i64 x.c.a, .int .i64 x.c.b, .int .i64 x.r.e, x.lv, .int .i64 x.r.n, .int .u64 x.r.v, .int .i64 x.frm, .int .i64 x.til]
theorem dnVs_len (x : Dn) : (dnVs x).length = 12 := rfl
def DneAt (w : World) (x : Dn) : Prop := SlAt w 3 x.lv x.r.L.length (x.r.L.flatMap pkVs)
def DnsAt (w : World) (v : Value) (l : List Dn) : Prop := SlAt w 12 v l.length (l.flatMap dnVs) ∧ ∀ x ∈ l, DneAt w x
theorem DneAt.upd {w w' : World} {x : Dn} (h : DneAt w x) (hu : Upd [] w w') : DneAt w' x := SlAt.upd h hu
theorem DnsAt.upd {w w' : World} {v : Value} {l : List Dn} (h : DnsAt w v l) (hu : Upd [] w w') : DnsAt w' v l := ⟨h.1.upd hu, fun x hx => (h.2 x hx).upd hu⟩

/-- What a point is of. -/
def callP (L : List Li) (x : Pt) : Option Cl :=
  if x.who < 0 ∨ (L.length : Int) ≤ x.who then none else
  match L[x.who.toNat]? with
  | none => none
  | some l => if x.place < 0 ∨ (l.L.length : Int) ≤ x.place then none else
    match l.L[x.place.toNat]? with
    | none => none
    | some c => if c.op = 5 ∧ x.r.e ≠ 1 then some ⟨4, 0, 0, 0⟩ else some c
def callV (o : Option Cl) : Value := match o with
  | some c => .tuple #[clV c, .bool true]
  | none => .tuple #[clV zCl, .bool false]
end Go.Proofs.YtfeobcmcellcpaaGreat

/-! Fg -/
namespace Go.Proofs.YtfeobcmcellcpaaGreat
open Go.RowKit

theorem entVs_len (e : Ent) : ([entV e] : List Value).length = 1 := rfl
theorem entVs_one (e : Ent) : ∀ u ∈ ([entV e] : List Value), u.oneCell' = true := by
  intro u hu; simp only [List.mem_cons, List.not_mem_nil, or_false] at hu; rw [hu]; rfl
theorem entVs_map (Z : List Ent) : Z.map entV = Z.flatMap (fun e => [entV e]) := by
  induction Z with
  | nil => rfl
  | cons e Z ih => rw [List.map_cons, List.flatMap_cons, ih]; rfl
theorem underlyingFlows : Tryz.prog.underlying 65 = some (.slice 124) := by kernel_rfl
theorem infoFlowP : (Tryz.prog.info? 124).map (fun i => (i.zero, i.size, i.bytes)) = some (some (.pointer none), 1, 8) := by kernel_rfl
def insZ (Z : List Ent) (k : Nat) (e : Ent) : List Ent := Z.take k ++ e :: Z.drop k
theorem mem_insZ {Z : List Ent} {k : Nat} {e x : Ent} (h : x ∈ insZ Z k e) : x = e ∨ x ∈ Z := by
  unfold insZ at h
  rcases List.mem_append.1 h with h | h
  · exact .inr (List.mem_of_mem_take h)
  · rcases List.mem_cons.1 h with h | h
    · exact .inl h
    · exact .inr (List.mem_of_mem_drop h)
theorem insZ_len {Z : List Ent} {k : Nat} (e : Ent) (hk : k ≤ Z.length) : (insZ Z k e).length = Z.length + 1 := by
  unfold insZ; rw [List.length_append, List.length_cons, List.length_take, List.length_drop]; omega
theorem insZ_pair {R : Ent → Ent → Prop} {Z : List Ent} {k : Nat} {e : Ent} (h : Z.Pairwise R) (h1 : ∀ x ∈ Z.take k, R x e) (h2 : ∀ x ∈ Z.drop k, R e x) : (insZ Z k e).Pairwise R := by
  rw [← List.take_append_drop k Z, List.pairwise_append] at h
  unfold insZ
  rw [List.pairwise_append, List.pairwise_cons]
  refine ⟨h.1, ⟨h2, h.2.1⟩, fun a ha b hb => ?_⟩
  rcases List.mem_cons.1 hb with rfl | hb
  · exact h1 a ha
  · exact h.2.2 a ha b hb
section
variable {W w w6 w7 : World} {sb : Nat} {ao : Option Addr} {cap : Nat} {Z : List Ent} {v most : Nat}
theorem SfAt.ins {k n' : Nat} {e : Ent} {ao' : Option Addr} {cap' : Nat} (h : SfAt W w sb ao cap Z v most) (hk : k ≤ Z.length) (hU : Upd [] w w6) (hE : EntAt w6 e) (hnew : ∀ c ∈ entB e, w.heap.size ≤ c)
    (hrow : RowO w6 124 1 ao' n' cap' ((insZ Z k e).map entV)) (hn : n' = Z.length + 1) (hao : ∀ c ∈ blkO ao', w.heap.size ≤ c) (hdis : ∀ c ∈ entB e, c ∉ blkO ao')
    (hlo : ∀ x ∈ Z.take k, x.f.id < e.f.id) (hhi : ∀ x ∈ Z.drop k, e.f.id < x.f.id) (hsm : Z.length < 1000) (h7 : Upd [] (w6.setCell ⟨sb, 0, none⟩ (.slice ao' n' cap')) w7) :
    SfAt W w7 sb ao' cap' (insZ Z k e) v most ∧ Fr (sfB sb ao Z) (sfB sb ao' (insZ Z k e)) w w7 := by
  have hW : W.heap.size ≤ w.heap.size := by have := h.new sb (by simp); have := h.blk.lt; omega
  have hsw := h.blk.lt
  have u1 : Upd [sb] w6 (w6.setCell ⟨sb, 0, none⟩ (.slice ao' n' cap')) := (Upd.refl [sb] w6).setCell (.inl (by simp)) _
  have u2 : Upd [sb] w6 w7 := u1.trans h7.nil
  have hlen := insZ_len e hk
  have notsb : ∀ c, w.heap.size ≤ c → c ∉ [sb] := fun c hc e2 => by simp only [List.mem_cons, List.not_mem_nil, or_false] at e2; omega
  refine ⟨{ h with
    blk := by
      rw [hlen, ← hn]
      exact ((h.blk.upd hU (by simp)).set 0 (.slice ao' n' cap')).upd h7 (by simp)
    row := by rw [hlen, ← hn]; exact hrow.upd u2 (fun c hc => notsb c (hao c hc))
    ents := fun x hx => by
      rcases mem_insZ hx with rfl | hx
      · exact hE.upd u2 (fun c hc => notsb c (hnew c hc))
      · exact ((h.ents x hx).upd hU (by simp)).upd u2 (fun c hc e2 => by simp only [List.mem_cons, List.not_mem_nil, or_false] at e2; exact (h.own x hx c hc).1 e2)
    dis := insZ_pair h.dis (fun x hx c hc hc2 => by have := (h.ents x (List.mem_of_mem_take hx)).lt c hc; have := hnew c hc2; omega) (fun x hx c hc hc2 => by have := (h.ents x (List.mem_of_mem_drop hx)).lt c hc2; have := hnew c hc; omega)
    own := fun x hx c hc => by
      rcases mem_insZ hx with rfl | hx
      · exact ⟨fun e2 => by have := hnew c hc; omega, hdis c hc⟩
      · exact ⟨(h.own x hx c hc).1, fun e2 => by have := (h.ents x hx).lt c hc; have := hao c e2; omega⟩
    d := fun hc => by have := hao sb hc; omega
    new := fun c hc => by
      rcases List.mem_cons.1 hc with rfl | hc
      · exact h.new _ (by simp)
      · have := hao c hc; omega
    newE := fun x hx c hc => by
      rcases mem_insZ hx with rfl | hx
      · have := hnew c hc; omega
      · exact h.newE x hx c hc
    srt := insZ_pair h.srt hlo hhi
    small := by rw [hlen]; omega }, fun c hc => ?_, hU.nil.trans (u2.mono (fun c _ hc => by simp only [List.mem_cons, List.not_mem_nil, or_false] at hc; subst hc; simp [sfB]))⟩
  simp only [sfB, List.mem_cons, List.mem_append, List.mem_flatMap] at hc
  rcases hc with rfl | hc | ⟨x, hx, hc⟩
  · left; simp [sfB]
  · right; exact hao c hc
  · rcases mem_insZ hx with rfl | hx
    · right; exact hnew c hc
    · left; exact sfB_ent hx hc
end
def insF (F : List Fl) (f : Fl) : List Fl := F.filter (fun g => decide (g.id < f.id)) ++ f :: F.filter (fun g => decide (f.id < g.id))
def addSf (S : Sf) (id : Int) (r : Nat) (most : Int) : Sf := if posF S.F id < 0 then { S with F := insF S.F (flNew id r most) } else S
theorem insF_at {F : List Fl} {f : Fl} {k : Nat} (hlo : ∀ x ∈ F.take k, x.id < f.id) (hhi : ∀ x ∈ F.drop k, f.id < x.id) : insF F f = F.take k ++ f :: F.drop k := by
  unfold insF
  have h1 : F.filter (fun g => decide (g.id < f.id)) = F.take k := by
    conv => lhs; rw [← List.take_append_drop k F]
    rw [List.filter_append, List.filter_eq_self.2 (fun x hx => by simpa using hlo x hx), List.filter_eq_nil_iff.2 (fun x hx => by have := hhi x hx; simp; omega), List.append_nil]
  have h2 : F.filter (fun g => decide (f.id < g.id)) = F.drop k := by
    conv => lhs; rw [← List.take_append_drop k F]
    rw [List.filter_append, List.filter_eq_nil_iff.2 (fun x hx => by have := hlo x hx; simp; omega), List.filter_eq_self.2 (fun x hx => by simpa using hhi x hx), List.nil_append]
  rw [h1, h2]
end Go.Proofs.YtfeobcmcellcpaaGreat

/-! Mb -/
namespace Go.Proofs.YtfeobcmcellcpaaGreat
open Go.RowKit

structure Ms where
  S : Sf
  n : Nat
def ms0 : Ms := ⟨⟨[], 0, 0⟩, 0⟩
def invU (unit : Nat) (a : Int) : Nat := max (unit / a.toNat) 1

/-- How many flows there are in a flow's shard. -/
def matesN (F : List Fl) (sh id : Int) : Nat := F.countP (fun f => decide (f.id % sh = id % sh))
def regE (c : Cf) (S : Sf) (k : Cl) : Int :=
  if k.flow < 0 ∨ 1048576 < k.flow then 1 else if k.a < 1 ∨ 65536 < k.a then 4 else if k.b < 1 ∨ 8 < k.b then 1
  else if 0 ≤ posF S.F k.flow then 6 else if c.sl ≤ (matesN S.F c.sh k.flow : Int) then 7 else 0
def regM (c : Cf) (m : Ms) (k : Cl) : Rt × Ms := (rtE (regE c m.S k), if regE c m.S k = 0 then { m with S := addSf m.S k.flow (invU c.unit k.a) k.b } else m)
def delE (S : Sf) (id : Int) : Int := if posF S.F id < 0 then 5 else if 0 < (flAt S.F (posF S.F id)).L.length then 8 else 0
def delS (S : Sf) (id : Int) : Sf := if delE S id = 0 then { S with F := S.F.eraseIdx (posF S.F id).toNat } else S
def delM_ (m : Ms) (k : Cl) : Rt × Ms := (rtE (delE m.S k.flow), { m with S := delS m.S k.flow })
def enqM (m : Ms) (k : Cl) : Rt × Ms := if k.a < 1 ∨ 65536 < k.a then (rtE 3, m) else (rtE (arrCode m.S ⟨k.flow, k.a, k.b⟩), { m with S := arrS m.S ⟨k.flow, k.a, k.b⟩ })

/-- The first packet of the flow that starts first. -/
def servP (S : Sf) : Option Pk := if bestF S.F < 0 then none else (flAt S.F (bestF S.F)).L.head?
def oneM (m : Ms) : Rt × Ms := match servP m.S with
  | none => (rtE 10, { m with S := servS m.S })
  | some p => (⟨0, [p], 0, 0⟩, ⟨servS m.S, m.n + 1⟩)
def batM : Nat → Ms → List Pk → Rt × Ms
  | 0, m, L => (⟨0, L, 0, 0⟩, m)
  | k + 1, m, L => if (oneM m).1.e = 0 then batM k (oneM m).2 (L ++ (oneM m).1.L) else (⟨(oneM m).1.e, L, 0, 0⟩, (oneM m).2)
def batchM (m : Ms) (k : Cl) : Rt × Ms := if k.a < 1 ∨ 16 < k.a then (rtE 1, m) else batM k.a.toNat m []
def statM (m : Ms) : Rt × Ms := (⟨0, [], m.n, m.S.v⟩, m)
def doM (c : Cf) (m : Ms) (k : Cl) : Rt × Ms :=
  if k.op = 1 then regM c m k else if k.op = 2 then delM_ m k else if k.op = 3 then enqM m k else if k.op = 4 then oneM m else if k.op = 5 then batchM m k else if k.op = 6 then statM m else (rtE 2, m)
def pkE (p q : Pk) : Bool := decide (p.flow = q.flow) && decide (p.len = q.len) && decide (p.mark = q.mark)
def eqPk : List Pk → List Pk → Bool
  | [], [] => true
  | p :: L, q :: M => pkE p q && eqPk L M
  | _, _ => false
theorem pkE_iff {p q : Pk} : pkE p q = true ↔ p = q := by
  cases p; cases q; simp [pkE, and_assoc]
theorem eqPk_iff : ∀ {L M : List Pk}, eqPk L M = true ↔ L = M
  | [], [] => by simp [eqPk]
  | [], _ :: _ => by simp [eqPk]
  | _ :: _, [] => by simp [eqPk]
  | p :: L, q :: M => by simp [eqPk, pkE_iff, eqPk_iff (L := L) (M := M)]
theorem eqPk_at : ∀ {L M : List Pk} {i : Nat} {p q : Pk}, L.length = M.length → L[i]? = some p → M[i]? = some q → pkE p q = false → eqPk L M = false
  | [], _, _, _, _, _, h, _, _ => by simp at h
  | p' :: L, [], i, p, q, hl, h1, h2, h3 => by simp at hl
  | p' :: L, q' :: M, 0, p, q, hl, h1, h2, h3 => by
    simp only [List.getElem?_cons_zero, Option.some.injEq] at h1 h2
    subst h1 h2
    simp [eqPk, h3]
  | p' :: L, q' :: M, i + 1, p, q, hl, h1, h2, h3 => by
    simp only [List.getElem?_cons_succ] at h1 h2
    simp [eqPk, eqPk_at (by simpa using hl) h1 h2 h3]
theorem eqPk_all : ∀ {L M : List Pk}, L.length = M.length → (∀ (i : Nat) (p q : Pk), L[i]? = some p → M[i]? = some q → pkE p q = true) → eqPk L M = true
  | [], [], _, _ => rfl
  | [], _ :: _, h, _ => by simp at h
  | _ :: _, [], h, _ => by simp at h
  | p :: L, q :: M, hl, h => by
    simp [eqPk, h 0 p q rfl rfl, eqPk_all (by simpa using hl) (fun i a b ha hb => h (i + 1) a b ha hb)]
theorem eqPk_len {L M : List Pk} (h : L.length ≠ M.length) : eqPk L M = false := by
  cases he : eqPk L M with
  | false => rfl
  | true => rw [eqPk_iff] at he; rw [he] at h; exact absurd rfl h

/-- What a Ret says, but where its packets lie. -/
def rtSame (a b : Rt) : Bool := decide (a.e = b.e) && decide (a.n = b.n) && decide (a.v = b.v) && eqPk a.L b.L
def behind (last : Option Int) (step : Int) : Bool := match last with
  | some s => decide (s < step)
  | none => true

/-- The model behind points: the first ones play. -/
def runM (p : Pl) : List Pt → Option Int → Ms → Option Ms
  | [], _, m => some m
  | x :: l, last, m => match callP p.L x with
    | none => none
    | some c => if behind last x.step && rtSame (doM p.c m c).1 x.r then runM p l (some x.step) (doM p.c m c).2 else none
def playsM (p : Pl) (l : List Pt) : Option Ms := if rightC p.c = true then runM p l none ms0 else none

/-! ### What holds of any model -/
structure MOk (c : Cf) (m : Ms) : Prop where
  right : rightC c = true
  ids : ∀ f ∈ m.S.F, 0 ≤ f.id ∧ f.id ≤ 1048576
  mates : ∀ q : Int, (m.S.F.countP (fun f => decide (f.id % c.sh = q)) : Int) ≤ c.sl
  pk : ∀ f ∈ m.S.F, ∀ p ∈ f.L, p.flow = f.id
theorem rightC_bd {c : Cf} (h : rightC c = true) : (1 ≤ c.sh ∧ c.sh ≤ 4) ∧ (1 ≤ c.sl ∧ c.sl ≤ 4) ∧ (1 ≤ c.wo ∧ c.wo ≤ 6) ∧ (0 ≤ c.wd ∧ c.wd ≤ 40) ∧ (1 ≤ c.unit ∧ c.unit ≤ 4611686018427387904) := by
  unfold rightC at h
  simp only [Bool.and_eq_true, decide_eq_true_eq] at h
  exact ⟨h.1.1.1.1, h.1.1.1.2, h.1.1.2, h.1.2, h.2⟩
theorem MOk.new {c : Cf} (h : rightC c = true) : MOk c ms0 := ⟨h, fun f hf => (by cases hf), fun q => by have := (rightC_bd h).2.1; simp [ms0]; omega, fun f hf => (by cases hf)⟩
theorem count_four (F : List Fl) (s : Int) (h1 : 1 ≤ s) (h4 : s ≤ 4) : F.length ≤ F.countP (fun f => decide (f.id % s = 0)) + F.countP (fun f => decide (f.id % s = 1)) + F.countP (fun f => decide (f.id % s = 2)) + F.countP (fun f => decide (f.id % s = 3)) := by
  induction F with
  | nil => simp
  | cons f F ih =>
    have b1 := Int.emod_nonneg f.id (by omega : s ≠ 0)
    have b2 := Int.emod_lt_of_pos f.id (by omega : 0 < s)
    simp only [List.countP_cons, List.length_cons, decide_eq_true_eq]
    have : f.id % s = 0 ∨ f.id % s = 1 ∨ f.id % s = 2 ∨ f.id % s = 3 := by omega
    rcases this with e | e | e | e <;> simp only [e] <;> simp <;> omega
theorem MOk.small {c : Cf} {m : Ms} (h : MOk c m) : m.S.F.length ≤ 16 := by
  have b := rightC_bd h.right
  have k := count_four m.S.F c.sh b.1.1 b.1.2
  have := h.mates 0
  have := h.mates 1
  have := h.mates 2
  have := h.mates 3
  omega
end Go.Proofs.YtfeobcmcellcpaaGreat
