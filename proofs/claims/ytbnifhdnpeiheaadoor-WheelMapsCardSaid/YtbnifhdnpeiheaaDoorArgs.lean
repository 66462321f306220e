/-
  What the statements' arguments are in memory: numbers, rows of numbers, rows of structs of numbers. No condition.
-/
import Derived.Test.YtbnifhdnpeiheaaDoorFrame
import Derived.Deep.Slices
import Derived.Deep.Fields
import Derived.ChangeSame
import Derived.ChangeArms
import Derived.ChangeSlices
import Derived.ChangeOld
import Derived.OpenShut
import Derived.ProofKit
import Derived.Lib.SmallJoins
set_option linter.unusedVariables false
set_option linter.unusedSimpArgs false
namespace Go.Proofs.YtbnifhdnpeiheaaDoor
open Go.ChangeShapes Go.WideShapes Go.ChangeAt Go.RowKit Go.Deep

theorem Trydown : ownKnob Tryd.prog.godebug = none := by kernel_rfl
theorem TrydlaidOut : laidOutB Tryd.prog = true := by kernel_rfl

/-- A slice of n rows of numbers, of the kinds ks: what they are. -/
def RowsAt (w : World) (ks : List IntKind) (v : Value) (n : Nat) (D : Nat → Nat → Int) : Prop :=
  ∃ ao cap, v = .slice ao n cap ∧ n ≤ maxLen ∧ (n = 0 ∨ ∃ b off, ao = some ⟨b, off, none⟩ ∧ b < w.heap.size ∧
    ∀ i, i < n → ∀ j k, ks[j]? = some k → w.cell? ⟨b, off + (i * ks.length + j), none⟩ = some (.int k (D i j)) ∧ (Lit.int k (D i j)).wf = true)

section
variable {H : Type} {enc : TypeId × Value → H} {P : Program} {w : World}

theorem spot_none {a : Addr} {u : Value} (h : w.cell? a = some u) : a.spot = none := by
  unfold World.cell? at h
  cases hs : a.spot with
  | none => rfl
  | some s => rw [hs] at h; split at h <;> simp at h

theorem add_none (b off j : Nat) : (⟨b, off, none⟩ : Addr).add j = ⟨b, off + j, none⟩ := by unfold Addr.add; split <;> simp_all

def numIn (o : Option Value) : Int := match o with | some (.int _ x) => x | _ => 0

theorem open_rows {t e : TypeId} {fs : Array Field} {ks : List IntKind} {r : Reach} {b0 : Nat} {v : Value} {d : DataW H} {p : List MemPlace} (ht : P.underlying t = some (.slice e)) (he : P.underlying e = some (.struct fs))
    (hone : oneCellFields P fs = true) (hC : P.cellsOf e = fs.size) (hl : ks.length = fs.size) (h0 : 0 < ks.length) (hk : ∀ (j : Nat) (k : IntKind), ks[j]? = some k → ∃ f, fs[j]? = some f ∧ P.underlying f.type = some (.int k))
    (hv : Value.okWide P w r b0 t v) (h : DataW.Trod enc P w 0 (fun _ => true) true t v d p) : ∃ n D, RowsAt w ks v n D := by
  obtain ⟨ao, len, cap, rfl⟩ := okWide_slice ht hv
  obtain ⟨fuel, hf⟩ := h
  rcases open_slice ht hf with ⟨hcs, _⟩ | ⟨a, len', cap', m, n, D, Pl, hcs, _, hlc, hcm, hm, _, hi⟩
  · simp [Value.cells] at hcs
    obtain ⟨rfl, rfl, rfl⟩ := hcs
    exact ⟨0, fun _ _ => 0, none, 0, rfl, by unfold maxLen; omega, .inl rfl⟩
  · simp [Value.cells] at hcs
    obtain ⟨rfl, rfl, rfl⟩ := hcs
    have hmc : m = cap := by simpa using hm
    subst hmc
    have each : ∀ i, i < len → ∀ (j : Nat) (k : IntKind), ks[j]? = some k → ∃ x, w.cell? (a.add (i * fs.size + j)) = some (.int k x) ∧ (Lit.int k x).wf = true := by
      intro i hi' j k hjk
      obtain ⟨cs', hc, ht'⟩ := hi i (by omega)
      rw [hC] at hc
      obtain ⟨ys, n', hn', hy, hlen, hyl, hff⟩ := DataW.trod_struct he ht'
      obtain ⟨_, hcl, hat⟩ := World.cells?_some hc
      obtain ⟨f, hfj, hku⟩ := hk j k hjk
      obtain ⟨ho, hk1⟩ := hone_of hone j f hfj
      have hjl : j < fs.size := (Array.getElem?_eq_some_iff.1 hfj).1
      have hcell := hat j hjl
      have h1 := hff j f hfj
      rw [ho, hk1] at h1
      have hone' : (cs'.drop j).take 1 = [cs'[j]'(by omega)] := by
        rw [List.drop_eq_getElem_cons (by omega)]
        rfl
      rw [hone'] at h1
      have hys : ys[j]? = some (ys[j]'(by omega)) := List.getElem?_eq_getElem (by omega)
      obtain ⟨x, hx1, _, hx3⟩ := DataW.trod_int hku (h1.trans hys)
      refine ⟨x, ?_, hx3⟩
      rw [← Go.Deep.add_add, hcell]
      have : cs'[j]? = some (cs'[j]'(by omega)) := List.getElem?_eq_getElem (by omega)
      rw [this]
      simp only [List.cons.injEq, and_true] at hx1
      rw [hx1]
    rcases Nat.eq_zero_or_pos len with rfl | hpos
    · exact ⟨0, fun _ _ => 0, some a, m, rfl, by omega, .inl rfl⟩
    · obtain ⟨k0, hk0⟩ : ∃ k, ks[0]? = some k := ⟨ks[0], List.getElem?_eq_getElem h0⟩
      obtain ⟨x0, hx0, _⟩ := each 0 hpos 0 k0 hk0
      obtain ⟨b, off, sp⟩ := a
      have hsp : sp = none := by
        have := spot_none hx0
        rw [Nat.zero_mul, Nat.zero_add] at this
        simpa [Addr.add] using this
      subst hsp
      have hb := World.block_lt_of_cell? w _ hx0
      rw [add_none] at hb
      refine ⟨len, fun i j => numIn (w.cell? ⟨b, off + (i * ks.length + j), none⟩), some ⟨b, off, none⟩, m, rfl, by omega, .inr ⟨b, off, rfl, hb, fun i hi' j k hjk => ?_⟩⟩
      obtain ⟨x, hx, hw⟩ := each i hi' j k hjk
      rw [add_none, ← hl] at hx
      have e : numIn (w.cell? ⟨b, off + (i * ks.length + j), none⟩) = x := by rw [hx]; rfl
      simp only [e]
      exact ⟨hx, hw⟩

theorem open_nums {t e : TypeId} {k : IntKind} {r : Reach} {b0 : Nat} {v : Value} {d : DataW H} {p : List MemPlace} (ht : P.underlying t = some (.slice e)) (he : P.underlying e = some (.int k)) (hC : P.cellsOf e = 1)
    (hv : Value.okWide P w r b0 t v) (h : DataW.Trod enc P w 0 (fun _ => true) true t v d p) : ∃ n D, RowsAt w [k] v n D := by
  obtain ⟨ao, len, cap, rfl⟩ := okWide_slice ht hv
  obtain ⟨fuel, hf⟩ := h
  rcases open_ints ht he hC hf with ⟨hcs, _⟩ | ⟨a, len', cap', zs, hcs, _, hlc, hcm, hz, _, hcell, hwf⟩
  · simp [Value.cells] at hcs
    obtain ⟨rfl, rfl, rfl⟩ := hcs
    exact ⟨0, fun _ _ => 0, none, 0, rfl, by unfold maxLen; omega, .inl rfl⟩
  · simp [Value.cells] at hcs
    obtain ⟨rfl, rfl, rfl⟩ := hcs
    have hzc : zs.length = cap := by simpa using hz
    rcases Nat.eq_zero_or_pos len with rfl | hpos
    · exact ⟨0, fun _ _ => 0, some a, cap, rfl, by omega, .inl rfl⟩
    · have h0 := hcell 0 (by omega)
      obtain ⟨b, off, sp⟩ := a
      have hsp : sp = none := by
        have := spot_none h0
        simpa [Addr.add] using this
      subst hsp
      have hb := World.block_lt_of_cell? w _ h0
      rw [add_none] at hb
      refine ⟨len, fun i _ => zs.getD i 0, some ⟨b, off, none⟩, cap, rfl, by omega, .inr ⟨b, off, rfl, hb, fun i hi' j k' hjk => ?_⟩⟩
      have hj : j = 0 := by
        rcases Nat.eq_zero_or_pos j with h | h
        · exact h
        · rw [List.getElem?_eq_none (by simp; omega)] at hjk; cases hjk
      subst hj
      simp only [List.getElem?_cons_zero, Option.some.injEq] at hjk
      subst hjk
      have := hcell i (by omega)
      rw [add_none] at this
      have e : zs.getD i 0 ∈ zs := by rw [List.getD_eq_getElem?_getD, List.getElem?_eq_getElem (by omega)]; simp
      exact ⟨by simpa using this, hwf _ e⟩
end

theorem wf_u64_bd {n : Int} (h : (Lit.int .u64 n).wf = true) : 0 ≤ n ∧ n ≤ 18446744073709551615 := by
  simp only [Lit.wf, Bool.and_eq_true, decide_eq_true_eq] at h
  exact h
theorem wf_i64_bd {n : Int} (h : (Lit.int .i64 n).wf = true) : -9223372036854775808 ≤ n ∧ n ≤ 9223372036854775807 := by
  simp only [Lit.wf, Bool.and_eq_true, decide_eq_true_eq] at h
  exact h

theorem RowsAt.upd {S : List Nat} {w w' : World} {ks : List IntKind} {v : Value} {n : Nat} {D : Nat → Nat → Int} (h : RowsAt w ks v n D) (hu : Upd S w w') (hs : ∀ k ∈ S, w.heap.size ≤ k) : RowsAt w' ks v n D := by
  obtain ⟨ao, cap, hv, hm, h | ⟨b, off, ha, hb, hc⟩⟩ := h
  · exact ⟨ao, cap, hv, hm, .inl h⟩
  · refine ⟨ao, cap, hv, hm, .inr ⟨b, off, ha, Nat.lt_of_lt_of_le hb hu.size, fun i hi j k hk => ?_⟩⟩
    rw [hu.cell hb (fun e => by have := hs b e; omega)]
    exact hc i hi j k hk
end Go.Proofs.YtbnifhdnpeiheaaDoor
