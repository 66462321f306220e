/-
  An argument that is a plan: a config, and a row of rows of calls. No condition.
-/
import Derived.Test.YtmfndemnogpmcaaGrid
set_option linter.unusedVariables false
set_option linter.unusedSimpArgs false
namespace Go.Proofs.Ytmfndemnogpmcaa
open Go.ChangeShapes Go.WideShapes Go.ChangeAt Go.RowKit Go.Deep

theorem open_plan {H : Type} {enc : TypeId × Value → H} {P : Program} {w : World} {t e c : TypeId} {f0 f1 : Field} {ks : List (Option IntKind)} {r : Reach} {b0 : Nat} {v : Value} {d : DataW H} {p : List MemPlace} (ht : P.underlying t = some (.struct #[f0, f1]))
    (h00 : f0.offset = 0) (h01 : P.cellsOf f0.type = 5) (hk0 : flatKinds P 8 f0.type = some [some .i64, some .i64, some .i64, some .i64, some .u64]) (h10 : f1.offset = 5) (h11 : P.cellsOf f1.type = 1)
    (hl : P.underlying f1.type = some (.slice e)) (he : P.underlying e = some (.slice c)) (hf8 : flatKinds P 8 c = some ks) (hCe : P.cellsOf e = 1) (hC : P.cellsOf c = ks.length) (hk : 0 < ks.length) (hCt : P.cellsOf t = 6) (hv : Value.okWide P w r b0 t v) (h : DataW.Trod enc P w 0 (fun _ => true) true t v d p) :
    ∃ (a1 a2 a3 a4 : Int) (u : Nat) (lv : Value) (n : Nat) (V : Nat → Value), v = .agg #[.int .i64 a1, .int .i64 a2, .int .i64 a3, .int .i64 a4, .int .u64 u, lv] ∧ u < 18446744073709551616 ∧ GridAt w ks lv n V := by
  obtain ⟨cs, rfl, hsz⟩ := okWide_struct ht hv
  rw [hCt] at hsz
  obtain ⟨fuel, hf⟩ := h
  cases fuel with
  | zero => cases hf
  | succ fuel =>
    obtain ⟨xs, m, _, _, _, hlen, hff⟩ := DataW.trod_struct ht hf
    have hs2 : xs.length = 2 := by simpa using hlen
    have g0 := (hff 0 f0 rfl).trans (List.getElem?_eq_getElem (by omega))
    have g1 := (hff 1 f1 rfl).trans (List.getElem?_eq_getElem (by omega))
    have key := flat_cells 8 f0.type _ hk0 _ _ _ g0
    obtain ⟨lv, n, V, hlv, hg⟩ := grid_trod hl he hf8 hCe hC hk g1
    obtain ⟨v0, e0, a, rfl, _⟩ := key 0 (some .i64) rfl
    obtain ⟨v1, e1, b, rfl, _⟩ := key 1 (some .i64) rfl
    obtain ⟨v2, e2, c', rfl, _⟩ := key 2 (some .i64) rfl
    obtain ⟨v3, e3, d', rfl, _⟩ := key 3 (some .i64) rfl
    obtain ⟨v4, e4, u, rfl, hu⟩ := key 4 (some .u64) rfl
    have hbd := wf_u64_bd hu
    obtain ⟨l⟩ := cs
    rw [h00, h01] at e0 e1 e2 e3 e4
    rw [h10, h11] at hlv
    simp only [Value.cells] at e0 e1 e2 e3 e4 hlv
    match l, hsz with
    | [x0, x1, x2, x3, x4, x5], _ =>
      simp at e0 e1 e2 e3 e4 hlv
      subst e0 e1 e2 e3 e4 hlv
      refine ⟨a, b, c', d', u.toNat, x5, n, V, ?_, by omega, hg⟩
      have : ((u.toNat : Nat) : Int) = u := by omega
      rw [this]
end Go.Proofs.Ytmfndemnogpmcaa
