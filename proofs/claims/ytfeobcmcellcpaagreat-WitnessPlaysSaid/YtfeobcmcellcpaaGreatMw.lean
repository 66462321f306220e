/-
  Arguments that are a plan, a point: what they are. No condition.
-/
import Derived.Test.YtfeobcmcellcpaaGreatPoint
set_option linter.unusedVariables false
set_option linter.unusedSimpArgs false
namespace Go.Proofs.YtfeobcmcellcpaaGreat
open Go.ChangeShapes Go.WideShapes Go.ChangeAt Go.RowKit Go.Deep

theorem open_point {H : Type} {enc : TypeId × Value → H} {P : Program} {w : World} {t c : TypeId} {f0 f1 f2 f3 g0 g1 g2 g3 : Field} {r : Reach} {b0 : Nat} {v : Value} {d : DataW H} {p : List MemPlace} (ht : P.underlying t = some (.struct #[f0, f1, f2, f3])) (hr : P.underlying f3.type = some (.struct #[g0, g1, g2, g3]))
    (k0 : flatKinds P 8 f0.type = some [some .i64]) (k1 : flatKinds P 8 f1.type = some [some .i64]) (k2 : flatKinds P 8 f2.type = some [some .i64])
    (c0 : P.cellsOf f0.type = 1) (c1 : P.cellsOf f1.type = 1) (c2 : P.cellsOf f2.type = 1) (c3 : P.cellsOf f3.type = 4) (o0 : f0.offset = 0) (o1 : f1.offset = 1) (o2 : f2.offset = 2) (o3 : f3.offset = 3)
    (k3 : flatKinds P 8 g0.type = some [some .i64]) (k4 : flatKinds P 8 g2.type = some [some .i64]) (k5 : flatKinds P 8 g3.type = some [some .u64]) (d0 : P.cellsOf g0.type = 1) (d1 : P.cellsOf g1.type = 1) (d2 : P.cellsOf g2.type = 1) (d3 : P.cellsOf g3.type = 1)
    (q0 : g0.offset = 0) (q1 : g1.offset = 1) (q2 : g2.offset = 2) (q3 : g3.offset = 3) (hl : P.underlying g1.type = some (.slice c)) (hf8 : flatKinds P 8 c = some [some .i64, some .i64, some .i64]) (hC : P.cellsOf c = 3) (hCt : P.cellsOf t = 7)
    (hv : Value.okWide P w r b0 t v) (h : DataW.Trod enc P w 0 (fun _ => true) true t v d p) : ∃ x : Pt, v = ptV x ∧ PtOk x ∧ PtAt w x := by
  obtain ⟨cs, rfl, hsz⟩ := okWide_struct ht hv
  rw [hCt] at hsz
  obtain ⟨fuel, hf⟩ := h
  have hlen : (Value.cells (.agg cs)).toList.length = 7 := by simp [Value.cells]; exact hsz
  obtain ⟨x, hx, h1, h2⟩ := point_trod ht hr k0 k1 k2 c0 c1 c2 c3 o0 o1 o2 o3 k3 k4 k5 d0 d1 d2 d3 q0 q1 q2 q3 hl hf8 hC hlen hf
  refine ⟨x, ?_, h1, h2⟩
  have hcs : cs.toList = ptVs x := by simpa [Value.cells] using hx
  obtain ⟨l⟩ := cs
  simp only at hcs
  subst hcs
  rfl
end Go.Proofs.YtfeobcmcellcpaaGreat
