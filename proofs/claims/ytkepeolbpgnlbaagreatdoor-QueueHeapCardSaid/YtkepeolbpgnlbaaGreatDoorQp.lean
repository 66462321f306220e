/-
  The walk of QueueBases. Condition: where a table of the library's lies.
-/
import Derived.Test.YtkepeolbpgnlbaaGreatDoorQo
import Derived.Test.YtkepeolbpgnlbaaGreatDoorPB
set_option linter.unusedVariables false
set_option linter.unusedSimpArgs false
namespace Go.Proofs.YtkepeolbpgnlbaaGreatDoor
open Go.RowKit

def QBasesAt (W : World) (qb rb wd c : Nat) (iv : Value) (wr : World) : Prop := ∃ (i : Nat) (M : List Sh) (L : List It) (fp fq : List Nat), iv = .int .i64 i ∧ i ≤ c ∧ L.length ≤ i ∧ QR W qb rb wd M L fp fq wr
def InnerAt (ws : World) (n : Nat) (iv : Value) (wr : World) : Prop := ∃ k : Nat, iv = .int .i64 k ∧ k ≤ n ∧ Upd [] ws wr
theorem RQ.cell0 {W w : World} {qb wd : Nat} {M : List Sh} {fp : List Nat} (h : RQ W qb wd M fp w) : ∃ sr cap, w.cell? ⟨qb, 0, none⟩ = some (.slice (some ⟨sr, 0, none⟩) M.length cap) ∧ qb < w.heap.size := by
  obtain ⟨sr, cap, sb, F, h, -⟩ := h; exact ⟨sr, cap, h.cells.1, h.cells.2.2.1⟩
def basI (M : List Sh) (i : Nat) : Int := ((shAt M i).1 : Int)
theorem basI_get {M : List Sh} {i : Nat} (h : i < M.length) : (M.map fun s => (s.1 : Int)).getD i 0 = basI M i := by
  unfold basI; rw [shAt_get h, List.getD_eq_getElem?_getD, List.getElem?_map, List.getElem?_eq_getElem h]; rfl
theorem row_base {w : World} {M : List Sh} {ao : Option Addr} {n cap : Nat} (hR : RowO w 29 1 ao n cap (basesV M)) (hn : M.length = n) {i : Nat} (hi : i < n) :
    ∃ g, ao = some ⟨g, 0, none⟩ ∧ g < w.heap.size ∧ w.cell? ⟨g, i, none⟩ = some (.int .u64 (basI M i)) := by
  rw [basesV_u] at hR
  obtain ⟨g, h1, h2, h3⟩ := hR.u64 (by rw [List.length_map]; exact hn) hi
  rw [basI_get (by omega)] at h3
  exact ⟨g, h1, h2, h3⟩
theorem pop_base {M : List Sh} {L : List It} (h : QOk M L) {x : It} {l : List It} (hL : L = x :: l) (k : Nat) : basI (popM M L) k = if k = rt M.length x.2 then (kn x : Int) else basI M k := by
  subst hL
  unfold basI
  show ((shAt (M.set (rt M.length x.2) (kn x, (shAt M (rt M.length x.2)).2.tail)) k).1 : Int) = _
  rw [shAt_set (rt_lt h.one x.2)]
  split <;> rfl
theorem inner_meas {n j : Nat} (h : j < n) : n - (intOf (.int .i64 ((j : Int) + 1))).toNat < n - (intOf (.int .i64 (j : Int))).toNat := by
  simp [intOf]; omega
theorem wrap_succ {n j : Nat} (h : j < n) (h2 : n ≤ 16) : wrap64 ((j : Int) + 1) = (j : Int) + 1 ∧ IntKind.i64.wrap ((j : Int) + 1) = (j : Int) + 1 :=
  ⟨by unfold wrap64; omega, IntWalk.i64_in _ (by omega)⟩

end Go.Proofs.YtkepeolbpgnlbaaGreatDoor
