/-
  The walk of the document's 'of': the points of a call. No condition.
-/
import Derived.Test.YtfeobcmcellcpaaGreatMm
set_option linter.unusedVariables false
set_option linter.unusedSimpArgs false
namespace Go.Proofs.YtfeobcmcellcpaaGreat
open Go.RowKit

theorem underlyingPts_ : Tryz.prog.underlying 31 = some (.slice 59) := by kernel_rfl
theorem infoPt_ : (Tryz.prog.info? 59).map (fun i => (i.zero, i.size, i.bytes)) = some (some (.agg #[.int .i64 0, .int .i64 0, .int .i64 0, .int .i64 0, .slice none 0 0, .int .i64 0, .int .u64 0]), 7, 72) := by kernel_rfl
def ofL (l : List Pt) (d : Dn) : List Pt := l.filter (fun x => ofP x d)
theorem ofL_step {l : List Pt} {d : Dn} {i : Nat} {x : Pt} (hx : l[i]? = some x) : ofL (l.take (i + 1)) d = ofL (l.take i) d ++ (if ofP x d = true then [x] else []) := by
  unfold ofL
  rw [List.take_add_one, hx, List.filter_append]
  congr 1
  by_cases h : ofP x d = true <;> simp [h]
theorem ofL_le (l : List Pt) (d : Dn) (i : Nat) : (ofL (l.take i) d).length ≤ i := by
  unfold ofL; exact Nat.le_trans (List.length_filter_le _ _) (by rw [List.length_take]; omega)
theorem ptVs_one {x : Pt} {lo : Option Addr} {k c : Nat} (h : x.lv = .slice lo k c) : ∀ u ∈ ptVs x, u.oneCell' = true := by
  intro u hu
  simp only [ptVs, List.mem_cons, List.not_mem_nil, or_false, h] at hu
  rcases hu with rfl | rfl | rfl | rfl | rfl | rfl | rfl <;> rfl
def DofAt (w : World) (l : List Pt) (d : Dn) (ov iv : Value) (wr : World) : Prop := ∃ (i k : Nat) (ao : Option Addr) (cap : Nat), iv = .int .i64 i ∧ ov = .slice ao k cap ∧ i ≤ l.length ∧ k = (ofL (l.take i) d).length ∧ RowO wr 59 7 ao k cap ((ofL (l.take i) d).flatMap ptVs) ∧ (∀ c ∈ blkO ao, w.heap.size ≤ c) ∧ Upd [] w wr
def DofTo (w : World) (l : List Pt) (d : Dn) (e : Ending) (w' : World) : Prop := ∃ ao cap, e = .returned (.slice ao (ofL l d).length cap) ∧ PtsAt' w' (.slice ao (ofL l d).length cap) (ofL l d) ∧ Upd [] w w'

end Go.Proofs.YtfeobcmcellcpaaGreat
