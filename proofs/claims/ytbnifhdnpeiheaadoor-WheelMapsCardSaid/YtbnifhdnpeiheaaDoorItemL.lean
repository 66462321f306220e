/-
  Items in order, plain and in rows: small laws. No condition.
-/
import Derived.Test.YtbnifhdnpeiheaaDoorSpec
import Derived.Test.YtbnifhdnpeiheaaDoorRowO
import Derived.Test.YtbnifhdnpeiheaaDoorArgs
set_option linter.unusedVariables false
set_option linter.unusedSimpArgs false
namespace Go.Proofs.YtbnifhdnpeiheaaDoor
open Go.RowKit

def atI (A : List It) (i : Nat) : It := A.getD i zIt
theorem atI_get (A : List It) (i : Nat) (hi : i < A.length) : atI A i = A[i] := by unfold atI; rw [List.getD_eq_getElem?_getD, List.getElem?_eq_getElem hi]; rfl
theorem atI_append (A : List It) (x : It) (i : Nat) (hi : i < A.length) : atI (A ++ [x]) i = atI A i := by unfold atI; rw [List.getD_eq_getElem?_getD, List.getElem?_append_left hi, ← List.getD_eq_getElem?_getD]
theorem atI_inj {A : List It} (h : NdI A) {i j : Nat} (hi : i < A.length) (hj : j < A.length) (e : (atI A i).2 = (atI A j).2) : i = j := by
  unfold NdI at h
  have hp := List.pairwise_iff_getElem.1 h
  rw [atI_get A i hi, atI_get A j hj] at e
  rcases Nat.lt_trichotomy i j with hij | rfl | hij
  · exact absurd (by rw [List.getElem_map, List.getElem_map]; exact e) (hp i j (by simpa using hi) (by simpa using hj) hij)
  · rfl
  · exact absurd (by rw [List.getElem_map, List.getElem_map]; exact e.symm) (hp j i (by simpa using hj) (by simpa using hi) hij)
theorem item_cells {w : World} {g n cap : Nat} {A : List It} (h : Row w 35 2 g n cap (A.flatMap itVs)) {i : Nat} (hi : i < A.length) :
    w.cell? ⟨g, i * 2, none⟩ = some (.int .u64 (atI A i).1) ∧ w.cell? ⟨g, i * 2 + 1, none⟩ = some (.int .i64 (atI A i).2) := by
  have hx : A[i]? = some (atI A i) := by rw [atI_get A i hi]; exact List.getElem?_eq_getElem hi
  exact ⟨h.cell (by rw [← Nat.add_zero (i * 2), flat_get itVs 2 itVs_len A i 0 (by omega) _ hx]; rfl), h.cell (by rw [flat_get itVs 2 itVs_len A i 1 (by omega) _ hx]; rfl)⟩
theorem flat_take {α : Type} (f : α → List Value) (m : Nat) (hf : ∀ x, (f x).length = m) : ∀ (xs : List α) (k : Nat), (xs.flatMap f).take (k * m) = (xs.take k).flatMap f
  | [], k => by simp
  | x :: xs, 0 => by simp
  | x :: xs, k + 1 => by
      rw [List.flatMap_cons, List.take_succ_cons, List.flatMap_cons, List.take_append, hf x, Nat.succ_mul, Nat.add_sub_cancel, flat_take f m hf xs k, List.take_of_length_le (by rw [hf x]; omega)]
def itV (x : It) (b : Bool) : Value := .tuple #[.agg #[.int .u64 x.1, .int .i64 x.2], .bool b]
def firstV : List It → Value | [] => itV zIt false | x :: _ => itV x true
def dropV (L : List It) (id : Int) : Value := match findI L id with | none => itV zIt false | some x => itV x true
theorem find_head (x : It) (L : List It) : findI (x :: L) x.2 = some x := by unfold findI; simp
theorem drop_head {x : It} {L : List It} (h : NdI (x :: L)) : dropI (x :: L) x.2 = L := by
  unfold dropI
  rw [List.filter_cons]
  simp only [beq_self_eq_true, Bool.not_true, Bool.false_eq_true, if_false]
  have hn : hasI L x.2 = false := by
    rw [hasI_no]
    intro y hy e
    unfold NdI at h
    rw [List.map_cons, List.nodup_cons] at h
    exact h.1 (by rw [← e]; exact List.mem_map_of_mem hy)
  have := dropI_none hn
  unfold dropI at this
  exact this
theorem RowO.items {w : World} {ao : Option Addr} {n cap : Nat} {L : List It} (h : RowO w 35 2 ao n cap (L.flatMap itVs)) (hn : L.length = n) {i : Nat} (hi : i < n) :
    ∃ g, ao = some ⟨g, 0, none⟩ ∧ g < w.heap.size ∧ w.cell? ⟨g, i * 2, none⟩ = some (.int .u64 (atI L i).1) ∧ w.cell? ⟨g, i * 2 + 1, none⟩ = some (.int .i64 (atI L i).2) := by
  obtain ⟨g, hg, hr⟩ := h.row (by omega)
  exact ⟨g, hg, hr.lt, (item_cells hr (by omega)).1, (item_cells hr (by omega)).2⟩
theorem cut_list {L : List It} (h : NdI L) {i : Nat} (hi : i < L.length) {x : It} (hx : atI L i = x) : L.take i ++ L.drop (i + 1) = dropI L x.2 := by
  have e : L = L.take i ++ x :: L.drop (i + 1) := by
    have : L.drop i = x :: L.drop (i + 1) := by rw [List.drop_eq_getElem_cons hi, ← atI_get L i hi, hx]
    rw [← this, List.take_append_drop]
  have hn : NdI (L.take i ++ x :: L.drop (i + 1)) := by rw [← e]; exact h
  unfold NdI at hn
  rw [List.map_append, List.map_cons, List.nodup_append, List.nodup_cons] at hn
  obtain ⟨_, ⟨h2, _⟩, h3⟩ := hn
  have n1 : hasI (L.take i) x.2 = false := by
    rw [hasI_no]; intro y hy ey
    exact h3 _ (List.mem_map_of_mem hy) x.2 (by simp) ey
  have n2 : hasI (L.drop (i + 1)) x.2 = false := by
    rw [hasI_no]; intro y hy ey
    exact h2 (by rw [← ey]; exact List.mem_map_of_mem hy)
  conv => rhs; rw [e]
  have d1 := dropI_none n1
  have d2 := dropI_none n2
  unfold dropI at *
  rw [List.filter_append, List.filter_cons, d1, d2]
  simp
theorem part_cells {w W : World} {g n cap : Nat} {L : List It} (h : Row w 35 2 g n cap (L.flatMap itVs)) (hU : Upd [] w W) (a m : Nat) :
    ∀ j u, (((L.drop a).take m).flatMap itVs)[j]? = some u → W.cell? ((⟨g, a * 2, none⟩ : Addr).add j) = some u := by
  intro j u hu
  rw [add_none]
  refine (h.upd hU (by simp)).cell ?_
  have e : ((L.drop a).take m).flatMap itVs = ((L.flatMap itVs).drop (a * 2)).take (m * 2) := by
    rw [← flat_take itVs 2 itVs_len, ]
    congr 1
    clear h hu
    induction L generalizing a with
    | nil => simp
    | cons x L ih =>
      cases a with
      | zero => simp
      | succ a => rw [List.drop_succ_cons, List.flatMap_cons, ih a, List.drop_append]; simp [itVs_len, Nat.succ_mul]
  rw [e, List.getElem?_take] at hu
  split at hu
  · rw [List.getElem?_drop] at hu; exact hu
  · cases hu
theorem flat_one (L : List It) : ∀ u ∈ L.flatMap itVs, u.oneCell' = true := by
  intro u hu
  obtain ⟨x, _, hx⟩ := List.mem_flatMap.1 hu
  simp [itVs] at hx
  rcases hx with rfl | rfl <;> rfl
theorem Row.trunc {w : World} {e : TypeId} {size g n cap : Nat} {xs : List Value} (h : Row w e size g n cap xs) (m : Nat) (hm : m ≤ n) : Row w e size g m cap (xs.take (m * size)) := by
  obtain ⟨h1, cur, hg, h2, h3, h4, h5⟩ := h.parts
  have hle : m * size ≤ n * size := Nat.mul_le_mul_right _ hm
  refine Row.mk' (by rw [List.length_take, h1]; omega) hg (by omega) h3 h4 ?_
  rw [← h5, List.take_take, Nat.min_eq_left hle]
end Go.Proofs.YtbnifhdnpeiheaaDoor
