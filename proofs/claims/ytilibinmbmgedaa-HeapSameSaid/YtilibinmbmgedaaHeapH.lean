/-
  The walks of the heap's Min and Drop. No condition.
-/
import Derived.Test.YtilibinmbmgedaaHeapG
import Derived.Test.YtilibinmbmgedaaHeapB
namespace Go.Proofs.Ytilibinmbmgedaa
open Go.RowKit

theorem swap_any (hb g cap mb : Nat) (A : List It) (i j : Nat) (w : World) (h : HpAt w hb (some ⟨g, 0, none⟩) cap mb A) (hi : i < A.length) (hj : j < A.length) :
    Calls Try.prog 36 #[.pointer (some ⟨hb, 0, none⟩), .int .i64 i, .int .i64 j] w (SiftTo w hb g cap mb (swp A i j)) := by
  by_cases e : i = j
  · subst e
    rw [swp_self A i hi]
    exact swap_eq hb g cap mb A i w h hi
  · exact swap_ne hb g cap mb A i j w h hi hj e

theorem Row.trunc {w : World} {e : TypeId} {size g n cap : Nat} {xs : List Value} (h : Row w e size g n cap xs) (m : Nat) (hm : m ≤ n) : Row w e size g m cap (xs.take (m * size)) := by
  obtain ⟨h1, cur, hg, h2, h3, h4, h5⟩ := h.parts
  have hle : m * size ≤ n * size := Nat.mul_le_mul_right _ hm
  refine Row.mk' (by rw [List.length_take, h1]; omega) hg (by omega) h3 h4 ?_
  rw [← h5, List.take_take, Nat.min_eq_left hle]
theorem flat_take {α : Type} (f : α → List Value) (m : Nat) (hf : ∀ x, (f x).length = m) : ∀ (xs : List α) (k : Nat), (xs.flatMap f).take (k * m) = (xs.take k).flatMap f
  | [], k => by simp
  | x :: xs, 0 => by simp
  | x :: xs, k + 1 => by
      rw [List.flatMap_cons, List.take_succ_cons, List.flatMap_cons, List.take_append, hf x, Nat.succ_mul, Nat.add_sub_cancel, flat_take f m hf xs k, List.take_of_length_le (by rw [hf x]; omega)]
theorem atI_take (A : List It) (n j : Nat) (hj : j < n) : atI (A.take n) j = atI A j := by
  unfold atI
  rw [List.getD_eq_getElem?_getD, List.getD_eq_getElem?_getD, List.getElem?_take, if_pos hj]

theorem swp_take {A : List It} {i last : Nat} (hi : i < last) : (swp A i last).take last = (A.take last).set i (atI A last) := by
  unfold swp
  rw [List.take_set_of_le (Nat.le_refl _), List.take_set]
theorem trunc_idx {B : List It} {M : AL} {last : Nat} (hl : B.length = last + 1) (hB : NdI B) (hM : IdxOf B M) (hMn : NdM M) {id : Int} (hid : (atI B last).2 = id) : IdxOf (B.take last) (delM M id) := by
  have hlen : (B.take last).length = last := by rw [List.length_take]; omega
  refine ⟨fun j hj => ?_, fun k v hk => ?_⟩
  · rw [hlen] at hj
    rw [atI_take B last j hj, lookM_del hMn, if_neg]
    · exact hM.1 j (by omega)
    · intro e
      have := atI_inj hB (i := j) (j := last) (by omega) (by omega) (by rw [hid]; exact e)
      omega
  · rw [lookM_del hMn] at hk
    by_cases e : k = id
    · rw [if_pos e] at hk; cases hk
    · rw [if_neg e] at hk
      obtain ⟨j, hj, e2⟩ := hM.2 k v hk
      have hjl : j ≠ last := by intro h; subst h; exact e (by rw [← e2, hid])
      exact ⟨j, by rw [hlen]; omega, by rw [atI_take B last j (by omega)]; exact e2⟩
theorem take_drop {B : List It} {last : Nat} (hl : B.length = last + 1) (hB : NdI B) {x : It} (hx : atI B last = x) : B.take last = dropI B x.2 := by
  have e : B = B.take last ++ [x] := by
    have h1 : B[last]? = some x := by rw [← hx, atI_get B last (by omega)]; exact List.getElem?_eq_getElem _
    have h2 : B.take (last + 1) = B.take last ++ [x] := by rw [List.take_add_one, h1]; rfl
    rw [← h2, List.take_of_length_le (by omega)]
  have hno : hasI (B.take last) x.2 = false := by
    rw [hasI_no]
    intro y hy ey
    rw [e] at hB
    unfold NdI at hB
    rw [List.map_append, List.nodup_append] at hB
    exact hB.2.2 _ (List.mem_map_of_mem hy) _ (by simp) ey
  conv => rhs; rw [e]
  unfold dropI at *
  rw [List.filter_append]
  have := dropI_none hno
  unfold dropI at this
  rw [this]; simp

theorem drop_trunc {w w2 w3 : World} {hb g cap mb last : Nat} {B : List It} {M : AL} {id : Int} (h : HpAt w hb (some ⟨g, 0, none⟩) cap mb B) (hl : B.length = last + 1) (hid : (atI B last).2 = id) (hM : IMap w mb M) (hMn : NdM M) (hMi : IdxOf B M)
    (hw2 : w2 = w.setCell ⟨hb, 0, none⟩ (.slice (some ⟨g, 0, none⟩) last cap)) (t : MapTo w2 mb (delM M id) w3) :
    HpAt w3 hb (some ⟨g, 0, none⟩) cap mb (B.take last) ∧ Upd [hb, mb] w w3 := by
  have n1 : hb ≠ g := by have := h.d1; simpa [blkO] using this
  have n3 : mb ≠ g := by have := h.d3; simpa [blkO] using this
  have hlen : (B.take last).length = last := by rw [List.length_take]; omega
  have u2 : Upd [hb] w w2 := by rw [hw2]; exact (Upd.refl _ w).setCell (by simp) _
  have hU : Upd [hb, mb] w w3 := (u2.mono (fun _ _ hm => by simp at hm; simp [hm])).trans (t.upd.mono (fun _ _ hm => by simp at hm; simp [hm]))
  refine ⟨{ top := ?_, row := ?_, map := ⟨_, t.map, hMn.del _, trunc_idx hl h.nd hMi hMn hid⟩, nd := ?_, small := by have := h.small; omega, d1 := h.d1, d2 := h.d2, d3 := h.d3 }, hU⟩
  · rw [hlen]
    have h2 : Blk w2 hb 54 [.slice (some ⟨g, 0, none⟩) last cap, .map (some mb)] := by
      rw [hw2]; have := h.top.set 0 (.slice (some ⟨g, 0, none⟩) last cap); simpa using this
    exact h2.upd t.upd (by simpa using h.d2)
  · have hr : Row w 37 2 g B.length cap (B.flatMap itVs) := h.row
    have := (hr.upd hU (by simp; exact ⟨fun e => n1 e.symm, fun e => n3 e.symm⟩)).trunc last (by omega)
    rw [flat_take itVs 2 itVs_len] at this
    rw [hlen]
    exact this.o
  · exact h.nd.sublist ((List.take_sublist _ _).map _)

/-- The end of a Drop: one that stood in the middle, or the last. -/
def fin (A : List It) (i last : Nat) : List It := if i < last then sDn last (sUp i ((swp A i last).take last) i) i else (swp A i last).take last
theorem fin_ord {A : List It} (h : HeapOrd A) {i last : Nat} (hl : A.length = last + 1) (hi : i < A.length) : HeapOrd (fin A i last) := by
  unfold fin
  by_cases h1 : i < last
  · rw [if_pos h1, swp_take h1]
    have hlen : (A.take last).length = last := by rw [List.length_take]; omega
    rw [sUp_more i _ i last (Nat.le_refl _) (by omega)]
    exact put_ord (take_ord h last) (by omega) _ last last (by omega) (by omega)
  · rw [if_neg h1]
    obtain rfl : i = last := by omega
    rw [swp_self A i hi]
    exact take_ord h i
theorem fin_perm {A : List It} (hA : NdI A) {i last : Nat} (hl : A.length = last + 1) (hi : i < A.length) {x : It} (hx : atI A i = x) : (fin A i last).Perm (dropI A x.2) := by
  have hlen : ((swp A i last).take last).length = last := by rw [List.length_take, swp_len]; omega
  have h0 : ((swp A i last).take last).Perm (dropI A x.2) := by
    rw [take_drop (by rw [swp_len]; exact hl) (hA.perm (swp_perm A i last hi (by omega)).symm) (x := x) (by rw [atI_swp A i last last hi (by omega), if_pos rfl, hx])]
    exact dropI_perm (swp_perm A i last hi (by omega)) _
  unfold fin
  by_cases h1 : i < last
  · rw [if_pos h1]
    exact ((sDn_perm _ _ _ (by rw [sUp_len]; omega)).trans (sUp_perm _ _ _ (by omega))).trans h0
  · rw [if_neg h1]; exact h0

set_option maxHeartbeats 4000000 in
theorem min_at (hb : Nat) (ao : Option Addr) (cap mb : Nat) (A : List It) (w : World) (h : HpAt w hb ao cap mb A) :
    Calls Try.prog 26 #[.pointer (some ⟨hb, 0, none⟩)] w (fun e w' => Upd [] w w' ∧ ((A.length = 0 ∧ e = .returned (.tuple #[.agg #[.int .u64 0, .int .i64 0], .bool false])) ∨ (A.length ≠ 0 ∧ e = .returned (.tuple #[.agg #[.int .u64 (atI A 0).1, .int .i64 (atI A 0).2], .bool true])))) := by
  have HH := Lib.hid h
  have c0 := h.top.cell (j := 0) rfl
  have lh := h.top.lt
  have small := h.small
  by_cases hn : A.length = 0
  · rw [hn] at c0
    have HN := Lib.hid hn
    clear h hn small
    go_enter Try.func26, Try.ntmps26
    go_wp2
    exact bodyPost_ret (v := .tuple #[.agg #[.int .u64 0, .int .i64 0], .bool false]) (by simp [results, Try.results26, go_sem]) rfl ⟨((Upd.refl [] w).alloc _), .inl ⟨HN.out, rfl⟩⟩
  · obtain ⟨g, hg, hrow⟩ := h.row.row (by omega)
    subst hg
    obtain ⟨x0, x1⟩ := item_cells (g := g) h.row (i := 0) (by omega)
    have lg := hrow.lt
    obtain ⟨x, hx⟩ : ∃ x, atI A 0 = x := ⟨_, rfl⟩
    rw [hx] at x0 x1 ⊢
    obtain ⟨n, hnn⟩ : ∃ n, A.length = n := ⟨_, rfl⟩
    rw [hnn] at c0 hn small ⊢
    have HN := Lib.hid hn
    have b1 : ((n : Int) == 0) = false := by simp; omega
    have b2 : (0 : Int) < (n : Int) := by omega
    clear h hn hrow hnn hx
    go_enter Try.func26, Try.ntmps26
    go_wp2
    refine bodyPost_ret (v := .tuple #[.agg #[.int .u64 x.1, .int .i64 x.2], .bool true]) (by simp [results, Try.results26, go_sem]) rfl ⟨?_, .inr ⟨HN.out, rfl⟩⟩
    exact (Upd.refl [] w).alloc _
end Go.Proofs.Ytilibinmbmgedaa
