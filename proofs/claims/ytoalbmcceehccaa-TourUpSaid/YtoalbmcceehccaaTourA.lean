/-
  The walks of tag.Ahead and of the tour's own functions. No condition.
-/
import Derived.Test.YtoalbmcceehccaaTourM
namespace Go.Proofs.Ytoalbmcceehccaa
open Go.RowKit

def RetUpd (S : List Nat) (w : World) (v : Value) (e : Ending) (w' : World) : Prop := e = .returned v ∧ Upd S w w'

theorem ret_bool {a b : Bool} (h : a = b) : Ending.returned (.bool a) = .returned (.bool b) := by rw [h]
theorem ret_int {k : IntKind} {a b : Int} (h : a = b) : Ending.returned (.int k a) = .returned (.int k b) := by rw [h]

theorem Held.step {S : List Nat} {W w w' : World} (h : Upd S W w ∧ ∀ b o, b < W.heap.size → b ∉ S → w.cell? ⟨b, o, none⟩ = W.cell? ⟨b, o, none⟩) (k : Upd S w w') :
    Upd S W w' ∧ ∀ b o, b < W.heap.size → b ∉ S → w'.cell? ⟨b, o, none⟩ = W.cell? ⟨b, o, none⟩ := ⟨h.1.trans k, (h.1.trans k).cells⟩
theorem Held.init (S : List Nat) (W : World) : Upd S W W.drew ∧ ∀ b o, b < W.heap.size → b ∉ S → W.drew.cell? ⟨b, o, none⟩ = W.cell? ⟨b, o, none⟩ := ⟨(Upd.refl S W).drew, fun _ _ _ _ => rfl⟩

set_option maxHeartbeats 400000 in
theorem ahead_any (a b : It) (w : World) :
    Calls Try.prog 28 #[.agg #[.int .u64 a.1, .int .i64 a.2], .agg #[.int .u64 b.1, .int .i64 b.2]] w (RetUpd [] w (.bool (ahead a b))) := by
  obtain ⟨k1, i1⟩ := a
  obtain ⟨k2, i2⟩ := b
  go_enter Try.func28, Try.ntmps28
  go_wp2
  all_goals
    go_ret
    refine ⟨ret_bool ?_, ((Upd.refl _ _).alloc _).alloc _⟩
    try (simp [ahead, *]; done)

theorem leaf_rows {w : World} {bl n : Nat} {L : List Leaf} (h : Row w 61 3 bl n n (L.flatMap leafVs)) (a : Int) (h0 : 0 ≤ a) (h1 : a < n) :
    w.cell? ⟨bl, a.toNat * 3, none⟩ = some (.int .u64 (leafAt L a).1.1) ∧ w.cell? ⟨bl, a.toNat * 3 + 1, none⟩ = some (.int .i64 (leafAt L a).1.2) := by
  have hl : L.length = n := by have := h.len; rw [flat_len leafVs 3 leafVs_len] at this; omega
  have ha : a.toNat < L.length := by omega
  have hx : L[a.toNat]? = some (leafAt L a) := by
    unfold leafAt; rw [List.getD_eq_getElem?_getD, List.getElem?_eq_getElem ha]; rfl
  exact ⟨h.cell (by rw [← Nat.add_zero (a.toNat * 3), flat_get leafVs 3 leafVs_len L a.toNat 0 (by omega) _ hx]; rfl),
    h.cell (by rw [flat_get leafVs 3 leafVs_len L a.toNat 1 (by omega) _ hx]; rfl)⟩

set_option maxHeartbeats 800000 in
theorem better_any (bt bl n : Nat) (sz : Int) (nd : Value) (L : List Leaf) (a b : Int) (w : World)
    (ht : Blk w bt 57 [.slice (some ⟨bl, 0, none⟩) n n, .int .i64 sz, nd]) (hl : Row w 61 3 bl n n (L.flatMap leafVs)) (ha : a < n) (hb : b < n) :
    Calls Try.prog 27 #[.pointer (some ⟨bt, 0, none⟩), .int .i64 a, .int .i64 b] w (RetUpd [] w (.int .i64 (betterF L a b))) := by
  have hc0 := ht.cell (j := 0) rfl
  have lt := ht.lt
  have ll := hl.lt
  clear ht
  by_cases ha0 : a < 0
  · rw [betterF_neg L a b ha0]
    clear hl
    have h1 : decide (a < 0) = true := by simp; omega
    go_enter Try.func27, Try.ntmps27
    go_wp2
    go_quiet (fail)
    go_wp2
    go_ret
    exact ⟨rfl, (Upd.refl _ _).drewN _⟩
  · have h1 : decide (a < 0) = false := by simp; omega
    by_cases hb0 : b < 0
    · rw [betterF_bneg L a b (by omega) hb0]
      have h2 : decide (0 ≤ b) = false := by simp; omega
      clear hl
      go_enter Try.func27, Try.ntmps27
      go_wp2
      go_quiet (fail)
      go_wp2
      go_ret
      exact ⟨rfl, (Upd.refl _ _).drewN _⟩
    · have HB := Lib.hid (betterF_both L a b (by omega) (by omega))
      generalize betterF L a b = r at *
      have h2 : decide (0 ≤ b) = true := by simp; omega
      obtain ⟨hka, hia⟩ := leaf_rows hl a (by omega) ha
      obtain ⟨hkb, hib⟩ := leaf_rows hl b (by omega) hb
      clear hl
      generalize hx : (leafAt L a).1 = xa at *
      generalize hy : (leafAt L b).1 = xb at *
      clear hx hy
      have e1 : 0 ≤ a := by omega
      have e2 : 0 ≤ b := by omega
      clear ha0 hb0
      go_enter Try.func27, Try.ntmps27
      go_wp2
      go_region_held3 (fun w' => Upd [] w w' ∧ ∀ (b o : Nat), b < w.heap.size → b ∉ ([] : List Nat) → w'.cell? ⟨b, o, none⟩ = w.cell? ⟨b, o, none⟩)
        (first | exact Held.init _ _ | exact Held.step (by assumption) hB) (first | (go_at_call 28; refine (ahead_any xb xa _).mono ?_; rintro e w' ⟨rfl, hB⟩))
      have HT := HB.out
      cases ht : ahead xb xa <;> (rw [ht] at HT; simp at HT; subst HT; go_wp2; go_ret; exact ⟨rfl, (Upd.refl [] w).drew.trans hB⟩)
end Go.Proofs.Ytoalbmcceehccaa
