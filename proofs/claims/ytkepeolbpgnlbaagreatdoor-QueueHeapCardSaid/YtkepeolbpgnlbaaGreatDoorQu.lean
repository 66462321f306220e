/-
  A queue whose bases are not above the last key that was popped: it tells what a list tells. Condition: where a table of the library's lies.
-/
import Derived.Test.YtkepeolbpgnlbaaGreatDoorQs
import Derived.Test.YtkepeolbpgnlbaaGreatDoorSk
set_option linter.unusedVariables false
set_option linter.unusedSimpArgs false
namespace Go.Proofs.YtkepeolbpgnlbaaGreatDoor
open Go.RowKit

def QH (W : World) (qb last wd : Nat) (L : List It) (fp : List Nat) (w : World) : Prop :=
  ∃ M, QG W qb wd M L fp w ∧ (∀ i, i < M.length → (shAt M i).1 ≤ last) ∧ (∀ x ∈ L, last ≤ kn x) ∧ last < 18446744073709551616
def QHTo (W : World) (qb last wd : Nat) (L : List It) (fp : List Nat) (w w' : World) : Prop := ∃ fp', QH W qb last wd L fp' w' ∧ Fr fp fp' w w'
section
variable {W w : World} {qb last wd : Nat} {L : List It} {fp : List Nat}
theorem QG.keyL {M : List Sh} (h : QG W qb wd M L fp w) : ∀ x ∈ L, x.1 = (kn x : Int) ∧ kn x < 18446744073709551616 := by
  intro x hx
  obtain ⟨i, hi, hx⟩ := h.ok.mem.1 hx
  exact ⟨(h.keys i hi x hx).1, (h.keys i hi x hx).2.1⟩
theorem QH.lt (h : QH W qb last wd L fp w) : ∀ c ∈ fp, c < w.heap.size := by obtain ⟨_, h, _⟩ := h; exact h.lt
theorem QH.newB (h : QH W qb last wd L fp w) : ∀ c ∈ fp, W.heap.size ≤ c := by obtain ⟨_, h, _⟩ := h; exact h.newB
theorem QH.updS (h : QH W qb last wd L fp w) {S : List Nat} {w' : World} (hu : Upd S w w') (hs : ∀ c ∈ fp, c ∉ S) (hw : ∀ c ∈ S, W.heap.size ≤ c) : QH W qb last wd L fp w' := by
  obtain ⟨M, h1, h2⟩ := h; exact ⟨M, h1.updS hu hs hw, h2⟩
theorem QH.upd (h : QH W qb last wd L fp w) {w' : World} (hu : Upd [] w w') : QH W qb last wd L fp w' := h.updS hu (by simp) (by simp)
theorem QH.updW (h : QH W qb last wd L fp w) : Upd [] W w := by obtain ⟨_, h, _⟩ := h; exact h.updW
theorem QH.b64 (h : QH W qb last wd L fp w) : last < 18446744073709551616 := by obtain ⟨_, _, _, _, h⟩ := h; exact h
theorem QH.keys (h : QH W qb last wd L fp w) : ∀ x ∈ L, x.1 = (kn x : Int) ∧ kn x < 18446744073709551616 := by obtain ⟨_, h, _⟩ := h; exact h.keyL
theorem QHTo.up {w' : World} (h : QHTo W qb last wd L fp w w') : Upd fp w w' := by obtain ⟨_, _, h⟩ := h; exact h.2
theorem QH.push (h : QH W qb last wd L fp w) (k : Nat) (hk : k < 18446744073709551616) (id : Int) (hsm : L.length < 1000) (hl : last ≤ k) (hid : 0 ≤ id) :
    Calls Tryz.prog 16 #[.pointer (some ⟨qb, 0, none⟩), .agg #[.int .u64 k, .int .i64 id]] w (fun e w' => e = .returned (.bool (takeS last L k id)) ∧ QHTo W qb last wd (if takeS last L k id = true then insI ((k : Int), id) L else L) fp w w') := by
  obtain ⟨M, h1, h2, h3, h4⟩ := h
  have ht : takeQ M k id = takeS last L k id := by
    have hr := rt_lt h1.ok.one id
    have hb := h2 _ hr
    unfold takeQ takeS
    rw [h1.ok.has id hid]
    simp [hid, hl, Nat.le_trans hb hl]
  have hp := h1.push k hk id hsm
  rw [ht] at hp
  refine hp.mono ?_
  rintro e w' ⟨rfl, fp', k1, k2⟩
  refine ⟨rfl, fp', ⟨pushM M k id, ?_, fun i hi => ?_, fun x hx => ?_, h4⟩, k2⟩
  · unfold pushL at k1; rw [ht] at k1; exact k1
  · obtain ⟨hb1, hb2⟩ := pushM_base h1.ok k id
    rw [hb2 i]; exact h2 i (by rw [← hb1]; exact hi)
  · split at hx
    · rcases List.mem_cons.1 ((insI_perm _ _).mem_iff.1 hx) with rfl | hx
      · unfold kn; simpa using hl
      · exact h3 x hx
    · exact h3 x hx
theorem QH.pop (h : QH W qb last wd L fp w) : Calls Tryz.prog 18 #[.pointer (some ⟨qb, 0, none⟩)] w (fun e w' => e = .returned (firstV L) ∧ QHTo W qb (popB last L) wd L.tail fp w w') := by
  obtain ⟨M, h1, h2, h3, h4⟩ := h
  refine h1.pop.mono ?_
  rintro e w' ⟨rfl, fp', k1, k2⟩
  refine ⟨rfl, fp', ⟨popM M L, k1, ?_⟩, k2⟩
  cases L with
  | nil => exact ⟨h2, h3, h4⟩
  | cons x r =>
    have hx := h1.keyL x (by simp)
    refine ⟨fun i hi => ?_, fun y hy => ?_, hx.2⟩
    · rw [popM_len] at hi
      have hl : last ≤ kn x := h3 x (by simp)
      show (shAt (M.set (rt M.length x.2) (kn x, (shAt M (rt M.length x.2)).2.tail)) i).1 ≤ kn x
      rw [shAt_set (rt_lt h1.ok.one x.2)]
      split
      · exact Nat.le_refl _
      · exact Nat.le_trans (h2 i hi) hl
    · exact srt_head_le h1.ok.srt (fun z hz => (h1.keyL z hz).1) y (by simp at hy; simp [hy])
theorem QH.drop (h : QH W qb last wd L fp w) (id : Int) : Calls Tryz.prog 20 #[.pointer (some ⟨qb, 0, none⟩), .int .i64 id] w (fun e w' => e = .returned (dropV L id) ∧ QHTo W qb last wd (dropI L id) fp w w') := by
  obtain ⟨M, h1, h2, h3, h4⟩ := h
  refine (h1.drop id).mono ?_
  rintro e w' ⟨rfl, fp', k1, k2⟩
  refine ⟨rfl, fp', ⟨dropM M id, k1, fun i hi => ?_, fun x hx => h3 x (mem_dropI hx), h4⟩, k2⟩
  obtain ⟨hb1, hb2⟩ := dropM_base h1.ok id
  rw [hb2 i]; exact h2 i (by rw [← hb1]; exact hi)
theorem QH.all (h : QH W qb last wd L fp w) (hsm : L.length ≤ 1000) : Calls Tryz.prog 22 #[.pointer (some ⟨qb, 0, none⟩)] w (Told w L []) := by
  obtain ⟨M, h1, _⟩ := h; exact h1.all hsm
theorem QH.new {m : Nat} (h : QG W qb wd (zeroM m) [] fp w) : QH W qb 0 wd [] fp w :=
  ⟨zeroM m, h, fun i _ => by rw [zeroM_at]; exact Nat.le_refl _, fun _ hx => (by cases hx), by omega⟩
end
end Go.Proofs.YtkepeolbpgnlbaaGreatDoor
