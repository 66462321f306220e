/-
  The walks of the heap's up and down: one step of a sift. No condition.
-/
import Derived.Test.YtilibinmbmgedaaHeapA
namespace Go.Proofs.Ytilibinmbmgedaa
open Go.RowKit

def StepTo (w : World) (hb g cap mb : Nat) (A' : List It) (i' : Nat) (more : Bool) (e : Ending) (w' : World) : Prop :=
  e = .returned (.tuple #[.int .i64 i', .bool more]) ∧ HpAt w' hb (some ⟨g, 0, none⟩) cap mb A' ∧ Upd [g, mb] w w'

set_option maxHeartbeats 4000000 in
theorem up_stay (hb g cap mb : Nat) (A : List It) (i : Nat) (w : World) (h : HpAt w hb (some ⟨g, 0, none⟩) cap mb A) (hi : i < A.length) (hst : i = 0 ∨ ahead (atI A i) (atI A (par i)) = false) :
    Calls Try.prog 34 #[.pointer (some ⟨hb, 0, none⟩), .int .i64 i] w (StepTo w hb g cap mb A i false) := by
  have HH := Lib.hid h
  have c0 := h.top.cell (j := 0) rfl
  have lh := h.top.lt
  have lg := Row.lt (g := g) h.row
  have small := h.small
  by_cases h0 : i = 0
  · subst h0
    clear hst h
    go_enter Try.func34, Try.ntmps34
    go_wp2
    go_quiet (fail)
    go_wp2
    go_ret2
    exact ⟨rfl, HH.out.upd ((Upd.refl [] w).drewN _) (by simp) (by simp) (by simp), (Upd.refl _ w).drewN _⟩
  · have hah := hst.resolve_left h0
    have hp : par i < A.length := by unfold par; omega
    obtain ⟨x0, x1⟩ := item_cells (g := g) h.row hi
    obtain ⟨y0, y1⟩ := item_cells (g := g) h.row hp
    have e0 : ((i : Int) == 0) = false := by simp; omega
    have e1 : ((i : Int) - 1) / 2 = ((par i : Nat) : Int) := by unfold par; omega
    have p0 : (0 : Int) ≤ (i : Int) - 1 := by omega
    obtain ⟨xi, hxi⟩ : ∃ x, atI A i = x := ⟨_, rfl⟩
    obtain ⟨xp, hxp⟩ : ∃ x, atI A (par i) = x := ⟨_, rfl⟩
    rw [hxi] at x0 x1
    rw [hxp] at y0 y1
    rw [hxi, hxp] at hah
    have HA := Lib.hid hah
    obtain ⟨q, hq⟩ : ∃ q, par i = q := ⟨_, rfl⟩
    rw [hq] at y0 y1 hp e1
    obtain ⟨n, hn⟩ : ∃ n, A.length = n := ⟨_, rfl⟩
    rw [hn] at c0 hi small hp
    have b1 : (i : Int) < (n : Int) := by omega
    have b2 : (q : Int) < (n : Int) := by omega
    clear hxi hxp hah h hst hq hn h0
    have E1 := Lib.hid e1
    clear e1
    go_enter Try.func34, Try.ntmps34
    go_wp2
    rw [E1.out]
    go_region_held3 (fun w' => Upd [] w w' ∧ ∀ (b o : Nat), b < w.heap.size → b ∉ ([] : List Nat) → w'.cell? ⟨b, o, none⟩ = w.cell? ⟨b, o, none⟩)
      (first | exact Held.init _ _ | exact Held.step (by assumption) hB) (first | (go_at_call 41; refine (ahead_any xi xp _).mono ?_; rintro e w' ⟨rfl, hB⟩; rw [HA.out]))
    go_wp2
    go_ret2
    exact ⟨rfl, HH.out.upd ((Upd.refl [] w).drew.trans hB) (by simp) (by simp) (by simp), ((Upd.refl _ w).drew.trans hB.nil)⟩

set_option maxHeartbeats 4000000 in
theorem up_go (hb g cap mb : Nat) (A : List It) (i : Nat) (w : World) (h : HpAt w hb (some ⟨g, 0, none⟩) cap mb A) (hi : i < A.length) (h0 : i ≠ 0) (hah : ahead (atI A i) (atI A (par i)) = true) :
    Calls Try.prog 34 #[.pointer (some ⟨hb, 0, none⟩), .int .i64 i] w (StepTo w hb g cap mb (swp A i (par i)) (par i) true) := by
  have HH := Lib.hid h
  have c0 := h.top.cell (j := 0) rfl
  have lh := h.top.lt
  have lg := Row.lt (g := g) h.row
  have small := h.small
  have hp : par i < A.length := by unfold par; omega
  have hne : i ≠ par i := by unfold par; omega
  have hi' := hi
  have hp' := hp
  obtain ⟨x0, x1⟩ := item_cells (g := g) h.row hi
  obtain ⟨y0, y1⟩ := item_cells (g := g) h.row hp
  have e0 : ((i : Int) == 0) = false := by simp; omega
  have e1 : ((i : Int) - 1) / 2 = ((par i : Nat) : Int) := by unfold par; omega
  have p0 : (0 : Int) ≤ (i : Int) - 1 := by omega
  obtain ⟨xi, hxi⟩ : ∃ x, atI A i = x := ⟨_, rfl⟩
  obtain ⟨xp, hxp⟩ : ∃ x, atI A (par i) = x := ⟨_, rfl⟩
  rw [hxi] at x0 x1
  rw [hxp] at y0 y1
  rw [hxi, hxp] at hah
  have HA := Lib.hid hah
  obtain ⟨q, hq⟩ : ∃ q, par i = q := ⟨_, rfl⟩
  rw [hq] at y0 y1 hp e1 hp' hne ⊢
  obtain ⟨n, hn⟩ : ∃ n, A.length = n := ⟨_, rfl⟩
  rw [hn] at c0 hi small hp
  have b1 : (i : Int) < (n : Int) := by omega
  have b2 : (q : Int) < (n : Int) := by omega
  have E1 := Lib.hid e1
  have HI := Lib.hid hi'
  have HP := Lib.hid hp'
  clear hxi hxp hah h hq hn e1 hi' hp'
  go_enter Try.func34, Try.ntmps34
  go_wp2
  rw [E1.out]
  go_region_held3 (fun w' => Upd [] w w' ∧ ∀ (b o : Nat), b < w.heap.size → b ∉ ([] : List Nat) → w'.cell? ⟨b, o, none⟩ = w.cell? ⟨b, o, none⟩)
    (first | exact Held.init _ _ | exact Held.step (by assumption) hB) (first | (go_at_call 41; refine (ahead_any xi xp _).mono ?_; rintro e w' ⟨rfl, hB⟩; rw [HA.out]))
  have hU := Lib.hid ((Upd.refl [] w).drew.trans hB)
  go_wp2_with (go_at_call 36; refine (swap_ne hb g cap mb A i q _ (HH.out.upd hU.out (by simp) (by simp) (by simp)) HI.out HP.out hne).mono ?_; rintro e w3 ⟨rfl, hH3, hU3⟩)
  go_ret2
  exact ⟨rfl, hH3, hU.out.nil.trans hU3⟩
end Go.Proofs.Ytilibinmbmgedaa
