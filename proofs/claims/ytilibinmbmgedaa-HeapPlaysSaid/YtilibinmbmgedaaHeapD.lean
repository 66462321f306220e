/-
  The walk of the heap's down, where it stays. No condition.
-/
import Derived.Test.YtilibinmbmgedaaHeapC
namespace Go.Proofs.Ytilibinmbmgedaa
open Go.RowKit

/-- How far the look at the two below i has come. -/
def LookAt (A : List It) (hb g cap mb i : Nat) (w : World) (lv kv : Value) (wr : World) : Prop :=
  ∃ l k : Nat, lv = .int .i64 l ∧ kv = .int .i64 k ∧ Upd [] w wr ∧ ((k = 2 * i + 1 ∧ l = i) ∨ (k = 2 * i + 2 ∧ l = lst1 A i) ∨ (k = 2 * i + 3 ∧ l = lst A i))

theorem look_end {A : List It} {i l k : Nat} (_hi : i < A.length) (h : (k = 2 * i + 1 ∧ l = i) ∨ (k = 2 * i + 2 ∧ l = lst1 A i) ∨ (k = 2 * i + 3 ∧ l = lst A i)) (hk : ¬ (k ≤ 2 * i + 2 ∧ k < A.length)) : l = lst A i := by
  rcases h with ⟨rfl, rfl⟩ | ⟨rfl, rfl⟩ | ⟨rfl, rfl⟩
  · unfold lst lst1
    rw [if_neg (show ¬ (2 * l + 1 < A.length ∧ _) by omega), if_neg (by omega)]
  · unfold lst; rw [if_neg (by omega)]
  · rfl
theorem look_step {A : List It} {i l k : Nat} (h : (k = 2 * i + 1 ∧ l = i) ∨ (k = 2 * i + 2 ∧ l = lst1 A i) ∨ (k = 2 * i + 3 ∧ l = lst A i)) (hk : k ≤ 2 * i + 2 ∧ k < A.length) {b : Bool} (hb : ahead (atI A k) (atI A l) = b) :
    (k + 1 = 2 * i + 1 ∧ (if b = true then k else l) = i) ∨ (k + 1 = 2 * i + 2 ∧ (if b = true then k else l) = lst1 A i) ∨ (k + 1 = 2 * i + 3 ∧ (if b = true then k else l) = lst A i) := by
  rcases h with ⟨rfl, rfl⟩ | ⟨rfl, rfl⟩ | ⟨rfl, rfl⟩
  · right; left
    refine ⟨by omega, ?_⟩
    unfold lst1
    cases b with
    | true => rw [if_pos rfl, if_pos ⟨hk.2, hb⟩]
    | false => rw [if_neg (by simp), if_neg (by rw [hb]; simp)]
  · right; right
    refine ⟨by omega, ?_⟩
    unfold lst
    cases b with
    | true => rw [if_pos rfl, if_pos ⟨hk.2, hb⟩]
    | false => rw [if_neg (by simp), if_neg (by rw [hb]; simp)]
  · omega
theorem look_lt {A : List It} {i l k : Nat} (hi : i < A.length) (h : (k = 2 * i + 1 ∧ l = i) ∨ (k = 2 * i + 2 ∧ l = lst1 A i) ∨ (k = 2 * i + 3 ∧ l = lst A i)) : l < A.length := by
  rcases h with ⟨_, rfl⟩ | ⟨_, rfl⟩ | ⟨_, rfl⟩
  · exact hi
  · exact (lst1_lt A i hi).1
  · exact (lst_lt A i hi).1

/-- What down leaves. -/
def DownTo (w : World) (hb g cap mb : Nat) (A : List It) (i : Nat) (e : Ending) (w' : World) : Prop :=
  (lst A i = i ∧ StepTo w hb g cap mb A i false e w') ∨ (lst A i ≠ i ∧ StepTo w hb g cap mb (swp A i (lst A i)) (lst A i) true e w')

set_option maxHeartbeats 16000000 in
theorem down_any (hb g cap mb : Nat) (A : List It) (i : Nat) (w : World) (h : HpAt w hb (some ⟨g, 0, none⟩) cap mb A) (hi : i < A.length) :
    Calls Try.prog 37 #[.pointer (some ⟨hb, 0, none⟩), .int .i64 i] w (DownTo w hb g cap mb A i) := by
  have HH := Lib.hid h
  have c0 := h.top.cell (j := 0) rfl
  have lh := h.top.lt
  have lg := Row.lt (g := g) h.row
  have small := h.small
  have HI := Lib.hid hi
  obtain ⟨n, hn⟩ : ∃ n, A.length = n := ⟨_, rfl⟩
  rw [hn] at c0 hi small
  have HN := Lib.hid hn
  clear h hn
  go_enter Try.func37, Try.ntmps37
  go_wp2
  go_loopw [6, 7] (fun lv kv wr => LookAt A hb g cap mb i w lv kv wr) (fun _ kv _ => 2 * i + 3 - (intOf kv).toNat)
  case atStart => exact ⟨i, 2 * i + 1, rfl, by congr 1, Upd.refl _ _, .inl ⟨rfl, rfl⟩⟩
  case round =>
    obtain ⟨l, k, rfl, rfl, hU, hc⟩ := hrel
    have HC := Lib.hid hc
    have HU := Lib.hid hU
    have hk3 : k ≤ 2 * i + 3 := by omega
    have d0 : wr.cell? ⟨hb, 0, none⟩ = some (.slice (some ⟨g, 0, none⟩) n cap) := by rw [hU.cell lh (by simp)]; exact c0
    have lhw := Nat.lt_of_lt_of_le lh hU.size
    have lgw := Nat.lt_of_lt_of_le lg hU.size
    have hln : l < n := by rw [← HN.out]; exact look_lt HI.out hc
    clear hc hU
    by_cases hk : k ≤ 2 * i + 2 ∧ k < n
    · have HHw := Lib.hid (HH.out.upd HU.out (by simp) (by simp) (by simp))
      obtain ⟨x0, x1⟩ := item_cells (g := g) HHw.out.row (i := k) (by rw [HN.out]; exact hk.2)
      obtain ⟨y0, y1⟩ := item_cells (g := g) HHw.out.row (i := l) (by rw [HN.out]; exact hln)
      obtain ⟨xk, hxk⟩ : ∃ x, atI A k = x := ⟨_, rfl⟩
      obtain ⟨xl, hxl⟩ : ∃ x, atI A l = x := ⟨_, rfl⟩
      rw [hxk] at x0 x1
      rw [hxl] at y0 y1
      have HXK := Lib.hid hxk
      have HXL := Lib.hid hxl
      have HK := Lib.hid hk
      have g1 : decide ((k : Int) ≤ 2 * (i : Int) + 2) = true := by simp; omega
      have g2 : decide (k < n) = true := by simp; omega
      have b1 : (k : Int) < (n : Int) := by omega
      have b2 : (l : Int) < (n : Int) := by omega
      clear hxk hxl hk
      go_wp2
      go_region_held3 (fun w' => Upd [] wr w' ∧ ∀ (b o : Nat), b < wr.heap.size → b ∉ ([] : List Nat) → w'.cell? ⟨b, o, none⟩ = wr.cell? ⟨b, o, none⟩)
        (first | exact Held.init _ _ | exact Held.step (by assumption) hB) (first | (go_at_call 41; refine (ahead_any xk xl _).mono ?_; rintro e w' ⟨rfl, hB⟩))
      have hst := look_step HC.out (by rw [HN.out]; exact HK.out) (b := ahead xk xl) (by rw [HXK.out, HXL.out])
      have HST := Lib.hid hst
      clear hst
      cases hah : ahead xk xl <;> (have HS2 := HST.out; rw [hah] at HS2; simp at HS2; have HS3 := Lib.hid HS2; clear HS2; go_wp2)
      · exact ⟨⟨l, k + 1, rfl, by congr 1, HU.out.trans ((Upd.refl [] wr).drew.trans hB), by have := HS3.out; omega⟩, by simp [intOf]; have := HK.out; omega⟩
      · exact ⟨⟨k, k + 1, rfl, by congr 1, HU.out.trans ((Upd.refl [] wr).drew.trans hB), by have := HS3.out; omega⟩, by simp [intOf]; have := HK.out; omega⟩
    · have hl := look_end HI.out HC.out (by rw [HN.out]; exact hk)
      have HL := Lib.hid hl
      have gg : Hid (decide ((k : Int) ≤ 2 * (i : Int) + 2) = true ∧ decide (k < n) = false ∨ decide ((k : Int) ≤ 2 * (i : Int) + 2) = false) := by
        unfold Hid
        by_cases hh : k ≤ 2 * i + 2
        · exact .inl ⟨by simp; omega, by simp; omega⟩
        · exact .inr (by simp; omega)
      clear hk hl
      by_cases hli : l = i
      · have t1 : ((l : Int) == (i : Int)) = true := by simp [hli]
        have hfin : Hid (lst A i = i) := HL.out.symm.trans hli
        clear hli
        rcases gg.out with ⟨g1, g2⟩ | g1
        all_goals
          go_wp2
          go_ret2
          exact .inl ⟨hfin.out, rfl, HH.out.upd HU.out (by simp) (by simp) (by simp), HU.out.nil⟩
      · have t1 : ((l : Int) == (i : Int)) = false := by simp; omega
        have hne : i ≠ l := fun e => hli e.symm
        have hll : Hid (l < A.length) := by unfold Hid; rw [HN.out]; exact hln
        clear hli
        rcases gg.out with ⟨g1, g2⟩ | g1
        all_goals
          go_wp2_with (go_at_call 36; refine (swap_ne hb g cap mb A i l _ (HH.out.upd HU.out (by simp) (by simp) (by simp)) HI.out hll.out hne).mono ?_; rintro e w3 ⟨rfl, hH3, hU3⟩)
          go_ret2
          exact .inr ⟨by rw [← HL.out]; exact fun e => hne e.symm, by rw [← HL.out]; exact ⟨rfl, hH3, HU.out.nil.trans hU3⟩⟩
end Go.Proofs.Ytilibinmbmgedaa
