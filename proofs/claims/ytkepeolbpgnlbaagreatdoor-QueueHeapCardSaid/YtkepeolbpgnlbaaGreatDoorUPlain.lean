/-
  The walks of Plain at uint64. No condition.
-/
import Derived.Test.YtkepeolbpgnlbaaGreatDoorPB
set_option linter.unusedVariables false
set_option linter.unusedSimpArgs false
namespace Go.Proofs.YtkepeolbpgnlbaaGreatDoor
open Go.RowKit

/-- A row of numbers. -/
def uVs (L : List Int) : List Value := L.map (Value.int .u64)
theorem uVs_get {L : List Int} {i : Nat} (h : i < L.length) : (uVs L)[i]? = some (.int .u64 (L.getD i 0)) := by
  unfold uVs; rw [List.getElem?_map, List.getD_eq_getElem?_getD, List.getElem?_eq_getElem h]; rfl
theorem RowO.u64 {w : World} {ao : Option Addr} {n cap : Nat} {L : List Int} (h : RowO w 29 1 ao n cap (uVs L)) (hn : L.length = n) {i : Nat} (hi : i < n) :
    ∃ g, ao = some ⟨g, 0, none⟩ ∧ g < w.heap.size ∧ w.cell? ⟨g, i, none⟩ = some (.int .u64 (L.getD i 0)) := by
  obtain ⟨g, rfl, hr⟩ := h.row (by omega)
  exact ⟨g, rfl, hr.lt, hr.cell (uVs_get (by omega))⟩
theorem uplainf_any (x : Int) (w : World) :
    Calls Tryz.prog 55 #[.int .u64 x, .int .u64 x] w (fun e w' => e = .returned (.bool true) ∧ w = w') := by
  go_enter Tryz.func55, Tryz.ntmps55
  go_wp2
  go_ret
  exact ⟨rfl, rfl⟩
def USameAt (w : World) (n : Nat) (iv : Value) (wr : World) : Prop := ∃ i : Nat, iv = .int .i64 i ∧ i ≤ n ∧ Upd [] w wr

set_option maxHeartbeats 4000000 in
theorem usame_any (ao1 ao2 : Option Addr) (n cap1 cap2 : Nat) (L : List Int) (w : World) (hn : L.length = n) (hs : n ≤ 1000) (h1 : RowO w 29 1 ao1 n cap1 (uVs L)) (h2 : RowO w 29 1 ao2 n cap2 (uVs L)) :
    Calls Tryz.prog 54 #[.slice ao1 n cap1, .slice ao2 n cap2, .func (.func 55) #[] #[]] w (RetUpd [] w (.bool true)) := by
  have HN := Lib.hid hn
  have H1 := Lib.hid h1
  have H2 := Lib.hid h2
  clear hn h1 h2
  go_enter Tryz.func54, Tryz.ntmps54
  go_wp2
  go_loopw [7] (fun iv wr => USameAt w n iv wr) (fun iv _ => n - (intOf iv).toNat)
  case atStart => exact ⟨0, rfl, by omega, Upd.refl _ _⟩
  case round =>
    obtain ⟨i, rfl, hi, hU⟩ := hrel
    have HU := Lib.hid hU
    clear hU
    by_cases hlt : i < n
    · have t1 : decide (i < n) = true := by simp [hlt]
      have b1 : (i : Int) < (n : Int) := by omega
      obtain ⟨g1, hg1, l1, x0⟩ := (H1.out.upd HU.out (by simp)).u64 HN.out hlt
      obtain ⟨g2, hg2, l2, y0⟩ := (H2.out.upd HU.out (by simp)).u64 HN.out hlt
      subst hg1 hg2
      obtain ⟨x, hx⟩ : ∃ x, L.getD i 0 = x := ⟨_, rfl⟩
      rw [hx] at x0 y0
      clear hx
      go_wp2
      go_quiet (first | (go_at_call 55; exact Calls.quiet_of_same ((uplainf_any x _).mono (fun _ _ h => ⟨h.1, h.2.symm⟩))))
      have hU2 := HU.out.trans ((Upd.refl [] wr).drewN nq)
      go_wp2
      exact ⟨⟨i + 1, by congr 1, by omega, hU2⟩, by first | (simp [intOf]; done) | (simp [intOf]; omega)⟩
    · have t1 : decide (i < n) = false := by simp; omega
      go_wp2
      go_ret
      exact ⟨rfl, HU.out⟩
theorem uplain_any (ao1 ao2 : Option Addr) (n cap1 cap2 : Nat) (L : List Int) (w : World) (hn : L.length = n) (hs : n ≤ 1000) (h1 : RowO w 29 1 ao1 n cap1 (uVs L)) (h2 : RowO w 29 1 ao2 n cap2 (uVs L)) :
    Calls Tryz.prog 24 #[.slice ao1 n cap1, .slice ao2 n cap2] w (RetUpd [] w (.bool true)) := by
  have H1 := usame_any ao1 ao2 n cap1 cap2 L w hn hs h1 h2
  clear hn h1 h2
  go_enter Tryz.func24, Tryz.ntmps24
  go_wp2_with fail
  refine H1.mono ?_
  rintro e w2 ⟨rfl, hU⟩
  go_wp2
  go_ret
  exact ⟨rfl, hU⟩
end Go.Proofs.YtkepeolbpgnlbaaGreatDoor
