/-
  A shard's Has leaves the world as it is. No condition.
-/
import Derived.Test.YtkepeolbpgnlbaaGreatDoorSg
set_option linter.unusedVariables false
set_option linter.unusedSimpArgs false
namespace Go.Proofs.YtkepeolbpgnlbaaGreatDoor
open Go.RowKit

theorem has_quiet (hb : Nat) (ao : Option Addr) (cap mb : Nat) (A : List It) (id : Int) (w : World) (h : HpAt w hb ao cap mb A) :
    Calls Tryz.prog 76 #[.pointer (some ⟨hb, 0, none⟩), .int .i64 id] w (fun e w' => e = .returned (.bool (hasI A id)) ∧ w = w') := by
  have c1 := h.top.cell (j := 1) rfl
  obtain ⟨M, hM, hMn, hMi⟩ := h.map
  have hl := hM.look (P := Tryz.prog) underlyingIntMap underlyingInt zeroInt id true
  rw [look_has hMi] at hl
  simp only [if_true] at hl
  obtain ⟨v, hv⟩ : ∃ v, (lookM M id).getD (.int .i64 0) = v := ⟨_, rfl⟩
  rw [hv] at hl
  obtain ⟨b, hbb⟩ : ∃ b, hasI A id = b := ⟨_, rfl⟩
  rw [hbb] at hl ⊢
  clear h hM hMn hMi hv hbb
  go_enter Tryz.func76, Tryz.ntmps76
  go_wp2
  go_ret
  exact ⟨rfl, rfl⟩
theorem HG.has_q {W w : World} {hb : Nat} {L : List It} {fp : List Nat} (h : HG W hb L fp w) (id : Int) :
    Calls Tryz.prog 76 #[.pointer (some ⟨hb, 0, none⟩), .int .i64 id] w (fun e w' => e = .returned (.bool (hasI L id)) ∧ w = w') := by
  obtain ⟨⟨ao, cap, mb, A, h1, h2, h3, h4, h5⟩, _⟩ := h
  rw [← hasI_perm h3]
  exact has_quiet hb ao cap mb A id w h1
section
variable {W w : World} {sb wb hb base wd : Nat} {A B : List It} {fw fh : List Nat}
theorem SAt.has_q (h : SAt W w sb wb hb base wd A B fw fh) (id : Int) : Calls Tryz.prog 64 #[.pointer (some ⟨sb, 0, none⟩), .int .i64 id] w (fun e w' => e = .returned (.bool (hasI (A ++ B) id)) ∧ w = w') := by
  obtain ⟨width, p0, p1, p2, -, ls⟩ := h.cells
  rw [hasI_app]
  have HH := Lib.hid h
  cases ha : hasI A id with
  | true =>
    have HA := Lib.hid ha
    clear h ha
    go_enter Tryz.func64, Tryz.ntmps64
    go_wp2_with fail
    refine (HH.out.whl.has id).mono ?_
    rintro e w2 ⟨rfl, rfl⟩
    rw [HA.out]
    go_wp2
    go_ret
    exact ⟨rfl, rfl⟩
  | false =>
    have HA := Lib.hid ha
    obtain ⟨r, hr⟩ : ∃ r, hasI B id = r := ⟨_, rfl⟩
    have HR := Lib.hid hr
    rw [hr]
    clear h ha hr
    go_enter Tryz.func64, Tryz.ntmps64
    go_wp2_with fail
    refine (HH.out.whl.has id).mono ?_
    rintro e w2 ⟨rfl, rfl⟩
    rw [HA.out]
    go_wp2_with fail
    refine (HH.out.hp.has_q id).mono ?_
    rintro e w3 ⟨rfl, rfl⟩
    rw [HR.out]
    go_wp2
    go_ret
    exact ⟨by simp, rfl⟩
end
theorem SL.has_q {W w : World} {sb base wd : Nat} {L : List It} {F : List Nat} (h : SL W sb base wd L F w) (id : Int) : Calls Tryz.prog 64 #[.pointer (some ⟨sb, 0, none⟩), .int .i64 id] w (fun e w' => e = .returned (.bool (hasI L id)) ∧ w = w') := by
  obtain ⟨A, B, rfl, wb, hb, fw, fh, h1, h2, h3, rfl⟩ := h; exact h1.has_q id
end Go.Proofs.YtkepeolbpgnlbaaGreatDoor
