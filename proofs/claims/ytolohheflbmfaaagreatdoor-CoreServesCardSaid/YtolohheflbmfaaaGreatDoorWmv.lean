/-
  A wheel's base that goes on, or not. No condition.
-/
import Derived.Test.YtolohheflbmfaaaGreatDoorPX
set_option linter.unusedVariables false
set_option linter.unusedSimpArgs false
namespace Go.Proofs.YtolohheflbmfaaaGreatDoor
open Go.RowKit

/-- A move that is not taken. -/
theorem WG.move_no {W w : World} {wb base wd : Nat} {L : List It} {fp : List Nat} (h : WG W wb base wd L fp w) (t0 : Nat) (ht : t0 < 18446744073709551616) (hm : movB base L t0 = false) :
    Calls Tryz.prog 108 #[.pointer (some ⟨wb, 0, none⟩), .int .u64 t0] w (fun e w' => e = .returned (.bool false) ∧ WGTo W wb base wd L fp w w') := by
  refine (h.move t0 ht).mono ?_
  rintro e w' ⟨rfl, h1⟩
  rw [hm] at h1 ⊢
  rw [if_neg (by simp)] at h1
  exact ⟨rfl, h1⟩
theorem WG.move_yes {W w : World} {wb base wd : Nat} {L : List It} {fp : List Nat} (h : WG W wb base wd L fp w) (t0 : Nat) (ht : t0 < 18446744073709551616) (hm : movB base L t0 = true) :
    Calls Tryz.prog 108 #[.pointer (some ⟨wb, 0, none⟩), .int .u64 t0] w (fun e w' => e = .returned (.bool true) ∧ WGTo W wb t0 wd L fp w w') := by
  refine (h.move t0 ht).mono ?_
  rintro e w' ⟨rfl, h1⟩
  rw [hm] at h1 ⊢
  rw [if_pos rfl] at h1
  exact ⟨rfl, h1⟩
end Go.Proofs.YtolohheflbmfaaaGreatDoor
