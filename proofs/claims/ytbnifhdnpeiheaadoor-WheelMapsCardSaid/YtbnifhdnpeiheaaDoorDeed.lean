/-
  The walks of a deed's What and Name. No condition.
-/
import Derived.Test.YtbnifhdnpeiheaaDoorPlay
set_option linter.unusedVariables false
set_option linter.unusedSimpArgs false
namespace Go.Proofs.YtbnifhdnpeiheaaDoor
open Go.RowKit

theorem what_any (k key id n : Int) (h : 0 < n) (h2 : n ≤ 9223372036854775807) (w : World) : Calls Tryd.prog 30 #[.agg #[.int .i64 k, .int .u64 key, .int .i64 id], .int .i64 n] w (RetUpd [] w (.int .i64 (modI k n))) := by
  go_enter Tryd.func30, Tryd.ntmps30
  go_wp2_with fail
  refine (mod_any k n h h2 _).mono ?_
  rintro e w2 ⟨rfl, rfl⟩
  go_wp2
  go_ret
  exact ⟨rfl, (Upd.refl _ w).alloc _⟩

def nameI (id : Int) : Int := if modI id 19 = 18 then id else modI id 9

set_option maxHeartbeats 800000 in
theorem name_any (k key id : Int) (w : World) : Calls Tryd.prog 53 #[.agg #[.int .i64 k, .int .u64 key, .int .i64 id]] w (RetUpd [] w (.int .i64 (nameI id))) := by
  obtain ⟨r, hr⟩ : ∃ r, nameI id = r := ⟨_, rfl⟩
  rw [hr]
  obtain ⟨m, hm⟩ : ∃ m, modI id 19 = m := ⟨_, rfl⟩
  have HR := Lib.hid hr
  have HM := Lib.hid hm
  clear hr hm
  by_cases h : m = 18
  · have hb : (m == 18) = true := by simp [h]
    have HK : Hid (id = r) := by unfold Hid; have := HR.out; unfold nameI at this; rw [HM.out, if_pos h] at this; exact this
    clear h
    go_enter Tryd.func53, Tryd.ntmps53
    go_wp2_with fail
    refine (mod_any id 19 (by omega) (by omega) _).mono ?_
    rintro e w2 ⟨rfl, rfl⟩
    rw [HM.out]
    go_wp2
    go_ret
    exact ⟨ret_int HK.out, (Upd.refl _ w).alloc _⟩
  · have hb : (m == 18) = false := by simp [h]
    have HK : Hid (modI id 9 = r) := by unfold Hid; have := HR.out; unfold nameI at this; rw [HM.out, if_neg h] at this; exact this
    clear h
    go_enter Tryd.func53, Tryd.ntmps53
    go_wp2_with fail
    refine (mod_any id 19 (by omega) (by omega) _).mono ?_
    rintro e w2 ⟨rfl, rfl⟩
    rw [HM.out]
    go_wp2_with fail
    refine (mod_any id 9 (by omega) (by omega) _).mono ?_
    rintro e w3 ⟨rfl, rfl⟩
    go_wp2
    go_ret
    exact ⟨ret_int HK.out, (Upd.refl _ w).alloc _⟩

/-- An item in a variable of its own. -/
def ItemVar (w' : World) (x : It) (s : Value) (wx : World) : Prop :=
  ∃ g : Nat, s = .pointer (some ⟨g, 0, none⟩) ∧ w'.heap.size ≤ g ∧ g < wx.heap.size ∧ wx.cell? ⟨g, 0, none⟩ = some (.int .u64 x.1) ∧ wx.cell? ⟨g, 1, none⟩ = some (.int .i64 x.2) ∧ Upd [] w' wx
end Go.Proofs.YtbnifhdnpeiheaaDoor
