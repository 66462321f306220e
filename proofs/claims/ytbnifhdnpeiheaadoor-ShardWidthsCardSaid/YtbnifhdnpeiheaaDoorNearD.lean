/-
  A deed's Near tells one key. No condition.
-/
import Derived.Test.YtbnifhdnpeiheaaDoorPB
set_option linter.unusedVariables false
set_option linter.unusedSimpArgs false
namespace Go.Proofs.YtbnifhdnpeiheaaDoor
open Go.RowKit

def IsNear (key base k : Nat) : Prop := k < 18446744073709551616 ∧ ∀ (kind id : Int) (w : World), Calls Tryd.prog 50 #[.agg #[.int .i64 kind, .int .u64 key, .int .i64 id], .int .u64 base] w (fun e w' => e = .returned (.int .u64 k) ∧ Upd [] w w')
theorem wrap_nat (x : Int) : ((IntKind.u64.wrap x).toNat : Int) = IntKind.u64.wrap x ∧ (IntKind.u64.wrap x).toNat < 18446744073709551616 := by
  rw [IntKind.wrap_u64]; omega
theorem near_fin (x : Int) : Ending.returned (.int .u64 (IntKind.u64.wrap x)) = .returned (.int .u64 ((IntKind.u64.wrap x).toNat : Nat)) := by rw [(wrap_nat x).1]
set_option maxHeartbeats 8000000 in
theorem near_det (key base : Nat) (hk : key < 18446744073709551616) : ∃ k, IsNear key base k := by
  obtain ⟨m, hm⟩ : ∃ m, key % 6 = m := ⟨_, rfl⟩
  have hm6 : m < 6 := by omega
  have hmi : (key : Int) % 6 = (m : Int) := by omega
  have hcase : m = 0 ∨ m = 1 ∨ m = 2 ∨ m = 3 ∨ m = 4 ∨ m = 5 := by omega
  clear hm hm6
  rcases hcase with rfl | rfl | rfl | rfl | rfl | rfl
  · have HM := Lib.hid hmi
    clear hmi
    refine ⟨(IntKind.u64.wrap ((base : Int) + (key : Int) / 6 % 8)).toNat, (wrap_nat _).2, fun kind id w => ?_⟩
    go_enter Tryd.func50, Tryd.ntmps50
    go_wp2_with (simp only [HM.out])
    go_ret
    exact ⟨near_fin _, (Upd.refl [] w).alloc _⟩
  · have HM := Lib.hid hmi
    clear hmi
    refine ⟨(IntKind.u64.wrap ((base : Int) + (key : Int) / 6 % 200)).toNat, (wrap_nat _).2, fun kind id w => ?_⟩
    go_enter Tryd.func50, Tryd.ntmps50
    go_wp2_with (simp only [HM.out])
    go_ret
    exact ⟨near_fin _, (Upd.refl [] w).alloc _⟩
  · have HM := Lib.hid hmi
    clear hmi
    refine ⟨(IntKind.u64.wrap ((base : Int) + (key : Int) / 6 % 9000)).toNat, (wrap_nat _).2, fun kind id w => ?_⟩
    go_enter Tryd.func50, Tryd.ntmps50
    go_wp2_with (simp only [HM.out])
    go_ret
    exact ⟨near_fin _, (Upd.refl [] w).alloc _⟩
  · have HM := Lib.hid hmi
    clear hmi
    refine ⟨(IntKind.u64.wrap ((base : Int) + (key : Int) / 6 % 1048576)).toNat, (wrap_nat _).2, fun kind id w => ?_⟩
    go_enter Tryd.func50, Tryd.ntmps50
    go_wp2_with (simp only [HM.out])
    go_ret
    exact ⟨near_fin _, (Upd.refl [] w).alloc _⟩
  · have HM := Lib.hid hmi
    clear hmi
    refine ⟨(IntKind.u64.wrap ((base : Int) + (key : Int) / 6 % 17592186044416)).toNat, (wrap_nat _).2, fun kind id w => ?_⟩
    go_enter Tryd.func50, Tryd.ntmps50
    go_wp2_with (simp only [HM.out])
    go_ret
    exact ⟨near_fin _, (Upd.refl [] w).alloc _⟩
  · have HM := Lib.hid hmi
    clear hmi
    refine ⟨key, hk, fun kind id w => ?_⟩
    go_enter Tryd.func50, Tryd.ntmps50
    go_wp2_with (simp only [HM.out])
    go_ret
    exact ⟨rfl, (Upd.refl [] w).alloc _⟩
open Classical in
/-- The key that Near tells. -/
noncomputable def nearK (key base : Nat) : Nat := if h : ∃ k, IsNear key base k then Classical.choose h else 0
theorem near_is (key base : Nat) (hk : key < 18446744073709551616) : IsNear key base (nearK key base) := by
  unfold nearK
  rw [dif_pos (near_det key base hk)]
  exact Classical.choose_spec (near_det key base hk)
end Go.Proofs.YtbnifhdnpeiheaaDoor
