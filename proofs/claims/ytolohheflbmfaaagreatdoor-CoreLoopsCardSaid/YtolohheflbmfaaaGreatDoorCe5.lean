/-
  The walks of core.V, Most, Served, Items. No condition.
-/
import Derived.Test.YtolohheflbmfaaaGreatDoorCe4
set_option linter.unusedVariables false
set_option linter.unusedSimpArgs false
namespace Go.Proofs.YtolohheflbmfaaaGreatDoor
open Go.RowKit
section
variable {W w : World} {kb wd : Nat} {s : CS} {F : List Nat}
theorem KG.v_ (h : KG W kb wd s F w) : Calls Tryz.prog 23 #[.pointer (some ⟨kb, 0, none⟩)] w (fun e w' => e = .returned (.int .u64 s.v) ∧ w = w') := by
  obtain ⟨qb, tb, ob, T, O, fp, h, rfl⟩ := h
  obtain ⟨c0, c1, c2, c3, c4, c5, c6, c7, c8, c9, c10, lk⟩ := h.cells
  clear h
  go_enter Tryz.func23, Tryz.ntmps23
  go_wp2
  go_ret
  exact ⟨rfl, rfl⟩
theorem KG.most_ (h : KG W kb wd s F w) : Calls Tryz.prog 28 #[.pointer (some ⟨kb, 0, none⟩)] w (fun e w' => e = .returned (.int .u64 s.most) ∧ w = w') := by
  obtain ⟨qb, tb, ob, T, O, fp, h, rfl⟩ := h
  obtain ⟨c0, c1, c2, c3, c4, c5, c6, c7, c8, c9, c10, lk⟩ := h.cells
  clear h
  go_enter Tryz.func28, Tryz.ntmps28
  go_wp2
  go_ret
  exact ⟨rfl, rfl⟩
theorem KG.served_ (h : KG W kb wd s F w) : Calls Tryz.prog 24 #[.pointer (some ⟨kb, 0, none⟩)] w (fun e w' => e = .returned (.int .i64 s.served) ∧ w = w') := by
  obtain ⟨qb, tb, ob, T, O, fp, h, rfl⟩ := h
  obtain ⟨c0, c1, c2, c3, c4, c5, c6, c7, c8, c9, c10, lk⟩ := h.cells
  clear h
  go_enter Tryz.func24, Tryz.ntmps24
  go_wp2
  go_ret
  exact ⟨rfl, rfl⟩
theorem KG.items_ (h : KG W kb wd s F w) (hsm : s.L.length ≤ 1000) : Calls Tryz.prog 22 #[.pointer (some ⟨kb, 0, none⟩)] w (Told w s.L []) := by
  obtain ⟨qb, tb, ob, T, O, fp, h, rfl⟩ := h
  obtain ⟨c0, c1, c2, c3, c4, c5, c6, c7, c8, c9, c10, lk⟩ := h.cells
  have HQ := Lib.hid (h.q.all hsm)
  clear h
  unfold mval at c2
  go_enter Tryz.func22, Tryz.ntmps22
  go_wp2_with fail
  refine HQ.out.mono ?_
  rintro e w' hT
  have HT := Lib.hid hT
  obtain ⟨ao, cap, rfl, -, -, -⟩ := hT
  go_wp2
  go_ret
  exact HT.out
end
end Go.Proofs.YtolohheflbmfaaaGreatDoor
