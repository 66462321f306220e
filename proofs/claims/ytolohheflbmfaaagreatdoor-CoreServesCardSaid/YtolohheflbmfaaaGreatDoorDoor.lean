/-
  The library's table as the rows' condition lists it. No condition.
-/
import Derived.Test.YtolohheflbmfaaaGreatDoorPB
import Derived.Test.YtolohheflbmfaaaGreatDoorLaysB
import Derived.ProofKit
import Derived.LaidMore
import Derived.OpenShut
import Derived.Stop.Joined
set_option linter.unusedVariables false
set_option linter.unusedSimpArgs false
namespace Go.Proofs.YtolohheflbmfaaaGreatDoor
open Go.ChangeShapes Go.WideShapes Go.ChangeAt Go.RowKit

def laid1 {H : Type} : List (String × DataW H) := [("math/bits.deBruijn64tab", Rows.laid_math_bits_deBruijn64tab)]
theorem gTab : Tryz.prog.globalNamed "math/bits.deBruijn64tab" = some 0 := by kernel_rfl
theorem tTab : (Tryz.prog.globals[0]?).map (·.type) = some 197 := by kernel_rfl
theorem cTab : Tryz.prog.cellsOf 5 = 1 := by kernel_rfl
theorem laid_list {H : Type} : (Rows.laid_math_bits_deBruijn64tab : DataW H) = .agg (Lib.deBruijn64tab.map fun (n : Nat) => .lit (.int .u8 (n : Int))) := rfl
theorem door_met (os : Os) (args : Array Value) : laidMetH Tryz.prog laid1 ((World.doorLaid Tryz.prog 400 os).forCall (fun _ _ => 0) ⟨#[], args, []⟩).memory :=
  laidMetH_of_parts3 (fuel := 8) (laidMet_of_run' 8 (by kernel_rfl) (by kernel_rfl)) (by kernel_rfl) (by kernel_rfl)

theorem of_laid {W : World} (h : laidMetH Tryz.prog laid1 W) : TabAt 0 Lib.deBruijn64tab W := by
  rw [MakeChecks.laidMetH_plain _ _ _ (by kernel_rfl)] at h
  obtain ⟨ps, ⟨g0, t0, cs0, f0, p0, q0, hg0, ht0, hv0, hd0, _, _⟩, _, _⟩ := h
  obtain rfl := Option.some.inj (gTab.symm.trans hg0)
  obtain rfl := Option.some.inj (tTab.symm.trans ht0)
  obtain ⟨xs, m1, rfl, hx1, hlen, hn3, hel⟩ := DataW.trod_array Tryz.underlying197 hd0
  rw [cTab] at hel
  simp only [Prod.mk.injEq] at hx1
  have hx := hx1.1
  rw [laid_list] at hx
  simp only [DataW.agg.injEq] at hx
  intro j hj
  have hj64 : j < 64 := by simpa [Lib.deBruijn64tab] using hj
  have h1 := hel j hj64
  have hxl : j < xs.length := by omega
  rw [List.getElem?_eq_getElem hxl] at h1
  obtain ⟨k, e1, e2, _⟩ := DataW.trod_int Tryz.underlying5 h1
  have h2 := congrArg (fun l => l[j]?) hx
  simp only [List.getElem?_map, List.getElem?_eq_getElem hxl, List.getElem?_eq_getElem hj, Option.map_some, e2, Option.some.injEq] at h2
  have h3 : (k : Int) = ((Lib.deBruijn64tab[j]'hj : Nat) : Int) := by
    simp at h2
    exact h2.symm
  have h4 := World.var?_cell hg0 hv0 j
  rw [h4]
  have h5 : cs0.toList[j]? = some (.int .u8 k) := by
    have h6 := congrArg (fun l => l[0]?) e1
    simp only [Nat.mul_one, List.getElem?_take, List.getElem?_drop] at h6
    simpa using h6
  rw [Array.getElem?_toList] at h5
  rw [h5, h3, List.getD_eq_getElem?_getD, List.getElem?_eq_getElem hj]
  rfl
end Go.Proofs.YtolohheflbmfaaaGreatDoor
