/-
  The walks of the statements' Ready and Plan: some calls, some plan. No condition.
-/
import Derived.Test.YtfeobcmcellcpaaGreatMp
set_option linter.unusedVariables false
set_option linter.unusedSimpArgs false
namespace Go.Proofs.YtfeobcmcellcpaaGreat
open Go.RowKit

theorem underlyingCalls_ : Tryz.prog.underlying 26 = some (.slice 46) := by kernel_rfl
theorem infoCall_ : (Tryz.prog.info? 46).map (fun i => (i.zero, i.size, i.bytes)) = some (some (.agg #[.int .i64 0, .int .i64 0, .int .i64 0, .int .i64 0]), 4, 32) := by kernel_rfl
theorem underlyingLists_ : Tryz.prog.underlying 27 = some (.slice 26) := by kernel_rfl
theorem infoCallS_ : (Tryz.prog.info? 26).map (fun i => (i.zero, i.size, i.bytes)) = some (some (.slice none 0 0), 1, 24) := by kernel_rfl

/-- A list of calls that has been built. -/
structure ClRow (w wr : World) (ao : Option Addr) (n cap : Nat) (L : List Cl) : Prop where
  row : RowO wr 46 4 ao n cap (L.flatMap clVs)
  len : L.length = n
  new : ∀ c ∈ blkO ao, w.heap.size ≤ c
  up : Upd [] w wr
theorem ClRow.nil (w : World) : ClRow w w none 0 0 [] := ⟨RowO.nil _ _ _, rfl, fun c hc => (by cases hc), Upd.refl _ _⟩
theorem ClRow.upd {w wr w' : World} {ao : Option Addr} {n cap : Nat} {L : List Cl} (h : ClRow w wr ao n cap L) (hu : Upd [] wr w') : ClRow w w' ao n cap L := ⟨h.row.upd hu (by simp), h.len, h.new, h.up.trans hu⟩
theorem ClRow.push {w wr w' : World} {ao ao' : Option Addr} {n cap cap' : Nat} {L : List Cl} {c : Cl} (h : ClRow w wr ao n cap L) (hA : Apped wr 46 4 ao (n + 1) (L.flatMap clVs ++ clVs c) ao' cap' w') : ClRow w w' ao' (n + 1) cap' (L ++ [c]) := by
  have hs := h.up.size
  refine ⟨by rw [List.flatMap_append]; simpa using hA.row, by rw [List.length_append, h.len]; rfl, fun x hx => ?_, h.up.then hA.upd (fun _ _ h => h) (fun i hi hm => by have := h.new i hm; omega)⟩
  rcases hA.at_ x hx with h3 | h3
  · exact h.new x h3
  · omega

/-- A call appended, at the operation. -/
def RdAt (w : World) (m : Nat) (lv iv : Value) (wr : World) : Prop := ∃ (i : Nat) (ao : Option Addr) (cap : Nat) (L : List Cl), iv = .int .i64 i ∧ lv = .slice ao i cap ∧ i ≤ m ∧ ClRow w wr ao i cap L
def RdTo (w : World) (m : Nat) (e : Ending) (w' : World) : Prop := ∃ ao cap L, e = .returned (.slice ao m cap) ∧ ClRow w w' ao m cap L

set_option maxRecDepth 100000 in
set_option maxHeartbeats 8000000 in
theorem pready_some (w : World) : Calls Tryz.prog 50 #[.int .i64 3] w (RdTo w 3) := by
  go_enter Tryz.func50, Tryz.ntmps50
  go_wp2_with fail
  go_loopw [3, 4] (fun lv iv wr => RdAt w 3 lv iv wr) (fun _ iv _ => 3 - (intOf iv).toNat)
  case atStart => exact ⟨0, none, 0, [], rfl, rfl, Nat.zero_le _, ClRow.nil _⟩
  case round =>
    obtain ⟨i, ao, cap, L, rfl, rfl, hi, hr⟩ := hrel
    have HR := Lib.hid hr
    clear hr
    by_cases hlt : i < 3
    · have t1 : decide (i < 3) = true := by simp [hlt]
      have t2 : decide ((i : Int) < 3) = true := by simp; omega
      have b1 : (i : Int) < 3 := by omega
      obtain ⟨i0, hi0, hz0, hz1, hz2⟩ := info_parts infoCall_
      obtain ⟨v3, hv3⟩ : ∃ y, wr.alloc (.cells #[.int .i64 1, .int .i64 i, .int .i64 (1 + (i : Int)), .int .i64 (2 + (i : Int) % 2)] 46) = y := ⟨_, rfl⟩
      have q3 : Upd [] wr v3 := by rw [← hv3]; exact (Upd.refl [] wr).alloc _
      have HSRC : Hid (Src v3 4 (some ⟨wr.heap.size, 0, none⟩) 1 (clVs ⟨1, i, 1 + (i : Int), 2 + (i : Int) % 2⟩)) := by unfold Hid; rw [← hv3]; exact one_src wr 46 (clVs ⟨1, i, 1 + (i : Int), 2 + (i : Int) % 2⟩) (clVs_one _) 4 rfl
      have HR3 := Lib.hid (HR.out.upd q3)
      have HBD : Hid (i + 1 ≤ maxLen ∧ (i + 1) * 32 ≤ 140737488355328) := ⟨by unfold maxLen; omega, by omega⟩
      clear q3
      go_wp2_with (at_builtin; (refine wpList_app2 _ (by rfl) _ _ _ (by rfl) 46 i0 _ 4 32 underlyingCalls_ hi0 hz0 hz1 hz2 rfl (by omega) ao i cap (L.flatMap clVs) (by rfl) HR3.out.row (some ⟨wr.heap.size, 0, none⟩) 1 1 (clVs ⟨1, i, 1 + (i : Int), 2 + (i : Int) % 2⟩) (by rfl) HSRC.out HBD.out.1 HBD.out.2 ?_); (intro ao3 cap3 w7 hA3; have HA3 := Lib.hid hA3; clear hA3))
      exact ⟨⟨i + 1, ao3, cap3, _, by congr 1, rfl, by omega, HR3.out.push HA3.out⟩, by first | (simp [intOf]; done) | (simp [intOf]; omega)⟩
    · have t1 : decide (i < 3) = false := by simp; omega
      have t2 : decide ((i : Int) < 3) = false := by simp; omega
      have h3 : i = 3 := by omega
      subst h3
      go_wp2
      go_ret
      exact ⟨ao, cap, L, rfl, HR.out⟩
end Go.Proofs.YtfeobcmcellcpaaGreat
