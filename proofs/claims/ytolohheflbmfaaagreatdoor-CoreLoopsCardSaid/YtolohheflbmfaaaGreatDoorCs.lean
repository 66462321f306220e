/-
  law21: looks. No condition.
-/
import Derived.Test.YtolohheflbmfaaaGreatDoorCr
set_option linter.unusedVariables false
set_option linter.unusedSimpArgs false
namespace Go.Proofs.YtolohheflbmfaaaGreatDoor
open Go.RowKit

set_option maxRecDepth 100000 in
set_option maxHeartbeats 64000000 in
theorem looks21_any {W w : World} {kb xb wd n : Nat} {s : CS} {F G : List Nat} (h : KP W kb xb wd n s F G w) (hn : n < 1000) :
    Calls Tryz.prog 16 #[.pointer (some ⟨kb, 0, none⟩), .pointer (some ⟨xb, 0, none⟩)] w (RetUpd [] w (.bool true)) := by
  have HP := Lib.hid h
  have HLN : Hid (s.L.length < 1000) := by unfold Hid; have := h.2.2.1.len; omega
  have HOK := Lib.hid h.2.2.1.ok
  obtain ⟨rb, aoL, aoP, cL, cP, R, P, at_, key, fq, hx, rfl, -, -⟩ := h.2.1
  obtain ⟨x0, x1, x2, x3, -, -, -, -, -, lx⟩ := hx.cells
  have HX := Lib.hid hx
  have HV : Hid (∀ w', Upd [] w w' → Calls Tryz.prog 23 #[.pointer (some ⟨kb, 0, none⟩)] w' (fun e w'' => e = .returned (.int .u64 s.v) ∧ w' = w'')) := fun w' hu => (HP.out.upd hu).1.v_
  have HM : Hid (∀ w', Upd [] w w' → Calls Tryz.prog 28 #[.pointer (some ⟨kb, 0, none⟩)] w' (fun e w'' => e = .returned (.int .u64 s.most) ∧ w' = w'')) := fun w' hu => (HP.out.upd hu).1.most_
  have HS : Hid (∀ w', Upd [] w w' → Calls Tryz.prog 24 #[.pointer (some ⟨kb, 0, none⟩)] w' (fun e w'' => e = .returned (.int .i64 s.served) ∧ w' = w'')) := fun w' hu => (HP.out.upd hu).1.served_
  have HI : Hid (∀ w', Upd [] w w' → Calls Tryz.prog 22 #[.pointer (some ⟨kb, 0, none⟩)] w' (Told w' s.L [])) := fun w' hu => (HP.out.upd hu).1.items_ (Nat.le_of_lt HLN.out)
  have HA : Hid (∀ w', Upd [] w w' → Calls Tryz.prog 37 #[.pointer (some ⟨rb, 0, none⟩)] w' (Told w' s.L [])) := fun w' hu => (HX.out.upd hu).q.all HOK.out HLN.out
  clear h hx hn
  go_enter Tryz.func16, Tryz.ntmps16
  go_wp2_with fail
  go_region_held3 (fun w2 => Upd [] w w2 ∧ ∀ (b o : Nat), b < w.heap.size → b ∉ ([] : List Nat) → w2.cell? ⟨b, o, none⟩ = w.cell? ⟨b, o, none⟩)
    (first | exact Held.init _ _ | exact Held.step (by assumption) hBc | exact Held.step (by assumption) hBb | exact Held.step (by assumption) hBa | assumption)
    (first | (go_at_call 23; refine (HV.out _ (Upd.refl [] w).drew).mono ?_; rintro e w5 ⟨rfl, rfl⟩) | (go_at_call 28; refine (HM.out _ (Upd.refl [] w).drew).mono ?_; rintro e w5 ⟨rfl, rfl⟩) | (go_at_call 24; refine (HS.out _ (Upd.refl [] w).drew).mono ?_; rintro e w5 ⟨rfl, rfl⟩) | (go_at_call 22; refine (HI.out _ (Upd.refl [] w).drew).mono ?_; rintro e w6 ⟨ao1, cap1, rfl, hR1, -, hBa⟩; have H6 := Lib.hid hBa; have HR1 := Lib.hid hR1; clear hR1) | (go_at_call 37; refine (HA.out _ ((Upd.refl [] w).drew.trans H6.out)).mono ?_; rintro e w7 ⟨ao2, cap2, rfl, hR2, -, hBb⟩; have H7 := Lib.hid hBb; have HR2 := Lib.hid hR2; clear hR2) | (go_at_call 29; refine (plain_any ao1 ao2 s.L.length cap1 cap2 s.L _ rfl (Nat.le_of_lt HLN.out) (HR1.out.upd H7.out (by simp)) HR2.out).mono ?_; rintro e w8 ⟨rfl, hBc⟩; have H8 := Lib.hid hBc))
  go_wp2
  go_ret
  exact ⟨rfl, ((Upd.refl [] w).drew.trans (H6.out.trans H7.out)).trans H8.out⟩
end Go.Proofs.YtolohheflbmfaaaGreatDoor
