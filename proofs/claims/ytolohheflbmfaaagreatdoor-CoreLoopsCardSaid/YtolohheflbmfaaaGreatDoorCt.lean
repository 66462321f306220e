/-
  law21: awake. Condition: where a table of the library's lies.
-/
import Derived.Test.YtolohheflbmfaaaGreatDoorCs
set_option linter.unusedVariables false
set_option linter.unusedSimpArgs false
namespace Go.Proofs.YtolohheflbmfaaaGreatDoor
open Go.RowKit

def aw0 : CS := newC (leavesOf 1)
def aw1 : CS := wakeC aw0 4 7 10
def aw2 : CS := pickC aw1
def aw3 : CS := doneC aw2 3 true
theorem aw_1 : wakeB aw0 4 7 = true := by decide +kernel
theorem aw_2 : wakeB aw1 4 7 = false := by decide +kernel
theorem aw_3 : wakeC aw1 4 7 10 = aw1 := (wakeC_false aw_2 rfl).1
theorem aw_4 : aw1.is = false := by decide +kernel
theorem aw_5 : doneC aw1 1 true = aw1 := by unfold doneC; rw [if_neg (by rw [aw_4]; simp)]
theorem aw_6 : pickV aw1 = .tuple #[.int .i64 4, .int .u64 0, .bool true] := by kernel_rfl
theorem aw_7 : aw2.is = true := by decide +kernel
theorem aw_8 : aw3.L = [(30, 7)] := by decide +kernel
theorem aw_9 : aw3.served = 1 := by decide +kernel
theorem aw_10 : aw3.most = 30 := by decide +kernel

set_option maxRecDepth 100000 in
set_option maxHeartbeats 8000000 in
theorem awake21_any (w : World) (hT : TabAt 0 Lib.deBruijn64tab w) : Calls Tryz.prog 10 #[] w (RetUpd [] w (.bool true)) := by
  have HN := Lib.hid (KG.new (Upd.refl [] w) hT 1 1 1 0 1)
  clear hT
  go_enter Tryz.func10, Tryz.ntmps10
  go_wp2_with fail
  refine HN.out.mono ?_
  rintro e w1 ⟨kb, F, rfl, h1, hU, -⟩
  have hc := CI.new h1.qok
  change KG w kb _ aw0 F w1 at h1
  change CI aw0 0 at hc
  have H1 := Lib.hid h1
  have C0 := Lib.hid hc
  have C1 : Hid (CI aw1 1) := hc.wake 4 7 (by omega)
  have HU := Lib.hid hU
  clear h1 hc hU
  go_wp2_with fail
  refine (H1.out.wake C0.out (by omega) 4 7 2 10 (by omega)).mono ?_
  rintro e w2 ⟨rfl, F2, h2, hF2⟩
  rw [aw_1]
  change KG w kb _ aw1 F2 w2 at h2
  have H2 := Lib.hid h2
  clear h2 hF2
  go_wp2_with fail
  refine (H2.out.wake C1.out (by omega) 4 7 0 10 (by omega)).mono ?_
  rintro e w3 ⟨rfl, F3, h3, hF3⟩
  rw [aw_2]
  rw [aw_3] at h3
  have H3 := Lib.hid h3
  clear h3 hF3
  go_wp2_with fail
  refine (H3.out.done C1.out (by omega) 1 (by omega) true).mono ?_
  rintro e w4 ⟨rfl, F4, h4, hF4⟩
  rw [aw_4]
  rw [aw_5] at h4
  have H4 := Lib.hid h4
  have C2 : Hid (CI aw2 2) := C1.out.pick (fun x hx => (h4.keysL x hx).2)
  clear h4 hF4
  go_wp2_with fail
  refine H4.out.pick.mono ?_
  rintro e w5 ⟨rfl, F5, h5, hF5⟩
  rw [aw_6]
  change KG w kb _ aw2 F5 w5 at h5
  have H5 := Lib.hid h5
  clear h5 hF5
  go_wp2_with fail
  refine (H5.out.done C2.out (by omega) 3 (by omega) true).mono ?_
  rintro e w6 ⟨rfl, F6, h6, hF6⟩
  rw [aw_7]
  change KG w kb _ aw3 F6 w6 at h6
  have H6 := Lib.hid h6
  clear h6 hF6
  go_wp2_with fail
  refine (H6.out.items_ (by rw [aw_8]; simp)).mono ?_
  rw [aw_8]
  rintro e w7 ⟨ao, cap, rfl, hR, -, hU7⟩
  have H7 := Lib.hid (H6.out.upd hU7)
  have uL : Upd [] w7 (w7.alloc (.cells #[.int .u64 30, .int .i64 7] 54)) := (Upd.refl [] w7).alloc _
  have hL : RowO (w7.alloc (.cells #[.int .u64 30, .int .i64 7] 54)) 54 2 (some ⟨w7.heap.size, 0, none⟩) 1 1 ([((30 : Int), (7 : Int))].flatMap itVs) :=
    (Row.mk' (cur := #[.int .u64 30, .int .i64 7]) rfl (heap_alloc_new w7 _) (Nat.le_refl _) (by unfold maxLen; omega) rfl rfl).o
  have HP := Lib.hid (plain_any ao (some ⟨w7.heap.size, 0, none⟩) 1 cap 1 [((30 : Int), (7 : Int))] _ rfl (by omega) (hR.upd uL (by simp)) hL)
  have HUL := Lib.hid uL
  clear hR hU7 hL uL
  rw [show [((30 : Int), (7 : Int))].length = 1 from rfl]
  go_wp2_with fail
  refine HP.out.mono ?_
  rintro e w8 ⟨rfl, hU8⟩
  have H8 := Lib.hid (H7.out.upd (HUL.out.trans hU8))
  clear hU8
  go_wp2_with fail
  refine H8.out.served_.mono ?_
  rintro e w9 ⟨rfl, rfl⟩
  rw [aw_9]
  go_wp2_with fail
  refine H8.out.most_.mono ?_
  rintro e w9 ⟨rfl, rfl⟩
  rw [aw_10]
  go_wp2
  go_ret
  exact ⟨rfl, H8.out.updW⟩
end Go.Proofs.YtolohheflbmfaaaGreatDoor
