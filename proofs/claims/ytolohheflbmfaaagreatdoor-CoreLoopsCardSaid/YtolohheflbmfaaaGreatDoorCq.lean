/-
  law21: made. Condition: where a table of the library's lies.
-/
import Derived.Test.YtolohheflbmfaaaGreatDoorCl
import Derived.Test.YtolohheflbmfaaaGreatDoorAct
import Derived.Test.YtolohheflbmfaaaGreatDoorConf
import Derived.Test.YtolohheflbmfaaaGreatDoorPS
import Derived.Test.YtolohheflbmfaaaGreatDoorHeld
set_option linter.unusedVariables false
set_option linter.unusedSimpArgs false
namespace Go.Proofs.YtolohheflbmfaaaGreatDoor
open Go.RowKit

theorem KG.qok {W w : World} {kb wd : Nat} {s : CS} {F : List Nat} (h : KG W kb wd s F w) : QOk s.M s.L := by obtain ⟨_, _, _, _, _, _, h, _⟩ := h; exact h.q.ok
def KMadeTo (W w : World) (e : Ending) (w' : World) : Prop :=
  ∃ kb xb V m F G, e = .returned (.tuple #[.pointer (some ⟨kb, 0, none⟩), .pointer (some ⟨xb, 0, none⟩)]) ∧ KP W kb xb V 0 (newC m) F G w' ∧ Upd [] w w' ∧ ∀ c ∈ F ++ G, w.heap.size ≤ c
theorem kmade_done {W w w3 w4 w5 w6 : World} {kb xb V m : Nat} {F G : List Nat} (h3 : Upd [] w w3) (hK : KG W kb V (newC m) F w4) (h4 : Upd [] w3 w4) (hF : ∀ c ∈ F, w3.heap.size ≤ c) (h5 : Upd [] w4 w5) (hR : RG16 W xb V 0 (newC m) G w6) (h6 : Upd [] w5 w6) (hG : ∀ c ∈ G, w5.heap.size ≤ c) {w7 : World} (h7 : Upd [] w6 w7) :
    KMadeTo W w (.returned (.tuple #[.pointer (some ⟨kb, 0, none⟩), .pointer (some ⟨xb, 0, none⟩)])) w7 := by
  have s3 := h3.size
  have s4 := h4.size
  have s5 := h5.size
  refine ⟨kb, xb, V, m, F, G, rfl, ⟨(hK.upd (h5.trans h6)).upd h7, hR.upd h7, CI.new hK.qok, fun c hc e => ?_⟩, ((h3.trans h4).trans (h5.trans h6)).trans h7, fun c hc => ?_⟩
  · have := hK.lt c hc; have := hG c e; omega
  · rcases List.mem_append.1 hc with h | h
    · have := hF c h; omega
    · have := hG c h; omega

set_option maxRecDepth 100000 in
set_option maxHeartbeats 8000000 in
theorem made21_any (W : World) (sh sl wo wd : Int) (un : Nat) (w : World) (hU : Upd [] W w) (hT : TabAt 0 Lib.deBruijn64tab W) :
    Calls Tryz.prog 9 #[.agg #[.int .i64 sh, .int .i64 sl, .int .i64 wo, .int .i64 wd, .int .u64 un]] w (KMadeTo W w) := by
  have HN : Hid (∀ (w' : World) (a b c d : Int) (u : Nat), Upd [] W w' → Calls Tryz.prog 33 #[.agg #[.int .i64 a, .int .i64 b, .int .i64 c, .int .i64 d, .int .u64 u]] w' (NewK W w' a d)) := fun w' a b c d u h => KG.new h hT a b c d u
  have HR : Hid (∀ (w' : World) (a b c d : Int) (u : Nat), Upd [] W w' → Calls Tryz.prog 34 #[.agg #[.int .i64 a, .int .i64 b, .int .i64 c, .int .i64 d, .int .u64 u]] w' (NewRC W w' a d)) := fun w' a b c d u h => RG16.new h a b c d u
  have HU := Lib.hid hU
  clear hU hT
  go_enter Tryz.func9, Tryz.ntmps9
  go_wp2_with fail
  refine (conf_any sh sl wo wd un _).mono ?_
  rintro e w2 ⟨a, b, c, d, u, rfl, -, -, -, -, -, hU2⟩
  have hB := (Blk.new w 24 [.int .i64 sh, .int .i64 sl, .int .i64 wo, .int .i64 wd, .int .u64 un]).upd hU2 (by simp)
  have hU1 : Upd [] w w2 := ((Upd.refl [] w).alloc (.cells #[.int .i64 sh, .int .i64 sl, .int .i64 wo, .int .i64 wd, .int .u64 un] 24)).trans hU2
  obtain ⟨cb, hcb⟩ : ∃ x, w.heap.size = x := ⟨_, rfl⟩
  have HCB : Hid (w.heap.size ≤ cb) := by unfold Hid; omega
  rw [hcb] at hB ⊢
  have HB := Lib.hid hB
  have b0 := hB.cell (j := 0) rfl
  have b1 := hB.cell (j := 1) rfl
  have b2 := hB.cell (j := 2) rfl
  have b3 := hB.cell (j := 3) rfl
  have b4 := hB.cell (j := 4) rfl
  have f0 := hB.free 0
  have f1 := hB.free 1
  have f2 := hB.free 2
  have f3 := hB.free 3
  have f4 := hB.free 4
  have lb := hB.lt
  have HU1 := Lib.hid hU1
  clear hcb hB hU1 hU2
  go_wp2_with fail
  obtain ⟨w3, hw3⟩ : ∃ x, ((((w2.setCell ⟨cb, 0, none⟩ (.int .i64 a)).setCell ⟨cb, 1, none⟩ (.int .i64 b)).setCell ⟨cb, 2, none⟩ (.int .i64 c)).setCell ⟨cb, 3, none⟩ (.int .i64 d)).setCell ⟨cb, 4, none⟩ (.int .u64 u) = x := ⟨_, rfl⟩
  rw [hw3]
  have hB3 : Blk w3 cb 24 [.int .i64 a, .int .i64 b, .int .i64 c, .int .i64 d, .int .u64 u] := by rw [← hw3]; exact ((((HB.out.set 0 (.int .i64 a)).set 1 (.int .i64 b)).set 2 (.int .i64 c)).set 3 (.int .i64 d)).set 4 (.int .u64 u)
  have hU3 : Upd [] w w3 := by rw [← hw3]; exact ((((HU1.out.setCell (.inr HCB.out) _).setCell (.inr HCB.out) _).setCell (.inr HCB.out) _).setCell (.inr HCB.out) _).setCell (.inr HCB.out) _
  have HU3 := Lib.hid hU3
  clear b0 b1 b2 b3 b4 f0 f1 f2 f3 f4 lb
  have b0 := hB3.cell (j := 0) rfl
  have b1 := hB3.cell (j := 1) rfl
  have b2 := hB3.cell (j := 2) rfl
  have b3 := hB3.cell (j := 3) rfl
  have b4 := hB3.cell (j := 4) rfl
  have lb := hB3.lt
  clear hw3 hB3 hU3
  go_region_held3 (fun w2 => Upd [] w3 w2 ∧ ∀ (b o : Nat), b < w3.heap.size → b ∉ ([] : List Nat) → w2.cell? ⟨b, o, none⟩ = w3.cell? ⟨b, o, none⟩)
    (first | exact Held.init _ _ | exact Held.step (by assumption) hBb | exact Held.step (by assumption) hBa)
    (first | (go_at_call 33; refine (HN.out _ a b c d u ((HU.out.trans HU3.out).drew)).mono ?_; rintro e w4 ⟨kb, F, rfl, hK, hBa, hF⟩; have H4 := Lib.hid hBa; have HK := Lib.hid hK; have HF := Lib.hid hF; clear hK hF) | (go_at_call 34; refine (HR.out _ a b c d u (((HU.out.trans HU3.out).drew).trans H4.out)).mono ?_; rintro e w5 ⟨xb, G, rfl, hR, hBb, hG⟩; have H5 := Lib.hid hBb; have HRR := Lib.hid hR; have HG := Lib.hid hG; clear hR hG))
  go_wp2
  go_ret2
  exact kmade_done (HU3.out.drew) HK.out H4.out HF.out (Upd.refl _ _) HRR.out H5.out HG.out (Upd.refl _ _)
end Go.Proofs.YtolohheflbmfaaaGreatDoor
