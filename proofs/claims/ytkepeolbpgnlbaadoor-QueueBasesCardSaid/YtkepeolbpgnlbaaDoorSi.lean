/-
  law06.made. No condition.
-/
import Derived.Test.YtkepeolbpgnlbaaDoorSh
import Derived.Test.YtkepeolbpgnlbaaDoorPB
set_option linter.unusedVariables false
set_option linter.unusedSimpArgs false
namespace Go.Proofs.YtkepeolbpgnlbaaDoor
open Go.RowKit

def SMadeTo (W w : World) (e : Ending) (w' : World) : Prop :=
  ∃ wb b V fp fq, e = .returned (.tuple #[.pointer (some ⟨wb, 0, none⟩), .pointer (some ⟨b, 0, none⟩)]) ∧ SR W wb b 0 V [] fp fq w' ∧ Upd [] w w' ∧ (∀ c ∈ fp, w.heap.size ≤ c) ∧ ∀ c ∈ fq, w.heap.size ≤ c


set_option maxHeartbeats 4000000 in
theorem smade_any (W : World) (wd : Int) (w : World) (hU : Upd [] W w) (hT : TabAt 0 Lib.deBruijn64tab W) :
    Calls Tryd.prog 16 #[.int .i64 wd] w (SMadeTo W w) := by
  have HNW := Lib.hid (fun (w : World) (v : Int) (h : Upd [] W w) => SL.new h hT v)
  have HU := Lib.hid hU
  have hmb := modI_bd wd 3 (by omega) (by omega)
  obtain ⟨m, hm⟩ : ∃ m, modI wd 3 = m := ⟨_, rfl⟩
  obtain ⟨m7, hm7⟩ : ∃ m, modI wd 7 = m := ⟨_, rfl⟩
  have HM := Lib.hid hm
  have HM7 := Lib.hid hm7
  clear hm hm7 hU hmb
  cases ht : decide (0 < m) with
  | false =>
    go_enter Tryd.func16, Tryd.ntmps16
    go_wp2_with fail
    refine (mod_any wd 3 (by omega) (by omega) _).mono ?_
    rintro e w2 ⟨rfl, rfl⟩
    rw [HM.out]
    go_wp2_with fail
    refine (HNW.out w wd HU.out).mono ?_
    rintro e w3 ⟨wb, fp, rfl, hW, hU3, hfp⟩
    have H3 := Lib.hid hU3
    have HW := Lib.hid hW
    have HF := Lib.hid hfp
    clear hU3 hW hfp
    go_wp2_with fail
    refine (rwidth_any wd _).mono ?_
    rintro e w4 ⟨rfl, rfl⟩
    obtain ⟨hn, hhn⟩ : ∃ n, heldN wd = n := ⟨_, rfl⟩
    have HH := Lib.hid hhn
    rw [hhn]
    clear hhn
    go_wp2
    go_ret2
    have hB := Blk.new w3 60 [.slice none 0 0, .int .u64 0, .int .i64 (heldN wd), .bool true]
    rw [HH.out] at hB
    refine ⟨wb, w3.heap.size, hn, fp, [w3.heap.size], rfl, ⟨?_, ?_, ?_, by simp⟩, H3.out.alloc _, HF.out, ?_⟩
    · rw [← HH.out]; exact HW.out.upd ((Upd.refl [] w3).alloc _)
    · have := RG.new (W := W) wd true (by rw [HH.out]; exact hB) (Nat.le_trans HU.out.size H3.out.size)
      rw [HH.out] at this
      exact this
    · intro c hc e; simp at e; have := HW.out.lt c hc; omega
    · intro c hc; simp at hc; have := H3.out.size; omega
  | true =>
    go_enter Tryd.func16, Tryd.ntmps16
    go_wp2_with fail
    refine (mod_any wd 3 (by omega) (by omega) _).mono ?_
    rintro e w2 ⟨rfl, rfl⟩
    rw [HM.out]
    go_wp2_with fail
    refine (mod_any wd 7 (by omega) (by omega) _).mono ?_
    rintro e w2 ⟨rfl, rfl⟩
    rw [HM7.out]
    go_wp2_with fail
    refine (HNW.out w m7 HU.out).mono ?_
    rintro e w3 ⟨wb, fp, rfl, hW, hU3, hfp⟩
    have H3 := Lib.hid hU3
    have HW := Lib.hid hW
    have HF := Lib.hid hfp
    clear hU3 hW hfp
    go_wp2_with fail
    refine (rwidth_any m7 _).mono ?_
    rintro e w4 ⟨rfl, rfl⟩
    obtain ⟨hn, hhn⟩ : ∃ n, heldN m7 = n := ⟨_, rfl⟩
    have HH := Lib.hid hhn
    rw [hhn]
    clear hhn
    go_wp2
    go_ret2
    have hB := Blk.new w3 60 [.slice none 0 0, .int .u64 0, .int .i64 (heldN m7), .bool true]
    rw [HH.out] at hB
    refine ⟨wb, w3.heap.size, hn, fp, [w3.heap.size], rfl, ⟨?_, ?_, ?_, by simp⟩, H3.out.alloc _, HF.out, ?_⟩
    · rw [← HH.out]; exact HW.out.upd ((Upd.refl [] w3).alloc _)
    · have := RG.new (W := W) m7 true (by rw [HH.out]; exact hB) (Nat.le_trans HU.out.size H3.out.size)
      rw [HH.out] at this
      exact this
    · intro c hc e; simp at e; have := HW.out.lt c hc; omega
    · intro c hc; simp at hc; have := H3.out.size; omega
end Go.Proofs.YtkepeolbpgnlbaaDoor
