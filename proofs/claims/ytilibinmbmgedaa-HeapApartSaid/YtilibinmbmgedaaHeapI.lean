/-
  The walk of the heap's Drop. No condition.
-/
import Derived.Test.YtilibinmbmgedaaHeapH
namespace Go.Proofs.Ytilibinmbmgedaa
open Go.RowKit

set_option maxHeartbeats 4000000 in
theorem drop_no (hb : Nat) (ao : Option Addr) (cap mb : Nat) (A : List It) (id : Int) (w : World) (h : HpAt w hb ao cap mb A) (hx : hasI A id = false) :
    Calls Try.prog 17 #[.pointer (some ⟨hb, 0, none⟩), .int .i64 id] w (RetUpd [] w (.tuple #[.agg #[.int .u64 0, .int .i64 0], .bool false])) := by
  have c1 := h.top.cell (j := 1) rfl
  have lh := h.top.lt
  obtain ⟨M, hM, hMn, hMi⟩ := h.map
  have hl := fun o => (hM.upd ((Upd.refl [] w).alloc o) (by simp)).look (P := Try.prog) underlyingIntMap underlyingInt zeroInt id true
  rw [look_has hMi, hx] at hl
  simp only [if_true] at hl
  clear h hM hMn hMi hx
  go_enter Try.func17, Try.ntmps17
  go_wp2
  exact bodyPost_ret (v := .tuple #[.agg #[.int .u64 0, .int .i64 0], .bool false]) (by simp [results, Try.results17, go_sem]) rfl ⟨rfl, ((Upd.refl [] w).alloc _)⟩

set_option maxHeartbeats 16000000 in
theorem drop_yes (hb : Nat) (ao : Option Addr) (cap mb : Nat) (A : List It) (id : Int) (w : World) (h : HpAt w hb ao cap mb A) (hx : hasI A id = true) :
    Calls Try.prog 17 #[.pointer (some ⟨hb, 0, none⟩), .int .i64 id] w
      fun e w' => ∃ i last, i < A.length ∧ A.length = last + 1 ∧ (atI A i).2 = id ∧ e = .returned (.tuple #[.agg #[.int .u64 (atI A i).1, .int .i64 (atI A i).2], .bool true]) ∧
        HpAt w' hb ao cap mb (fin A i last) ∧ Upd (hb :: mb :: blkO ao) w w' := by
  obtain ⟨M, hM, hMn, hMi⟩ := h.map
  have hl := fun o => (hM.upd ((Upd.refl [] w).alloc o) (by simp)).look (P := Try.prog) underlyingIntMap underlyingInt zeroInt id true
  obtain ⟨i, hi, hid, hlk⟩ := look_of hMi hx
  rw [look_has hMi, hx, hlk] at hl
  simp only [if_true, Option.getD_some] at hl
  obtain ⟨g, hg, hrow⟩ := h.row.row (by omega)
  subst hg
  obtain ⟨last, hlast⟩ : ∃ last, A.length = last + 1 := ⟨A.length - 1, by omega⟩
  have HH := Lib.hid h
  have c0 := h.top.cell (j := 0) rfl
  have c1 := h.top.cell (j := 1) rfl
  have lh := h.top.lt
  have small := h.small
  obtain ⟨x0, x1⟩ := item_cells (g := g) h.row hi
  have lg := hrow.lt
  have lm := hM.lt
  obtain ⟨x, hx⟩ : ∃ x, atI A i = x := ⟨_, rfl⟩
  rw [hx] at x0 x1 hid
  have HX := Lib.hid hx
  have HID := Lib.hid hid
  rw [hlast] at c0 small hi
  have HL := Lib.hid hlast
  have HI := Lib.hid hi
  have b1 : (i : Int) < ((last + 1 : Nat) : Int) := by omega
  have n1 : hb ≠ g := by have := h.d1; simpa [blkO] using this
  have n2 : hb ≠ mb := h.d2
  obtain ⟨W1, hW1⟩ : ∃ W1 : World, W1 = ((w.alloc (.cells #[.int .u64 0, .int .i64 0] 37)).alloc (.cells #[.int .u64 x.1, .int .i64 x.2] 37)).drew := ⟨_, rfl⟩
  have hU1 : Upd [] w W1 := by rw [hW1]; exact (((Upd.refl _ w).alloc _).alloc _).drew
  have hs1 : W1.heap.size = w.heap.size + 2 := by rw [hW1]; simp
  have hR0 : Blk W1 w.heap.size 37 [.int .u64 0, .int .i64 0] := by rw [hW1]; exact (heap_two w _ _).1
  have hR1 : Blk W1 (w.heap.size + 1) 37 [.int .u64 x.1, .int .i64 x.2] := by rw [hW1]; exact (heap_two w _ _).2
  have HH1 := Lib.hid (HH.out.upd hU1 (by simp) (by simp) (by simp))
  have HC := Lib.hid c0
  have hcap : last ≤ cap := by have := h.row.cap_le; omega
  have HU1 := Lib.hid hU1
  have HR0 := Lib.hid hR0
  have HR1 := Lib.hid hR1
  have HW1 := Lib.hid hW1
  clear h hrow hM hMn hMi hx hid hlast hlk hU1 hR0 hR1 hW1
  go_enter Try.func17, Try.ntmps17
  go_wp2
  go_region
  go_wp2_with fail
  rw [← HW1.out]
  refine (swap_any hb g cap mb A i last W1 HH1.out (by rw [HL.out]; exact HI.out) (by rw [HL.out]; omega)).mono ?_
  rintro e w2 ⟨rfl, hH2, hU2⟩
  have hlen2 : (swp A i last).length = last + 1 := by rw [swp_len]; exact HL.out
  have d0 := hH2.top.cell (j := 0) rfl
  have d1 := hH2.top.cell (j := 1) rfl
  have df := hH2.top.free 0
  rw [hlen2] at d0
  have lh2 : hb < w2.heap.size := hH2.top.lt
  obtain ⟨M2, hM2, hMn2, hMi2⟩ := hH2.map
  obtain ⟨w3, hW3⟩ : ∃ w3 : World, w3 = w2.setCell ⟨hb, 0, none⟩ (.slice (some ⟨g, 0, none⟩) last cap) := ⟨_, rfl⟩
  have hM3 : IMap (w2.setCell ⟨hb, 0, none⟩ (.slice (some ⟨g, 0, none⟩) last cap)) mb M2 := hM2.upd ((Upd.refl [hb] _).setCell (by simp) _) (by simpa using fun e => n2 e.symm)
  have hid2 : (atI (swp A i last) last).2 = id := by rw [atI_swp A i last last (by rw [HL.out]; exact HI.out) (by rw [HL.out]; omega), if_pos rfl, HX.out]; exact HID.out
  have htr := fun (w4 : World) (t : MapTo w3 mb (delM M2 id) w4) => drop_trunc hH2 hlen2 hid2 hM2 hMn2 hMi2 hW3 t
  obtain ⟨w4, hdel, hto⟩ := hM3.del (P := Try.prog) underlyingIntMap underlyingInt id 0
  rw [← hW3] at hto
  obtain ⟨hH4, hU24⟩ := htr w4 hto
  have hU4 : Upd [hb, mb, g] W1 w4 := (hU2.mono (fun _ _ hm => by simp at hm; rcases hm with rfl | rfl <;> simp)).trans (hU24.mono (fun _ _ hm => by simp at hm; rcases hm with rfl | rfl <;> simp))
  have HH4 := Lib.hid hH4
  have HU4 := Lib.hid hU4
  have hlen4 : ((swp A i last).take last).length = last := by rw [List.length_take, hlen2]; omega
  have q0 : w.heap.size ∉ [hb, mb, g] := by simp; omega
  have q1 : w.heap.size + 1 ∉ [hb, mb, g] := by simp; omega
  have HL4 := Lib.hid hlen4
  clear hH2 hU2 hM2 hMn2 hMi2 hM3 htr hlen2 hto hH4 hU24 hU4 hlen4 hid2
  by_cases hil : i < last
  · have t1 : decide (i < last) = true := by simp [hil]
    go_wp2_with fail
    refine (sift_up hb g cap mb ((swp A i last).take last) i w4 HH4.out (by rw [HL4.out]; exact hil)).mono ?_
    rintro e w5 ⟨rfl, hH5, hU5⟩
    have HH5 := Lib.hid hH5
    have HU5 := Lib.hid hU5
    have hl5 : (sUp i ((swp A i last).take last) i).length = last := by rw [sUp_len]; exact HL4.out
    have HL5 := Lib.hid hl5
    clear hH5 hU5 hl5 hdel
    go_wp2_with fail
    refine (sift_dn hb g cap mb (sUp i ((swp A i last).take last) i) i w5 HH5.out (by rw [HL5.out]; exact hil)).mono ?_
    rintro e w6 ⟨rfl, hH6, hU6⟩
    have hU16 : Upd [hb, mb, g] W1 w6 := HU4.out.trans ((HU5.out.mono (fun _ _ hm => by simp at hm; rcases hm with rfl | rfl <;> simp)).trans (hU6.mono (fun _ _ hm => by simp at hm; rcases hm with rfl | rfl <;> simp)))
    have r0 := HR0.out.upd hU16 q0
    have r1 := HR1.out.upd hU16 q1
    have k0 := r0.cell (j := 0) rfl
    have k1 := r0.cell (j := 1) rfl
    have k2 := r1.cell (j := 0) rfl
    have k3 := r1.cell (j := 1) rfl
    have z0 := r0.free 0
    have z1 := r0.free 1
    have HH6 := Lib.hid hH6
    have HU16 := Lib.hid hU16
    clear hH6 hU6 hU16 r0 r1
    go_wp2
    obtain ⟨s0, s1⟩ := two_set (w := w6) rfl rfl k0 k1 (.int .u64 x.1) (.int .i64 x.2)
    refine bodyPost_ret (v := .tuple #[.agg #[.int .u64 x.1, .int .i64 x.2], .bool true]) (by simp [results, Try.results17, go_sem, s0, s1]) rfl ⟨i, last, by rw [HL.out]; exact HI.out, HL.out, by rw [HX.out]; exact HID.out, by rw [HX.out], ?_, ?_⟩
    · have h7 := HH6.out
      rw [HL5.out] at h7
      unfold fin
      rw [if_pos hil]
      exact h7.upd (((Upd.refl [w.heap.size] _).setCell (by simp) _).setCell (by simp) _) (by simp; omega) (by simp [blkO]; omega) (by simp; omega)
    · refine ((HU1.out.nil.trans (HU16.out.mono ?_)).setCell (.inr (by simp)) _).setCell (.inr (by simp)) _
      intro b _ hm
      simp at hm
      rcases hm with rfl | rfl | rfl <;> simp [blkO]
  · have t1 : decide (i < last) = false := by simp [hil]
    have r0 := HR0.out.upd HU4.out q0
    have r1 := HR1.out.upd HU4.out q1
    have k0 := r0.cell (j := 0) rfl
    have k1 := r0.cell (j := 1) rfl
    have k2 := r1.cell (j := 0) rfl
    have k3 := r1.cell (j := 1) rfl
    have z0 := r0.free 0
    have z1 := r0.free 1
    have l0 := r0.lt
    clear r0 r1
    go_wp2
    obtain ⟨s0, s1⟩ := two_set (w := w4) rfl rfl k0 k1 (.int .u64 x.1) (.int .i64 x.2)
    refine bodyPost_ret (v := .tuple #[.agg #[.int .u64 x.1, .int .i64 x.2], .bool true]) (by simp [results, Try.results17, go_sem, s0, s1]) rfl ⟨i, last, by rw [HL.out]; exact HI.out, HL.out, by rw [HX.out]; exact HID.out, by rw [HX.out], ?_, ?_⟩
    · have h7 := HH4.out
      unfold fin
      rw [if_neg hil]
      exact h7.upd (((Upd.refl [w.heap.size] _).setCell (by simp) _).setCell (by simp) _) (by simp; omega) (by simp [blkO]; omega) (by simp; omega)
    · refine ((HU1.out.nil.trans (HU4.out.mono ?_)).setCell (.inr (by simp)) _).setCell (.inr (by simp)) _
      intro b _ hm
      simp at hm
      rcases hm with rfl | rfl | rfl <;> simp [blkO]
end Go.Proofs.Ytilibinmbmgedaa
