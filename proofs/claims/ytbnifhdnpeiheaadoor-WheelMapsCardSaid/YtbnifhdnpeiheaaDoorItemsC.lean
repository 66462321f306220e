/-
  The walk of the reference's cut. No condition.
-/
import Derived.Test.YtbnifhdnpeiheaaDoorItemsB
set_option linter.unusedVariables false
set_option linter.unusedSimpArgs false
namespace Go.Proofs.YtbnifhdnpeiheaaDoor
open Go.RowKit

set_option maxRecDepth 100000 in
set_option maxHeartbeats 16000000 in
theorem ri_cut (b o : Nat) (ao : Option Addr) (cap : Nat) (L : List It) (i : Nat) (x : It) (w : World) (h : ItsAt w b o ao cap L) (hi : i < L.length) (hx : atI L i = x) :
    Calls Tryd.prog 101 #[.pointer (some ⟨b, o, none⟩), .int .i64 i] w (fun e w' => e = .returned (.agg #[.int .u64 x.1, .int .i64 x.2]) ∧ ItsTo w b o (dropI L x.2) w') := by
  obtain ⟨i0, hi0, hz0, hz1, hz2⟩ := info_parts infoItem
  have HH := Lib.hid h
  have c0 := h.cell
  have lb := h.lt
  have small := h.small
  have hcap := h.row.cap_le
  obtain ⟨g, hg, hr⟩ := h.row.row (by omega)
  subst hg
  obtain ⟨x0, x1⟩ := item_cells hr hi
  rw [hx] at x0 x1
  have lg := hr.lt
  have hbg : b ≠ g := by have := h.apart; simpa [blkO] using this
  have HX := Lib.hid hx
  have HI := Lib.hid hi
  have HR := Lib.hid hr
  obtain ⟨n, hn⟩ : ∃ n, L.length = n := ⟨_, rfl⟩
  rw [hn] at c0 small hi hcap
  have HN := Lib.hid hn
  have b1 : (i : Int) < (n : Int) := by omega
  have b2 : i ≤ cap := by omega
  have b3 : i + 1 ≤ n := by omega
  have b4 : n ≤ cap := hcap.1
  have b5 : (i : Int) + 1 ≤ (n : Int) := by omega
  obtain ⟨W2, hW2⟩ : ∃ W2 : World, W2 = (w.alloc (.cells #[.int .u64 0, .int .i64 0] 35)).alloc (.cells #[.int .u64 x.1, .int .i64 x.2] 35) := ⟨_, rfl⟩
  have hU2 : Upd [] w W2 := by rw [hW2]; exact ((Upd.refl _ w).alloc _).alloc _
  have hs2 : W2.heap.size = w.heap.size + 2 := by rw [hW2]; simp
  have hR0 : Blk W2 w.heap.size 35 [.int .u64 0, .int .i64 0] := by rw [hW2]; exact (heap_two w _ _).1
  have hR1 : Blk W2 (w.heap.size + 1) 35 [.int .u64 x.1, .int .i64 x.2] := by rw [hW2]; exact (heap_two w _ _).2
  have hl1 : ((((L.drop 0).take i).flatMap itVs).length = i * 2) := by rw [flat_len itVs 2 itVs_len]; simp; omega
  have hl2 : ((((L.drop (i + 1)).take (n - (i + 1))).flatMap itVs).length = (n - (i + 1)) * 2) := by rw [flat_len itVs 2 itVs_len]; simp; omega
  have HL1 := Lib.hid hl1
  have HL2 := Lib.hid hl2
  have HU2 := Lib.hid hU2
  have HR0 := Lib.hid hR0
  have HR1 := Lib.hid hR1
  have HW2 := Lib.hid hW2
  have lb2 := Nat.lt_of_lt_of_le lb hU2.size
  have e0 : W2.cell? ⟨b, o, none⟩ = some (.slice (some ⟨g, 0, none⟩) n cap) := by rw [hU2.cell lb (by simp)]; exact c0
  clear h hr hx hn hW2 hU2 hR0 hR1 hl1 hl2 hcap
  have q0 : ¬ w.heap.size = b := by omega
  have q1 : ¬ w.heap.size + 1 = b := by omega
  have q2 : ¬ b = w.heap.size := by omega
  have q3 : ¬ b = w.heap.size + 1 := by omega
  by_cases hce : cap = i + 1
  all_goals
    have HNIL : Hid (cap = i + 1 → ((L.drop (i + 1)).take (n - (i + 1))).flatMap itVs = []) := by
      intro h
      have : n - (i + 1) = 0 := by omega
      rw [this]; simp
    go_enter Tryd.func101, Tryd.ntmps101
    go_wp2_with (first
      | (at_builtin; refine wpList_app _ (by rfl) _ _ _ (by rfl) 35 i0 _ 2 16 underlyingItems hi0 hz0 hz1 hz2 rfl (by omega) none 0 0 [] (by rfl) (RowO.nil _ _ _) ⟨g, 0 * 2, none⟩ i _ (((L.drop 0).take i).flatMap itVs) (by rfl) HL1.out (part_cells HR.out (((Upd.refl _ w).alloc _).alloc _) 0 i) (flat_one _) (by unfold maxLen; omega) (by omega) ?_; intro ao1 cap1 w3 hA1; have HU3 : Hid (Upd [] W2 w3) := (by unfold Hid; rw [HW2.out]; exact hA1.upd); have e3 := HU3.out.cell lb2 (by simp) o; rw [e0] at e3; have HA1 := Lib.hid hA1; clear hA1)
      | (at_builtin; refine wpList_app _ (by rfl) _ _ _ (by rfl) 35 i0 _ 2 16 underlyingItems hi0 hz0 hz1 hz2 rfl (by omega) ao1 i cap1 (((L.drop 0).take i).flatMap itVs) (by rfl) (by have := HA1.out.row; rw [Nat.zero_add, List.nil_append] at this; exact this) ⟨g, (i + 1) * 2, none⟩ (n - (i + 1)) _ (((L.drop (i + 1)).take (n - (i + 1))).flatMap itVs) (by rfl) HL2.out (part_cells HR.out (HU2.out.trans HU3.out) (i + 1) (n - (i + 1))) (flat_one _) (by unfold maxLen; omega) (by omega) ?_; intro ao2 cap2 w4 hA2; have HA2 := Lib.hid hA2; clear hA2; have HU4 : Hid (Upd [] W2 w4) := HU3.out.then HA2.out.upd (fun _ _ hm => hm) (fun c hc hm => by rcases HA1.out.at_ c hm with h | h; (· cases h); (· rw [← HW2.out] at h; omega)); have e4 := HU4.out.cell lb2 (by simp) o; rw [e0] at e4; have z4 : w4.frozen? ⟨b, o, none⟩ = false := (by rw [HU4.out.frozen lb2 (by simp), HU2.out.frozen lb (by simp)]; exact HH.out.free); have r0 := HR0.out.upd HU4.out (by simp); have r1 := HR1.out.upd HU4.out (by simp); have k0 := r0.cell (j := 0) rfl; have k1 := r0.cell (j := 1) rfl; have k2 := r1.cell (j := 0) rfl; have k3 := r1.cell (j := 1) rfl; have y0 := r0.free 0; have y1 := r0.free 1; clear r0 r1)
      | (at_builtin; refine wpList_app _ (by rfl) _ _ _ (by rfl) 35 i0 _ 2 16 underlyingItems hi0 hz0 hz1 hz2 rfl (by omega) ao1 i cap1 (((L.drop 0).take i).flatMap itVs) (by rfl) (by have := HA1.out.row; rw [Nat.zero_add, List.nil_append] at this; exact this) ⟨g, 0, none⟩ (n - (i + 1)) _ (((L.drop (i + 1)).take (n - (i + 1))).flatMap itVs) (by rfl) HL2.out (fun j u hu => by rw [HNIL.out hce] at hu; cases hu) (flat_one _) (by unfold maxLen; omega) (by omega) ?_; intro ao2 cap2 w4 hA2; have HA2 := Lib.hid hA2; clear hA2; have HU4 : Hid (Upd [] W2 w4) := HU3.out.then HA2.out.upd (fun _ _ hm => hm) (fun c hc hm => by rcases HA1.out.at_ c hm with h | h; (· cases h); (· rw [← HW2.out] at h; omega)); have e4 := HU4.out.cell lb2 (by simp) o; rw [e0] at e4; have z4 : w4.frozen? ⟨b, o, none⟩ = false := (by rw [HU4.out.frozen lb2 (by simp), HU2.out.frozen lb (by simp)]; exact HH.out.free); have r0 := HR0.out.upd HU4.out (by simp); have r1 := HR1.out.upd HU4.out (by simp); have k0 := r0.cell (j := 0) rfl; have k1 := r0.cell (j := 1) rfl; have k2 := r1.cell (j := 0) rfl; have k3 := r1.cell (j := 1) rfl; have y0 := r0.free 0; have y1 := r0.free 1; clear r0 r1))
    obtain ⟨s0, s1⟩ := two_set (w := w4.setCell ⟨b, o, none⟩ (.slice ao2 (i + (n - (i + 1))) cap2)) rfl rfl (x := .int .u64 0) (y := .int .i64 0) (by rw [World.cell?_setCell_other _ _ _ _ (by intro e; injection e with e1; first | exact q0 e1 | exact q2 e1)]; exact k0) (by rw [World.cell?_setCell_other _ _ _ _ (by intro e; injection e with e1; first | exact q0 e1 | exact q2 e1)]; exact k1) (.int .u64 x.1) (.int .i64 x.2)
    have hcl := cut_list HH.out.nd HI.out HX.out
    have hrows : RowO w4 35 2 ao2 (i + (n - (i + 1))) cap2 ((dropI L x.2).flatMap itVs) := by
      have := HA2.out.row
      rw [← List.flatMap_append, List.drop_zero, List.take_of_length_le (l := L.drop (i + 1)) (by rw [List.length_drop, HN.out]; omega), hcl] at this
      exact this
    have hlen : (dropI L x.2).length = i + (n - (i + 1)) := by rw [← hcl, List.length_append, List.length_take, List.length_drop, HN.out]; omega
    refine bodyPost_ret (v := .agg #[.int .u64 x.1, .int .i64 x.2]) (by simp [results, Tryd.results101, go_sem, s0, s1]) rfl ⟨rfl, its_done (N := w.heap.size + 2) HH.out (HU2.out.trans HU4.out) hrows (fun c hc => ?_) (by omega) hlen (dropI_nd HH.out.nd _) (dropI_srt HH.out.srt _) (by omega) (S := [w.heap.size]) (((Upd.refl _ _).setCell (by simp) _).setCell (by simp) _) (fun c hc => by simp at hc; omega)⟩
    rcases HA2.out.at_ c hc with h | h
    · rcases HA1.out.at_ c h with h | h
      · cases h
      · rw [← HW2.out] at h; omega
    · have := HU3.out.size; omega
end Go.Proofs.YtbnifhdnpeiheaaDoor
