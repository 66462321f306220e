/-
  The walk of the document's NewQueue. No condition.
-/
import Derived.Test.YtkepeolbpgnlbaaGreatDoorQi
import Derived.Test.YtkepeolbpgnlbaaGreatDoorPR
set_option linter.unusedVariables false
set_option linter.unusedSimpArgs false
namespace Go.Proofs.YtkepeolbpgnlbaaGreatDoor
open Go.RowKit

theorem underlyingWheels : Tryz.prog.underlying 32 = some (.slice 44) := by kernel_rfl
theorem infoWheelP : (Tryz.prog.info? 44).map (fun i => (i.zero, i.size, i.bytes)) = some (some (.pointer none), 1, 8) := by kernel_rfl

/-- While it is made: i wheels are there. -/
def RQNewAt (W w0 : World) (qb wd m : Nat) (iv : Value) (wr : World) : Prop :=
  ∃ (i : Nat) (ao : Option Addr) (cap : Nat) (sb : Nat → Nat), iv = .int .i64 i ∧ i ≤ m ∧ Blk wr qb 34 [.slice ao i cap] ∧
    RowO wr 44 1 ao i cap (ptrs sb i) ∧ (∀ j, j < i → RG W (sb j) 0 wd true [] [sb j] wr) ∧
    (∀ a j, a < i → j < i → a ≠ j → sb a ≠ sb j) ∧ (∀ j, j < i → sb j ≠ qb ∧ sb j ∉ blkO ao ∧ w0.heap.size ≤ sb j) ∧ (∀ c ∈ blkO ao, c ≠ qb ∧ w0.heap.size ≤ c) ∧
    w0.heap.size ≤ qb ∧ Upd [] w0 wr
section
variable {W w0 wr w2 w3 : World} {qb wd m : Nat} {i cap : Nat} {ao : Option Addr} {sb : Nat → Nat}
theorem rqnew_round (hi : i < m) (hB : Blk wr qb 34 [.slice ao i cap]) (hR : RowO wr 44 1 ao i cap (ptrs sb i)) (hS : ∀ j, j < i → RG W (sb j) 0 wd true [] [sb j] wr)
    (h1 : ∀ a j, a < i → j < i → a ≠ j → sb a ≠ sb j) (h2 : ∀ j, j < i → sb j ≠ qb ∧ sb j ∉ blkO ao ∧ w0.heap.size ≤ sb j) (h3 : ∀ c ∈ blkO ao, c ≠ qb ∧ w0.heap.size ≤ c) (h4 : w0.heap.size ≤ qb) (hU : Upd [] w0 wr)
    {s : Nat} (hU2 : Upd [] wr w2) (hN : RG W s 0 wd true [] [s] w2) (hs : wr.heap.size ≤ s) {wX : World} (hX : Upd [] w2 wX) (hx : w2.heap.size < wX.heap.size) {ao' : Option Addr} {cap' : Nat} (hA : Apped wX 44 1 ao (i + 1) (ptrs sb i ++ [.pointer (some ⟨s, 0, none⟩)]) ao' cap' w3) :
    RQNewAt W w0 qb wd m (.int .i64 ((i : Int) + 1)) (w3.setCell ⟨qb, 0, none⟩ (.slice ao' (i + 1) cap')) := by
  have z2 := hU2.size
  have zr := hU.size
  have hA2 : Upd (blkO ao) w2 w3 := hX.then hA.upd (fun c _ hc => by cases hc) (fun c _ hc => hc)
  have hA3 : Upd (qb :: blkO ao) w2 (w3.setCell ⟨qb, 0, none⟩ (.slice ao' (i + 1) cap')) := (hA2.mono (fun c _ hc => by simp [hc])).setCell (.inl (by simp)) _
  have hall : Upd (qb :: blkO ao) wr (w3.setCell ⟨qb, 0, none⟩ (.slice ao' (i + 1) cap')) := hU2.then hA3 (fun c _ hc => by cases hc) (fun c _ hc => hc)
  have hqn : qb ∉ blkO ao := fun e => (h3 qb e).1 rfl
  have hlw : ∀ c ∈ blkO ao, c < wr.heap.size := hR.lt
  have hlq := hB.lt
  have hl2 := hN.lt s (by simp)
  have hsl : ∀ j, j < i → sb j < wr.heap.size := fun j hj => (hS j hj).lt _ (by simp)
  have hao : ∀ c ∈ blkO ao', c ∈ blkO ao ∨ w2.heap.size < c := fun c hc => by
    rcases hA.at_ c hc with h | h
    · exact .inl h
    · right; omega
  refine ⟨i + 1, ao', cap', updF sb i s, by congr 1, by omega, ?_, ?_, fun j hj => ?_, fun a j ha hj haj => ?_, fun j hj => ?_, fun c hc => ?_, h4, hU.then hall (fun c _ hc => by cases hc) (fun c hc hm => by
    rcases List.mem_cons.1 hm with rfl | hm
    · omega
    · have := (h3 c hm).2; omega)⟩
  · have := (hB.upd hU2 (by simp)).upd hA2 hqn
    exact this.set 0 (.slice ao' (i + 1) cap')
  · have hr := hA.row
    rw [show ptrs sb i ++ [.pointer (some ⟨s, 0, none⟩)] = ptrs (updF sb i s) (i + 1) by
      rw [← ptrs_snoc, updF_same]; congr 1; exact ptrs_congr (fun j hj => (updF_other sb s (by omega)).symm)] at hr
    refine hr.upd ((Upd.refl [qb] w3).setCell (.inl (by simp)) _) (fun c hc e => ?_)
    simp at e; subst e
    rcases hao _ hc with h | h
    · exact hqn h
    · omega
  · by_cases e : j = i
    · subst e
      rw [updF_same]
      refine hN.upd hA3 (fun c hc e => ?_)
      simp at hc; subst hc
      rcases List.mem_cons.1 e with e | e
      · omega
      · have := hlw c e; omega
    · rw [updF_other _ _ e]
      have hji : j < i := by omega
      refine (hS j hji).upd hall (fun c hc e => ?_)
      simp at hc; subst hc
      rcases List.mem_cons.1 e with e | e
      · exact (h2 j hji).1 e
      · exact (h2 j hji).2.1 e
  · by_cases ea : a = i
    · subst ea
      rw [updF_same, updF_other _ _ (Ne.symm haj)]
      have := hsl j (by omega); omega
    · rw [updF_other _ _ ea]
      by_cases ej : j = i
      · subst ej
        rw [updF_same]
        have := hsl a (by omega); omega
      · rw [updF_other _ _ ej]; exact h1 a j (by omega) (by omega) haj
  · by_cases ej : j = i
    · subst ej
      rw [updF_same]
      refine ⟨by omega, fun e => ?_, by omega⟩
      rcases hao _ e with h | h
      · have := hlw _ h; omega
      · omega
    · rw [updF_other _ _ ej]
      refine ⟨(h2 j (by omega)).1, fun e => ?_, (h2 j (by omega)).2.2⟩
      rcases hao _ e with h | h
      · exact (h2 j (by omega)).2.1 h
      · have := hsl j (by omega); omega
  · rcases hao c hc with h | h
    · exact h3 c h
    · exact ⟨by omega, by omega⟩

/-- All wheels are there. -/
theorem rqnew_done (hW : Upd [] W w0) (hm : 1 ≤ m) (hrel : RQNewAt W w0 qb wd m (.int .i64 m) wr) : ∃ fp, RQ W qb wd (zeroM m) fp wr ∧ Upd [] w0 wr ∧ ∀ c ∈ fp, w0.heap.size ≤ c := by
  obtain ⟨i, ao, cap, sb, hi, -, hB, hR, hS, h1, h2, h3, h4, hU⟩ := hrel
  have e : i = m := by simp only [Value.int.injEq, true_and] at hi; omega
  subst e
  obtain ⟨sr, rfl, hr⟩ := hR.row (by omega)
  have hlen : (zeroM i).length = i := by unfold zeroM; simp
  have hsr := h3 sr (by simp [blkO])
  have hwz := hW.size
  refine ⟨_, ⟨sr, cap, sb, fun j => [sb j], { top := by rw [hlen]; exact hB, row := by rw [hlen]; exact hr, sh := fun j hj => by rw [hlen] at hj; rw [zeroM_at]; exact hS j hj, dis := fun a j ha hj haj c hc e => ?_, own := fun j hj c hc e => ?_, q1 := fun e => hsr.1 e.symm, newH := fun c hc => ?_ }, rfl⟩, hU, fun c hc => ?_⟩
  · rw [hlen] at ha hj
    simp at hc e
    exact h1 a j ha hj haj (hc ▸ e)
  · rw [hlen] at hj
    simp only [List.mem_cons, List.not_mem_nil, or_false] at e hc
    subst hc
    rcases e with e | e
    · exact (h2 j hj).1 e
    · exact (h2 j hj).2.1 (by simp [blkO, e])
  · simp only [List.mem_cons, List.not_mem_nil, or_false] at hc
    rcases hc with rfl | rfl
    · omega
    · have := hsr.2; omega
  · rcases mem_fpN.1 hc with hc | ⟨j, hj, hc⟩
    · simp only [List.mem_cons, List.not_mem_nil, or_false] at hc
      rcases hc with rfl | rfl
      · exact h4
      · exact hsr.2
    · rw [hlen] at hj
      simp at hc; subst hc
      exact (h2 j hj).2.2
end
def NewRQ (W w : World) (sh wd : Int) (e : Ending) (w' : World) : Prop := ∃ qb fp, e = .returned (.pointer (some ⟨qb, 0, none⟩)) ∧ RQ W qb (heldN wd) (zeroM (leavesOf sh)) fp w' ∧ Upd [] w w' ∧ ∀ c ∈ fp, w.heap.size ≤ c

set_option maxRecDepth 100000 in
set_option maxHeartbeats 8000000 in
theorem RQ.new {W w : World} (hU : Upd [] W w) (shards wd : Int) : Calls Tryz.prog 30 #[.int .i64 shards, .int .i64 wd] w (NewRQ W w shards wd) := by
  obtain ⟨i0, hi0, hz0, hz1, hz2⟩ := info_parts infoWheelP
  have hm := leavesOf_bd shards
  have hc := leavesOf_cast shards
  unfold NewRQ
  obtain ⟨m, hmm⟩ : ∃ m, leavesOf shards = m := ⟨_, rfl⟩
  rw [hmm] at hm hc ⊢
  obtain ⟨hm1, hm2⟩ := hm
  have HU := Lib.hid hU
  have HCC := Lib.hid hc
  have HT0 : Hid (RQNewAt W w w.heap.size (heldN wd) m (.int .i64 0) (w.alloc (.cells #[.slice none 0 0] 34))) := by
    exact ⟨0, none, 0, fun _ => 0, rfl, by omega, Blk.new w 34 [.slice none 0 0], RowO.nil _ _ _, fun j hj => by omega, fun a j ha => by omega, fun j hj => by omega, fun c hc => (by cases hc), by omega, (Upd.refl [] w).alloc _⟩
  clear hU hmm hc
  go_enter Tryz.func30, Tryz.ntmps30
  go_wp2_with fail
  go_loopw [6] (fun iv wr => RQNewAt W w w.heap.size (heldN wd) m iv wr) (fun iv _ => m - (intOf iv).toNat)
  case atStart => exact HT0.out
  case round =>
    clear HT0
    obtain ⟨i, ao, cap, sb, rfl, hi, hB, hR, hS, h1, h2, h3, h4, hU⟩ := hrel
    have b0 := hB.cell (j := 0) rfl
    have z0 := hB.free 0
    have lb := hB.lt
    have HB := Lib.hid hB
    have HR := Lib.hid hR
    have HS := Lib.hid hS
    have H1 := Lib.hid h1
    have H2 := Lib.hid h2
    have H3 := Lib.hid h3
    have H4 := Lib.hid h4
    have HUr := Lib.hid hU
    have hqn : Hid (w.heap.size ∉ blkO ao) := fun e => (h3 _ e).1 rfl
    clear hB hR hS h1 h2 h3 h4 hU
    by_cases hlt : i < m
    · have t1 : decide ((i : Int) < Min.min (max shards 1) 16) = true := by rw [← HCC.out]; simp [hlt]
      have H63 : Hid (i + 1 ≤ maxLen) := by unfold Hid maxLen; omega
      have HBY : Hid ((i + 1) * 8 ≤ 140737488355328) := by unfold Hid; omega
      obtain ⟨X1, hX1⟩ : ∃ X1, X1 = wr.alloc (.cells #[.slice none 0 0, .int .u64 0, .int .i64 (heldN wd), .bool true] 43) := ⟨_, rfl⟩
      obtain ⟨X, hX⟩ : ∃ X, X = ((wr.alloc (.cells #[.slice none 0 0, .int .u64 0, .int .i64 (heldN wd), .bool true] 43)).alloc (.cells #[.pointer (some ⟨wr.heap.size, 0, none⟩)] 44)).drew := ⟨_, rfl⟩
      have hN4 : Blk X1 wr.heap.size 43 [.slice none 0 0, .int .u64 0, .int .i64 (heldN wd), .bool true] := by rw [hX1]; exact Blk.new wr 43 [.slice none 0 0, .int .u64 0, .int .i64 (heldN wd), .bool true]
      have hsz1 : X1.heap.size = wr.heap.size + 1 := by rw [hX1]; simp
      have hU1 : Upd [] wr X1 := by rw [hX1]; exact (Upd.refl [] wr).alloc _
      have hUX : Upd [] X1 X := by rw [hX, ← hX1]; exact ((Upd.refl [] X1).alloc _).drew
      have hszX : X1.heap.size < X.heap.size := by rw [hX, ← hX1]; simp
      have hsrc : Src X 1 (some ⟨wr.heap.size + 1, 0, none⟩) 1 [.pointer (some ⟨wr.heap.size, 0, none⟩)] := by
        have h := ((p_news X1 (.pointer (some ⟨wr.heap.size, 0, none⟩)) 44).2 rfl).drew
        rw [hsz1] at h
        rw [hX, ← hX1]; exact h
      have HG : Hid (RG W wr.heap.size 0 (heldN wd) true [] [wr.heap.size] X1) := RG.new wd true hN4 (by have := HU.out.size; have := HUr.out.size; omega)
      have HU1 := Lib.hid hU1
      have HUX := Lib.hid hUX
      have HSZ := Lib.hid hszX
      have HRX := Lib.hid ((HR.out.upd hU1 (by simp)).upd hUX (by simp))
      have HSRC := Lib.hid hsrc
      rw [hX] at HRX HSRC
      have HX := Lib.hid hX
      clear hN4 hsz1 hU1 hUX hszX hsrc hX1 hX
      go_wp2_with fail
      go_region_law (first | (go_simp; go_at_call 59; refine (rwidth_any wd _).mono ?_; rintro e w2 ⟨rfl, rfl⟩) | (refine step_app2 _ rfl _ _ _ rfl 44 i0 _ 1 8 underlyingWheels hi0 hz0 hz1 hz2 rfl Nat.one_pos ao i cap (ptrs sb i) rfl HRX.out (some ⟨wr.heap.size + 1, 0, none⟩) 1 1 [.pointer (some ⟨wr.heap.size, 0, none⟩)] rfl HSRC.out H63.out HBY.out ?_; rw [← HX.out]; intro ao3 cp3 w4 hA; have hU4 : Upd (blkO ao) wr w4 := (HU1.out.trans HUX.out).then hA.upd (fun _ _ h => (by cases h)) (fun _ _ h => h); have zc := (hU4.cell lb hqn.out 0).trans b0; have zf := (hU4.frozen lb hqn.out 0).trans z0; have lb4 := Nat.lt_of_lt_of_le lb hU4.size; have HA := Lib.hid hA; clear hA hU4))
      all_goals
        go_wp2
        exact ⟨rqnew_round hlt HB.out HR.out HS.out H1.out H2.out H3.out H4.out HUr.out HU1.out HG.out (Nat.le_refl _) HUX.out HSZ.out HA.out, by first | (simp [intOf]; done) | (simp [intOf]; omega)⟩
    · have t1 : decide ((i : Int) < Min.min (max shards 1) 16) = false := by rw [← HCC.out]; simp; omega
      have e : i = m := by omega
      have HD : Hid (∃ fp, RQ W w.heap.size (heldN wd) (zeroM m) fp wr ∧ Upd [] w wr ∧ ∀ c ∈ fp, w.heap.size ≤ c) := rqnew_done HU.out hm1 ⟨i, ao, cap, sb, by rw [e], hi, HB.out, HR.out, HS.out, H1.out, H2.out, H3.out, H4.out, HUr.out⟩
      clear HB HR HS H1 H2 H3 H4 HUr hqn e
      go_wp2
      go_ret
      obtain ⟨fp, k1, k2, k3⟩ := HD.out
      exact ⟨_, fp, rfl, k1, k2, k3⟩
end Go.Proofs.YtkepeolbpgnlbaaGreatDoor
