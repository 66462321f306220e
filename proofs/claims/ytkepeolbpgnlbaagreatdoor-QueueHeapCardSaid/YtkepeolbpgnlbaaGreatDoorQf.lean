/-
  The walk of a queue's New. No condition.
-/
import Derived.Test.YtkepeolbpgnlbaaGreatDoorQe
import Derived.Test.YtkepeolbpgnlbaaGreatDoorSh
import Derived.Deep.RegionLaw
set_option linter.unusedVariables false
set_option linter.unusedSimpArgs false
namespace Go.Proofs.YtkepeolbpgnlbaaGreatDoor
open Go.RowKit

theorem underlyingShards : Tryz.prog.underlying 69 = some (.slice 73) := by kernel_rfl
theorem infoShardP : (Tryz.prog.info? 73).map (fun i => (i.zero, i.size, i.bytes)) = some (some (.pointer none), 1, 8) := by kernel_rfl
theorem p_news (w : World) (v : Value) (ty : TypeId) : Src (w.alloc (.cells #[v] ty)) 1 (some ⟨w.heap.size, 0, none⟩) 1 [v] ↔ v.oneCell' = true := by
  constructor
  · intro h; exact h.2.1 v (by simp)
  · intro h; exact ⟨rfl, by simpa using h, .inr ⟨_, rfl, World.news_of_block (cs := #[v]) (t := ty) (fr := (0, 0)) (heap_alloc_new w _)⟩⟩
def zeroM (m : Nat) : List Sh := List.replicate m (0, [])
theorem zeroM_at {m i : Nat} : shAt (zeroM m) i = (0, []) := by
  unfold shAt zeroM; rw [List.getD_eq_getElem?_getD, List.getElem?_replicate]; split <;> rfl
theorem leavesM_zero (m : Nat) : leavesM (zeroM m) = List.replicate m zLeaf := by unfold leavesM zeroM; rw [List.map_replicate]; rfl


/-- While a queue is made: i shards are there. -/
def QNewAt (W w0 : World) (qb wd m : Nat) (t : Tr) (iv : Value) (wr : World) : Prop :=
  ∃ (i : Nat) (ao : Option Addr) (cap : Nat) (sb : Nat → Nat) (F : Nat → List Nat), iv = .int .i64 i ∧ i ≤ m ∧ Blk wr qb 72 [.slice ao i cap, .pointer (some ⟨t.bt, 0, none⟩)] ∧
    RowO wr 73 1 ao i cap (ptrs sb i) ∧ (∀ j, j < i → SL W (sb j) 0 wd [] (F j) wr) ∧ TourAt wr t ∧
    (∀ a j, a < i → j < i → a ≠ j → ∀ c ∈ F a, c ∉ F j) ∧ (∀ j, j < i → ∀ c ∈ F j, c ∉ [qb, t.bt, t.bl, t.bn] ∧ c ∉ blkO ao) ∧ (∀ c ∈ blkO ao, c ∉ [qb, t.bt, t.bl, t.bn] ∧ w0.heap.size ≤ c) ∧
    (∀ c ∈ [qb, t.bt, t.bl, t.bn], w0.heap.size ≤ c) ∧ qb ∉ [t.bt, t.bl, t.bn] ∧ Upd [] w0 wr ∧ ∀ j, j < i → ∀ c ∈ F j, w0.heap.size ≤ c
section
variable {W w0 wr w2 w3 : World} {qb wd m : Nat} {t : Tr} {i cap : Nat} {ao : Option Addr} {sb : Nat → Nat} {F : Nat → List Nat}
/-- One more shard, appended and stored. -/
theorem qnew_round (hsz : W.heap.size ≤ w0.heap.size) (hi : i < m) (hB : Blk wr qb 72 [.slice ao i cap, .pointer (some ⟨t.bt, 0, none⟩)]) (hR : RowO wr 73 1 ao i cap (ptrs sb i)) (hS : ∀ j, j < i → SL W (sb j) 0 wd [] (F j) wr) (hT : TourAt wr t)
    (h1 : ∀ a j, a < i → j < i → a ≠ j → ∀ c ∈ F a, c ∉ F j) (h2 : ∀ j, j < i → ∀ c ∈ F j, c ∉ [qb, t.bt, t.bl, t.bn] ∧ c ∉ blkO ao) (h3 : ∀ c ∈ blkO ao, c ∉ [qb, t.bt, t.bl, t.bn] ∧ w0.heap.size ≤ c) (h4 : ∀ c ∈ [qb, t.bt, t.bl, t.bn], w0.heap.size ≤ c) (h5 : qb ∉ [t.bt, t.bl, t.bn]) (hU : Upd [] w0 wr) (h6 : ∀ j, j < i → ∀ c ∈ F j, w0.heap.size ≤ c)
    {s : Nat} {G : List Nat} (hU2 : Upd [] wr w2) (hN : SL W s 0 wd [] G w2) (hG : ∀ c ∈ G, wr.heap.size ≤ c) {o : Obj} {ao' : Option Addr} {cap' : Nat} (hA : Apped (w2.alloc o) 73 1 ao (i + 1) (ptrs sb i ++ [.pointer (some ⟨s, 0, none⟩)]) ao' cap' w3) :
    QNewAt W w0 qb wd m t (.int .i64 ((i : Int) + 1)) (w3.setCell ⟨qb, 0, none⟩ (.slice ao' (i + 1) cap')) := by
  have z2 := hU2.size
  have zr := hU.size
  have hA2 : Upd (blkO ao) w2 w3 := ((Upd.refl _ w2).alloc o).trans hA.upd
  have hA3 : Upd (qb :: blkO ao) w2 (w3.setCell ⟨qb, 0, none⟩ (.slice ao' (i + 1) cap')) := (hA2.mono (fun c _ hc => by simp [hc])).setCell (.inl (by simp)) _
  have hall : Upd (qb :: blkO ao) wr (w3.setCell ⟨qb, 0, none⟩ (.slice ao' (i + 1) cap')) := hU2.then hA3 (fun c _ hc => by cases hc) (fun c _ hc => hc)
  have hqn : qb ∉ blkO ao := fun e => (h3 qb e).1 (by simp)
  have hlw : ∀ c ∈ blkO ao, c < wr.heap.size := hR.lt
  have hlq := hB.lt
  have hlt : ∀ c ∈ [qb, t.bt, t.bl, t.bn], c < wr.heap.size := by
    intro c hc
    simp only [List.mem_cons, List.not_mem_nil, or_false] at hc
    rcases hc with rfl | rfl | rfl | rfl
    · exact hlq
    · exact hT.top.lt
    · exact hT.leaves.lt
    · exact hT.nodes.lt
  have hao : ∀ c ∈ blkO ao', c ∈ blkO ao ∨ wr.heap.size ≤ c := fun c hc => by
    rcases hA.at_ c hc with h | h
    · exact .inl h
    · right; simp at h; omega
  have hnS : ∀ c ∈ qb :: blkO ao, W.heap.size ≤ c := fun c hc => by
    rcases List.mem_cons.1 hc with rfl | hc
    · have := h4 c (by simp); omega
    · have := (h3 c hc).2; omega
  have hFlt : ∀ j, j < i → ∀ c ∈ F j, c < wr.heap.size := fun j hj => (hS j hj).lt
  have hother : ∀ j, j < i → j ≠ i := fun j hj => by omega
  refine ⟨i + 1, ao', cap', updF sb i s, updF F i G, by congr 1, by omega, ?_, ?_, fun j hj => ?_, ?_, fun a j ha hj haj c hc => ?_, fun j hj c hc => ?_, fun c hc => ?_, h4, h5, hU.then hall (fun c _ hc => by cases hc) (fun c hc hm => by
    rcases List.mem_cons.1 hm with rfl | hm
    · have := h4 c (by simp); omega
    · have := (h3 c hm).2; omega), fun j hj c hc => ?_⟩
  · have := (hB.upd hU2 (by simp)).upd hA2 hqn
    exact this.set 0 (.slice ao' (i + 1) cap')
  · have hr := hA.row
    rw [show ptrs sb i ++ [.pointer (some ⟨s, 0, none⟩)] = ptrs (updF sb i s) (i + 1) by
      rw [← ptrs_snoc, updF_same]; congr 1; exact ptrs_congr (fun j hj => (updF_other sb s (by omega)).symm)] at hr
    refine hr.upd ((Upd.refl [qb] w3).setCell (.inl (by simp)) _) (fun c hc e => ?_)
    simp at e; subst e
    rcases hao _ hc with h | h
    · exact hqn h
    · omega
  · by_cases e : j = i
    · subst e
      rw [updF_same, updF_same]
      refine hN.updS hA3 (fun c hc e => ?_) hnS
      have := hG c hc
      rcases List.mem_cons.1 e with rfl | e
      · omega
      · have := hlw c e; omega
    · rw [updF_other _ _ e, updF_other _ _ e]
      have hji : j < i := by omega
      refine (hS j hji).updS hall (fun c hc e => ?_) hnS
      rcases List.mem_cons.1 e with rfl | e
      · exact (h2 j hji c hc).1 (by simp)
      · exact (h2 j hji c hc).2 e
  · refine hT.upd hall (fun e => ?_) (fun e => ?_) (fun e => ?_) <;>
    · rcases List.mem_cons.1 e with e | e
      · exact h5 (by simp [← e])
      · exact (h3 _ e).1 (by simp)
  · by_cases ea : a = i
    · subst ea
      rw [updF_same] at hc
      rw [updF_other _ _ (Ne.symm haj)]
      intro e
      have := hFlt j (by omega) c e
      have := hG c hc
      omega
    · rw [updF_other _ _ ea] at hc
      by_cases ej : j = i
      · subst ej
        rw [updF_same]
        intro e
        have := hFlt a (by omega) c hc
        have := hG c e
        omega
      · rw [updF_other _ _ ej]; exact h1 a j (by omega) (by omega) haj c hc
  · by_cases ej : j = i
    · subst ej
      rw [updF_same] at hc
      have hg := hG c hc
      have hg2 := hN.lt c hc
      refine ⟨fun e => by have := hlt c e; omega, fun e => ?_⟩
      rcases hA.at_ c e with h | h
      · have := hlw c h; omega
      · simp at h; omega
    · rw [updF_other _ _ ej] at hc
      refine ⟨(h2 j (by omega) c hc).1, fun e => ?_⟩
      rcases hao c e with h | h
      · exact (h2 j (by omega) c hc).2 h
      · have := hFlt j (by omega) c hc; omega
  · rcases hao c hc with h | h
    · exact h3 c h
    · exact ⟨fun e => by have := hlt c e; omega, by omega⟩
  · by_cases ej : j = i
    · subst ej
      rw [updF_same] at hc
      have := hG c hc; omega
    · rw [updF_other _ _ ej] at hc
      exact h6 j (by omega) c hc

/-- All shards are there. -/
theorem qnew_done (hW : Upd [] W w0) (hm : 1 ≤ m) (h16 : m ≤ 16) (ht : t = newTr t.bt t.bl t.bn t.cap m) (hrel : QNewAt W w0 qb wd m t (.int .i64 m) wr) : ∃ fp, QG W qb wd (zeroM m) [] fp wr ∧ Upd [] w0 wr ∧ ∀ c ∈ fp, w0.heap.size ≤ c := by
  obtain ⟨i, ao, cap, sb, F, hi, -, hB, hR, hS, hT, h1, h2, h3, h4, h5, hU, h6⟩ := hrel
  have e : i = m := by simp only [Value.int.injEq, true_and] at hi; omega
  subst e
  obtain ⟨sr, rfl, hr⟩ := hR.row (by omega)
  have hlen : (zeroM i).length = i := by unfold zeroM; simp
  have htl : t.L = List.replicate i zLeaf := by rw [ht]; rfl
  have htN : t.N = List.replicate (2 * sizeOf2 i) (-1) := by rw [ht]; rfl
  have hts : t.size = sizeOf2 i := by rw [ht]; rfl
  have hsr := h3 sr (by simp [blkO])
  have hwz := hW.size
  refine ⟨_, ⟨sr, cap, t, sb, F, { top := by rw [hlen]; exact hB, row := by rw [hlen]; exact hr, sh := fun j hj => by rw [hlen] at hj; rw [zeroM_at]; exact hS j hj, tour := hT, good := ?_, pow := by rw [hts]; exact pow_sizeOf2 i, tl := by rw [htl, leavesM_zero], tlen := by rw [leavesM_len], dis := fun a j ha hj => by rw [hlen] at ha hj; exact h1 a j ha hj, own := fun j hj c hc e => ?_, q1 := fun e => hsr.1 (by simp [e]), q2 := h5, q3 := fun e => hsr.1 (by simp only [List.mem_cons] at e ⊢; exact .inr e), newH := fun c hc => ?_ }, ?_, rfl⟩, hU, fun c hc => ?_⟩
  · rw [htl, htN, hts]; exact new_good i hm h16
  · rw [hlen] at hj
    simp only [headsQ, List.mem_cons, List.not_mem_nil, or_false] at e
    have h2c := h2 j hj c hc
    simp only [List.mem_cons, List.not_mem_nil, or_false, blkO] at h2c
    rcases e with e | e | e | e | e
    · exact h2c.1 (.inl e)
    · exact h2c.2 e
    · exact h2c.1 (.inr (.inl e))
    · exact h2c.1 (.inr (.inr (.inl e)))
    · exact h2c.1 (.inr (.inr (.inr e)))
  · simp only [headsQ, List.mem_cons, List.not_mem_nil, or_false] at hc
    rcases hc with rfl | rfl | rfl | rfl | rfl
    · have := h4 c (by simp); omega
    · have := hsr.2; omega
    · have := h4 t.bt (by simp); omega
    · have := h4 t.bl (by simp); omega
    · have := h4 t.bn (by simp); omega
  · exact QOk.nil (by rw [hlen]; exact hm) (by rw [hlen]; exact h16) (fun j hj => by rw [zeroM_at])
  · rcases mem_fpN.1 hc with hc | ⟨j, hj, hc⟩
    · simp only [headsQ, List.mem_cons, List.not_mem_nil, or_false] at hc
      rcases hc with rfl | rfl | rfl | rfl | rfl
      · exact h4 c (by simp)
      · exact hsr.2
      · exact h4 t.bt (by simp)
      · exact h4 t.bl (by simp)
      · exact h4 t.bn (by simp)
    · rw [hlen] at hj; exact h6 j hj c hc
end
def NewQ (W w : World) (sh wd : Int) (e : Ending) (w' : World) : Prop := ∃ qb fp, e = .returned (.pointer (some ⟨qb, 0, none⟩)) ∧ QG W qb (heldN wd) (zeroM (leavesOf sh)) [] fp w' ∧ Upd [] w w' ∧ ∀ c ∈ fp, w.heap.size ≤ c

set_option maxRecDepth 100000 in
set_option maxHeartbeats 8000000 in
theorem QG.new {W w : World} (hU : Upd [] W w) (hT : TabAt 0 Lib.deBruijn64tab W) (shards wd : Int) : Calls Tryz.prog 29 #[.int .i64 shards, .int .i64 wd] w (NewQ W w shards wd) := by
  obtain ⟨i0, hi0, hz0, hz1, hz2⟩ := info_parts infoShardP
  have hm := leavesOf_bd shards
  have hc := leavesOf_cast shards
  unfold NewQ
  obtain ⟨m, hmm⟩ : ∃ m, leavesOf shards = m := ⟨_, rfl⟩
  rw [hmm] at hm hc ⊢
  obtain ⟨hm1, hm2⟩ := hm
  have HC : Hid (leavesOf (m : Int) = m) := by unfold Hid leavesOf; omega
  have HN : Hid (∀ w', Upd [] w w' → Calls Tryz.prog 58 #[.int .i64 wd] w' (NewS W w' wd)) := fun w' hu => SL.new (hU.trans hu) hT wd
  have HU := Lib.hid hU
  have HCC := Lib.hid hc
  clear hU hT hmm hc
  go_enter Tryz.func29, Tryz.ntmps29
  go_wp2_with fail
  rw [← HCC.out]
  refine (tnew_any (m : Int) w).mono ?_
  rintro e w1 ⟨bt, bl, bn, cp, rfl, hT1, hU1, h1, h2, h3⟩
  rw [HC.out] at hT1
  have hB := Blk.new w1 72 [.slice none 0 0, .pointer (some ⟨bt, 0, none⟩)]
  have hs1 := hU1.size
  have lt1 := hT1.top.lt
  have lt2 := hT1.leaves.lt
  have lt3 := hT1.nodes.lt
  have HT0 : Hid (QNewAt W w w1.heap.size (heldN wd) m (newTr bt bl bn cp m) (.int .i64 0) (w1.alloc (.cells #[.slice none 0 0, .pointer (some ⟨bt, 0, none⟩)] 72))) := by
    refine ⟨0, none, 0, fun _ => 0, fun _ => [], rfl, by omega, hB, RowO.nil _ _ _, fun j hj => by omega, hT1.upd ((Upd.refl [] w1).alloc _) (by simp) (by simp) (by simp), fun a j ha => by omega, fun j hj => by omega, fun c hc => (by cases hc), fun c hc => ?_, ?_, hU1.alloc _, fun j hj => by omega⟩
    · simp only [newTr, List.mem_cons, List.not_mem_nil, or_false] at hc
      omega
    · simp only [newTr, List.mem_cons, List.not_mem_nil, or_false] at lt1 lt2 lt3 ⊢
      omega
  clear hB hs1 lt1 lt2 lt3 hT1 hU1 h1 h2 h3
  go_wp2_with fail
  go_loopw [15] (fun iv wr => QNewAt W w w1.heap.size (heldN wd) m (newTr bt bl bn cp m) iv wr) (fun iv _ => m - (intOf iv).toNat)
  case atStart => exact HT0.out
  case round =>
    clear HT0
    obtain ⟨i, ao, cap, sb, F, rfl, hi, hB, hR, hS, hT, h1, h2, h3, h4, h5, hU, h6⟩ := hrel
    have b0 := hB.cell (j := 0) rfl
    have b1 := hB.cell (j := 1) rfl
    have z0 := hB.free 0
    have lb := hB.lt
    have HB := Lib.hid hB
    have HR := Lib.hid hR
    have HS := Lib.hid hS
    have HT := Lib.hid hT
    have H1 := Lib.hid h1
    have H2 := Lib.hid h2
    have H3 := Lib.hid h3
    have H4 := Lib.hid h4
    have H5 := Lib.hid h5
    have HUr := Lib.hid hU
    have H6 := Lib.hid h6
    have hqn : Hid (w1.heap.size ∉ blkO ao) := fun e => (h3 _ e).1 (by simp)
    clear hB hR hS hT h1 h2 h3 h4 h5 hU h6
    by_cases hlt : i < m
    · have t1 : decide (i < m) = true := by simp [hlt]
      have H63 : Hid (i + 1 ≤ maxLen) := by unfold Hid maxLen; omega
      have HBY : Hid ((i + 1) * 8 ≤ 140737488355328) := by unfold Hid; omega
      go_wp2_with fail
      go_region_law (first | (go_simp; go_at_call 58; refine (HN.out _ (HUr.out.trans (Upd.refl [] wr).drew)).mono ?_; rintro e w2 ⟨s, G, rfl, hN2, hU2, hG⟩; have HU2 : Hid (Upd [] wr w2) := (Upd.refl [] wr).drew.trans hU2; have c0 := (HU2.out.cell lb (by simp) 0).trans b0; have c1 := (HU2.out.cell lb (by simp) 1).trans b1; have lb2 := Nat.lt_of_lt_of_le lb HU2.out.size; have HN2 := Lib.hid hN2; have HG2 := Lib.hid hG; have HR3 := Lib.hid ((HR.out.upd HU2.out (by simp)).upd ((Upd.refl [] w2).alloc (.cells #[.pointer (some ⟨s, 0, none⟩)] 73)) (by simp)); clear hN2 hU2 hG) | (refine step_app2 _ rfl _ _ _ rfl 73 i0 _ 1 8 underlyingShards hi0 hz0 hz1 hz2 rfl Nat.one_pos ao i cap (ptrs sb i) rfl HR3.out (some ⟨w2.heap.size, 0, none⟩) 1 1 [.pointer (some ⟨s, 0, none⟩)] rfl ((p_news w2 _ 73).2 rfl) H63.out HBY.out ?_; intro ao3 cp3 w4 hA; have hU4 : Upd (blkO ao) wr w4 := (HU2.out.alloc _).then hA.upd (fun _ _ h => (by cases h)) (fun _ _ h => h); have zc := (hU4.cell lb hqn.out 0).trans b0; have zf := (hU4.frozen lb hqn.out 0).trans z0; have HA := Lib.hid hA; clear hA))
      all_goals
        go_wp2
        exact ⟨qnew_round (t := newTr bt bl bn cp m) HU.out.size hlt HB.out HR.out HS.out HT.out H1.out H2.out H3.out H4.out H5.out HUr.out H6.out HU2.out HN2.out (fun c hc => by have := HG2.out c hc; exact this) HA.out, by first | (simp [intOf]; done) | (simp [intOf]; omega)⟩
    · have t1 : decide (i < m) = false := by simp; omega
      have e : i = m := by omega
      have HD : Hid (∃ fp, QG W w1.heap.size (heldN wd) (zeroM m) [] fp wr ∧ Upd [] w wr ∧ ∀ c ∈ fp, w.heap.size ≤ c) := qnew_done (t := newTr bt bl bn cp m) HU.out hm1 hm2 rfl ⟨i, ao, cap, sb, F, by rw [e], hi, HB.out, HR.out, HS.out, HT.out, H1.out, H2.out, H3.out, H4.out, H5.out, HUr.out, H6.out⟩
      clear HB HR HS HT H1 H2 H3 H4 H5 HUr H6 hqn e
      go_wp2
      go_ret
      obtain ⟨fp, k1, k2, k3⟩ := HD.out
      exact ⟨_, fp, rfl, k1, k2, k3⟩
end Go.Proofs.YtkepeolbpgnlbaaGreatDoor
