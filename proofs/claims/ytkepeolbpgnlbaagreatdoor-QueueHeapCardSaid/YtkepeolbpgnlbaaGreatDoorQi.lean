/-
  The document's queue: Min, Pop, Drop, New. No condition.
-/
import Derived.Test.YtkepeolbpgnlbaaGreatDoorQh
set_option linter.unusedVariables false
set_option linter.unusedSimpArgs false
namespace Go.Proofs.YtkepeolbpgnlbaaGreatDoor
open Go.RowKit
section
variable {W w : World} {qb wd : Nat} {M : List Sh} {L : List It} {fp : List Nat}
/-- The deed is done; the result's own cell is written last. -/
theorem RQTo.cell {w0 w1 w2 : World} {z : Nat} (h0 : Upd [] w0 w1) (hfp : ∀ c ∈ fp, c < w0.heap.size) (hz : w0.heap.size ≤ z ∧ z < w1.heap.size) (h : RQTo W qb wd M fp w1 w2) (u v : Value) :
    RQTo W qb wd M fp w0 ((w2.setCell ⟨z, 0, none⟩ u).setCell ⟨z, 1, none⟩ v) := by
  obtain ⟨fp', k1, k2⟩ := h
  have hzf : z ∉ fp := fun e => by have := hfp z e; omega
  have hzf' : z ∉ fp' := k2.far hz.2 hzf
  have hU := ((Upd.refl [z] w2).setCell (p := ⟨z, 0, none⟩) (.inl (by simp)) u).setCell (p := ⟨z, 1, none⟩) (.inl (by simp)) v
  have k3 := (Fr.of h0).trans k2
  exact ⟨fp', k1.updS hU (fun c hc e => by simp at e; subst e; exact hzf' hc), k3.1, k3.2.then hU (fun _ _ h => h) (fun c hc e => by simp at e; omega)⟩
theorem RQTo.zcells {w1 w2 : World} {z : Nat} {ty : TypeId} {cs : List Value} (h : RQTo W qb wd M fp w1 w2) (hzf : z ∉ fp) (hB : Blk w1 z ty cs) : Blk w2 z ty cs := hB.upd h.up hzf


set_option maxRecDepth 100000 in
set_option maxHeartbeats 8000000 in
theorem RQ.min (h : RQ W qb wd M fp w) (hok : QOk M L) : Calls Tryz.prog 37 #[.pointer (some ⟨qb, 0, none⟩)] w (RetUpd [] w (firstV L)) := by
  have HF : Hid (∀ w', Upd [] w w' → Calls Tryz.prog 61 #[.pointer (some ⟨qb, 0, none⟩)] w' (FirstQ M L w')) := fun w' hu => (h.upd hu).first hok
  obtain ⟨sr, cap, sb, F, h1, rfl⟩ := h
  obtain ⟨p0, pp, lq, ls⟩ := h1.cells
  have HPP := Lib.hid pp
  have HMIN : Hid (∀ i, i < M.length → ∀ w', Upd [] w w' → Calls Tryz.prog 63 #[.pointer (some ⟨sb i, 0, none⟩)] w' (RetUpd [] w' (firstV (shAt M i).2))) := fun i hi w' hu => ((h1.sh i hi).upd hu (by simp)).min
  have h16 := hok.small
  obtain ⟨n, hn⟩ : ∃ n, M.length = n := ⟨_, rfl⟩
  rw [hn] at p0 h16 HPP HMIN
  have HN := Lib.hid hn
  clear h1 pp hok hn
  go_enter Tryz.func37, Tryz.ntmps37
  go_wp2_with fail
  refine (HF.out _ ((Upd.refl [] w).alloc _)).mono ?_
  rintro e w2 ⟨hU, h⟩
  have hZ := (Blk.new w 37 [.int .u64 0, .int .i64 0]).upd hU (by simp)
  have hU2 := ((Upd.refl [] w).alloc (.cells #[.int .u64 0, .int .i64 0] 37)).trans hU
  have z0 := hZ.free 0
  have z1 := hZ.free 1
  have zc0 := hZ.cell (j := 0) rfl
  have zc1 := hZ.cell (j := 1) rfl
  have zl := hZ.lt
  have HZ := Lib.hid hZ
  have HU2 := Lib.hid hU2
  have q0 := (hU2.cell lq (by simp) 0).trans p0
  have lq2 := Nat.lt_of_lt_of_le lq hU2.size
  have ls2 := Nat.lt_of_lt_of_le ls hU2.size
  rcases h with ⟨hL, rfl⟩ | ⟨j, x, r, l, hj, hK, hL, rfl⟩
  · have HL : Hid (firstV L = itV zIt false) := by rw [hL]; rfl
    clear hL hU hZ hU2 p0 lq ls
    go_wp2
    refine bodyPost_ret (v := itV zIt false) (by simp [results, Tryz.results37, go_sem, zc0, zc1, zl, itV, zIt]) rfl ⟨by rw [HL.out], ?_⟩
    exact (HU2.out.setCell (p := ⟨w.heap.size, 0, none⟩) (.inr (Nat.le_refl _)) _).setCell (p := ⟨w.heap.size, 1, none⟩) (.inr (Nat.le_refl _)) _
  · have HL : Hid (firstV L = itV x true) := by rw [hL]; rfl
    rw [HN.out] at hj
    have pj := (hU2.cell ls (by simp) j).trans (HPP.out j hj)
    have hm := HMIN.out j hj
    rw [hK] at hm
    have HMN : Hid (∀ w', Upd [] w w' → Calls Tryz.prog 63 #[.pointer (some ⟨sb j, 0, none⟩)] w' (RetUpd [] w' (itV x true))) := hm
    have b1 : (j : Int) < (n : Int) := by omega
    have b2 : (0 : Int) ≤ (j : Int) := by omega
    have t1 : decide ((j : Int) < 0) = false := by simp
    clear hL hU hZ hU2 p0 lq ls hK hm z0 z1 zc0 zc1 zl
    go_wp2_with fail
    refine (HMN.out _ HU2.out).mono ?_
    rintro e w3 ⟨rfl, hU3⟩
    have hZ3 := HZ.out.upd hU3 (by simp)
    have HU3 := Lib.hid (HU2.out.trans hU3)
    have z0 := hZ3.free 0
    have z1 := hZ3.free 1
    have zc0 := hZ3.cell (j := 0) rfl
    have zc1 := hZ3.cell (j := 1) rfl
    have zl := hZ3.lt
    unfold itV
    clear hU3 hZ3
    go_wp2
    refine bodyPost_ret (v := itV x true) (by simp [results, Tryz.results37, go_sem, zc0, zc1, zl, itV]) rfl ⟨by rw [HL.out], ?_⟩
    exact (HU3.out.setCell (p := ⟨w.heap.size, 0, none⟩) (.inr (Nat.le_refl _)) _).setCell (p := ⟨w.heap.size, 1, none⟩) (.inr (Nat.le_refl _)) _


set_option maxRecDepth 100000 in
set_option maxHeartbeats 8000000 in
theorem RQ.pop (h : RQ W qb wd M fp w) (hok : QOk M L) (hkey : ∀ i, i < M.length → ∀ x ∈ (shAt M i).2, x.1 = (kn x : Int) ∧ kn x < 18446744073709551616) :
    Calls Tryz.prog 34 #[.pointer (some ⟨qb, 0, none⟩)] w (fun e w' => e = .returned (firstV L) ∧ RQTo W qb wd (popM M L) fp w w') := by
  have HLT := Lib.hid h.lt
  have HF : Hid (∀ w', Upd [] w w' → Calls Tryz.prog 61 #[.pointer (some ⟨qb, 0, none⟩)] w' (FirstQ M L w')) := fun w' hu => (h.upd hu).first hok
  have HH := Lib.hid h
  obtain ⟨sr, cap, sb, F, h1, rfl⟩ := h
  obtain ⟨p0, pp, lq, ls⟩ := h1.cells
  have HPP := Lib.hid pp
  have HQ := Lib.hid h1
  have HKEY := Lib.hid hkey
  have HOK := Lib.hid hok
  have h16 := hok.small
  obtain ⟨n, hn⟩ : ∃ n, M.length = n := ⟨_, rfl⟩
  have HN := Lib.hid hn
  rw [hn] at p0 h16
  clear h1 pp hok hn hkey
  go_enter Tryz.func34, Tryz.ntmps34
  go_wp2_with fail
  refine (HF.out _ ((Upd.refl [] w).alloc _)).mono ?_
  rintro e w2 ⟨hU, h⟩
  have hZ := (Blk.new w 37 [.int .u64 0, .int .i64 0]).upd hU (by simp)
  have hU2 := ((Upd.refl [] w).alloc (.cells #[.int .u64 0, .int .i64 0] 37)).trans hU
  have z0 := hZ.free 0
  have z1 := hZ.free 1
  have zc0 := hZ.cell (j := 0) rfl
  have zc1 := hZ.cell (j := 1) rfl
  have zl := hZ.lt
  have HZ := Lib.hid hZ
  have HU2 := Lib.hid hU2
  have q0 := (hU2.cell lq (by simp) 0).trans p0
  have lq2 := Nat.lt_of_lt_of_le lq hU2.size
  have ls2 := Nat.lt_of_lt_of_le ls hU2.size
  rcases h with ⟨hL, rfl⟩ | ⟨j, x, r, l, hj, hK, hL, rfl⟩
  · have HL : Hid (firstV L = itV zIt false ∧ popM M L = M) := by rw [hL]; exact ⟨rfl, rfl⟩
    clear hL hU hZ hU2 p0 lq ls
    go_wp2
    refine bodyPost_ret (v := itV zIt false) (by simp [results, Tryz.results34, go_sem, zc0, zc1, zl, itV, zIt]) rfl ⟨by rw [HL.out.1], ?_⟩
    rw [HL.out.2]
    exact RQTo.cell HU2.out HLT.out ⟨Nat.le_refl _, HZ.out.lt⟩ ⟨_, HH.out.upd HU2.out, Fr.refl _ _⟩ _ _
  · have HL : Hid (firstV L = itV x true ∧ popM M L = M.set j (kn x, r)) := ⟨by rw [hL]; rfl, popM_at HOK.out hj hK hL⟩
    have hjn : j < n := by rw [← HN.out]; exact hj
    have pj := (hU2.cell ls (by simp) j).trans (HPP.out j hj)
    have hm := fun (w' : World) (hu : Upd [] w w') => ((HQ.out.sh j hj).upd hu (by simp)).pop (HKEY.out j hj)
    rw [hK] at hm
    have HMN : Hid (∀ w', Upd [] w w' → Calls Tryz.prog 62 #[.pointer (some ⟨sb j, 0, none⟩)] w' (fun e w'' => e = .returned (itV x true) ∧ RGTo W (sb j) (kn x) wd true r (F j) w' w'')) := hm
    have HJ := Lib.hid hj
    have b1 : (j : Int) < (n : Int) := by omega
    have b2 : (0 : Int) ≤ (j : Int) := by omega
    have t1 : decide ((j : Int) < 0) = false := by simp
    clear hL hU hZ hU2 p0 lq ls hK hm z0 z1 zc0 zc1 zl hj
    go_wp2_with fail
    refine (HMN.out _ HU2.out).mono ?_
    rintro e w3 ⟨rfl, h3⟩
    have hto := (HQ.out.upd HU2.out).to HJ.out h3
    have hzf : w.heap.size ∉ fpN [qb, sr] M.length F := fun e => by have := HLT.out _ e; omega
    have hZ3 := hto.zcells hzf HZ.out
    have z0 := hZ3.free 0
    have z1 := hZ3.free 1
    have zc0 := hZ3.cell (j := 0) rfl
    have zc1 := hZ3.cell (j := 1) rfl
    have zl := hZ3.lt
    have HTO := Lib.hid hto
    unfold itV
    clear h3 hZ3 hto hzf
    go_wp2
    refine bodyPost_ret (v := itV x true) (by simp [results, Tryz.results34, go_sem, zc0, zc1, zl, itV]) rfl ⟨by rw [HL.out.1], ?_⟩
    rw [HL.out.2]
    exact RQTo.cell HU2.out HLT.out ⟨Nat.le_refl _, HZ.out.lt⟩ HTO.out _ _


set_option maxRecDepth 100000 in
set_option maxHeartbeats 8000000 in
theorem RQ.drop (h : RQ W qb wd M fp w) (hok : QOk M L) (id : Int) :
    Calls Tryz.prog 35 #[.pointer (some ⟨qb, 0, none⟩), .int .i64 id] w (fun e w' => e = .returned (dropV L id) ∧ RQTo W qb wd (dropM M id) fp w w') := by
  have HLT := Lib.hid h.lt
  have HH := Lib.hid h
  obtain ⟨sr, cap, sb, F, h1, rfl⟩ := h
  obtain ⟨p0, pp, lq, ls⟩ := h1.cells
  have HZ := Lib.hid (Blk.new w 37 [.int .u64 0, .int .i64 0])
  by_cases hid : 0 ≤ id
  · obtain ⟨r1, r2, r3⟩ := rt_eqs hok.one hok.small hid
    have hdv := hok.find hid
    have hdm : dropM M id = M.set (rt M.length id) ((shAt M (rt M.length id)).1, dropI (shAt M (rt M.length id)).2 id) := by unfold dropM; rw [if_pos hid]
    have pi := pp _ r2
    obtain ⟨i, hi⟩ : ∃ i, rt M.length id = i := ⟨_, rfl⟩
    rw [hi] at r1 r2 r3 pi hdv hdm
    obtain ⟨x, ok, hfx⟩ := dropVit (shAt M i).2 id
    have hm := fun (w' : World) (hu : Upd [] w w') => ((h1.sh i r2).upd hu (by simp)).drop id
    rw [hfx] at hm hdv
    have HMN := Lib.hid hm
    have HDV := Lib.hid hdv
    have HDM := Lib.hid hdm
    have HQ := Lib.hid h1
    have HI := Lib.hid r2
    have h16 := hok.small
    have h1n := hok.one
    obtain ⟨n, hn⟩ : ∃ n, M.length = n := ⟨_, rfl⟩
    rw [hn] at p0 h16 h1n r1 r2
    have d1 : decide (id < 0) = false := by simp [hid]
    have d2 : ((n : Int) == 0) = false := by simp; omega
    have b1 : (i : Int) < (n : Int) := by omega
    have b2 : (0 : Int) ≤ (i : Int) := by omega
    clear h1 pp hok hn hi hm hdv hdm hfx
    go_enter Tryz.func35, Tryz.ntmps35
    go_wp2_with fail
    have hzn : Hid (w.heap.size ∉ fpN [qb, sr] M.length F) := fun e => by have := HLT.out _ e; omega
    go_region_with (go_at_call 21; refine (HMN.out _ ((Upd.refl [] w).alloc (.cells #[.int .u64 0, .int .i64 0] 37)).drew).mono ?_; rintro e w3 ⟨rfl, h3⟩; have HTO := Lib.hid ((HQ.out.upd ((Upd.refl [] w).alloc (.cells #[.int .u64 0, .int .i64 0] 37)).drew).to HI.out h3); have hZ3 := HTO.out.zcells hzn.out (HZ.out.upd ((Upd.refl [] _).drew) (by simp)); have z0 := hZ3.free 0; have z1 := hZ3.free 1; have zc0 := hZ3.cell (j := 0) rfl; have zc1 := hZ3.cell (j := 1) rfl; have zl := hZ3.lt; unfold itV; clear h3 hZ3)
    all_goals
      go_wp2
      refine bodyPost_ret (v := itV x ok) (by simp [results, Tryz.results35, go_sem, zc0, zc1, zl, itV]) rfl ⟨by rw [HDV.out], ?_⟩
      rw [HDM.out]
      exact RQTo.cell ((Upd.refl [] w).alloc (.cells #[.int .u64 0, .int .i64 0] 37)).drew HLT.out ⟨Nat.le_refl _, HZ.out.lt⟩ HTO.out _ _
  · have HL : Hid (dropV L id = itV zIt false ∧ dropM M id = M) := by
      refine ⟨?_, by unfold dropM; rw [if_neg hid]⟩
      unfold dropV; rw [findI_none.2 (hok.neg (by omega))]
    have d1 : decide (id < 0) = true := by simp; omega
    have z0 := HZ.out.free 0
    have z1 := HZ.out.free 1
    have zc0 := HZ.out.cell (j := 0) rfl
    have zc1 := HZ.out.cell (j := 1) rfl
    clear h1 pp hok
    go_enter Tryz.func35, Tryz.ntmps35
    go_wp2
    refine bodyPost_ret (v := itV zIt false) (by simp [results, Tryz.results35, go_sem, zc0, zc1, itV, zIt]) rfl ⟨by rw [HL.out.1], ?_⟩
    rw [HL.out.2]
    exact ⟨_, HH.out.upd ((Upd.refl [] w).alloc _), Fr.of ((Upd.refl [] w).alloc _)⟩
end
end Go.Proofs.YtkepeolbpgnlbaaGreatDoor
