/-
  The walks of a queue: Min, Has, Push, Pop, Drop. No condition.
-/
import Derived.Test.YtkepeolbpgnlbaaGreatDoorQc
import Derived.Test.YtkepeolbpgnlbaaGreatDoorSq
import Derived.IntWalk
set_option linter.unusedVariables false
set_option linter.unusedSimpArgs false
namespace Go.Proofs.YtkepeolbpgnlbaaGreatDoor
open Go.RowKit

theorem rt_eqs {n : Nat} (h1 : 1 ≤ n) (h2 : n ≤ 16) {id : Int} (h : 0 ≤ id) : Int.tmod id (n : Int) = (rt n id : Nat) ∧ rt n id < n ∧ IntKind.i64.wrap ((rt n id : Nat) : Int) = (rt n id : Nat) := by
  have hl := rt_lt h1 id
  refine ⟨?_, hl, IntWalk.i64_in _ (by omega)⟩
  rw [Int.tmod_eq_emod_of_nonneg h]
  unfold rt
  have := Int.emod_nonneg id (b := (n : Int)) (by omega)
  omega

section
variable {W w : World} {qb wd : Nat} {M : List Sh} {L : List It} {fp : List Nat}
set_option maxHeartbeats 4000000 in
theorem QG.min (h : QG W qb wd M L fp w) : Calls Tryz.prog 36 #[.pointer (some ⟨qb, 0, none⟩)] w (RetUpd [] w (firstV L)) := by
  obtain ⟨sr, cap, t, sb, F, h1, h2, rfl⟩ := h
  obtain ⟨p0, p1, pp, lq, ls⟩ := h1.cells
  have HW : Hid (∀ w', Upd [] w w' → Calls Tryz.prog 47 #[.pointer (some ⟨t.bt, 0, none⟩)] w' (WinQ M L w')) := fun w' hu => (h1.upd hu).win h2
  clear h1 h2 pp
  go_enter Tryz.func36, Tryz.ntmps36
  go_wp2_with fail
  refine (HW.out _ ((Upd.refl [] w).alloc _)).mono ?_
  rintro e w2 ⟨hU, h⟩
  have hZ := (Blk.new w 37 [.int .u64 0, .int .i64 0]).upd hU (by simp)
  have HU2 := Lib.hid (((Upd.refl [] w).alloc (.cells #[.int .u64 0, .int .i64 0] 37)).trans hU)
  have z0 := hZ.free 0
  have z1 := hZ.free 1
  have zc0 := hZ.cell (j := 0) rfl
  have zc1 := hZ.cell (j := 1) rfl
  have zl := hZ.lt
  clear hU hZ p0 p1 lq ls
  rcases h with ⟨hL, rfl⟩ | ⟨j, x, r, l, _, _, hL, rfl⟩
  · have HL : Hid (firstV L = itV zIt false) := by rw [hL]; rfl
    clear hL
    go_wp2
    refine bodyPost_ret (v := itV zIt false) (by simp [results, Tryz.results36, go_sem, zc0, zc1, zl, itV, zIt]) rfl ⟨by rw [HL.out], ?_⟩
    exact ((HU2.out.setCell (p := ⟨w.heap.size, 0, none⟩) (.inr (Nat.le_refl _)) _).setCell (p := ⟨w.heap.size, 1, none⟩) (.inr (Nat.le_refl _)) _).alloc _
  · have HL : Hid (firstV L = itV x true) := by rw [hL]; rfl
    clear hL
    go_wp2
    refine bodyPost_ret (v := itV x true) (by simp [results, Tryz.results36, go_sem, zc0, zc1, zl, itV]) rfl ⟨by rw [HL.out], ?_⟩
    exact ((HU2.out.setCell (p := ⟨w.heap.size, 0, none⟩) (.inr (Nat.le_refl _)) _).setCell (p := ⟨w.heap.size, 1, none⟩) (.inr (Nat.le_refl _)) _).alloc _

set_option maxHeartbeats 4000000 in
/-- Has only draws its order. -/
theorem QG.has (h : QG W qb wd M L fp w) (id : Int) : Calls Tryz.prog 38 #[.pointer (some ⟨qb, 0, none⟩), .int .i64 id] w (fun e w' => e = .returned (.bool (hasI L id)) ∧ ∃ m, w' = w.drewN m) := by
  obtain ⟨sr, cap, t, sb, F, h1, h2, rfl⟩ := h
  obtain ⟨p0, p1, pp, lq, ls⟩ := h1.cells
  by_cases hid : 0 ≤ id
  · obtain ⟨r1, r2, r3⟩ := rt_eqs h2.one h2.small hid
    have pi := pp _ r2
    rw [h2.has id hid]
    have HS : Hid (∀ w', Upd [] w w' → Calls Tryz.prog 64 #[.pointer (some ⟨sb (rt M.length id), 0, none⟩), .int .i64 id] w' (fun e w'' => e = .returned (.bool (hasI (shAt M (rt M.length id)).2 id)) ∧ w' = w'')) := fun w' hu => ((h1.sh _ r2).upd hu).has_q id
    obtain ⟨b, hb⟩ : ∃ b, hasI (shAt M (rt M.length id)).2 id = b := ⟨_, rfl⟩
    rw [hb] at HS ⊢
    have h16 := h2.small
    have h1n := h2.one
    obtain ⟨i, hi⟩ : ∃ i, rt M.length id = i := ⟨_, rfl⟩
    rw [hi] at r1 r2 r3 pi HS
    obtain ⟨n, hn⟩ : ∃ n, M.length = n := ⟨_, rfl⟩
    rw [hn] at p0 r1 r2 h16 h1n
    have d1 : decide (0 ≤ id) = true := by simp [hid]
    have d2 : ((n : Int) == 0) = false := by simp; omega
    have b1 : (i : Int) < (n : Int) := by omega
    have b2 : (0 : Int) ≤ (i : Int) := by omega
    clear h1 h2 pp hb hi hn
    go_enter Tryz.func38, Tryz.ntmps38
    go_wp2_with fail
    go_quiet (first | (go_at_call 64; exact Calls.quiet_of_same ((HS.out _ ((Upd.refl [] w).drewN _)).mono (fun _ _ h => ⟨h.1, h.2.symm⟩))))
    go_wp2
    go_ret
    exact ⟨rfl, _, rfl⟩
  · rw [h2.neg (by omega)]
    have d1 : decide (0 ≤ id) = false := by simp; omega
    clear h1 h2 pp
    go_enter Tryz.func38, Tryz.ntmps38
    go_wp2_with fail
    go_quiet (fail)
    go_wp2
    go_ret
    exact ⟨rfl, _, rfl⟩
end
/-! ### Push, Pop, Drop -/
theorem takeS_at {M : List Sh} {i k : Nat} {id : Int} (h0 : 0 ≤ id) (hi : rt M.length id = i) : takeS (shAt M i).1 (shAt M i).2 k id = takeQ M k id := by
  subst hi; unfold takeS takeQ; simp [h0]
theorem leavesM_same {M : List Sh} {i : Nat} (hi : i < M.length) (b : Nat) : leavesM (M.set i (b, (shAt M i).2)) = leavesM M := by
  rw [leavesM_set]
  show (leavesM M).set i (leafOf (shAt M i).2) = leavesM M
  rw [← leavesM_get hi, List.getD_eq_getElem?_getD, List.getElem?_eq_getElem (by rw [leavesM_len]; exact hi)]
  exact List.set_getElem_self _
section
variable {W w w0 : World} {qb wd : Nat} {M : List Sh} {L : List It} {fp : List Nat} {sr cap : Nat} {t : Tr} {sb : Nat → Nat} {F : Nat → List Nat}
theorem QAt.stale (h : QAt W w qb wd M (leavesM M) sr cap t sb F) {i : Nat} (hi : i < M.length) {b : Nat} {K : List It} {w' : World} (k : SLTo W (sb i) b wd K (F i) w w') :
    ∃ fp', QStl W qb wd (M.set i (b, K)) (leavesM M) i fp' w' ∧ Fr (fpN (headsQ qb sr t) M.length F) fp' w w' := by
  obtain ⟨F', k1, k2⟩ := h.shard hi k
  exact ⟨_, ⟨sr, cap, t, sb, F', k1, by rw [List.length_set]; exact hi, by rw [shAt_set hi, if_pos rfl, leavesM_set], rfl⟩, by rw [List.length_set]; exact k2⟩
theorem QAt.kept (h : QAt W w qb wd M (leavesM M) sr cap t sb F) {i : Nat} (hi : i < M.length) {b : Nat} {w' : World} (k : SLTo W (sb i) b wd (shAt M i).2 (F i) w w') :
    ∃ fp', QNow W qb wd (M.set i (b, (shAt M i).2)) fp' w' ∧ Fr (fpN (headsQ qb sr t) M.length F) fp' w w' := by
  obtain ⟨F', k1, k2⟩ := h.shard hi k
  exact ⟨_, ⟨sr, cap, t, sb, F', by rw [leavesM_same hi]; exact k1, rfl⟩, by rw [List.length_set]; exact k2⟩

/-- A block that was made before a deed, and is none of the queue's, stays so. -/
theorem Fr.far {fp fp' : List Nat} {w w' : World} (h : Fr fp fp' w w') {c : Nat} (hc : c < w.heap.size) (hn : c ∉ fp) : c ∉ fp' := by
  intro e
  rcases h.1 c e with k | k
  · exact hn k
  · omega

set_option maxRecDepth 100000 in
set_option maxHeartbeats 8000000 in
theorem QG.push (h : QG W qb wd M L fp w) (k : Nat) (hk : k < 18446744073709551616) (id : Int) (hsm : L.length < 1000) :
    Calls Tryz.prog 16 #[.pointer (some ⟨qb, 0, none⟩), .agg #[.int .u64 k, .int .i64 id]] w (fun e w' => e = .returned (.bool (takeQ M k id)) ∧ QGTo W qb wd (pushM M k id) (pushL M L k id) fp w w') := by
  have hok := pushM_ok h.ok k id
  obtain ⟨sr, cap, t, sb, F, h1, h2, rfl⟩ := h
  obtain ⟨p0, p1, pp, lq, ls⟩ := h1.cells
  by_cases hid : 0 ≤ id
  · obtain ⟨r1, r2, r3⟩ := rt_eqs h2.one h2.small hid
    have pi := pp _ r2
    obtain ⟨i, hi⟩ : ∃ i, rt M.length id = i := ⟨_, rfl⟩
    have htk := takeS_at (k := k) hid hi
    rw [hi] at r1 r2 r3 pi
    have h16 := h2.small
    have HP : Hid (∀ w', Upd [] w w' → Calls Tryz.prog 44 #[.pointer (some ⟨sb i, 0, none⟩), .agg #[.int .u64 k, .int .i64 id]] w' (fun e w'' => e = .returned (.bool (takeQ M k id)) ∧ SLTo W (sb i) (shAt M i).1 wd (if takeQ M k id = true then insI ((k : Int), id) (shAt M i).2 else (shAt M i).2) (F i) w' w'')) := fun w' hu => by
      have := ((h1.sh i r2).upd hu).push k hk id (Nat.lt_of_le_of_lt (h2.len_sh r2) hsm)
      rw [htk] at this; exact this
    have HM : Hid (pushM M k id = M.set i ((shAt M i).1, if takeQ M k id = true then insI ((k : Int), id) (shAt M i).2 else (shAt M i).2)) := by
      unfold Hid pushM; rw [hi]; split
      · rfl
      · exact (set_shAt r2).symm
    have HQ := Lib.hid h1
    have HOK := Lib.hid hok
    have HR2 := Lib.hid r2
    have H16 := Lib.hid h2.small
    have h1n := h2.one
    obtain ⟨n, hn⟩ : ∃ n, M.length = n := ⟨_, rfl⟩
    rw [hn] at p0 r1 r2 h16 h1n
    obtain ⟨tk, htq⟩ : ∃ b, takeQ M k id = b := ⟨_, rfl⟩
    rw [htq] at HP HM ⊢
    have d1 : decide (id < 0) = false := by simp [hid]
    have d2 : ((n : Int) == 0) = false := by simp; omega
    have b1 : (i : Int) < (n : Int) := by omega
    have b2 : (0 : Int) ≤ (i : Int) := by omega
    clear h1 h2 pp hi hn hok htk htq
    cases tk with
    | false =>
      rw [if_neg (by simp)] at HM
      simp only [Bool.false_eq_true, if_false] at HP
      go_enter Tryz.func16, Tryz.ntmps16
      go_wp2_with fail
      go_quiet (fail)
      go_wp2_with fail
      refine wp_region_tail 8 (by kernel_rfl) (by kernel_rfl) ?_
      simp only [List.take_succ_cons, List.take_zero, List.drop_succ_cons, List.drop_zero]
      repeat (go_big_quiet_step (fail))
      refine wpQuiet_nil ?_
      go_wp2_with fail
      refine (HP.out _ (((Upd.refl [] w).alloc _).drewN _).drew).mono ?_
      rintro e w2 ⟨rfl, h2⟩
      obtain ⟨fp2, hT, hF⟩ := (HQ.out.upd (((Upd.refl [] w).alloc _).drewN _).drew).kept HR2.out h2
      have HT := Lib.hid hT
      have HF := Lib.hid ((Fr.of (((Upd.refl [] w).alloc _).drewN _).drew).trans hF)
      clear h2 hT hF
      go_wp2
      go_ret
      exact ⟨rfl, fp2, QNow.ok (by rw [HM.out]; exact HT.out) HOK.out, HF.out⟩
    | true =>
      rw [if_pos rfl] at HM
      simp only [if_true] at HP
      go_enter Tryz.func16, Tryz.ntmps16
      go_wp2_with fail
      go_quiet (fail)
      go_wp2_with fail
      refine wp_region_tail 8 (by kernel_rfl) (by kernel_rfl) ?_
      simp only [List.take_succ_cons, List.take_zero, List.drop_succ_cons, List.drop_zero]
      repeat (go_big_quiet_step (fail))
      refine wpQuiet_nil ?_
      go_wp2_with fail
      refine (HP.out _ (((Upd.refl [] w).alloc _).drewN _).drew).mono ?_
      rintro e w2 ⟨rfl, h2⟩
      obtain ⟨fp2, hT, hF⟩ := (HQ.out.upd (((Upd.refl [] w).alloc _).drewN _).drew).stale HR2.out h2
      have HT := Lib.hid hT
      have HF := Lib.hid ((Fr.of (((Upd.refl [] w).alloc _).drewN _).drew).trans hF)
      clear h2 hT hF
      go_wp2_with fail
      refine (qplay HT.out (by rw [List.length_set]; exact H16.out)).mono ?_
      rintro e w3 ⟨rfl, fp3, h3, hF3⟩
      have H3 := Lib.hid h3
      have HF3 := Lib.hid (HF.out.trans hF3)
      clear h3 hF3
      go_wp2
      go_ret
      exact ⟨rfl, fp3, QNow.ok (by rw [HM.out]; exact H3.out) HOK.out, HF3.out⟩
  · have HT : Hid (takeQ M k id = false) := by unfold Hid takeQ; simp [hid]
    have HM : Hid (pushM M k id = M ∧ pushL M L k id = L) := by unfold Hid pushM pushL; rw [HT.out]; simp
    rw [HT.out, HM.out.1, HM.out.2]
    have HQ : Hid (QG W qb wd M L (fpN (headsQ qb sr t) M.length F) w) := ⟨sr, cap, t, sb, F, h1, h2, rfl⟩
    have d1 : decide (id < 0) = true := by simp; omega
    clear h1 h2 pp hok
    go_enter Tryz.func16, Tryz.ntmps16
    go_wp2
    go_ret
    exact ⟨rfl, _, HQ.out.upd ((Upd.refl [] w).alloc _), Fr.of ((Upd.refl [] w).alloc _)⟩

set_option maxRecDepth 100000 in
set_option maxHeartbeats 8000000 in
theorem QG.pop (h : QG W qb wd M L fp w) : Calls Tryz.prog 18 #[.pointer (some ⟨qb, 0, none⟩)] w (fun e w' => e = .returned (firstV L) ∧ QGTo W qb wd (popM M L) L.tail fp w w') := by
  have hok := popM_ok h.ok
  have hlt := h.lt
  have hlw := h.updW.size
  obtain ⟨sr, cap, t, sb, F, h1, h2, rfl⟩ := h
  obtain ⟨p0, p1, pp, lq, ls⟩ := h1.cells
  have HW : Hid (∀ w', Upd [] w w' → Calls Tryz.prog 47 #[.pointer (some ⟨t.bt, 0, none⟩)] w' (WinQ M L w')) := fun w' hu => (h1.upd hu).win h2
  have HQ := Lib.hid h1
  have HOK := Lib.hid hok
  have HO := Lib.hid h2
  have HLT := Lib.hid hlt
  have HLW := Lib.hid hlw
  have HPP := Lib.hid pp
  have H16 := Lib.hid h2.small
  have h16 := h2.small
  obtain ⟨n, hn⟩ : ∃ n, M.length = n := ⟨_, rfl⟩
  have HN := Lib.hid hn
  rw [hn] at p0 h16
  clear h1 h2 pp hok hlt hlw hn
  go_enter Tryz.func18, Tryz.ntmps18
  go_wp2_with fail
  refine (HW.out _ ((Upd.refl [] w).alloc _)).mono ?_
  rintro e w2 ⟨hU, h⟩
  have hZ := (Blk.new w 37 [.int .u64 0, .int .i64 0]).upd hU (by simp)
  have hU2 := ((Upd.refl [] w).alloc (.cells #[.int .u64 0, .int .i64 0] 37)).trans hU
  have HU2 := Lib.hid hU2
  have p0' := (hU2.cell lq (by simp) 0).trans p0
  have p1' := (hU2.cell lq (by simp) 1).trans p1
  have lq' := Nat.lt_of_lt_of_le lq hU2.size
  have ls' := Nat.lt_of_lt_of_le ls hU2.size
  have z0 := hZ.free 0
  have z1 := hZ.free 1
  have zc0 := hZ.cell (j := 0) rfl
  have zc1 := hZ.cell (j := 1) rfl
  have zl := hZ.lt
  have HZ := Lib.hid hZ
  clear hU hZ p0 p1 lq
  rcases h with ⟨hL, rfl⟩ | ⟨j, x, r, l, hj, hK, hL, rfl⟩
  · subst hL
    clear hU2
    go_wp2
    refine bodyPost_ret (v := itV zIt false) (by simp [results, Tryz.results18, go_sem, zc0, zc1, zl, itV, zIt]) rfl ⟨rfl, ?_⟩
    have hU3 := ((HU2.out.setCell (p := ⟨w.heap.size, 0, none⟩) (.inr (Nat.le_refl _)) (.int .u64 0)).setCell (p := ⟨w.heap.size, 1, none⟩) (.inr (Nat.le_refl _)) (.int .i64 0)).alloc (.cells #[.int .u64 0, .int .i64 0] 37)
    exact ⟨_, ⟨sr, cap, t, sb, F, HQ.out.upd hU3, HO.out, rfl⟩, Fr.of hU3⟩
  · have pi := (hU2.cell ls (by simp) j).trans (HPP.out j hj)
    have HJ := Lib.hid hj
    have HK := Lib.hid hK
    have HL := Lib.hid hL
    have hjn : j < n := by rw [← HN.out]; exact hj
    have b1 : (j : Int) < (n : Int) := by omega
    have b2 : (0 : Int) ≤ (j : Int) := by omega
    have hp := fun (w' : World) (hu : Upd [] w w') => ((HQ.out.sh j hj).upd hu).pop
    rw [hK] at hp
    have HP : Hid (∀ w', Upd [] w w' → Calls Tryz.prog 48 #[.pointer (some ⟨sb j, 0, none⟩)] w' (fun e w'' => e = .returned (itV x true) ∧ SLTo W (sb j) (kn x) wd r (F j) w' w'')) := hp
    have HM : Hid (popM M L = M.set j (kn x, r)) := popM_at HO.out hj hK hL
    have HFV : Hid (firstV L = itV x true) := by unfold Hid; rw [hL]; rfl
    clear hU2 hj hK hL hp ls
    go_wp2_with fail
    refine (HP.out _ (HU2.out.alloc _)).mono ?_
    rintro e w3 ⟨rfl, h3⟩
    obtain ⟨fp3, hT, hF⟩ := (HQ.out.upd (HU2.out.alloc _)).stale HJ.out h3
    have hz2 : w.heap.size < w2.heap.size := HZ.out.lt
    have hzf : w.heap.size ∉ fpN (headsQ qb sr t) M.length F := fun e => by have := HLT.out _ e; omega
    have hZ3 := (HZ.out.upd ((Upd.refl [] w2).alloc (.cells #[.int .u64 x.1, .int .i64 x.2] 37)) (by simp)).upd hF.2 hzf
    have HZ3 := Lib.hid hZ3
    have HZF := Lib.hid (hF.far (by simp; omega) hzf)
    have HT := Lib.hid hT
    have HF := Lib.hid ((Fr.of (HU2.out.alloc (.cells #[.int .u64 x.1, .int .i64 x.2] 37))).trans hF)
    clear h3 hZ3 z0 z1 zc0 zc1 zl p0' p1' lq' ls' pi hT hF hz2 hzf
    unfold itV
    have HX := Lib.hid (Blk.new w3 37 [.int .u64 x.1, .int .i64 x.2])
    have HZ4 := Lib.hid (HZ3.out.upd ((Upd.refl [] w3).alloc (.cells #[.int .u64 x.1, .int .i64 x.2] 37)) (by simp))
    go_wp2_with fail
    refine (qplay (HT.out.upd ((Upd.refl [] w3).alloc (.cells #[.int .u64 x.1, .int .i64 x.2] 37))) (by rw [List.length_set]; exact H16.out)).mono ?_
    rintro e w4 ⟨rfl, fp4, h4, hF4⟩
    have hxn : w3.heap.size ∉ fp3 := fun e => by have := HT.out.lt _ e; omega
    have hx4 := HX.out.upd hF4.2 hxn
    have hz4 := HZ4.out.upd hF4.2 HZF.out
    have x0 := hx4.cell (j := 0) rfl
    have x1 := hx4.cell (j := 1) rfl
    have z0 := hz4.free 0
    have z1 := hz4.free 1
    have zc0 := hz4.cell (j := 0) rfl
    have zc1 := hz4.cell (j := 1) rfl
    have zl := hz4.lt
    have hzx : w.heap.size < w3.heap.size := HZ3.out.lt
    have HZX := Lib.hid hzx
    have H4 := Lib.hid h4
    have HZ5 := Lib.hid (hF4.far (by simp; omega) HZF.out)
    have HF4 := Lib.hid ((HF.out.trans (Fr.of ((Upd.refl [] w3).alloc _))).trans hF4)
    clear h4 hF4 hx4 hz4 hxn hzx
    go_wp2
    have hU5 := ((Upd.refl [w.heap.size] w4).setCell (p := ⟨w.heap.size, 0, none⟩) (.inl (by simp)) (.int .u64 x.1)).setCell (p := ⟨w.heap.size, 1, none⟩) (.inl (by simp)) (.int .i64 x.2)
    have h5 := H4.out.updS hU5 (fun c hc e => by simp at e; subst e; exact HZ5.out hc) (fun c hc => by simp at hc; subst hc; exact HLW.out)
    rw [← HM.out] at h5
    refine bodyPost_ret (v := itV x true) (by simp [results, Tryz.results18, go_sem, zc0, zc1, zl, itV]) rfl ⟨by rw [HFV.out], fp4, h5.ok HOK.out, HF4.out.1, HF4.out.2.then hU5 (fun _ _ h => h) (fun c hc e => by simp at e; omega)⟩

set_option maxRecDepth 100000 in
set_option maxHeartbeats 8000000 in
theorem QG.drop (h : QG W qb wd M L fp w) (id : Int) : Calls Tryz.prog 20 #[.pointer (some ⟨qb, 0, none⟩), .int .i64 id] w (fun e w' => e = .returned (dropV L id) ∧ QGTo W qb wd (dropM M id) (dropI L id) fp w w') := by
  have hok := dropM_ok h.ok id
  have hlt := h.lt
  have hlw := h.updW.size
  have HHAS : Hid (∀ w', Upd [] w w' → Calls Tryz.prog 38 #[.pointer (some ⟨qb, 0, none⟩), .int .i64 id] w' (fun e w'' => e = .returned (.bool (hasI L id)) ∧ ∃ m, w'' = w'.drewN m)) := fun w' hu => (h.upd hu).has id
  by_cases hx : hasI L id = true
  · have hid : 0 ≤ id := by
      by_cases h0 : 0 ≤ id
      · exact h0
      · rw [h.ok.neg (by omega)] at hx; cases hx
    rw [hx] at HHAS
    obtain ⟨sr, cap, t, sb, F, h1, h2, rfl⟩ := h
    obtain ⟨p0, p1, pp, lq, ls⟩ := h1.cells
    obtain ⟨r1, r2, r3⟩ := rt_eqs h2.one h2.small hid
    have pi := pp _ r2
    have hdv := h2.find hid
    have hdm : dropM M id = M.set (rt M.length id) ((shAt M (rt M.length id)).1, dropI (shAt M (rt M.length id)).2 id) := by unfold dropM; rw [if_pos hid]
    obtain ⟨i, hi⟩ : ∃ i, rt M.length id = i := ⟨_, rfl⟩
    rw [hi] at r1 r2 r3 pi hdv hdm
    have hfnd : ∃ x, dropV (shAt M i).2 id = itV x true := by
      have hxs := hx
      rw [h2.has id hid, hi] at hxs
      unfold dropV
      cases hk : findI (shAt M i).2 id with
      | none => rw [findI_none] at hk; rw [hk] at hxs; cases hxs
      | some x => exact ⟨x, rfl⟩
    obtain ⟨x, hfx⟩ := hfnd
    rw [hdv, hfx]
    have hp := fun (w' : World) (hu : Upd [] w w') => ((h1.sh i r2).upd hu).drop id
    rw [hfx] at hp
    have HP := Lib.hid hp
    have HM := Lib.hid hdm
    have HQ := Lib.hid h1
    have HOK := Lib.hid hok
    have HLT := Lib.hid hlt
    have HLW := Lib.hid hlw
    have HI := Lib.hid r2
    have H16 := Lib.hid h2.small
    have h16 := h2.small
    have h1n := h2.one
    obtain ⟨n, hn⟩ : ∃ n, M.length = n := ⟨_, rfl⟩
    rw [hn] at p0 h16 h1n r1 r2
    have d2 : ((n : Int) == 0) = false := by simp; omega
    have b1 : (i : Int) < (n : Int) := by omega
    have b2 : (0 : Int) ≤ (i : Int) := by omega
    clear h1 h2 pp hok hlt hlw hn hp hi hdv hdm hfx hx
    go_enter Tryz.func20, Tryz.ntmps20
    go_wp2_with fail
    refine (HHAS.out _ ((Upd.refl [] w).alloc _)).mono ?_
    rintro e w2 ⟨rfl, m, rfl⟩
    have hZ := (Blk.new w 37 [.int .u64 0, .int .i64 0])
    have hZ := hZ.upd ((Upd.refl [] _).drewN m) (by simp)
    have hU2 := ((Upd.refl [] w).alloc (.cells #[.int .u64 0, .int .i64 0] 37)).drewN m
    obtain ⟨w2, hw2⟩ : ∃ w2, (w.alloc (.cells #[.int .u64 0, .int .i64 0] 37)).drewN m = w2 := ⟨_, rfl⟩
    rw [hw2] at hZ hU2 ⊢
    have HU2 := Lib.hid hU2
    have HZ := Lib.hid hZ
    have p0' := (hU2.cell lq (by simp) 0).trans p0
    have p1' := (hU2.cell lq (by simp) 1).trans p1
    have pi' := (hU2.cell ls (by simp) i).trans pi
    have lq' := Nat.lt_of_lt_of_le lq hU2.size
    have ls' := Nat.lt_of_lt_of_le ls hU2.size
    clear hU2 hZ hw2 p0 p1 pi lq ls
    go_wp2_with fail
    refine (HP.out _ HU2.out).mono ?_
    rintro e w3 ⟨rfl, h3⟩
    obtain ⟨fp3, hT, hF⟩ := (HQ.out.upd HU2.out).stale HI.out h3
    have hz2 : w.heap.size < w2.heap.size := HZ.out.lt
    have hzf : w.heap.size ∉ fpN (headsQ qb sr t) M.length F := fun e => by have := HLT.out _ e; omega
    have hZ3 := HZ.out.upd hF.2 hzf
    have HZ3 := Lib.hid hZ3
    have HZF := Lib.hid (hF.far hz2 hzf)
    have HT := Lib.hid hT
    have HF := Lib.hid ((Fr.of HU2.out).trans hF)
    clear h3 hZ3 p0' p1' lq' pi' ls' hT hF hz2 hzf
    unfold itV
    have HX := Lib.hid (Blk.new w3 37 [.int .u64 x.1, .int .i64 x.2])
    have HZ4 := Lib.hid (HZ3.out.upd ((Upd.refl [] w3).alloc (.cells #[.int .u64 x.1, .int .i64 x.2] 37)) (by simp))
    go_wp2_with fail
    refine (qplay (HT.out.upd ((Upd.refl [] w3).alloc (.cells #[.int .u64 x.1, .int .i64 x.2] 37))) (by rw [List.length_set]; exact H16.out)).mono ?_
    rintro e w4 ⟨rfl, fp4, h4, hF4⟩
    have hxn : w3.heap.size ∉ fp3 := fun e => by have := HT.out.lt _ e; omega
    have hx4 := HX.out.upd hF4.2 hxn
    have hz4 := HZ4.out.upd hF4.2 HZF.out
    have x0 := hx4.cell (j := 0) rfl
    have x1 := hx4.cell (j := 1) rfl
    have z0 := hz4.free 0
    have z1 := hz4.free 1
    have zc0 := hz4.cell (j := 0) rfl
    have zc1 := hz4.cell (j := 1) rfl
    have zl := hz4.lt
    have hzx : w.heap.size < w3.heap.size := HZ3.out.lt
    have HZX := Lib.hid hzx
    have H4 := Lib.hid h4
    have HZ5 := Lib.hid (hF4.far (by simp; omega) HZF.out)
    have HF4 := Lib.hid ((HF.out.trans (Fr.of ((Upd.refl [] w3).alloc _))).trans hF4)
    clear h4 hF4 hx4 hz4 hxn hzx
    go_wp2
    have hU5 := ((Upd.refl [w.heap.size] w4).setCell (p := ⟨w.heap.size, 0, none⟩) (.inl (by simp)) (.int .u64 x.1)).setCell (p := ⟨w.heap.size, 1, none⟩) (.inl (by simp)) (.int .i64 x.2)
    have h5 := H4.out.updS hU5 (fun c hc e => by simp at e; subst e; exact HZ5.out hc) (fun c hc => by simp at hc; subst hc; exact HLW.out)
    rw [← HM.out] at h5
    refine bodyPost_ret (v := itV x true) (by simp [results, Tryz.results20, go_sem, zc0, zc1, zl, itV]) rfl ⟨rfl, fp4, h5.ok HOK.out, HF4.out.1, HF4.out.2.then hU5 (fun _ _ h => h) (fun c hc e => by simp at e; omega)⟩
  · have hxf : hasI L id = false := by simpa using hx
    rw [hxf] at HHAS
    have HR : Hid (dropV L id = itV zIt false ∧ dropM M id = M ∧ dropI L id = L) := ⟨by unfold dropV; rw [findI_none.2 hxf], dropM_none h.ok hxf, dropI_none hxf⟩
    rw [HR.out.1, HR.out.2.1, HR.out.2.2]
    have HQ := Lib.hid h
    clear h hok hlt hlw hx hxf
    go_enter Tryz.func20, Tryz.ntmps20
    go_wp2_with fail
    refine (HHAS.out _ ((Upd.refl [] w).alloc _)).mono ?_
    rintro e w2 ⟨rfl, m, rfl⟩
    have hZ := (Blk.new w 37 [.int .u64 0, .int .i64 0]).upd ((Upd.refl [] _).drewN m) (by simp)
    have hU2 := ((Upd.refl [] w).alloc (.cells #[.int .u64 0, .int .i64 0] 37)).drewN m
    obtain ⟨w2, hw2⟩ : ∃ w2, (w.alloc (.cells #[.int .u64 0, .int .i64 0] 37)).drewN m = w2 := ⟨_, rfl⟩
    rw [hw2] at hZ hU2 ⊢
    have HU2 := Lib.hid hU2
    have z0 := hZ.free 0
    have z1 := hZ.free 1
    have zc0 := hZ.cell (j := 0) rfl
    have zc1 := hZ.cell (j := 1) rfl
    have zl := hZ.lt
    clear hU2 hw2 hZ
    go_wp2
    have hU3 := (HU2.out.setCell (p := ⟨w.heap.size, 0, none⟩) (.inr (Nat.le_refl _)) (.int .u64 0)).setCell (p := ⟨w.heap.size, 1, none⟩) (.inr (Nat.le_refl _)) (.int .i64 0)
    refine bodyPost_ret (v := itV zIt false) (by simp [results, Tryz.results20, go_sem, zc0, zc1, zl, itV, zIt]) rfl ⟨rfl, fp, HQ.out.upd hU3, Fr.of hU3⟩
end
end Go.Proofs.YtkepeolbpgnlbaaGreatDoor
