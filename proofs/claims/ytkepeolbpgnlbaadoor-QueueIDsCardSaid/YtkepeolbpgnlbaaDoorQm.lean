/-
  The walk of QueueIDs. Condition: where a table of the library's lies.
-/
import Derived.Test.YtkepeolbpgnlbaaDoorQl
import Derived.Test.YtkepeolbpgnlbaaDoorPB
set_option linter.unusedVariables false
set_option linter.unusedSimpArgs false
namespace Go.Proofs.YtkepeolbpgnlbaaDoor
open Go.RowKit

theorem zeroM_len (m : Nat) : (zeroM m).length = m := by unfold zeroM; simp
theorem no_take {M : List Sh} {L : List It} {k : Nat} {id : Int} (h : takeQ M k id = false) : pushM M k id = M ∧ pushL M L k id = L := by unfold pushM pushL; rw [h]; simp
theorem take_neg (M : List Sh) (k : Nat) {id : Int} (h : id < 0) : takeQ M k id = false := by unfold takeQ; simp; omega
theorem take_zero (m k : Nat) {id : Int} (h : 0 ≤ id) : takeQ (zeroM m) k id = true := by
  rw [takeQ_iff, zeroM_at]; exact ⟨h, Nat.zero_le _, rfl⟩

/-- One item in one shard. -/
def oneM (m : Nat) (x : It) : List Sh := (zeroM m).set (rt m x.2) (0, [x])
theorem oneM_len (m : Nat) (x : It) : (oneM m x).length = m := by unfold oneM; rw [List.length_set, zeroM_len]
theorem oneM_at {m : Nat} (hm : 1 ≤ m) (x : It) : shAt (oneM m x) (rt m x.2) = (0, [x]) := by
  unfold oneM; rw [shAt_set (by rw [zeroM_len]; exact rt_lt hm x.2), if_pos rfl]
theorem push_zero (m k : Nat) {id : Int} (h : 0 ≤ id) : pushM (zeroM m) k id = oneM m ((k : Int), id) ∧ pushL (zeroM m) [] k id = [((k : Int), id)] := by
  unfold pushM pushL oneM
  rw [take_zero m k h, if_pos rfl, if_pos rfl, zeroM_len, zeroM_at]; exact ⟨rfl, rfl⟩
theorem one_no {m : Nat} (hm : 1 ≤ m) (x : It) (k : Nat) : takeQ (oneM m x) k x.2 = false := by
  unfold takeQ
  rw [oneM_len, oneM_at hm]
  simp [hasI]
def twoM (m : Nat) (x : It) : List Sh := (oneM m x).set (rt m x.2) (0, [])
theorem one_drop {m : Nat} (hm : 1 ≤ m) {x : It} (h : 0 ≤ x.2) : dropV [x] x.2 = itV x true ∧ dropM (oneM m x) x.2 = twoM m x ∧ dropI [x] x.2 = [] := by
  refine ⟨by unfold dropV; rw [find_head], ?_, by simp [dropI]⟩
  unfold dropM twoM
  rw [if_pos h, oneM_len, oneM_at hm]
  simp [dropI]
theorem two_take {m : Nat} (hm : 1 ≤ m) {x : It} (h : 0 ≤ x.2) (k : Nat) : takeQ (twoM m x) k x.2 = true := by
  have hl : (twoM m x).length = m := by unfold twoM; rw [List.length_set, oneM_len]
  have ha : shAt (twoM m x) (rt m x.2) = (0, []) := by unfold twoM; rw [shAt_set (by rw [oneM_len]; exact rt_lt hm x.2), if_pos rfl]
  rw [takeQ_iff, hl, ha]; exact ⟨h, Nat.zero_le _, rfl⟩

/-- A block that is none of the queue's stays. -/
theorem QGTo.hold {W w w' : World} {qb wd : Nat} {M : List Sh} {L : List It} {fp : List Nat} (h : QGTo W qb wd M L fp w w') {S : List (Nat × TypeId × List Value)} (hB : ∀ s ∈ S, Blk w s.1 s.2.1 s.2.2 ∧ s.1 ∉ fp) :
    ∃ fp', QG W qb wd M L fp' w' ∧ (∀ s ∈ S, Blk w' s.1 s.2.1 s.2.2 ∧ s.1 ∉ fp') ∧ Upd fp w w' := by
  obtain ⟨fp', k1, k2⟩ := h
  exact ⟨fp', k1, fun s hs => ⟨(hB s hs).1.upd k2.2 (hB s hs).2, k2.far (hB s hs).1.lt (hB s hs).2⟩, k2.2⟩

/-- Two blocks that are held. -/
def Held2 (w : World) (fp : List Nat) (a b : Nat) (u v u' v' : Value) : Prop := (Blk w a 24 [u, v] ∧ a ∉ fp) ∧ (Blk w b 24 [u', v'] ∧ b ∉ fp)
theorem Held2.upd {w w' : World} {fp : List Nat} {a b : Nat} {u v u' v' : Value} (h : Held2 w fp a b u v u' v') (hu : Upd [] w w') : Held2 w' fp a b u v u' v' := ⟨⟨h.1.1.upd hu (by simp), h.1.2⟩, ⟨h.2.1.upd hu (by simp), h.2.2⟩⟩
theorem QGTo.held {W w w' : World} {qb wd : Nat} {M : List Sh} {L : List It} {fp : List Nat} (h : QGTo W qb wd M L fp w w') {a b : Nat} {u v u' v' : Value} (hB : Held2 w fp a b u v u' v') :
    ∃ fp', QG W qb wd M L fp' w' ∧ Held2 w' fp' a b u v u' v' := by
  obtain ⟨fp', k1, k2⟩ := h
  exact ⟨fp', k1, ⟨hB.1.1.upd k2.2 hB.1.2, k2.far hB.1.1.lt hB.1.2⟩, ⟨hB.2.1.upd k2.2 hB.2.2, k2.far hB.2.1.lt hB.2.2⟩⟩
theorem Held2.cells {w : World} {fp : List Nat} {a b : Nat} {u v u' v' : Value} (h : Held2 w fp a b u v u' v') :
    w.cell? ⟨a, 0, none⟩ = some u ∧ w.cell? ⟨a, 1, none⟩ = some v ∧ w.cell? ⟨b, 0, none⟩ = some u' ∧ w.cell? ⟨b, 1, none⟩ = some v' ∧ w.frozen? ⟨a, 0, none⟩ = false ∧ w.frozen? ⟨a, 1, none⟩ = false ∧ a < w.heap.size ∧ b < w.heap.size :=
  ⟨h.1.1.cell (j := 0) rfl, h.1.1.cell (j := 1) rfl, h.2.1.cell (j := 0) rfl, h.2.1.cell (j := 1) rfl, h.1.1.free 0, h.1.1.free 1, h.1.1.lt, h.2.1.lt⟩

set_option maxRecDepth 100000 in
set_option maxHeartbeats 16000000 in
theorem qids_walk (sh wd xk xid key : Int) (W : World) (hT : TabAt 0 Lib.deBruijn64tab W) (_ : (Lit.int .i64 sh).wf = true) (_ : (Lit.int .i64 wd).wf = true) (h3 : (Lit.int .u64 xk).wf = true) (_ : (Lit.int .i64 xid).wf = true) (h5 : (Lit.int .u64 key).wf = true) :
    Calls Tryd.prog 3 #[.int .i64 sh, .int .i64 wd, .agg #[.int .u64 xk, .int .i64 xid], .int .u64 key] W (RetUpd [] W (.bool true)) := by
  have hk := wf_u64_bd h3
  have hkey := wf_u64_bd h5
  obtain ⟨k, rfl⟩ := Int.eq_ofNat_of_zero_le hk.1
  obtain ⟨kk, rfl⟩ := Int.eq_ofNat_of_zero_le hkey.1
  have HK : Hid (k < 18446744073709551616) := by unfold Hid; omega
  have HKK : Hid (kk < 18446744073709551616) := by unfold Hid; omega
  obtain ⟨lo, hlo⟩ : ∃ n : Int, min xid (-1) = n := ⟨_, rfl⟩
  obtain ⟨hi, hhi⟩ : ∃ n : Int, max xid 0 = n := ⟨_, rfl⟩
  have HLO : Hid (lo < 0) := by unfold Hid; omega
  have HHI : Hid (0 ≤ hi) := by unfold Hid; omega
  have HT := Lib.hid hT
  have HX := Lib.hid (Blk.new W 24 [.int .u64 (k : Int), .int .i64 xid])
  clear hk hkey hT h3 h5
  go_enter Tryd.func3, Tryd.ntmps3
  go_wp2_with fail
  refine (qmade_any W sh wd _ ((Upd.refl [] W).alloc (.cells #[.int .u64 (k : Int), .int .i64 xid] 24)) HT.out).mono ?_
  rintro e1 w1 ⟨qb, rb, V, m, fp, fq, rfl, hP, hU1, hf1, -⟩
  have HQ := Lib.hid hP.1
  have HX1 := Lib.hid (HX.out.upd hU1 (by simp))
  have HXF : Hid (W.heap.size ∉ fp) := fun e => by have := hf1 _ e; simp at this; omega
  have HM1 : Hid (1 ≤ m) := by have := hP.1.ok.one; rw [zeroM_len] at this; exact this
  clear hP hU1 hf1
  go_wp2_with fail
  refine (awake8_any _ (tab_upd HT.out HQ.out.updW)).mono ?_
  rintro e w2 ⟨rfl, hU⟩
  have HQ2 := Lib.hid (HQ.out.upd hU)
  have hX2 := HX1.out.upd hU (by simp)
  have x0 := hX2.cell (j := 0) rfl
  have x1 := hX2.cell (j := 1) rfl
  have lx := hX2.lt
  have hA := (Upd.refl [] w2).alloc (.cells #[.int .u64 (k : Int), .int .i64 lo] 24)
  have H0 : Hid (Held2 (w2.alloc (.cells #[.int .u64 (k : Int), .int .i64 lo] 24)) fp W.heap.size w2.heap.size (.int .u64 (k : Int)) (.int .i64 xid) (.int .u64 (k : Int)) (.int .i64 lo)) :=
    ⟨⟨hX2.upd hA (by simp), HXF.out⟩, ⟨Blk.new w2 24 [.int .u64 (k : Int), .int .i64 lo], fun e => by have := HQ2.out.lt _ e; omega⟩⟩
  have HQ3 := Lib.hid (HQ2.out.upd hA)
  have HX2L : Hid (W.heap.size < w2.heap.size) := lx
  clear hU hX2 hA HQ HX HX1
  have n1 := take_neg (zeroM m) k HLO.out
  have n2 := no_take (L := []) n1
  have HP1 := Lib.hid (HQ3.out.push k HK.out lo (by simp))
  rw [n1, n2.1, n2.2] at HP1
  clear n1 n2
  go_wp2_with fail
  refine HP1.out.mono ?_
  rintro e w3 ⟨rfl, h3⟩
  obtain ⟨fp1, hq, hh⟩ := h3.held H0.out
  have HQ4 := Lib.hid hq
  have H1 := Lib.hid hh
  clear h3 hq hh x0 x1 lx
  obtain ⟨x0, x1, y0, y1, f0, f1, lx, ly⟩ := H1.out.cells
  go_wp2_with fail
  refine (HQ4.out.has lo).mono ?_
  rintro e w4 ⟨rfl, n4, rfl⟩
  rw [show hasI [] lo = false from rfl]
  have HQ5 := Lib.hid (HQ4.out.upd ((Upd.refl [] w3).drewN n4))
  go_wp2_with fail
  refine (HQ5.out.len (by simp)).mono ?_
  rintro e w5 ⟨rfl, hU⟩
  have HQ6 := Lib.hid (HQ5.out.upd hU)
  have H2 := Lib.hid (H1.out.upd (((Upd.refl [] w3).drewN n4).trans hU))
  clear hU
  clear x0 x1 y0 y1 f0 f1 lx ly
  obtain ⟨x0, x1, y0, y1, f0, f1, lx, ly⟩ := H2.out.cells
  have HD1 := Lib.hid (HQ6.out.drop lo)
  rw [show dropV [] lo = itV zIt false from rfl, show dropI [] lo = [] from rfl, dropM_none HQ6.out.ok rfl] at HD1
  go_wp2_with fail
  refine HD1.out.mono ?_
  rintro e w6 ⟨rfl, h3⟩
  unfold itV
  obtain ⟨fp2, hq, hh⟩ := h3.held H2.out
  have hA := (Upd.refl [] w6).alloc (.cells #[.int .u64 zIt.1, .int .i64 zIt.2] 24)
  have HQ7 := Lib.hid (hq.upd hA)
  have H3 := Lib.hid (hh.upd hA)
  clear h3 hq hh hA
  clear x0 x1 y0 y1 f0 f1 lx ly
  obtain ⟨x0, x1, y0, y1, f0, f1, lx, ly⟩ := H3.out.cells
  have hs := (Upd.refl [W.heap.size] (w6.alloc (.cells #[.int .u64 zIt.1, .int .i64 zIt.2] 24))).setCell (p := ⟨W.heap.size, 1, none⟩) (.inl (by simp)) (.int .i64 hi)
  have HQ8 := Lib.hid (HQ7.out.updS hs (fun c hc e => by simp at e; subst e; exact H3.out.1.2 hc) (fun c hc => by simp at hc; omega))
  have H4 : Hid (Held2 ((w6.alloc (.cells #[.int .u64 zIt.1, .int .i64 zIt.2] 24)).setCell ⟨W.heap.size, 1, none⟩ (.int .i64 hi)) fp2 W.heap.size w2.heap.size (.int .u64 (k : Int)) (.int .i64 hi) (.int .u64 (k : Int)) (.int .i64 lo)) :=
    ⟨⟨H3.out.1.1.set 1 (.int .i64 hi), H3.out.1.2⟩, ⟨H3.out.2.1.setFar (fun e => by have := HX2L.out; simp at e; omega) _, H3.out.2.2⟩⟩
  obtain ⟨w7, hw7⟩ : ∃ w7, (w6.alloc (.cells #[.int .u64 zIt.1, .int .i64 zIt.2] 24)).setCell ⟨W.heap.size, 1, none⟩ (.int .i64 hi) = w7 := ⟨_, rfl⟩
  rw [hw7] at HQ8 H4
  have HW7 := Lib.hid hw7
  clear hs hw7
  have HP2 := Lib.hid (HQ8.out.push k HK.out hi (by simp))
  rw [take_zero m k HHI.out, (push_zero m k HHI.out).1, (push_zero m k HHI.out).2] at HP2
  go_wp2_with fail
  rw [HW7.out]
  refine HP2.out.mono ?_
  rintro e w8 ⟨rfl, h3⟩
  obtain ⟨fp3, hq, hh⟩ := h3.held H4.out
  have HQ9 := Lib.hid hq
  have H5 := Lib.hid hh
  clear h3 hq hh x0 x1 y0 y1 f0 f1 lx ly
  obtain ⟨x0, x1, y0, y1, f0, f1, lx, ly⟩ := H5.out.cells
  have n1 : takeQ (oneM m ((k : Int), hi)) kk hi = false := one_no HM1.out ((k : Int), hi) kk
  have n2 := no_take (L := [((k : Int), hi)]) n1
  have HP3 := Lib.hid (HQ9.out.push kk HKK.out hi (by simp))
  rw [n1, n2.1, n2.2] at HP3
  clear n1 n2
  go_wp2_with fail
  refine HP3.out.mono ?_
  rintro e w9 ⟨rfl, h3⟩
  obtain ⟨fp4, hq, hh⟩ := h3.held H5.out
  have HQ10 := Lib.hid hq
  have H6 := Lib.hid hh
  clear h3 hq hh x0 x1 y0 y1 f0 f1 lx ly
  obtain ⟨x0, x1, y0, y1, f0, f1, lx, ly⟩ := H6.out.cells
  go_wp2_with fail
  refine (HQ10.out.has hi).mono ?_
  rintro e w10 ⟨rfl, n4, rfl⟩
  rw [show hasI [((k : Int), hi)] hi = true by simp [hasI]]
  have HQ11 := Lib.hid (HQ10.out.upd ((Upd.refl [] w9).drewN n4))
  go_wp2_with fail
  refine (HQ11.out.len (by simp)).mono ?_
  rintro e w11 ⟨rfl, hU⟩
  have HQ12 := Lib.hid (HQ11.out.upd hU)
  have H7 := Lib.hid (H6.out.upd (((Upd.refl [] w9).drewN n4).trans hU))
  clear hU x0 x1 y0 y1 f0 f1 lx ly
  obtain ⟨x0, x1, y0, y1, f0, f1, lx, ly⟩ := H7.out.cells
  have h1d := one_drop HM1.out (x := ((k : Int), hi)) HHI.out
  have HD2 := Lib.hid (HQ12.out.drop hi)
  rw [h1d.1, h1d.2.1, h1d.2.2] at HD2
  clear h1d
  go_wp2_with fail
  refine HD2.out.mono ?_
  rintro e w12 ⟨rfl, h3⟩
  unfold itV
  obtain ⟨fp5, hq, hh⟩ := h3.held H7.out
  have hA := (Upd.refl [] w12).alloc (.cells #[.int .u64 (k : Int), .int .i64 hi] 24)
  have HQ13 := Lib.hid (hq.upd hA)
  have H8 := Lib.hid (hh.upd hA)
  clear h3 hq hh hA x0 x1 y0 y1 f0 f1 lx ly
  obtain ⟨x0, x1, y0, y1, f0, f1, lx, ly⟩ := H8.out.cells
  go_wp2_with fail
  refine (HQ13.out.has hi).mono ?_
  rintro e w13 ⟨rfl, n5, rfl⟩
  rw [show hasI [] hi = false from rfl]
  have HQ14 := Lib.hid (HQ13.out.upd ((Upd.refl [] _).drewN n5))
  have HP4 := Lib.hid (HQ14.out.push kk HKK.out hi (by simp))
  rw [two_take HM1.out (x := ((k : Int), hi)) HHI.out kk] at HP4
  go_wp2_with fail
  refine HP4.out.mono ?_
  rintro e w14 ⟨rfl, fp6, h6, -⟩
  have HQ15 := Lib.hid h6
  clear h6
  go_wp2
  go_ret
  exact ⟨rfl, HQ15.out.updW⟩
end Go.Proofs.YtkepeolbpgnlbaaDoor
