/-
  The document's model: register. No condition.
-/
import Derived.Test.YtfeobcmcellcpaaGreatPc
set_option linter.unusedVariables false
set_option linter.unusedSimpArgs false
namespace Go.Proofs.YtfeobcmcellcpaaGreat
open Go.RowKit

set_option maxHeartbeats 4000000 in
theorem rfinverse {unit : Nat} (h1 : 1 ≤ unit) (h2 : unit ≤ 4611686018427387904) (a : Int) (w : World) : Calls Tryz.prog 110 #[.int .u64 unit, .int .i64 a] w (fun e w' => e = .returned (if 1 ≤ a ∧ a ≤ 65536 then .tuple #[.int .u64 (invU unit a), .bool true] else .tuple #[.int .u64 0, .bool false]) ∧ w = w') := by
  have t1 : decide (unit < 1) = false := by simp; omega
  have t1' : decide ((unit : Int) < 1) = false := by simp; omega
  have t2 : decide (4611686018427387904 < unit) = false := by simp; omega
  have t2' : decide ((4611686018427387904 : Int) < (unit : Int)) = false := by simp; omega
  by_cases h3 : 1 ≤ a
  · have t3 : decide (a < 1) = false := by simp; omega
    by_cases h4 : a ≤ 65536
    · have t4 : decide (65536 < a) = false := by simp; omega
      rw [if_pos ⟨h3, h4⟩]
      obtain ⟨n, rfl⟩ : ∃ n : Nat, a = n := ⟨a.toNat, by omega⟩
      have hq : invU unit (n : Int) = max (unit / n) 1 := by unfold invU; rw [Int.toNat_natCast]
      obtain ⟨q, hqq⟩ : ∃ q, max (unit / n) 1 = q := ⟨_, rfl⟩
      rw [hq, hqq]
      have hd : unit / n ≤ unit := Nat.div_le_self _ _
      obtain ⟨dv, hdv⟩ : ∃ y, unit / n = y := ⟨_, rfl⟩
      have hdi : ((unit : Int) / (n : Int)) = (dv : Int) := by rw [← hdv]; simp
      have hm : Max.max (dv : Int) 1 = (q : Int) := by omega
      have hn0 : (1 : Int) ≤ (n : Int) := h3
      have hn1 : (n : Int) < 18446744073709551616 := by omega
      have hu1 : (unit : Int) < 18446744073709551616 := by omega
      have hdl : (dv : Int) < 18446744073709551616 := by omega
      clear hq hqq hd hdv
      go_enter Tryz.func110, Tryz.ntmps110
      go_wp2_with fail
      refine bodyPost_ret (v := .tuple #[.int .u64 q, .bool true]) (by simp [results, Tryz.results110, go_sem]) rfl ?_
      exact ⟨rfl, rfl⟩
    · have t4 : decide (65536 < a) = true := by simp; omega
      rw [if_neg (by omega)]
      go_enter Tryz.func110, Tryz.ntmps110
      go_wp2_with fail
      refine bodyPost_ret (v := .tuple #[.int .u64 0, .bool false]) (by simp [results, Tryz.results110, go_sem]) rfl ?_
      exact ⟨rfl, rfl⟩
  · have t3 : decide (a < 1) = true := by simp; omega
    rw [if_neg (by omega)]
    go_enter Tryz.func110, Tryz.ntmps110
    go_wp2_with fail
    refine bodyPost_ret (v := .tuple #[.int .u64 0, .bool false]) (by simp [results, Tryz.results110, go_sem]) rfl ?_
    exact ⟨rfl, rfl⟩
def DRegTo (W : World) (mb : Nat) (c : Cf) (m : Ms) (k : Cl) (G : List Nat) (w : World) (e : Ending) (w' : World) : Prop := ∃ G', e = .returned (.int .i64 (regE c m.S k)) ∧ DG W mb c (regM c m k).2 G' w' ∧ Fr G G' w w'
theorem DRegTo.no {W w w' : World} {mb : Nat} {c : Cf} {m : Ms} {k : Cl} {G : List Nat} {r : Int} (h : DG W mb c m G w) (hu : Upd [] w w') (hr : regE c m.S k = r) (h0 : r ≠ 0) : DRegTo W mb c m k G w (.returned (.int .i64 r)) w' :=
  ⟨G, by rw [hr], by rw [reg_no hr h0]; exact h.upd hu, Fr.of hu⟩
def cntF (F : List Fl) (s id : Int) (i : Nat) : Nat := matesN (F.take i) s id
theorem cntF_step {F : List Fl} {s id : Int} {i : Nat} {f : Fl} (h : F[i]? = some f) : cntF F s id (i + 1) = cntF F s id i + (if f.id % s = id % s then 1 else 0) := by
  unfold cntF matesN
  rw [List.take_add_one, h, List.countP_append]
  congr 1
  by_cases hh : f.id % s = id % s <;> simp [hh]
theorem cntF_le (F : List Fl) (s id : Int) (i : Nat) : cntF F s id i ≤ i := by
  unfold cntF matesN
  exact Nat.le_trans List.countP_le_length (by rw [List.length_take]; omega)
def DRegAt (w : World) (F : List Fl) (s id : Int) (nv iv : Value) (wr : World) : Prop := ∃ i : Nat, iv = .int .i64 i ∧ nv = .int .i64 (cntF F s id i : Nat) ∧ i ≤ F.length ∧ Upd [] w wr

set_option maxRecDepth 100000 in
set_option maxHeartbeats 16000000 in
theorem dregister_any {W w : World} {mb : Nat} {c : Cf} {m : Ms} {G : List Nat} (h : DG W mb c m G w) (k : Cl) : Calls Tryz.prog 74 #[.pointer (some ⟨mb, 0, none⟩), clV k] w (DRegTo W mb c m k G w) := by
  have HM := Lib.hid h
  obtain ⟨sb, GS, h, hok, hGe⟩ := h
  have hu2 : Upd [] w (w.alloc (.cells #[.int .i64 k.op, .int .i64 k.flow, .int .i64 k.a, .int .i64 k.b] 46)) := (Upd.refl [] w).alloc _
  have hb2 := Blk.new w 46 [.int .i64 k.op, .int .i64 k.flow, .int .i64 k.a, .int .i64 k.b]
  obtain ⟨w2, hw2⟩ : ∃ y, w.alloc (.cells #[.int .i64 k.op, .int .i64 k.flow, .int .i64 k.a, .int .i64 k.b] 46) = y := ⟨_, rfl⟩
  obtain ⟨b3, hb3⟩ : ∃ y, w.heap.size = y := ⟨_, rfl⟩
  rw [hw2] at hu2 hb2
  rw [hb3] at hb2
  have HU2 := Lib.hid hu2
  have HB2 := Lib.hid hb2
  have HB3E := Lib.hid hb3
  have HGE := Lib.hid hGe
  have HOK0 := Lib.hid hok
  have H0 := Lib.hid h
  have hright := rightC_bd hok.right
  have y1 := hb2.cell (j := 1) rfl
  have y2 := hb2.cell (j := 2) rfl
  have y3 := hb2.cell (j := 3) rfl
  have ly := hb2.lt
  unfold clV
  clear hGe hb2 h hok
  by_cases h1 : k.flow < 0
  · have HRG : Hid (regE c m.S k = 1) := by unfold Hid regE; rw [if_pos (.inl h1)]
    have t1 : decide (k.flow < 0) = true := by simp [h1]
    clear h1
    go_enter Tryz.func74, Tryz.ntmps74
    go_wp2_with fail
    go_ret
    exact DRegTo.no HM.out HU2.out HRG.out (by decide)
  have t1 : decide (k.flow < 0) = false := by simp; omega
  by_cases h2 : 1048576 < k.flow
  · have HRG : Hid (regE c m.S k = 1) := by unfold Hid regE; rw [if_pos (.inr h2)]
    have t2 : decide (1048576 < k.flow) = true := by simp [h2]
    clear h1 h2
    go_enter Tryz.func74, Tryz.ntmps74
    go_wp2_with fail
    go_ret
    exact DRegTo.no HM.out HU2.out HRG.out (by decide)
  have t2 : decide (1048576 < k.flow) = false := by simp; omega
  by_cases h3 : k.a < 1
  · have HRG : Hid (regE c m.S k = 4) := by unfold Hid regE; rw [if_neg (by omega), if_pos (.inl h3)]
    have t3 : decide (k.a < 1) = true := by simp [h3]
    clear h1 h2 h3
    go_enter Tryz.func74, Tryz.ntmps74
    go_wp2_with fail
    go_ret
    exact DRegTo.no HM.out HU2.out HRG.out (by decide)
  have t3 : decide (k.a < 1) = false := by simp; omega
  by_cases h4 : 65536 < k.a
  · have HRG : Hid (regE c m.S k = 4) := by unfold Hid regE; rw [if_neg (by omega), if_pos (.inr h4)]
    have t4 : decide (65536 < k.a) = true := by simp [h4]
    clear h1 h2 h3 h4
    go_enter Tryz.func74, Tryz.ntmps74
    go_wp2_with fail
    go_ret
    exact DRegTo.no HM.out HU2.out HRG.out (by decide)
  have t4 : decide (65536 < k.a) = false := by simp; omega
  by_cases h5 : k.b < 1
  · have HRG : Hid (regE c m.S k = 1) := by unfold Hid regE; rw [if_neg (by omega), if_neg (by omega), if_pos (.inl h5)]
    have t5 : decide (k.b < 1) = true := by simp [h5]
    clear h1 h2 h3 h4 h5
    go_enter Tryz.func74, Tryz.ntmps74
    go_wp2_with fail
    go_ret
    exact DRegTo.no HM.out HU2.out HRG.out (by decide)
  have t5 : decide (k.b < 1) = false := by simp; omega
  by_cases h6 : 8 < k.b
  · have HRG : Hid (regE c m.S k = 1) := by unfold Hid regE; rw [if_neg (by omega), if_neg (by omega), if_pos (.inr h6)]
    have t6 : decide (8 < k.b) = true := by simp [h6]
    clear h1 h2 h3 h4 h5 h6
    go_enter Tryz.func74, Tryz.ntmps74
    go_wp2_with fail
    go_ret
    exact DRegTo.no HM.out HU2.out HRG.out (by decide)
  have t6 : decide (8 < k.b) = false := by simp; omega
  have HNUM : Hid (¬ (k.flow < 0 ∨ 1048576 < k.flow) ∧ ¬ (k.a < 1 ∨ 65536 < k.a) ∧ ¬ (k.b < 1 ∨ 8 < k.b)) := ⟨by omega, by omega, by omega⟩
  have hraw := H0.out.upd HU2.out
  have HRAW := Lib.hid hraw
  have HAT : Hid (∀ w', Upd [] w2 w' → Calls Tryz.prog 64 #[.pointer (some ⟨sb, 0, none⟩), .int .i64 k.flow] w' (fun e w'' => e = .returned (.int .i64 (posF m.S.F k.flow)) ∧ w' = w'')) := fun w' hu => (hraw.upd hu).s.at_ k.flow
  obtain ⟨po, hpo⟩ : ∃ y, posF m.S.F k.flow = y := ⟨_, rfl⟩
  rw [hpo] at HAT
  have HPO := Lib.hid hpo
  obtain ⟨-, -, -, c5, -, lm⟩ := hraw.cells
  clear h1 h2 h3 h4 h5 h6 hraw hpo
  by_cases h7 : 0 ≤ po
  · have HRG : Hid (regE c m.S k = 6) := by unfold Hid regE; rw [if_neg HNUM.out.1, if_neg HNUM.out.2.1, if_neg HNUM.out.2.2, HPO.out, if_pos h7]
    have t7 : decide (0 ≤ po) = true := by simp [h7]
    clear h7
    go_enter Tryz.func74, Tryz.ntmps74
    go_upto_region 7 with (fail)
    go_quiet (first | (go_at_call 64; exact Calls.quiet_of_same ((HAT.out _ ((Upd.refl [] w2).drewN _)).mono (fun _ _ h => ⟨h.1, h.2.symm⟩))))
    go_wp2_with fail
    go_ret
    exact DRegTo.no HM.out (HU2.out.trans ((Upd.refl [] w2).drewN _)) HRG.out (by decide)
  have t7 : decide (0 ≤ po) = false := by simp; omega
  have HPN : Hid (po < 0) := by unfold Hid; omega
  clear h7
  go_enter Tryz.func74, Tryz.ntmps74
  go_upto_region 7 with (fail)
  go_quiet (first | (go_at_call 64; exact Calls.quiet_of_same ((HAT.out _ ((Upd.refl [] w2).drewN _)).mono (fun _ _ h => ⟨h.1, h.2.symm⟩))))
  obtain ⟨wq, hwq⟩ : ∃ y, w2.drewN nq = y := ⟨_, rfl⟩
  have huq : Upd [] w2 wq := by rw [← hwq]; exact (Upd.refl [] w2).drewN _
  have HUQ := Lib.hid huq
  rw [hwq]
  clear hwq huq c5 lm y1 y2 y3 ly t1 t2 t3 t4 t5 t6
  go_wp2_with fail
  have hrq := HRAW.out.upd HUQ.out
  have HRQ := Lib.hid hrq
  obtain ⟨ao, cap, Z, hz, hF, -⟩ := hrq.s
  have HZ := Lib.hid hz
  have HF := Lib.hid hF
  have hZF : Z.length = m.S.F.length := by rw [← hF, List.length_map]
  obtain ⟨nF, hnF⟩ : ∃ y, m.S.F.length = y := ⟨_, rfl⟩
  have HNF := Lib.hid hnF
  have HZN : Hid (Z.length = nF) := by unfold Hid; omega
  have hsmall := HOK0.out.small
  rw [hnF] at hsmall
  obtain ⟨s, hs⟩ : ∃ s : Nat, c.sh = s := ⟨c.sh.toNat, by omega⟩
  have hs14 : (1 : Int) ≤ (s : Int) ∧ (s : Int) ≤ 4 := by omega
  obtain ⟨kf, hkf⟩ : ∃ kf : Nat, k.flow = kf := ⟨k.flow.toNat, by have := HNUM.out.1; omega⟩
  have hkf2 : kf ≤ 1048576 := by have := HNUM.out.1; omega
  have HSH := Lib.hid hs
  have HKF := Lib.hid hkf
  have HBQ := Lib.hid (HB2.out.upd HUQ.out (by simp))
  have HCELL := Lib.hid hrq.cells
  clear hrq hz hF hZF hnF hs hkf hu2
  go_loopw [5, 6] (fun nv iv wr => DRegAt wq m.S.F s kf nv iv wr) (fun _ iv _ => nF - (intOf iv).toNat)
  case atStart => exact ⟨0, rfl, rfl, Nat.zero_le _, Upd.refl _ _⟩
  case round =>
    obtain ⟨i, rfl, rfl, hi, hU⟩ := hrel
    rw [HNF.out] at hi
    have HU := Lib.hid hU
    have hcle := cntF_le m.S.F s kf i
    obtain ⟨n9, hn9⟩ : ∃ y, cntF m.S.F s kf i = y := ⟨_, rfl⟩
    rw [hn9] at hcle ⊢
    have HN9 := Lib.hid hn9
    obtain ⟨k0, -, -, k5, -, klm⟩ := HCELL.out
    have d0 := (hU.cell klm (by simp) 0).trans k0
    have d5 := (hU.cell klm (by simp) 5).trans k5
    have dl := Nat.lt_of_lt_of_le klm hU.size
    rw [HSH.out] at d0
    have hzr := HZ.out.upd hU
    obtain ⟨c0, -, -, lb⟩ := hzr.cells
    rw [HZN.out] at c0
    have y1 := (HBQ.out.upd hU (by simp)).cell (j := 1) rfl
    have ly := (HBQ.out.upd hU (by simp)).lt
    rw [HKF.out] at y1
    clear k0 k5 klm hn9
    by_cases hlt : i < nF
    · have t1 : decide (i < nF) = true := by simp [hlt]
      have b1 : (i : Int) < (nF : Int) := by omega
      obtain ⟨e, he⟩ : ∃ e, Z[i]? = some e := ⟨_, List.getElem?_eq_getElem (by rw [HZN.out]; exact hlt)⟩
      obtain ⟨g, hg, x0, lg, hE, -⟩ := hzr.at_ he
      subst hg
      obtain ⟨z0, -, -, -, -, -, lz⟩ := hE.cells
      have hef : m.S.F[i]? = some e.f := by rw [← HF.out, List.getElem?_map, he]; rfl
      have hids := HOK0.out.ids e.f (List.mem_of_getElem? hef)
      obtain ⟨fn, hfn⟩ : ∃ fn : Nat, e.f.id = fn := ⟨e.f.id.toNat, by omega⟩
      rw [hfn] at z0
      have hst := cntF_step (s := s) (id := kf) hef
      rw [HN9.out, hfn] at hst
      have HST := Lib.hid hst
      have hfn2 : fn ≤ 1048576 := by omega
      have hs0 : (s : Int) ≠ 0 := by omega
      have hsn : (1 : Nat) ≤ s := by omega
      have fin1 : i + 1 ≤ 9223372036854775807 := by omega
      clear hU hzr he hE hef hids hst hfn
      by_cases hq : (fn : Int) % (s : Int) = (kf : Int) % (s : Int)
      · have t8 : ((fn : Int) % (s : Int) == (kf : Int) % (s : Int)) = true := by simp [hq]
        have t8' : (fn % s == kf % s) = true := by have : fn % s = kf % s := by omega
                                                   simp [this]
        have HST2 : Hid (cntF m.S.F s kf (i + 1) = n9 + 1) := by unfold Hid; rw [HST.out, if_pos hq]
        clear hq
        go_wp2_with fail
        go_quiet (fail)
        go_wp2_with fail
        exact ⟨⟨i + 1, by congr 1, by rw [HST2.out]; congr 1, by rw [HNF.out]; omega, HU.out.trans ((Upd.refl [] wr).drewN _)⟩, by first | (simp [intOf]; done) | (simp [intOf]; omega)⟩
      · have t8 : ((fn : Int) % (s : Int) == (kf : Int) % (s : Int)) = false := by simp [hq]
        have t8' : (fn % s == kf % s) = false := by have : ¬ fn % s = kf % s := by omega
                                                    simp [this]
        have HST2 : Hid (cntF m.S.F s kf (i + 1) = n9) := by unfold Hid; rw [HST.out, if_neg hq, Nat.add_zero]
        clear hq
        go_wp2_with fail
        go_quiet (fail)
        go_wp2_with fail
        exact ⟨⟨i + 1, by congr 1, by rw [HST2.out], by rw [HNF.out]; omega, HU.out.trans ((Upd.refl [] wr).drewN _)⟩, by first | (simp [intOf]; done) | (simp [intOf]; omega)⟩
    · have t1 : decide (i < nF) = false := by simp; omega
      have HNM : Hid (matesN m.S.F c.sh k.flow = n9) := by
        unfold Hid
        rw [HSH.out, HKF.out, ← HN9.out]
        unfold cntF
        rw [List.take_of_length_le (by rw [HNF.out]; omega)]
      have HRR := Lib.hid (HRQ.out.upd hU)
      have HBR := Lib.hid (HBQ.out.upd hU (by simp))
      have HUR := Lib.hid (HUQ.out.trans hU)
      obtain ⟨-, k1, k4, -, -, -⟩ := HRR.out.cells
      clear hU hzr hlt
      by_cases h8 : c.sl ≤ (n9 : Int)
      · have HRG : Hid (regE c m.S k = 7) := by unfold Hid regE; rw [if_neg HNUM.out.1, if_neg HNUM.out.2.1, if_neg HNUM.out.2.2, HPO.out, if_neg (by have := HPN.out; omega), HNM.out, if_pos h8]
        have t9 : decide (c.sl ≤ (n9 : Int)) = true := by simp [h8]
        clear h8
        go_wp2_with fail
        go_ret
        exact DRegTo.no HM.out (HU2.out.trans HUR.out) HRG.out (by decide)
      · have HRG : Hid (regE c m.S k = 0) := by unfold Hid regE; rw [if_neg HNUM.out.1, if_neg HNUM.out.2.1, if_neg HNUM.out.2.2, HPO.out, if_neg (by have := HPN.out; omega), HNM.out, if_neg h8]
        have t9 : decide (c.sl ≤ (n9 : Int)) = false := by simp; omega
        have HSL : Hid ((n9 : Int) < c.sl) := by unfold Hid; omega
        clear h8
        have HINV : Hid (∀ w', Calls Tryz.prog 110 #[.int .u64 c.unit, .int .i64 k.a] w' (fun e w2 => e = .returned (.tuple #[.int .u64 (invU c.unit k.a), .bool true]) ∧ w' = w2)) := fun w' => by
          have := rfinverse hright.2.2.2.2.1 hright.2.2.2.2.2 k.a w'
          rw [if_pos (by have := HNUM.out.2.1; omega)] at this
          exact this
        obtain ⟨R, hR⟩ : ∃ y, invU c.unit k.a = y := ⟨_, rfl⟩
        have hr64 : R < 18446744073709551616 := by rw [← hR]; unfold invU; have := Nat.div_le_self c.unit k.a.toNat; omega
        rw [hR] at HINV
        have HRV := Lib.hid hR
        have y2 := HBR.out.cell (j := 2) rfl
        rw [← HKF.out] at y1
        clear hR
        go_upto_region 17 with (fail)
        go_quiet (first | (go_at_call 110; exact Calls.quiet_of_same ((HINV.out _).mono (fun _ _ h => ⟨h.1, h.2.symm⟩))))
        obtain ⟨wx, hwx⟩ : ∃ y, wr.drewN nq = y := ⟨_, rfl⟩
        have hux : Upd [] wr wx := by rw [← hwx]; exact (Upd.refl [] wr).drewN _
        have hrx := HRR.out.upd hux
        have hbx := HBR.out.upd hux (by simp)
        have HRX := Lib.hid hrx
        have HUX := Lib.hid (HUR.out.trans hux)
        rw [hwx]
        clear hwx hux d0 d5 dl y1 y2 ly k1 k4
        obtain ⟨-, -, -, c5, -, lm⟩ := hrx.cells
        have d5 : wx.drew.cell? ⟨mb, 5, none⟩ = some (.pointer (some ⟨sb, 0, none⟩)) := c5
        have ld : mb < wx.drew.heap.size := lm
        have e1 : wx.drew.cell? ⟨b3, 1, none⟩ = some (.int .i64 k.flow) := hbx.cell (j := 1) rfl
        have e3 : wx.drew.cell? ⟨b3, 3, none⟩ = some (.int .i64 k.b) := hbx.cell (j := 3) rfl
        have le : b3 < wx.drew.heap.size := hbx.lt
        have HADD := Lib.hid ((hrx.upd (Upd.refl [] wx).drew).s.add k.flow R hr64 k.b (by have := HNF.out; omega))
        clear hrx hbx c5 lm
        go_upto_region 18 with (fail)
        refine wp_region_tail 9 (by kernel_rfl) (by kernel_rfl) ?_
        simp only [List.take_succ_cons, List.take_zero, List.drop_succ_cons, List.drop_zero]
        iterate 9 go_big_quiet_step (fail)
        refine wpQuiet_nil ?_
        go_wp2_with fail
        refine HADD.out.mono ?_
        rintro e w5 ⟨rfl, hT⟩
        obtain ⟨GS', hr5, hf5⟩ := (HRX.out.upd (Upd.refl [] wx).drew).sto hT
        have hpos : posF m.S.F k.flow < 0 := by rw [HPO.out]; exact HPN.out
        have hno : ∀ g ∈ m.S.F, g.id ≠ k.flow := by
          rcases posF_cases m.S.F k.flow with ⟨_, h2⟩ | ⟨i, f, hp, _, _⟩
          · exact h2
          · exfalso; omega
        have hS : addSf m.S k.flow R k.b = { m.S with F := insF m.S.F (flNew k.flow R k.b) } := by unfold addSf; rw [if_pos hpos]
        have hokk : MOk c { m with S := addSf m.S k.flow R k.b } := by rw [hS]; exact HOK0.out.add (by have := HNUM.out.1; omega) hno (by rw [HNM.out]; exact HSL.out)
        have HEND : Hid (DRegTo W mb c m k G w (.returned (.int .i64 0)) w5) := by
          refine ⟨mb :: GS', by rw [HRG.out], ?_, ?_⟩
          · rw [reg_yes HRG.out, HRV.out]
            exact ⟨sb, GS', hr5, hokk, rfl⟩
          · rw [HGE.out]
            exact (Fr.of ((HU2.out.trans HUX.out).trans (Upd.refl [] wx).drew)).trans hf5
        clear hT hr5 hf5 hpos hno hS hokk
        go_wp2_with fail
        go_ret
        exact HEND.out
end Go.Proofs.YtfeobcmcellcpaaGreat
