/-
  The walk of QueueBases. Condition: where a table of the library's lies.
-/
import Derived.Test.YtkepeolbpgnlbaaDoorQo
import Derived.Test.YtkepeolbpgnlbaaDoorPB
set_option linter.unusedVariables false
set_option linter.unusedSimpArgs false
namespace Go.Proofs.YtkepeolbpgnlbaaDoor
open Go.RowKit

def QBasesAt (W : World) (qb rb wd c : Nat) (iv : Value) (wr : World) : Prop := ∃ (i : Nat) (M : List Sh) (L : List It) (fp fq : List Nat), iv = .int .i64 i ∧ i ≤ c ∧ L.length ≤ i ∧ QR W qb rb wd M L fp fq wr
def InnerAt (ws : World) (n : Nat) (iv : Value) (wr : World) : Prop := ∃ k : Nat, iv = .int .i64 k ∧ k ≤ n ∧ Upd [] ws wr
theorem RQ.cell0 {W w : World} {qb wd : Nat} {M : List Sh} {fp : List Nat} (h : RQ W qb wd M fp w) : ∃ sr cap, w.cell? ⟨qb, 0, none⟩ = some (.slice (some ⟨sr, 0, none⟩) M.length cap) ∧ qb < w.heap.size := by
  obtain ⟨sr, cap, sb, F, h, -⟩ := h; exact ⟨sr, cap, h.cells.1, h.cells.2.2.1⟩
def basI (M : List Sh) (i : Nat) : Int := ((shAt M i).1 : Int)
theorem basI_get {M : List Sh} {i : Nat} (h : i < M.length) : (M.map fun s => (s.1 : Int)).getD i 0 = basI M i := by
  unfold basI; rw [shAt_get h, List.getD_eq_getElem?_getD, List.getElem?_map, List.getElem?_eq_getElem h]; rfl
theorem row_base {w : World} {M : List Sh} {ao : Option Addr} {n cap : Nat} (hR : RowO w 22 1 ao n cap (basesV M)) (hn : M.length = n) {i : Nat} (hi : i < n) :
    ∃ g, ao = some ⟨g, 0, none⟩ ∧ g < w.heap.size ∧ w.cell? ⟨g, i, none⟩ = some (.int .u64 (basI M i)) := by
  rw [basesV_u] at hR
  obtain ⟨g, h1, h2, h3⟩ := hR.u64 (by rw [List.length_map]; exact hn) hi
  rw [basI_get (by omega)] at h3
  exact ⟨g, h1, h2, h3⟩
theorem pop_base {M : List Sh} {L : List It} (h : QOk M L) {x : It} {l : List It} (hL : L = x :: l) (k : Nat) : basI (popM M L) k = if k = rt M.length x.2 then (kn x : Int) else basI M k := by
  subst hL
  unfold basI
  show ((shAt (M.set (rt M.length x.2) (kn x, (shAt M (rt M.length x.2)).2.tail)) k).1 : Int) = _
  rw [shAt_set (rt_lt h.one x.2)]
  split <;> rfl
theorem inner_meas {n j : Nat} (h : j < n) : n - (intOf (.int .i64 ((j : Int) + 1))).toNat < n - (intOf (.int .i64 (j : Int))).toNat := by
  simp [intOf]; omega
theorem wrap_succ {n j : Nat} (h : j < n) (h2 : n ≤ 16) : wrap64 ((j : Int) + 1) = (j : Int) + 1 ∧ IntKind.i64.wrap ((j : Int) + 1) = (j : Int) + 1 :=
  ⟨by unfold wrap64; omega, IntWalk.i64_in _ (by omega)⟩

set_option maxRecDepth 100000 in
set_option maxHeartbeats 64000000 in
theorem qbases_walk (sh width : Int) (v : Value) (m : Nat) (D : Nat → Nat → Int) (W : World) (hT : TabAt 0 Lib.deBruijn64tab W) (_ : (Lit.int .i64 sh).wf = true) (_ : (Lit.int .i64 width).wf = true) (hv : RowsAt W [.i64, .u64, .i64] v m D) :
    Calls Tryd.prog 4 #[.int .i64 sh, .int .i64 width, v] W (RetUpd [] W (.bool true)) := by
  obtain ⟨ao, cap, rfl, hmm, hD⟩ := deed_cells hv
  unfold maxLen at hmm
  have HD := Lib.hid hD
  have HT := Lib.hid hT
  clear hD hv hT
  obtain ⟨c, hc⟩ : ∃ c : Nat, Min.min m 60 = c := ⟨_, rfl⟩
  have hcm : c ≤ m := by omega
  have hc40 : c ≤ 60 := by omega
  have HC : Hid (Min.min m 60 = c) := hc
  clear hc
  go_enter Tryd.func4, Tryd.ntmps4
  go_wp2_with fail
  refine (qmade_any W sh width W (Upd.refl [] W) HT.out).mono ?_
  rintro e1 w1 ⟨qb, rb, V, m0, fp0, fq0, rfl, hP, -, -, -⟩
  have HP1 := Lib.hid hP
  clear hP
  go_wp2_with fail
  refine (awake8_any _ (tab_upd HT.out HP1.out.1.updW)).mono ?_
  rintro e w2 ⟨rfl, hU⟩
  have HP2 := Lib.hid (HP1.out.upd hU)
  clear hU HP1
  go_wp2_with fail
  go_loopw [9] (fun iv wr => QBasesAt W qb rb V c iv wr) (fun iv _ => c - (intOf iv).toNat)
  case atStart => exact ⟨0, _, [], _, _, rfl, Nat.zero_le _, Nat.le_refl _, HP2.out⟩
  case round =>
    clear HP2
    obtain ⟨i, M, L, fp, fq, rfl, hi, hLi, hP⟩ := hrel
    have HP := Lib.hid hP
    clear hP
    by_cases hlt : i < c
    · rcases HD.out with h0 | ⟨bd, off, rfl, hb1, hcc⟩
      · omega
      obtain ⟨c0, c1, c2, hk0, hk1⟩ := hcc i (by omega)
      have hUW := HP.out.1.updW
      rw [← hUW.cell hb1 (by simp)] at c0 c1 c2
      have lbd := Nat.lt_of_lt_of_le hb1 hUW.size
      have him : i < m := by omega
      have t1 : decide (i < m) = true := by simp; omega
      have t2 : decide ((i : Int) < 60) = true := by simp; omega
      have b1 : (i : Int) < (m : Int) := by omega
      obtain ⟨k, hk⟩ : ∃ k, D i 0 = k := ⟨_, rfl⟩
      obtain ⟨key, hkey⟩ : ∃ k, D i 1 = k := ⟨_, rfl⟩
      obtain ⟨id, hid⟩ : ∃ k, D i 2 = k := ⟨_, rfl⟩
      rw [hk] at c0
      rw [hkey] at c1 hk0 hk1
      rw [hid] at c2
      obtain ⟨kk, rfl⟩ := Int.eq_ofNat_of_zero_le hk0
      have HKK : Hid (kk < 18446744073709551616) := by unfold Hid; omega
      have HLL : Hid (L.length < 1000) := by unfold Hid; omega
      have HLS : Hid (L.length ≤ i) := hLi
      have HLC := Lib.hid hlt
      have HI1 : Hid (i + 1 ≤ c) := hlt
      have hb1W : bd < W.heap.size := hb1
      clear hcc hb1 hk hkey hid hk0 hk1 hLi hUW
      obtain ⟨n, hn⟩ : ∃ n, M.length = n := ⟨_, rfl⟩
      have HN := Lib.hid hn
      have HN16 : Hid (n ≤ 16) := by unfold Hid; rw [← hn]; exact HP.out.1.ok.small
      clear hn
      go_wp2_with fail
      refine HP.out.1.bases.mono ?_
      rintro e w3 ⟨ao1, cap1, rfl, hR1, hf1, hU3⟩
      rw [HN.out] at hR1 ⊢
      obtain ⟨y, ok, hy⟩ := firstVit L
      have HY := Lib.hid hy
      have HP3 := Lib.hid (HP.out.upd hU3)
      have e0 := (hU3.cell lbd (by simp) _).trans c0
      have e1 := (hU3.cell lbd (by simp) _).trans c1
      have e2 := (hU3.cell lbd (by simp) _).trans c2
      have lbd3 := Nat.lt_of_lt_of_le lbd hU3.size
      have HF1 : Hid (∀ c ∈ blkO ao1, c ∉ fp ++ fq) := fun c hc e => by
        have h1 := hf1 c hc
        rcases List.mem_append.1 e with e | e
        · have := HP.out.1.lt c e; omega
        · have := HP.out.2.1.lt c e; omega
      have HR1a := Lib.hid hR1
      clear hy hR1 hf1 hU3 c0 c1 c2 lbd
      go_wp2_with fail
      refine HP3.out.1.min.mono ?_
      rintro e w4 ⟨rfl, hU4⟩
      rw [HY.out]
      unfold itV
      obtain ⟨w5, hw5⟩ : ∃ w5, w5 = w4.alloc (.cells #[.int .u64 y.1, .int .i64 y.2] 24) := ⟨_, rfl⟩
      have hU5 : Upd [] w3 w5 := by rw [hw5]; exact hU4.alloc _
      have hX5 : Blk w5 w4.heap.size 24 [.int .u64 y.1, .int .i64 y.2] := by rw [hw5]; exact Blk.new w4 24 [.int .u64 y.1, .int .i64 y.2]
      have HX5 := Lib.hid hX5
      have HP5 := Lib.hid (HP3.out.upd hU5)
      have HX5F : Hid (w4.heap.size ∉ fp ++ fq) := fun e => by
        have h1 := hU4.size
        rcases List.mem_append.1 e with e | e
        · have := HP3.out.1.lt _ e; omega
        · have := HP3.out.2.1.lt _ e; omega
      have HR1b := Lib.hid (HR1a.out.upd hU5 (by simp))
      have g0 := (hU5.cell lbd3 (by simp) _).trans e0
      have g1 := (hU5.cell lbd3 (by simp) _).trans e1
      have g2 := (hU5.cell lbd3 (by simp) _).trans e2
      have lbd5 := Nat.lt_of_lt_of_le lbd3 hU5.size
      have HW5 := Lib.hid hw5
      have d0 := (hU4.cell lbd3 (by simp) _).trans e0
      have d1 := (hU4.cell lbd3 (by simp) _).trans e1
      have d2 := (hU4.cell lbd3 (by simp) _).trans e2
      have lbd4 := Nat.lt_of_lt_of_le lbd3 hU4.size
      clear hU4 hU5 hX5 hw5 e0 e1 e2 lbd3
      go_wp2_with fail
      clear d0 d1 d2 lbd4
      rw [← HW5.out]
      refine (step8_any W qb rb V M L fp fq k id kk HKK.out _ HP5.out HLL.out).mono ?_
      rintro e w6 ⟨rfl, M2, L2, fp2, fq2, hP2, -, -, hU6, hl6, hlen, hpop, hbs⟩
      have HOK := Lib.hid HP5.out.1.ok
      have HPOP := Lib.hid hpop
      have HBS := Lib.hid hbs
      have HL2 : Hid (L2.length ≤ i + 1) := by unfold Hid; have := HLS.out; omega
      have HN2 : Hid (M2.length = n) := by unfold Hid; rw [hlen, HN.out]
      have HX6 := Lib.hid (HX5.out.upd hU6 HX5F.out)
      have HR1c := Lib.hid (HR1b.out.upd hU6 (fun c hc => HF1.out c hc))
      have HP6 := Lib.hid hP2
      have lbdW : bd ∉ fp ++ fq := fun e => by
        rcases List.mem_append.1 e with e | e
        · have := HP5.out.1.newB _ e; omega
        · have := HP5.out.2.1.newB _ e; omega
      have j0 := (hU6.cell lbd5 lbdW _).trans g0
      have j1 := (hU6.cell lbd5 lbdW _).trans g1
      have j2 := (hU6.cell lbd5 lbdW _).trans g2
      have lbd6 := Nat.lt_of_lt_of_le lbd5 hU6.size
      clear hP2 hU6 hl6 hlen hpop hbs g0 g1 g2 lbd5 lbdW
      go_wp2_with fail
      refine HP6.out.1.bases.mono ?_
      rintro e w7 ⟨ao2, cap2, rfl, hR2, -, hU7⟩
      rw [HN2.out] at hR2 ⊢
      have HP7 := Lib.hid (HP6.out.upd hU7)
      have HX7 := Lib.hid (HX6.out.upd hU7 (by simp))
      have HR1 := Lib.hid (HR1c.out.upd hU7 (by simp))
      have HR2 := Lib.hid hR2
      have k0 := (hU7.cell lbd6 (by simp) _).trans j0
      have k1 := (hU7.cell lbd6 (by simp) _).trans j1
      have k2 := (hU7.cell lbd6 (by simp) _).trans j2
      have lbd7 := Nat.lt_of_lt_of_le lbd6 hU7.size
      obtain ⟨sr2, capr, r0, lrb⟩ := HP7.out.2.1.cell0
      rw [HN2.out] at r0
      clear hR2 hU7 j0 j1 j2 lbd6
      obtain ⟨mk, hmk⟩ : ∃ mk, modI k 8 = mk := ⟨_, rfl⟩
      have HMK := Lib.hid hmk
      rw [hmk] at HPOP HBS
      clear hmk
      by_cases h4 : mk = 4
      · subst h4
        go_wp2_with fail
        refine (what_any k kk id 8 (by omega) (by omega) _).mono ?_
        rintro e w8 ⟨rfl, hU8⟩
        rw [HMK.out]
        have HPZ := Lib.hid (HP7.out.upd hU8)
        have HXZ := Lib.hid (HX7.out.upd hU8 (by simp))
        have HRa := Lib.hid (HR1.out.upd hU8 (by simp))
        have HRb := Lib.hid (HR2.out.upd hU8 (by simp))
        have y0 := HXZ.out.cell (j := 0) rfl
        have y1 := HXZ.out.cell (j := 1) rfl
        have ly := HXZ.out.lt
        clear hU8 k0 k1 k2 lbd7 r0 lrb
        have HM2 : Hid (M2 = popM M L) := HPOP.out (by simp)
        cases ok with
        | false =>
          have HSB : Hid (∀ j, basI M2 j = basI M j) := fun j => by
            rw [HM2.out]
            cases L with
            | nil => rfl
            | cons a l => have := HY.out; simp [firstV, itV] at this
          go_wp2_with fail
          go_loopw [15] (fun iv wr => InnerAt w8 n iv wr) (fun iv _ => n - (intOf iv).toNat)
          case atStart => exact ⟨0, rfl, Nat.zero_le _, Upd.refl _ _⟩
          case round =>
            clear y0 y1 ly
            obtain ⟨j, rfl, hj, hU⟩ := hrel
            have HU := Lib.hid hU
            by_cases hjn : j < n
            · have tj : decide (j < n) = true := decide_eq_true hjn
              have bj : (j : Int) < (n : Int) := Int.ofNat_lt.2 hjn
              have bj0 : (0 : Int) ≤ (j : Int) := Int.natCast_nonneg _
              obtain ⟨ej, ej2⟩ := wrap_succ hjn HN16.out
              obtain ⟨g1, eg1, lg1, q1⟩ := row_base (HRa.out.upd hU (by simp)) HN.out hjn
              obtain ⟨g2, eg2, lg2, q2⟩ := row_base (HRb.out.upd hU (by simp)) HN2.out hjn
              subst eg1 eg2
              have hy0 := (HXZ.out.upd hU (by simp)).cell (j := 0) rfl
              have hy1 := (HXZ.out.upd hU (by simp)).cell (j := 1) rfl
              have hyl := (HXZ.out.upd hU (by simp)).lt
              rw [HSB.out j] at q2
              obtain ⟨u, hu⟩ : ∃ u, basI M j = u := ⟨_, rfl⟩
              rw [hu] at q1 q2
              clear hU hu
              go_wp2_with fail
              go_quiet (fail)
              go_wp2
              exact ⟨⟨j + 1, by congr 1, hjn, HU.out.trans ((Upd.refl [] _).drewN nq)⟩, inner_meas hjn⟩
            · have tj : decide (j < n) = false := decide_eq_false hjn
              clear hU
              go_wp2
              exact ⟨⟨i + 1, M2, L2, fp2, fq2, by congr 1, HI1.out, HL2.out, HPZ.out.upd HU.out⟩, inner_meas HLC.out⟩
        | true =>
          have hL : ∃ l, L = y :: l := by
            cases L with
            | nil => have := HY.out; simp [firstV, itV, zIt] at this
            | cons a l =>
              have h := HY.out
              simp only [firstV, itV, Value.tuple.injEq, Array.mk.injEq, List.cons.injEq, Value.agg.injEq, Value.int.injEq, true_and, and_true] at h
              exact ⟨l, by rw [show a = y from Prod.ext h.1 h.2]⟩
          obtain ⟨l, hL⟩ := hL
          have hpb := pop_base HOK.out hL
          have hmem := HOK.out.mem.1 (show y ∈ L by rw [hL]; simp)
          obtain ⟨a, ha1, ha2⟩ := hmem
          have hid0 := (HOK.out.route a ha1 y ha2).1
          have hky := (HP5.out.1.keys a ha1 y ha2).1
          obtain ⟨r1, r2, r3⟩ := rt_eqs HOK.out.one HOK.out.small hid0
          rw [HN.out] at hpb r1 r2 r3
          obtain ⟨r, hr⟩ : ∃ r, rt n y.2 = r := ⟨_, rfl⟩
          rw [hr] at hpb r1 r2 r3
          have h1n := HOK.out.one
          rw [HN.out] at h1n
          have dn : ((n : Int) == 0) = false := by simp; omega
          have dy : decide (0 ≤ y.2) = true := decide_eq_true hid0
          have HPB : Hid (∀ j, basI M2 j = if j = r then y.1 else basI M j) := fun j => by
            rw [HM2.out, hky]; exact hpb j
          clear hpb ha1 ha2 hL hky hr
          go_wp2_with fail
          go_loopw [15] (fun iv wr => InnerAt w8 n iv wr) (fun iv _ => n - (intOf iv).toNat)
          case atStart => exact ⟨0, rfl, Nat.zero_le _, Upd.refl _ _⟩
          case round =>
            clear y0 y1 ly
            obtain ⟨j, rfl, hj, hU⟩ := hrel
            have HU := Lib.hid hU
            by_cases hjn : j < n
            · have tj : decide (j < n) = true := decide_eq_true hjn
              have bj : (j : Int) < (n : Int) := Int.ofNat_lt.2 hjn
              have bj0 : (0 : Int) ≤ (j : Int) := Int.natCast_nonneg _
              obtain ⟨ej, ej2⟩ := wrap_succ hjn HN16.out
              obtain ⟨g1, eg1, lg1, q1⟩ := row_base (HRa.out.upd hU (by simp)) HN.out hjn
              obtain ⟨g2, eg2, lg2, q2⟩ := row_base (HRb.out.upd hU (by simp)) HN2.out hjn
              subst eg1 eg2
              have hy0 := (HXZ.out.upd hU (by simp)).cell (j := 0) rfl
              have hy1 := (HXZ.out.upd hU (by simp)).cell (j := 1) rfl
              have hyl := (HXZ.out.upd hU (by simp)).lt
              rw [HPB.out j] at q2
              by_cases hjr : j = r
              · rw [if_pos hjr] at q2
                subst hjr
                clear hU
                go_wp2_with fail
                go_quiet (fail)
                go_wp2
                exact ⟨⟨j + 1, by congr 1, hjn, HU.out.trans ((Upd.refl [] _).drewN nq)⟩, inner_meas hjn⟩
              · rw [if_neg hjr] at q2
                have tr : ((r : Int) == (j : Int)) = false := by
                  rw [beq_eq_false_iff_ne]; intro e; exact hjr (Int.ofNat.inj e).symm
                have tr2 : (r == j) = false := by
                  rw [beq_eq_false_iff_ne]; intro e; exact hjr e.symm
                have tr3 : decide (r = j) = false := decide_eq_false (fun e => hjr e.symm)
                have tr4 : decide ((r : Int) = (j : Int)) = false := decide_eq_false (fun e => hjr (Int.ofNat.inj e).symm)
                obtain ⟨u, hu⟩ : ∃ u, basI M j = u := ⟨_, rfl⟩
                rw [hu] at q1 q2
                clear hU hu
                go_wp2_with fail
                go_quiet (fail)
                go_wp2
                exact ⟨⟨j + 1, by congr 1, hjn, HU.out.trans ((Upd.refl [] _).drewN nq)⟩, inner_meas hjn⟩
            · have tj : decide (j < n) = false := decide_eq_false hjn
              clear hU
              go_wp2
              exact ⟨⟨i + 1, M2, L2, fp2, fq2, by congr 1, HI1.out, HL2.out, HPZ.out.upd HU.out⟩, inner_meas HLC.out⟩
      · have t4 : (mk == 4) = false := by simp [h4]
        by_cases h5 : mk = 5
        · subst h5
          go_wp2_with fail
          refine (what_any k kk id 8 (by omega) (by omega) _).mono ?_
          rintro e w8 ⟨rfl, hU8⟩
          rw [HMK.out]
          have l0 := (hU8.cell lbd7 (by simp) _).trans k0
          have l1 := (hU8.cell lbd7 (by simp) _).trans k1
          have l2 := (hU8.cell lbd7 (by simp) _).trans k2
          have lbd8 := Nat.lt_of_lt_of_le lbd7 hU8.size
          have HU8 := Lib.hid hU8
          clear hU8 k0 k1 k2 lbd7 r0 lrb
          go_wp2_with fail
          refine (what_any k kk id 8 (by omega) (by omega) _).mono ?_
          rintro e w9 ⟨rfl, hU9⟩
          rw [HMK.out]
          have HPZ := Lib.hid (HP7.out.upd (HU8.out.trans hU9))
          have HXZ := Lib.hid (HX7.out.upd (HU8.out.trans hU9) (by simp))
          have HRa := Lib.hid (HR1.out.upd (HU8.out.trans hU9) (by simp))
          have HRb := Lib.hid (HR2.out.upd (HU8.out.trans hU9) (by simp))
          have y0 := HXZ.out.cell (j := 0) rfl
          have y1 := HXZ.out.cell (j := 1) rfl
          have ly := HXZ.out.lt
          clear hU9 l0 l1 l2 lbd8
          have HM2 : Hid (M2 = popM M L) := HPOP.out (by simp)
          cases ok with
          | false =>
            have HSB : Hid (∀ j, basI M2 j = basI M j) := fun j => by
              rw [HM2.out]
              cases L with
              | nil => rfl
              | cons a l => have := HY.out; simp [firstV, itV] at this
            go_wp2_with fail
            go_loopw [15] (fun iv wr => InnerAt w9 n iv wr) (fun iv _ => n - (intOf iv).toNat)
            case atStart => exact ⟨0, rfl, Nat.zero_le _, Upd.refl _ _⟩
            case round =>
              clear y0 y1 ly
              obtain ⟨j, rfl, hj, hU⟩ := hrel
              have HU := Lib.hid hU
              by_cases hjn : j < n
              · have tj : decide (j < n) = true := decide_eq_true hjn
                have bj : (j : Int) < (n : Int) := Int.ofNat_lt.2 hjn
                have bj0 : (0 : Int) ≤ (j : Int) := Int.natCast_nonneg _
                obtain ⟨ej, ej2⟩ := wrap_succ hjn HN16.out
                obtain ⟨g1, eg1, lg1, q1⟩ := row_base (HRa.out.upd hU (by simp)) HN.out hjn
                obtain ⟨g2, eg2, lg2, q2⟩ := row_base (HRb.out.upd hU (by simp)) HN2.out hjn
                subst eg1 eg2
                have hy0 := (HXZ.out.upd hU (by simp)).cell (j := 0) rfl
                have hy1 := (HXZ.out.upd hU (by simp)).cell (j := 1) rfl
                have hyl := (HXZ.out.upd hU (by simp)).lt
                rw [HSB.out j] at q2
                obtain ⟨u, hu⟩ : ∃ u, basI M j = u := ⟨_, rfl⟩
                rw [hu] at q1 q2
                clear hU hu
                go_wp2_with fail
                go_quiet (fail)
                go_wp2
                exact ⟨⟨j + 1, by congr 1, hjn, HU.out.trans ((Upd.refl [] _).drewN nq)⟩, inner_meas hjn⟩
              · have tj : decide (j < n) = false := decide_eq_false hjn
                clear hU
                go_wp2
                exact ⟨⟨i + 1, M2, L2, fp2, fq2, by congr 1, HI1.out, HL2.out, HPZ.out.upd HU.out⟩, inner_meas HLC.out⟩
          | true =>
            have hL : ∃ l, L = y :: l := by
              cases L with
              | nil => have := HY.out; simp [firstV, itV, zIt] at this
              | cons a l =>
                have h := HY.out
                simp only [firstV, itV, Value.tuple.injEq, Array.mk.injEq, List.cons.injEq, Value.agg.injEq, Value.int.injEq, true_and, and_true] at h
                exact ⟨l, by rw [show a = y from Prod.ext h.1 h.2]⟩
            obtain ⟨l, hL⟩ := hL
            have hpb := pop_base HOK.out hL
            have hmem := HOK.out.mem.1 (show y ∈ L by rw [hL]; simp)
            obtain ⟨a, ha1, ha2⟩ := hmem
            have hid0 := (HOK.out.route a ha1 y ha2).1
            have hky := (HP5.out.1.keys a ha1 y ha2).1
            obtain ⟨r1, r2, r3⟩ := rt_eqs HOK.out.one HOK.out.small hid0
            rw [HN.out] at hpb r1 r2 r3
            obtain ⟨r, hr⟩ : ∃ r, rt n y.2 = r := ⟨_, rfl⟩
            rw [hr] at hpb r1 r2 r3
            have h1n := HOK.out.one
            rw [HN.out] at h1n
            have dn : ((n : Int) == 0) = false := by simp; omega
            have dy : decide (0 ≤ y.2) = true := decide_eq_true hid0
            have HPB : Hid (∀ j, basI M2 j = if j = r then y.1 else basI M j) := fun j => by
              rw [HM2.out, hky]; exact hpb j
            clear hpb ha1 ha2 hL hky hr
            go_wp2_with fail
            go_loopw [15] (fun iv wr => InnerAt w9 n iv wr) (fun iv _ => n - (intOf iv).toNat)
            case atStart => exact ⟨0, rfl, Nat.zero_le _, Upd.refl _ _⟩
            case round =>
              clear y0 y1 ly
              obtain ⟨j, rfl, hj, hU⟩ := hrel
              have HU := Lib.hid hU
              by_cases hjn : j < n
              · have tj : decide (j < n) = true := decide_eq_true hjn
                have bj : (j : Int) < (n : Int) := Int.ofNat_lt.2 hjn
                have bj0 : (0 : Int) ≤ (j : Int) := Int.natCast_nonneg _
                obtain ⟨ej, ej2⟩ := wrap_succ hjn HN16.out
                obtain ⟨g1, eg1, lg1, q1⟩ := row_base (HRa.out.upd hU (by simp)) HN.out hjn
                obtain ⟨g2, eg2, lg2, q2⟩ := row_base (HRb.out.upd hU (by simp)) HN2.out hjn
                subst eg1 eg2
                have hy0 := (HXZ.out.upd hU (by simp)).cell (j := 0) rfl
                have hy1 := (HXZ.out.upd hU (by simp)).cell (j := 1) rfl
                have hyl := (HXZ.out.upd hU (by simp)).lt
                rw [HPB.out j] at q2
                by_cases hjr : j = r
                · rw [if_pos hjr] at q2
                  subst hjr
                  clear hU
                  go_wp2_with fail
                  go_quiet (fail)
                  go_wp2
                  exact ⟨⟨j + 1, by congr 1, hjn, HU.out.trans ((Upd.refl [] _).drewN nq)⟩, inner_meas hjn⟩
                · rw [if_neg hjr] at q2
                  have tr : ((r : Int) == (j : Int)) = false := by
                    rw [beq_eq_false_iff_ne]; intro e; exact hjr (Int.ofNat.inj e).symm
                  have tr2 : (r == j) = false := by
                    rw [beq_eq_false_iff_ne]; intro e; exact hjr e.symm
                  have tr3 : decide (r = j) = false := decide_eq_false (fun e => hjr e.symm)
                  have tr4 : decide ((r : Int) = (j : Int)) = false := decide_eq_false (fun e => hjr (Int.ofNat.inj e).symm)
                  obtain ⟨u, hu⟩ : ∃ u, basI M j = u := ⟨_, rfl⟩
                  rw [hu] at q1 q2
                  clear hU hu
                  go_wp2_with fail
                  go_quiet (fail)
                  go_wp2
                  exact ⟨⟨j + 1, by congr 1, hjn, HU.out.trans ((Upd.refl [] _).drewN nq)⟩, inner_meas hjn⟩
              · have tj : decide (j < n) = false := decide_eq_false hjn
                clear hU
                go_wp2
                exact ⟨⟨i + 1, M2, L2, fp2, fq2, by congr 1, HI1.out, HL2.out, HPZ.out.upd HU.out⟩, inner_meas HLC.out⟩
        · have t5 : (mk == 5) = false := by simp [h5]
          have HSB : Hid (∀ j, basI M2 j = basI M j) := fun j => by
            unfold basI; rw [(HBS.out (by omega)).2 j]
          go_wp2_with fail
          refine (what_any k kk id 8 (by omega) (by omega) _).mono ?_
          rintro e w8 ⟨rfl, hU8⟩
          rw [HMK.out]
          have l0 := (hU8.cell lbd7 (by simp) _).trans k0
          have l1 := (hU8.cell lbd7 (by simp) _).trans k1
          have l2 := (hU8.cell lbd7 (by simp) _).trans k2
          have lbd8 := Nat.lt_of_lt_of_le lbd7 hU8.size
          have HU8 := Lib.hid hU8
          clear hU8 k0 k1 k2 lbd7 r0 lrb
          go_wp2_with fail
          refine (what_any k kk id 8 (by omega) (by omega) _).mono ?_
          rintro e w9 ⟨rfl, hU9⟩
          rw [HMK.out]
          have HPZ := Lib.hid (HP7.out.upd (HU8.out.trans hU9))
          have HXZ := Lib.hid (HX7.out.upd (HU8.out.trans hU9) (by simp))
          have HRa := Lib.hid (HR1.out.upd (HU8.out.trans hU9) (by simp))
          have HRb := Lib.hid (HR2.out.upd (HU8.out.trans hU9) (by simp))
          have y0 := HXZ.out.cell (j := 0) rfl
          have y1 := HXZ.out.cell (j := 1) rfl
          have ly := HXZ.out.lt
          clear hU9 l0 l1 l2 lbd8
          go_wp2_with fail
          go_loopw [15] (fun iv wr => InnerAt w9 n iv wr) (fun iv _ => n - (intOf iv).toNat)
          case atStart => exact ⟨0, rfl, Nat.zero_le _, Upd.refl _ _⟩
          case round =>
            clear y0 y1 ly
            obtain ⟨j, rfl, hj, hU⟩ := hrel
            have HU := Lib.hid hU
            by_cases hjn : j < n
            · have tj : decide (j < n) = true := decide_eq_true hjn
              have bj : (j : Int) < (n : Int) := Int.ofNat_lt.2 hjn
              have bj0 : (0 : Int) ≤ (j : Int) := Int.natCast_nonneg _
              obtain ⟨ej, ej2⟩ := wrap_succ hjn HN16.out
              obtain ⟨g1, eg1, lg1, q1⟩ := row_base (HRa.out.upd hU (by simp)) HN.out hjn
              obtain ⟨g2, eg2, lg2, q2⟩ := row_base (HRb.out.upd hU (by simp)) HN2.out hjn
              subst eg1 eg2
              have hy0 := (HXZ.out.upd hU (by simp)).cell (j := 0) rfl
              have hy1 := (HXZ.out.upd hU (by simp)).cell (j := 1) rfl
              have hyl := (HXZ.out.upd hU (by simp)).lt
              rw [HSB.out j] at q2
              obtain ⟨u, hu⟩ : ∃ u, basI M j = u := ⟨_, rfl⟩
              rw [hu] at q1 q2
              clear hU hu
              go_wp2_with fail
              go_quiet (fail)
              go_wp2
              exact ⟨⟨j + 1, by congr 1, hjn, HU.out.trans ((Upd.refl [] _).drewN nq)⟩, inner_meas hjn⟩
            · have tj : decide (j < n) = false := decide_eq_false hjn
              clear hU
              go_wp2
              exact ⟨⟨i + 1, M2, L2, fp2, fq2, by congr 1, HI1.out, HL2.out, HPZ.out.upd HU.out⟩, inner_meas HLC.out⟩
    · have t1 : Hid (decide (i < m) = true ∧ decide ((i : Int) < 60) = false ∨ decide (i < m) = false) := by
        have := HC.out
        unfold Hid
        by_cases h : i < m
        · left; exact ⟨by simp; omega, by simp; omega⟩
        · right; simp; omega
      rcases t1.out with ⟨t2, t3⟩ | t2
      all_goals
        clear t1
        go_wp2
        go_ret
        exact ⟨rfl, HP.out.1.updW⟩
end Go.Proofs.YtkepeolbpgnlbaaDoor
