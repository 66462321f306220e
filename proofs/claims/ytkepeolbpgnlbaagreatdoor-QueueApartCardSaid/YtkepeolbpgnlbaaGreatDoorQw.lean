/-
  The walk of QueueApart. Condition: where a table of the library's lies.
-/
import Derived.Test.YtkepeolbpgnlbaaGreatDoorQs
set_option linter.unusedVariables false
set_option linter.unusedSimpArgs false
namespace Go.Proofs.YtkepeolbpgnlbaaGreatDoor
open Go.RowKit

theorem QR.lt {W w : World} {qb rb wd : Nat} {M : List Sh} {L : List It} {fp fq : List Nat} (h : QR W qb rb wd M L fp fq w) : ∀ c ∈ fp ++ fq, c < w.heap.size := by
  intro c hc
  rcases List.mem_append.1 hc with hc | hc
  · exact h.1.lt c hc
  · exact h.2.1.lt c hc
theorem QR.newB {W w : World} {qb rb wd : Nat} {M : List Sh} {L : List It} {fp fq : List Nat} (h : QR W qb rb wd M L fp fq w) : ∀ c ∈ fp ++ fq, W.heap.size ≤ c := by
  intro c hc
  rcases List.mem_append.1 hc with hc | hc
  · exact h.1.newB c hc
  · exact h.2.1.newB c hc

/-- Two pairs side by side. -/
def AQ (W : World) (qb rb wd : Nat) (M : List Sh) (L : List It) (fp fq : List Nat) (pb yb wd2 : Nat) (N : List Sh) (K : List It) (gp gq : List Nat) (w : World) : Prop :=
  QR W qb rb wd M L fp fq w ∧ QR W pb yb wd2 N K gp gq w ∧ ∀ c ∈ gp ++ gq, c ∉ fp ++ fq
section
variable {W w w' : World} {qb rb wd : Nat} {M : List Sh} {L : List It} {fp fq : List Nat} {pb yb wd2 : Nat} {N : List Sh} {K : List It} {gp gq : List Nat} {m : Int}
theorem AQ.swap (h : AQ W qb rb wd M L fp fq pb yb wd2 N K gp gq w) : AQ W pb yb wd2 N K gp gq qb rb wd M L fp fq w := ⟨h.2.1, h.1, fun c hc e => h.2.2 c e hc⟩
theorem AQ.updS {S : List Nat} (h : AQ W qb rb wd M L fp fq pb yb wd2 N K gp gq w) (hu : Upd S w w') (hS : ∀ c ∈ S, w.heap.size ≤ c) : AQ W qb rb wd M L fp fq pb yb wd2 N K gp gq w' := by
  have hW := h.1.1.updW.size
  have k1 := h.1.lt
  have k2 := h.2.1.lt
  refine ⟨h.1.updS hu (fun c hc e => ?_) (fun c hc e => ?_) (fun c hc => by have := hS c hc; omega), h.2.1.updS hu (fun c hc e => ?_) (fun c hc e => ?_) (fun c hc => by have := hS c hc; omega), h.2.2⟩
  · have := k1 c (by simp [hc]); have := hS c e; omega
  · have := k1 c (by simp [hc]); have := hS c e; omega
  · have := k2 c (by simp [hc]); have := hS c e; omega
  · have := k2 c (by simp [hc]); have := hS c e; omega
theorem AQ.upd (h : AQ W qb rb wd M L fp fq pb yb wd2 N K gp gq w) (hu : Upd [] w w') : AQ W qb rb wd M L fp fq pb yb wd2 N K gp gq w' := h.updS hu (by simp)
theorem AQ.deed {e : Ending} (h : AQ W qb rb wd M L fp fq pb yb wd2 N K gp gq w) (k : Deed8 W qb rb wd M L fp fq m w e w') :
    e = .returned (.bool true) ∧ ∃ M' L' fp' fq', AQ W qb rb wd M' L' fp' fq' pb yb wd2 N K gp gq w' ∧ L'.length ≤ L.length + 1 := by
  obtain ⟨he, M', L', fp', fq', k1, k2, k3, k4, k5, -⟩ := k
  have hl := h.2.1.lt
  refine ⟨he, M', L', fp', fq', ⟨k1, h.2.1.updS k4 (fun c hc e => h.2.2 c (by simp [hc]) e) (fun c hc e => h.2.2 c (by simp [hc]) e) h.1.newB, fun c hc e => ?_⟩, k5⟩
  have h1 := hl c hc
  rcases List.mem_append.1 e with e | e
  · rcases k2 c e with h' | h'
    · exact h.2.2 c hc (by simp [h'])
    · omega
  · rcases k3 c e with h' | h'
    · exact h.2.2 c hc (by simp [h'])
    · omega
end
def Apart8At (W : World) (qb rb wd pb yb wd2 c : Nat) (iv : Value) (wr : World) : Prop := ∃ (i : Nat) (M N : List Sh) (L K : List It) (fp fq gp gq : List Nat), iv = .int .i64 i ∧ i ≤ c ∧ L.length ≤ i ∧ K.length ≤ i ∧ AQ W qb rb wd M L fp fq pb yb wd2 N K gp gq wr



set_option maxRecDepth 100000 in
set_option maxHeartbeats 64000000 in
theorem qapart_walk (sh width : Int) (v1 : Value) (m1 : Nat) (D1 : Nat → Nat → Int) (v2 : Value) (m2 : Nat) (D2 : Nat → Nat → Int) (W : World) (hT : TabAt 0 Lib.deBruijn64tab W) (_ : (Lit.int .i64 sh).wf = true) (_ : (Lit.int .i64 width).wf = true) (hv1 : RowsAt W [.i64, .u64, .i64] v1 m1 D1) (hv2 : RowsAt W [.i64, .u64, .i64] v2 m2 D2) :
    Calls Tryz.prog 6 #[.int .i64 sh, .int .i64 width, v1, v2] W (RetUpd [] W (.bool true)) := by
  obtain ⟨ao1, cap1, rfl, hm1, hD1⟩ := deed_cells hv1
  obtain ⟨ao2, cap2, rfl, hm2, hD2⟩ := deed_cells hv2
  unfold maxLen at hm1 hm2
  have HD1 := Lib.hid hD1
  have HD2 := Lib.hid hD2
  have HT := Lib.hid hT
  clear hD1 hv1 hD2 hv2 hT
  obtain ⟨c, hc⟩ : ∃ c : Nat, Min.min m1 40 = c := ⟨_, rfl⟩
  have hcm : c ≤ m1 := by omega
  have hc40 : c ≤ 40 := by omega
  have HC : Hid (Min.min m1 40 = c) := hc
  clear hc
  go_enter Tryz.func6, Tryz.ntmps6
  go_wp2_with fail
  refine (qmade_any W sh width W (Upd.refl [] W) HT.out).mono ?_
  rintro e1 w1 ⟨qb, rb, V, m0, fp0, fq0, rfl, hP, -, -, -⟩
  have HP1 := Lib.hid hP
  clear hP
  go_wp2_with fail
  refine (qmade_any W sh width w1 HP1.out.1.updW HT.out).mono ?_
  rintro e2 w2 ⟨pb, yb, V2, m3, gp0, gq0, rfl, hP, hU, hg1, hg2⟩
  have HA2 : Hid (AQ W qb rb V (zeroM m0) [] fp0 fq0 pb yb V2 (zeroM m3) [] gp0 gq0 w2) := ⟨HP1.out.upd hU, hP, fun c hc e => by
    have h1 := HP1.out.lt c e
    rcases List.mem_append.1 hc with h | h
    · have := hg1 c h; omega
    · have := hg2 c h; omega⟩
  clear hP hU hg1 hg2 HP1
  go_wp2_with fail
  refine (awake8_any _ (tab_upd HT.out HA2.out.1.1.updW)).mono ?_
  rintro e w3 ⟨rfl, hU⟩
  have HA3 := Lib.hid (HA2.out.upd hU)
  clear hU HA2
  go_wp2_with fail
  go_loopw [13] (fun iv wr => Apart8At W qb rb V pb yb V2 c iv wr) (fun iv _ => c - (intOf iv).toNat)
  case atStart => exact ⟨0, _, _, [], [], _, _, _, _, rfl, Nat.zero_le _, Nat.le_refl _, Nat.le_refl _, HA3.out⟩
  case round =>
    clear HA3
    obtain ⟨i, M, N, L, K, fp, fq, gp, gq, rfl, hi, hLi, hKi, hA⟩ := hrel
    have HA := Lib.hid hA
    clear hA
    by_cases hlt : i < c
    · rcases HD1.out with h0 | ⟨bd, off, rfl, hb1, hcc⟩
      · omega
      obtain ⟨c0, c1, c2, hk0, hk1⟩ := hcc i (by omega)
      rw [← HA.out.1.1.updW.cell hb1 (by simp)] at c0 c1 c2
      have him : i < m1 := by omega
      have t1 : decide (i < m1) = true := by simp; omega
      have t2 : decide ((i : Int) < 40) = true := by simp; omega
      have b1 : (i : Int) < (m1 : Int) := by omega
      have HLS : Hid (L.length ≤ i) := hLi
      have HKS : Hid (K.length ≤ i) := hKi
      have HLL : Hid (L.length < 1000) := by unfold Hid; omega
      have HKL : Hid (K.length < 1000) := by unfold Hid; omega
      have HLC := Lib.hid hlt
      have HI1 : Hid (i + 1 ≤ c) := hlt
      have HI80 : Hid (i + 1 ≤ 100) := by unfold Hid; omega
      obtain ⟨k, hk⟩ : ∃ k, D1 i 0 = k := ⟨_, rfl⟩
      obtain ⟨key, hkey⟩ : ∃ k, D1 i 1 = k := ⟨_, rfl⟩
      obtain ⟨id, hid⟩ : ∃ k, D1 i 2 = k := ⟨_, rfl⟩
      rw [hk] at c0
      rw [hkey] at c1 hk0 hk1
      rw [hid] at c2
      obtain ⟨kk, rfl⟩ := Int.eq_ofNat_of_zero_le hk0
      have hkk : kk < 18446744073709551616 := by omega
      have HKK := Lib.hid hkk
      clear hk hkey hid hk0 hk1 hkk
      clear hcc hb1 hLi hKi
      go_wp2_with fail
      refine (step8_any W qb rb V M L fp fq k id kk HKK.out _ HA.out.1 HLL.out).mono ?_
      rintro e w6 hst
      obtain ⟨rfl, M6, L6, fp6, fq6, hA6, hl6⟩ := HA.out.deed hst
      have HA6 := Lib.hid hA6
      have HL6 : Hid (L6.length ≤ i + 1) := by unfold Hid; have := HLS.out; omega
      have HSM6 : Hid (L6.length < 1000) := by unfold Hid; have := HL6.out; have := HI80.out; omega
      clear hA6 hst c0 c1 c2 hl6
      by_cases hm : i < m2
      · have u1 : decide (i < m2) = true := by simp [hm]
        have b2 : (i : Int) < (m2 : Int) := by omega
        rcases HD2.out with h0 | ⟨bd2, off2, rfl, hb2, hcc⟩
        · omega
        obtain ⟨c0, c1, c2, hk0, hk1⟩ := hcc i (by omega)
        rw [← HA6.out.1.1.updW.cell hb2 (by simp)] at c0 c1 c2
        have lb2 := Nat.lt_of_lt_of_le hb2 HA6.out.1.1.updW.size
        clear HKK
        obtain ⟨k, hk⟩ : ∃ k, D2 i 0 = k := ⟨_, rfl⟩
        obtain ⟨key, hkey⟩ : ∃ k, D2 i 1 = k := ⟨_, rfl⟩
        obtain ⟨id, hid⟩ : ∃ k, D2 i 2 = k := ⟨_, rfl⟩
        rw [hk] at c0
        rw [hkey] at c1 hk0 hk1
        rw [hid] at c2
        obtain ⟨kk, rfl⟩ := Int.eq_ofNat_of_zero_le hk0
        have hkk : kk < 18446744073709551616 := by omega
        have HKK := Lib.hid hkk
        clear hk hkey hid hk0 hk1 hkk
        clear hcc hb2
        go_wp2_with fail
        refine (step8_any W pb yb V2 N K gp gq _ _ _ HKK.out _ HA6.out.2.1 HKL.out).mono ?_
        rintro e w7 hst
        obtain ⟨rfl, N7, K7, gp7, gq7, hA7, hl7⟩ := HA6.out.swap.deed hst
        have HA7 := Lib.hid hA7.swap
        have HK7 : Hid (K7.length ≤ i + 1) := by unfold Hid; have := HKS.out; omega
        clear hA7 hst c0 c1 c2 hl7
        go_wp2_with fail
        refine (HA7.out.1.1.all (Nat.le_of_lt HSM6.out)).mono ?_
        rintro e wa ⟨aoa, capa, rfl, hR, hF, hU⟩
        have HRa := Lib.hid hR
        have HFa := Lib.hid hF
        have HUa := Lib.hid hU
        clear hR hF hU
        go_wp2_with fail
        refine (spoil_any aoa L6.length capa _ _ (Nat.le_of_lt HSM6.out) HRa.out).mono ?_
        rintro e wb ⟨rfl, hU⟩
        have HAb := Lib.hid (HA7.out.updS (HUa.out.nil.trans hU) HFa.out)
        clear hU
        go_wp2_with fail
        refine HAb.out.1.1.bases.mono ?_
        rintro e wc ⟨aoc, capc, rfl, hR, hF, hU⟩
        have HRc := Lib.hid hR
        have HFc := Lib.hid hF
        have HUc := Lib.hid hU
        clear hR hF hU
        go_wp2_with fail
        refine (uspoil_any aoc M6.length capc _ _ (Nat.le_trans HAb.out.1.1.ok.small (by omega)) HRc.out).mono ?_
        rintro e wd ⟨rfl, hU⟩
        have HAd := Lib.hid (HAb.out.updS (HUc.out.nil.trans hU) HFc.out)
        clear hU
        go_wp2_with fail
        refine (HAd.out.1.1.shard 0).mono ?_
        rintro e we ⟨aoe, cape, rfl, hR, hF, hU⟩
        have hlen : (shOf M6 0).length ≤ 1000 := by
          have := HAd.out.1.1.ok.len_sh HAd.out.1.1.ok.one
          have h2 := HSM6.out
          unfold shOf
          split
          · rw [show ((0 : Int)).toNat = 0 from rfl]; omega
          · simp
        have HRe := Lib.hid hR
        have HFe := Lib.hid hF
        have HUe := Lib.hid hU
        have HLN := Lib.hid hlen
        clear hR hF hU hlen
        go_wp2_with fail
        refine (spoil_any aoe (shOf M6 0).length cape _ _ HLN.out HRe.out).mono ?_
        rintro e wf ⟨rfl, hU⟩
        have HAf := Lib.hid (HAd.out.updS (HUe.out.nil.trans hU) HFe.out)
        clear hU
        go_wp2
        exact ⟨⟨i + 1, M6, N7, L6, K7, fp6, fq6, gp7, gq7, by congr 1, HI1.out, HL6.out, HK7.out, HAf.out⟩, inner_meas HLC.out⟩
      · have u1 : decide (i < m2) = false := by simp [hm]
        have HK7 : Hid (K.length ≤ i + 1) := by unfold Hid; have := HKS.out; omega
        go_wp2_with fail
        refine (HA6.out.1.1.all (Nat.le_of_lt HSM6.out)).mono ?_
        rintro e wa ⟨aoa, capa, rfl, hR, hF, hU⟩
        have HRa := Lib.hid hR
        have HFa := Lib.hid hF
        have HUa := Lib.hid hU
        clear hR hF hU
        go_wp2_with fail
        refine (spoil_any aoa L6.length capa _ _ (Nat.le_of_lt HSM6.out) HRa.out).mono ?_
        rintro e wb ⟨rfl, hU⟩
        have HAb := Lib.hid (HA6.out.updS (HUa.out.nil.trans hU) HFa.out)
        clear hU
        go_wp2_with fail
        refine HAb.out.1.1.bases.mono ?_
        rintro e wc ⟨aoc, capc, rfl, hR, hF, hU⟩
        have HRc := Lib.hid hR
        have HFc := Lib.hid hF
        have HUc := Lib.hid hU
        clear hR hF hU
        go_wp2_with fail
        refine (uspoil_any aoc M6.length capc _ _ (Nat.le_trans HAb.out.1.1.ok.small (by omega)) HRc.out).mono ?_
        rintro e wd ⟨rfl, hU⟩
        have HAd := Lib.hid (HAb.out.updS (HUc.out.nil.trans hU) HFc.out)
        clear hU
        go_wp2_with fail
        refine (HAd.out.1.1.shard 0).mono ?_
        rintro e we ⟨aoe, cape, rfl, hR, hF, hU⟩
        have hlen : (shOf M6 0).length ≤ 1000 := by
          have := HAd.out.1.1.ok.len_sh HAd.out.1.1.ok.one
          have h2 := HSM6.out
          unfold shOf
          split
          · rw [show ((0 : Int)).toNat = 0 from rfl]; omega
          · simp
        have HRe := Lib.hid hR
        have HFe := Lib.hid hF
        have HUe := Lib.hid hU
        have HLN := Lib.hid hlen
        clear hR hF hU hlen
        go_wp2_with fail
        refine (spoil_any aoe (shOf M6 0).length cape _ _ HLN.out HRe.out).mono ?_
        rintro e wf ⟨rfl, hU⟩
        have HAf := Lib.hid (HAd.out.updS (HUe.out.nil.trans hU) HFe.out)
        clear hU
        go_wp2
        exact ⟨⟨i + 1, M6, N, L6, K, fp6, fq6, gp, gq, by congr 1, HI1.out, HL6.out, HK7.out, HAf.out⟩, inner_meas HLC.out⟩
    · have t1 : Hid (decide (i < m1) = true ∧ decide ((i : Int) < 40) = false ∨ decide (i < m1) = false) := by
        have := HC.out
        unfold Hid
        by_cases h : i < m1
        · left; exact ⟨by simp; omega, by simp; omega⟩
        · right; simp; omega
      have HSL : Hid (L.length < 1000) := by unfold Hid; omega
      have HSK : Hid (K.length < 1000) := by unfold Hid; omega
      have HOL := Lib.hid HA.out.1.1.ok
      have HOK := Lib.hid HA.out.2.1.1.ok
      clear hLi hKi
      rcases t1.out with ⟨t2, t3⟩ | t2
      all_goals
        clear t1
        go_wp2_with fail
        refine (HA.out.1.1.all (Nat.le_of_lt HSL.out)).mono ?_
        rintro e wx ⟨aox, capx, rfl, hRx, -, hUx⟩
        have HRx := Lib.hid hRx
        have HX2 := Lib.hid (HA.out.upd hUx)
        clear hRx hUx
        go_wp2_with fail
        refine (HX2.out.1.2.1.all HOL.out HSL.out).mono ?_
        rintro e wy ⟨aoy, capy, rfl, hRy, -, hUy⟩
        have HPX := Lib.hid (plain_any aox aoy L.length capx capy L wy rfl (Nat.le_of_lt HSL.out) (HRx.out.upd hUy (by simp)) hRy)
        have HX3 := Lib.hid (HX2.out.upd hUy)
        clear hRy hUy HRx HX2
        go_wp2_with fail
        refine HPX.out.mono ?_
        rintro e wz ⟨rfl, hUz⟩
        have HZ := Lib.hid (HX3.out.upd hUz)
        clear hUz HX3 HPX
        go_wp2_with fail
        refine (HZ.out.2.1.1.all (Nat.le_of_lt HSK.out)).mono ?_
        rintro e wx ⟨aox, capx, rfl, hRx, -, hUx⟩
        have HRx := Lib.hid hRx
        have HX2 := Lib.hid (HZ.out.upd hUx)
        clear hRx hUx
        go_wp2_with fail
        refine (HX2.out.2.1.2.1.all HOK.out HSK.out).mono ?_
        rintro e wy ⟨aoy, capy, rfl, hRy, -, hUy⟩
        have HPX := Lib.hid (plain_any aox aoy K.length capx capy K wy rfl (Nat.le_of_lt HSK.out) (HRx.out.upd hUy (by simp)) hRy)
        have HX3 := Lib.hid (HX2.out.upd hUy)
        clear hRy hUy HRx HX2
        go_wp2_with fail
        refine HPX.out.mono ?_
        rintro e wz ⟨rfl, hUz⟩
        have HZ := Lib.hid (HX3.out.upd hUz)
        clear hUz HX3 HPX
        go_wp2_with fail
        refine HZ.out.1.1.bases.mono ?_
        rintro e wb ⟨aob, capb, rfl, hRb, -, hUb⟩
        have HRb := Lib.hid hRb
        have HB2 := Lib.hid (HZ.out.upd hUb)
        clear hRb hUb
        go_wp2_with fail
        refine (HB2.out.1.2.1.bases HOL.out.small).mono ?_
        rintro e wc ⟨aoc, capc, rfl, hRc, -, hUc⟩
        have hb2 := HRb.out.upd hUc (by simp)
        rw [basesV_u] at hb2 hRc
        have HPL := Lib.hid (uplain_any aob aoc M.length capb capc _ wc (by rw [List.length_map]) (Nat.le_trans HOL.out.small (by omega)) hb2 hRc)
        have HB3 := Lib.hid (HB2.out.upd hUc)
        clear hb2 hRc hUc
        go_wp2_with fail
        refine HPL.out.mono ?_
        rintro e wd ⟨rfl, hUd⟩
        have HB4 := Lib.hid (HB3.out.upd hUd)
        clear hUd
        go_wp2
        go_ret
        exact ⟨rfl, HB4.out.1.1.updW⟩
end Go.Proofs.YtkepeolbpgnlbaaGreatDoor
