/-
  The walk of WheelReach. Condition: where a table of the library's lies.
-/
import Derived.Test.YtilibinmbmgedaaDoorWm
import Derived.Test.YtilibinmbmgedaaDoorNear
namespace Go.Proofs.YtilibinmbmgedaaDoor
open Go.RowKit

/-- The last key of a stretch. -/
theorem reach_last {b W p : Nat} (hb : b < 18446744073709551616) (hW : W ≤ 40) (hp : 2 ^ (W + 18) = p) :
    ∃ q m last : Nat, IntKind.u64.wrap ((b : Int) / (p : Int)) = q ∧ IntKind.u64.wrap ((q : Int) * (p : Int)) = m ∧ IntKind.u64.wrap ((m : Int) + ((p : Int) - 1)) = last ∧ b ≤ last ∧ last = b / p * p + (p - 1) ∧ last < 18446744073709551616 ∧ 1 ≤ p := by
  have hp1 : 1 ≤ p := by rw [← hp]; exact Nat.two_pow_pos _
  have hdm := Nat.div_add_mod b p
  have hmod := Nat.mod_lt b (show 0 < p by omega)
  have hcom : b / p * p = p * (b / p) := Nat.mul_comm _ _
  have h64 : 2 ^ (46 - W) * p = 18446744073709551616 := by
    rw [← hp, ← Nat.pow_add]
    have : 46 - W + (W + 18) = 64 := by omega
    rw [this]
  have hq : b / p < 2 ^ (46 - W) := by
    rw [Nat.div_lt_iff_lt_mul (by omega), h64]; exact hb
  have hle : (b / p + 1) * p ≤ 2 ^ (46 - W) * p := Nat.mul_le_mul_right p hq
  rw [h64, Nat.add_mul, Nat.one_mul] at hle
  refine ⟨b / p, b / p * p, b / p * p + (p - 1), ?_, ?_, ?_, by omega, rfl, by omega, hp1⟩
  · have : b / p ≤ b := Nat.div_le_self _ _
    rw [← Int.natCast_ediv, IntKind.wrap_u64]
    generalize b / p = x at this ⊢
    omega
  · rw [← Int.natCast_mul, IntKind.wrap_u64]
    generalize b / p * p = x at hle ⊢
    omega
  · rw [IntKind.wrap_u64]
    generalize b / p * p = x at hle ⊢
    omega
theorem reach_fits {b W p last k : Nat} (hp : 2 ^ (W + 18) = p) (hl : last = b / p * p + (p - 1)) (h1 : b ≤ k) (h2 : k ≤ last) : fitsB b W k = true := by
  have hp1 : 1 ≤ p := by rw [← hp]; exact Nat.two_pow_pos _
  unfold fitsB
  rw [Bool.and_eq_true, decide_eq_true_iff, decide_eq_true_iff, fits_iff, hp]
  refine ⟨h1, ?_⟩
  have h3 := Nat.div_le_div_right (c := p) h1
  have h4 : k / p ≤ b / p := by
    rw [Nat.div_le_iff_le_mul_add_pred (by omega), Nat.mul_comm]
    omega
  omega
theorem reach_no {b W p last k : Nat} (hp : 2 ^ (W + 18) = p) (hl : last = b / p * p + (p - 1)) (h2 : last < k) : fitsB b W k = false := by
  have hp1 : 1 ≤ p := by rw [← hp]; exact Nat.two_pow_pos _
  unfold fitsB
  have h5 : ¬ (lev3 W b k < 3) := by
    rw [fits_iff, hp]
    intro e
    have h3 : (b / p + 1) * p ≤ k := by rw [Nat.add_mul, Nat.one_mul]; omega
    have h4 := (Nat.le_div_iff_mul_le (show 0 < p by omega)).2 h3
    omega
  rw [decide_eq_false h5, Bool.and_false]
theorem reach_d {b W p last : Nat} (hb : b < 18446744073709551616) (hW : W ≤ 40) (hp : 2 ^ (W + 18) = p) (hl : last = b / p * p + (p - 1)) (hlb : b ≤ last) : last - b + 1 < 18446744073709551616 := by
  have hp2 : p ≤ 288230376151711744 := by rw [← hp]; exact Nat.le_trans (Nat.pow_le_pow_right (by omega) (show W + 18 ≤ 58 by omega)) (by decide)
  have hdm := Nat.div_add_mod b p
  have hcom : b / p * p = p * (b / p) := Nat.mul_comm _ _
  omega
theorem reach_key {b o last : Nat} (hlb : b ≤ last) (hl : last < 18446744073709551616) (hd : last - b + 1 < 18446744073709551616) :
    ∃ d D r k : Nat, (last : Int) - (b : Int) = (d : Int) ∧ (d : Int) + 1 = (D : Int) ∧ ((D : Int) == 0) = false ∧ (o : Int) % (D : Int) = r ∧ (b : Int) + (r : Int) = k ∧ b ≤ k ∧ k ≤ last ∧ (1 : Int) ≤ D ∧ (D : Int) < 18446744073709551616 := by
  have := Nat.mod_lt o (show 0 < last - b + 1 by omega)
  exact ⟨last - b, last - b + 1, o % (last - b + 1), b + o % (last - b + 1), by omega, by omega, by simp; omega, by rw [Int.natCast_emod], by omega, by omega, by omega, by omega, by omega⟩


set_option maxRecDepth 100000 in
set_option maxHeartbeats 16000000 in
theorem wreach_walk (base off width : Int) (W : World) (hT : TabAt 0 Lib.deBruijn64tab W) (h0 : (Lit.int .u64 base).wf = true) (h1 : (Lit.int .u64 off).wf = true) (_ : (Lit.int .i64 width).wf = true) :
    Calls Tryd.prog 5 #[.int .u64 base, .int .u64 off, .int .i64 width] W (RetUpd [] W (.bool true)) := by
  have hb0 := wf_u64_bd h0
  have hk0 := wf_u64_bd h1
  obtain ⟨b, rfl⟩ := Int.eq_ofNat_of_zero_le hb0.1
  obtain ⟨o, rfl⟩ := Int.eq_ofNat_of_zero_le hk0.1
  have hb : b < 18446744073709551616 := by omega
  have ho : o < 18446744073709551616 := by omega
  have HT := Lib.hid hT
  have HB := Lib.hid hb
  have HO := Lib.hid ho
  have hm1 := modI_bd width 41 (by omega) (by omega)
  obtain ⟨wd, hwd⟩ : ∃ wd : Nat, modI width 41 = wd := ⟨(modI width 41).toNat, by omega⟩
  rw [hwd] at hm1
  have HWD := Lib.hid hwd
  have hw40 : wd ≤ 40 := by omega
  have hwi : (wd : Int) ≤ 40 := by omega
  have hho : heldN (wd : Int) = wd := heldN_id hw40
  have HHO := Lib.hid hho
  clear hT h0 h1 hb0 hk0 ho hm1 hwd hho
  go_enter Tryd.func5, Tryd.ntmps5
  go_wp2_with fail
  refine (mod_any width 41 (by omega) (by omega) _).mono ?_
  rintro e w1 ⟨rfl, rfl⟩
  rw [HWD.out]
  go_wp2_with fail
  refine (WG.new (Upd.refl [] W) HT.out _).mono ?_
  rintro e w2 ⟨wb, fp, rfl, hG, -, -⟩
  rw [HHO.out] at hG
  have HG := Lib.hid hG
  clear hG
  go_wp2_with fail
  refine (awake5_any _ (tab_upd HT.out HG.out.updW)).mono ?_
  rintro e w3 ⟨rfl, hU3⟩
  have HG3 := Lib.hid (HG.out.upd hU3)
  clear hU3 HG
  go_wp2_with fail
  refine (HG3.out.move b HB.out).mono ?_
  rintro e w4 ⟨rfl, fp4, hG4, -⟩
  have hmv : movB 0 [] b = true := by unfold movB; simp
  rw [hmv] at hG4 ⊢
  rw [if_pos rfl] at hG4
  have HG4 := Lib.hid hG4
  clear hG4 hmv HG3
  go_wp2_with fail
  refine (rone_any (wd + 18) _ (by omega) (by omega) _).mono ?_
  rintro e w5 ⟨rfl, rfl⟩
  obtain ⟨p, hp⟩ : ∃ p, 2 ^ (wd + 18) = p := ⟨_, rfl⟩
  have hp1 : 1 ≤ p := by rw [← hp]; exact Nat.two_pow_pos _
  have hp2 : p ≤ 288230376151711744 := by rw [← hp]; exact Nat.le_trans (Nat.pow_le_pow_right (by omega) (show wd + 18 ≤ 58 by omega)) (by decide)
  have HP := Lib.hid hp
  rw [hp]
  have hp0 : ((p : Int) == 0) = false := by simp; omega
  obtain ⟨q, m, last, e1, e2, e3, hlb, hlq, hl64, hln⟩ := reach_last (b := b) (W := wd) hb hw40 hp
  have hfit := fun k (h1 : b ≤ k) (h2 : k ≤ last) => reach_fits (W := wd) hp hlq h1 h2
  have hnof := fun k (h2 : last < k) => reach_no (W := wd) hp hlq h2
  have HFIT := Lib.hid hfit
  have HNOF := Lib.hid hnof
  have hdl : last - b + 1 < 18446744073709551616 := reach_d hb hw40 hp hlq hlb
  obtain ⟨d, D, r, k, f1, f2, f3, f4, f5, hk1, hk2, hD, hD64⟩ := reach_key (b := b) (o := o) hlb hl64 hdl
  have f6 : IntKind.u64.wrap (k : Int) = (k : Int) := by rw [IntKind.wrap_u64]; clear e1 e2 e3 f1 f2 f3 f4 f5; omega
  have HK1 := Lib.hid hk1
  have HK2 := Lib.hid hk2
  have HLB := Lib.hid hlb
  have HL64 := Lib.hid hl64
  have hlm : (last : Int) ≤ 18446744073709551615 := by omega
  have HL0 : Hid (¬ 0 < b → last < 18446744073709551615) := fun h => by
    have hb0 : b = 0 := by omega
    rw [hlq, hb0, Nat.zero_div, Nat.zero_mul]; omega
  clear hp hfit hnof hk1 hk2 hlq hln
  by_cases hA : 0 < b
  · have t1 : decide (0 < b) = true := by simp [hA]
    have hC0 : True := trivial
    obtain ⟨b1, g1, g2, hb1⟩ : ∃ b1 : Nat, (b : Int) - 1 = b1 ∧ IntKind.u64.wrap ((b : Int) - 1) = b1 ∧ b1 < b := ⟨b - 1, by omega, by rw [IntKind.wrap_u64]; omega, by omega⟩
    have HB1 := Lib.hid hb1
    clear hb1
    go_wp2_with fail
    refine (HG4.out.push b1 (by have := HB1.out; have := HB.out; omega) 1 (by simp)).mono ?_
    rintro e w6 ⟨rfl, fp5, hG5, -⟩
    have hf : (fitsB b wd b1 && !hasI [] 1) = false := by
      unfold fitsB
      have := HB1.out
      have h2 : decide (b ≤ b1) = false := by simp; omega
      rw [h2]; rfl
    rw [hf] at hG5 ⊢
    rw [if_neg (by simp)] at hG5
    have HG5 := Lib.hid hG5
    clear hG5 hf g1 g2
    by_cases hC : last < 18446744073709551615
    · have t2 : decide ((last : Int) < 18446744073709551615) = true := by simp; omega
      obtain ⟨l1, g1, hl1⟩ : ∃ l1 : Nat, (last : Int) + 1 = l1 ∧ l1 = last + 1 := ⟨last + 1, by omega, rfl⟩
      have HL1 := Lib.hid hl1
      have HC := Lib.hid hC
      clear hl1
      go_wp2_with fail
      refine (HG5.out.push l1 (by have := HL1.out; have := HC.out; omega) 2 (by simp)).mono ?_
      rintro e w7 ⟨rfl, fp6, hG6, -⟩
      have hf : (fitsB b wd l1 && !hasI [] 2) = false := by
        rw [HNOF.out l1 (by have := HL1.out; omega)]; rfl
      rw [hf] at hG6 ⊢
      rw [if_neg (by simp)] at hG6
      have HG6 := Lib.hid hG6
      clear hG6 hf g1
      go_wp2_with fail
      clear e1 e2 e3 f1 f2 f3 f4 f5 f6 hD hD64 hlm hp0 hp1 hp2 hb
      refine (HG6.out.push last HL64.out 3 (by simp)).mono ?_
      rintro e w8 ⟨rfl, fp7, hG7, -⟩
      have hf : (fitsB b wd last && !hasI [] 3) = true := by rw [HFIT.out last HLB.out (Nat.le_refl _)]; rfl
      rw [hf] at hG7 ⊢
      rw [if_pos rfl] at hG7
      have HG7 := Lib.hid hG7
      clear hG7 hf
      go_wp2_with fail
      refine (HG7.out.push b HB.out 4 (by simp [insI])).mono ?_
      rintro e w9 ⟨rfl, fp8, hG8, -⟩
      have hf : (fitsB b wd b && !hasI (insI ((last : Int), 3) []) 4) = true := by rw [HFIT.out b (Nat.le_refl _) HLB.out]; simp [insI, hasI]
      rw [hf] at hG8 ⊢
      rw [if_pos rfl] at hG8
      obtain ⟨L2, hL2⟩ : ∃ L, insI ((b : Int), 4) (insI ((last : Int), 3) []) = L := ⟨_, rfl⟩
      have hx2 : hasI L2 5 = false := by rw [← hL2, hasI_perm (insI_perm _ _)]; simp [hasI, insI]
      have hn2 : L2.length = 2 := by rw [← hL2, (insI_perm _ _).length_eq]; rfl
      rw [hL2] at hG8
      have HG8 := Lib.hid hG8
      have HX2 := Lib.hid hx2
      have HN2 := Lib.hid hn2
      clear hG8 hf hL2 hx2 hn2
      go_wp2_with fail
      refine (HG8.out.push k (by have := HK2.out; have := HL64.out; omega) 5 (by have := HN2.out; omega)).mono ?_
      rintro e wa ⟨rfl, fp9, hG9, -⟩
      have hf : (fitsB b wd k && !hasI L2 5) = true := by rw [HFIT.out k HK1.out HK2.out, HX2.out]; rfl
      rw [hf] at hG9 ⊢
      rw [if_pos rfl] at hG9
      obtain ⟨L3, hL3⟩ : ∃ L, insI ((k : Int), 5) L2 = L := ⟨_, rfl⟩
      have hx3 : hasI L3 5 = true := by rw [← hL3, hasI_perm (insI_perm _ _)]; simp [hasI]
      have hn3 : L3.length = 3 := by rw [← hL3, (insI_perm _ _).length_eq, List.length_cons, HN2.out]
      rw [hL3] at hG9
      have HG9 := Lib.hid hG9
      have HX3 := Lib.hid hx3
      have HN3 := Lib.hid hn3
      clear hG9 hf hL3 hx3 hn3
      go_wp2_with fail
      refine (HG9.out.push k (by have := HK2.out; have := HL64.out; omega) 5 (by have := HN3.out; omega)).mono ?_
      rintro e wc ⟨rfl, fp10, hG10, -⟩
      have hf : (fitsB b wd k && !hasI L3 5) = false := by rw [HX3.out]; simp
      rw [hf] at hG10 ⊢
      rw [if_neg (by simp)] at hG10
      have HG10 := Lib.hid hG10
      clear hG10 hf
      go_wp2_with fail
      refine HG10.out.len.mono ?_
      rintro e wd2 ⟨rfl, rfl⟩
      rw [HN3.out]
      go_wp2
      go_ret
      exact ⟨rfl, HG10.out.updW⟩
    · have t2 : decide ((last : Int) < 18446744073709551615) = false := by simp; omega
      try (exfalso; omega)
      all_goals
        have HG6 := HG5
        go_wp2_with fail
        clear e1 e2 e3 f1 f2 f3 f4 f5 f6 hD hD64 hlm hp0 hp1 hp2 hb
        refine (HG6.out.push last HL64.out 3 (by simp)).mono ?_
        rintro e w8 ⟨rfl, fp7, hG7, -⟩
        have hf : (fitsB b wd last && !hasI [] 3) = true := by rw [HFIT.out last HLB.out (Nat.le_refl _)]; rfl
        rw [hf] at hG7 ⊢
        rw [if_pos rfl] at hG7
        have HG7 := Lib.hid hG7
        clear hG7 hf
        go_wp2_with fail
        refine (HG7.out.push b HB.out 4 (by simp [insI])).mono ?_
        rintro e w9 ⟨rfl, fp8, hG8, -⟩
        have hf : (fitsB b wd b && !hasI (insI ((last : Int), 3) []) 4) = true := by rw [HFIT.out b (Nat.le_refl _) HLB.out]; simp [insI, hasI]
        rw [hf] at hG8 ⊢
        rw [if_pos rfl] at hG8
        obtain ⟨L2, hL2⟩ : ∃ L, insI ((b : Int), 4) (insI ((last : Int), 3) []) = L := ⟨_, rfl⟩
        have hx2 : hasI L2 5 = false := by rw [← hL2, hasI_perm (insI_perm _ _)]; simp [hasI, insI]
        have hn2 : L2.length = 2 := by rw [← hL2, (insI_perm _ _).length_eq]; rfl
        rw [hL2] at hG8
        have HG8 := Lib.hid hG8
        have HX2 := Lib.hid hx2
        have HN2 := Lib.hid hn2
        clear hG8 hf hL2 hx2 hn2
        go_wp2_with fail
        refine (HG8.out.push k (by have := HK2.out; have := HL64.out; omega) 5 (by have := HN2.out; omega)).mono ?_
        rintro e wa ⟨rfl, fp9, hG9, -⟩
        have hf : (fitsB b wd k && !hasI L2 5) = true := by rw [HFIT.out k HK1.out HK2.out, HX2.out]; rfl
        rw [hf] at hG9 ⊢
        rw [if_pos rfl] at hG9
        obtain ⟨L3, hL3⟩ : ∃ L, insI ((k : Int), 5) L2 = L := ⟨_, rfl⟩
        have hx3 : hasI L3 5 = true := by rw [← hL3, hasI_perm (insI_perm _ _)]; simp [hasI]
        have hn3 : L3.length = 3 := by rw [← hL3, (insI_perm _ _).length_eq, List.length_cons, HN2.out]
        rw [hL3] at hG9
        have HG9 := Lib.hid hG9
        have HX3 := Lib.hid hx3
        have HN3 := Lib.hid hn3
        clear hG9 hf hL3 hx3 hn3
        go_wp2_with fail
        refine (HG9.out.push k (by have := HK2.out; have := HL64.out; omega) 5 (by have := HN3.out; omega)).mono ?_
        rintro e wc ⟨rfl, fp10, hG10, -⟩
        have hf : (fitsB b wd k && !hasI L3 5) = false := by rw [HX3.out]; simp
        rw [hf] at hG10 ⊢
        rw [if_neg (by simp)] at hG10
        have HG10 := Lib.hid hG10
        clear hG10 hf
        go_wp2_with fail
        refine HG10.out.len.mono ?_
        rintro e wd2 ⟨rfl, rfl⟩
        rw [HN3.out]
        go_wp2
        go_ret
        exact ⟨rfl, HG10.out.updW⟩
  · have t1 : decide (0 < b) = false := by simp [hA]
    have HG5 := HG4
    have hC0 := HL0.out hA
    clear hA
    by_cases hC : last < 18446744073709551615
    · have t2 : decide ((last : Int) < 18446744073709551615) = true := by simp; omega
      obtain ⟨l1, g1, hl1⟩ : ∃ l1 : Nat, (last : Int) + 1 = l1 ∧ l1 = last + 1 := ⟨last + 1, by omega, rfl⟩
      have HL1 := Lib.hid hl1
      have HC := Lib.hid hC
      clear hl1
      go_wp2_with fail
      refine (HG5.out.push l1 (by have := HL1.out; have := HC.out; omega) 2 (by simp)).mono ?_
      rintro e w7 ⟨rfl, fp6, hG6, -⟩
      have hf : (fitsB b wd l1 && !hasI [] 2) = false := by
        rw [HNOF.out l1 (by have := HL1.out; omega)]; rfl
      rw [hf] at hG6 ⊢
      rw [if_neg (by simp)] at hG6
      have HG6 := Lib.hid hG6
      clear hG6 hf g1
      go_wp2_with fail
      clear e1 e2 e3 f1 f2 f3 f4 f5 f6 hD hD64 hlm hp0 hp1 hp2 hb
      refine (HG6.out.push last HL64.out 3 (by simp)).mono ?_
      rintro e w8 ⟨rfl, fp7, hG7, -⟩
      have hf : (fitsB b wd last && !hasI [] 3) = true := by rw [HFIT.out last HLB.out (Nat.le_refl _)]; rfl
      rw [hf] at hG7 ⊢
      rw [if_pos rfl] at hG7
      have HG7 := Lib.hid hG7
      clear hG7 hf
      go_wp2_with fail
      refine (HG7.out.push b HB.out 4 (by simp [insI])).mono ?_
      rintro e w9 ⟨rfl, fp8, hG8, -⟩
      have hf : (fitsB b wd b && !hasI (insI ((last : Int), 3) []) 4) = true := by rw [HFIT.out b (Nat.le_refl _) HLB.out]; simp [insI, hasI]
      rw [hf] at hG8 ⊢
      rw [if_pos rfl] at hG8
      obtain ⟨L2, hL2⟩ : ∃ L, insI ((b : Int), 4) (insI ((last : Int), 3) []) = L := ⟨_, rfl⟩
      have hx2 : hasI L2 5 = false := by rw [← hL2, hasI_perm (insI_perm _ _)]; simp [hasI, insI]
      have hn2 : L2.length = 2 := by rw [← hL2, (insI_perm _ _).length_eq]; rfl
      rw [hL2] at hG8
      have HG8 := Lib.hid hG8
      have HX2 := Lib.hid hx2
      have HN2 := Lib.hid hn2
      clear hG8 hf hL2 hx2 hn2
      go_wp2_with fail
      refine (HG8.out.push k (by have := HK2.out; have := HL64.out; omega) 5 (by have := HN2.out; omega)).mono ?_
      rintro e wa ⟨rfl, fp9, hG9, -⟩
      have hf : (fitsB b wd k && !hasI L2 5) = true := by rw [HFIT.out k HK1.out HK2.out, HX2.out]; rfl
      rw [hf] at hG9 ⊢
      rw [if_pos rfl] at hG9
      obtain ⟨L3, hL3⟩ : ∃ L, insI ((k : Int), 5) L2 = L := ⟨_, rfl⟩
      have hx3 : hasI L3 5 = true := by rw [← hL3, hasI_perm (insI_perm _ _)]; simp [hasI]
      have hn3 : L3.length = 3 := by rw [← hL3, (insI_perm _ _).length_eq, List.length_cons, HN2.out]
      rw [hL3] at hG9
      have HG9 := Lib.hid hG9
      have HX3 := Lib.hid hx3
      have HN3 := Lib.hid hn3
      clear hG9 hf hL3 hx3 hn3
      go_wp2_with fail
      refine (HG9.out.push k (by have := HK2.out; have := HL64.out; omega) 5 (by have := HN3.out; omega)).mono ?_
      rintro e wc ⟨rfl, fp10, hG10, -⟩
      have hf : (fitsB b wd k && !hasI L3 5) = false := by rw [HX3.out]; simp
      rw [hf] at hG10 ⊢
      rw [if_neg (by simp)] at hG10
      have HG10 := Lib.hid hG10
      clear hG10 hf
      go_wp2_with fail
      refine HG10.out.len.mono ?_
      rintro e wd2 ⟨rfl, rfl⟩
      rw [HN3.out]
      go_wp2
      go_ret
      exact ⟨rfl, HG10.out.updW⟩
    · have t2 : decide ((last : Int) < 18446744073709551615) = false := by simp; omega
      try (exfalso; omega)
      all_goals
        have HG6 := HG5
        go_wp2_with fail
        clear e1 e2 e3 f1 f2 f3 f4 f5 f6 hD hD64 hlm hp0 hp1 hp2 hb
        refine (HG6.out.push last HL64.out 3 (by simp)).mono ?_
        rintro e w8 ⟨rfl, fp7, hG7, -⟩
        have hf : (fitsB b wd last && !hasI [] 3) = true := by rw [HFIT.out last HLB.out (Nat.le_refl _)]; rfl
        rw [hf] at hG7 ⊢
        rw [if_pos rfl] at hG7
        have HG7 := Lib.hid hG7
        clear hG7 hf
        go_wp2_with fail
        refine (HG7.out.push b HB.out 4 (by simp [insI])).mono ?_
        rintro e w9 ⟨rfl, fp8, hG8, -⟩
        have hf : (fitsB b wd b && !hasI (insI ((last : Int), 3) []) 4) = true := by rw [HFIT.out b (Nat.le_refl _) HLB.out]; simp [insI, hasI]
        rw [hf] at hG8 ⊢
        rw [if_pos rfl] at hG8
        obtain ⟨L2, hL2⟩ : ∃ L, insI ((b : Int), 4) (insI ((last : Int), 3) []) = L := ⟨_, rfl⟩
        have hx2 : hasI L2 5 = false := by rw [← hL2, hasI_perm (insI_perm _ _)]; simp [hasI, insI]
        have hn2 : L2.length = 2 := by rw [← hL2, (insI_perm _ _).length_eq]; rfl
        rw [hL2] at hG8
        have HG8 := Lib.hid hG8
        have HX2 := Lib.hid hx2
        have HN2 := Lib.hid hn2
        clear hG8 hf hL2 hx2 hn2
        go_wp2_with fail
        refine (HG8.out.push k (by have := HK2.out; have := HL64.out; omega) 5 (by have := HN2.out; omega)).mono ?_
        rintro e wa ⟨rfl, fp9, hG9, -⟩
        have hf : (fitsB b wd k && !hasI L2 5) = true := by rw [HFIT.out k HK1.out HK2.out, HX2.out]; rfl
        rw [hf] at hG9 ⊢
        rw [if_pos rfl] at hG9
        obtain ⟨L3, hL3⟩ : ∃ L, insI ((k : Int), 5) L2 = L := ⟨_, rfl⟩
        have hx3 : hasI L3 5 = true := by rw [← hL3, hasI_perm (insI_perm _ _)]; simp [hasI]
        have hn3 : L3.length = 3 := by rw [← hL3, (insI_perm _ _).length_eq, List.length_cons, HN2.out]
        rw [hL3] at hG9
        have HG9 := Lib.hid hG9
        have HX3 := Lib.hid hx3
        have HN3 := Lib.hid hn3
        clear hG9 hf hL3 hx3 hn3
        go_wp2_with fail
        refine (HG9.out.push k (by have := HK2.out; have := HL64.out; omega) 5 (by have := HN3.out; omega)).mono ?_
        rintro e wc ⟨rfl, fp10, hG10, -⟩
        have hf : (fitsB b wd k && !hasI L3 5) = false := by rw [HX3.out]; simp
        rw [hf] at hG10 ⊢
        rw [if_neg (by simp)] at hG10
        have HG10 := Lib.hid hG10
        clear hG10 hf
        go_wp2_with fail
        refine HG10.out.len.mono ?_
        rintro e wd2 ⟨rfl, rfl⟩
        rw [HN3.out]
        go_wp2
        go_ret
        exact ⟨rfl, HG10.out.updW⟩
end Go.Proofs.YtilibinmbmgedaaDoor
