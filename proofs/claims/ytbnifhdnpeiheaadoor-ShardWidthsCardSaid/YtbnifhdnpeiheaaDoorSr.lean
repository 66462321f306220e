/-
  The walk of ShardWidths. Condition: where a table of the library's lies.
-/
import Derived.Test.YtbnifhdnpeiheaaDoorSm
import Derived.Test.YtbnifhdnpeiheaaDoorSkD
set_option linter.unusedVariables false
set_option linter.unusedSimpArgs false
namespace Go.Proofs.YtbnifhdnpeiheaaDoor
open Go.RowKit

section
variable {W w w' : World} {wb b base wd : Nat} {L : List It} {fp fq : List Nat} {vb d base2 wd2 : Nat} {M : List It} {gp gq : List Nat}
theorem AS.deedE {e : Ending} {base' : Nat} {L' : List It} (h : AS W wb b base wd L fp fq vb d base2 wd2 M gp gq w) (k : Deed6E W wb b base' wd L' L fp fq w e w') :
    e = .returned (.bool true) ∧ ∃ fp' fq', AS W wb b base' wd L' fp' fq' vb d base2 wd2 M gp gq w' ∧ L'.length ≤ L.length + 1 := by
  obtain ⟨he, fp', fq', k1, k2, k3, k4, k5⟩ := k
  have hl := h.2.1.lt
  refine ⟨he, fp', fq', ⟨k1, h.2.1.updS k4 (fun c hc e => h.2.2 c (by simp [hc]) e) (fun c hc e => h.2.2 c (by simp [hc]) e) h.1.newB, fun c hc e => ?_⟩, k5⟩
  have h1 := hl c hc
  rcases List.mem_append.1 e with e | e
  · rcases k2 c e with h' | h'
    · exact h.2.2 c hc (by simp [h'])
    · omega
  · rcases k3 c e with h' | h'
    · exact h.2.2 c hc (by simp [h'])
    · omega
end
theorem lev3_wide {W W' b k : Nat} (h : W ≤ W') (h3 : lev3 W' b k = 3) : lev3 W b k = 3 := by
  have := lev3_le W b k
  by_cases hf : lev3 W b k < 3
  · exfalso
    rw [fits_iff] at hf
    have h2 : lev3 W' b k < 3 := by
      rw [fits_iff]
      obtain ⟨e, rfl⟩ : ∃ e, W' = W + e := ⟨W' - W, by omega⟩
      have e1 : W + e + 18 = (W + 18) + e := by omega
      rw [e1, Nat.pow_add, ← Nat.div_div_eq_div_mul, ← Nat.div_div_eq_div_mul, hf]
    omega
  · omega
theorem farN_mono {W W' base : Nat} (h : W ≤ W') (L : List It) : farN base W' L ≤ farN base W L := by
  unfold farN
  induction L with
  | nil => simp
  | cons x r ih =>
    rw [List.filter_cons, List.filter_cons]
    by_cases h1 : lev3 W' base (kn x) = 3
    · have h2 := lev3_wide h h1
      simp [h1, h2]; exact ih
    · by_cases h2 : lev3 W base (kn x) = 3
      · simp [h1, h2]; omega
      · simp [h1, h2]; exact ih
def Wid6At (W : World) (sb b wa tb d wc c : Nat) (iv : Value) (wr : World) : Prop := ∃ (i base : Nat) (L : List It) (fp fq gp gq : List Nat), iv = .int .i64 i ∧ i ≤ c ∧ L.length ≤ i ∧ AS W sb b base wa L fp fq tb d base wc L gp gq wr

set_option maxRecDepth 100000 in
set_option maxHeartbeats 32000000 in
theorem swidths_walk (a_ b_ : Int) (v : Value) (m : Nat) (D : Nat → Nat → Int) (W : World) (hT : TabAt 0 Lib.deBruijn64tab W) (_ : (Lit.int .i64 a_).wf = true) (_ : (Lit.int .i64 b_).wf = true) (hv : RowsAt W [.i64, .u64, .i64] v m D) :
    Calls Tryd.prog 14 #[.int .i64 a_, .int .i64 b_, v] W (RetUpd [] W (.bool true)) := by
  obtain ⟨ao, cap, rfl, hmm, hD⟩ := deed_cells hv
  unfold maxLen at hmm
  have HD := Lib.hid hD
  have HT := Lib.hid hT
  clear hD hv hT
  have hm1 := modI_bd a_ 41 (by omega) (by omega)
  obtain ⟨wa, hwa⟩ : ∃ wd : Nat, modI a_ 41 = wd := ⟨(modI a_ 41).toNat, by omega⟩
  rw [hwa] at hm1
  have HWA := Lib.hid hwa
  have hm2 := modI_bd b_ 41 (by omega) (by omega)
  obtain ⟨wc, hwc⟩ : ∃ wd : Nat, modI b_ 41 = wd := ⟨(modI b_ 41).toNat, by omega⟩
  rw [hwc] at hm2
  have HWC := Lib.hid hwc
  have HHA : Hid (heldN (wa : Int) = wa) := heldN_id (by omega)
  have HHC : Hid (heldN (wc : Int) = wc) := heldN_id (by omega)
  clear hm1 hwa hm2 hwc
  obtain ⟨c, hc⟩ : ∃ c : Nat, min m 60 = c := ⟨_, rfl⟩
  have hcm : c ≤ m := by omega
  have hc60 : c ≤ 60 := by omega
  have HC : Hid (min m 60 = c) := hc
  clear hc
  go_enter Tryd.func14, Tryd.ntmps14
  go_wp2_with fail
  refine (mod_any a_ 41 (by omega) (by omega) _).mono ?_
  rintro e w0 ⟨rfl, rfl⟩
  rw [HWA.out]
  go_wp2_with fail
  refine (mod_any b_ 41 (by omega) (by omega) _).mono ?_
  rintro e w0 ⟨rfl, rfl⟩
  rw [HWC.out]
  go_wp2_with fail
  refine (SL.new (Upd.refl [] W) HT.out (wa : Int)).mono ?_
  rintro e w1 ⟨sb, F1, rfl, h1, hU1, hf1⟩
  rw [HHA.out] at h1
  have HS1 : Hid (SR W sb w1.heap.size 0 wa [] F1 [w1.heap.size] (w1.alloc (.cells #[.slice none 0 0, .int .u64 0, .int .i64 wa, .bool true] 62))) := by
    refine ⟨h1.upd ((Upd.refl [] w1).alloc _), ?_, fun c hc e => ?_, by simp⟩
    · have hB := Blk.new w1 62 [.slice none 0 0, .int .u64 0, .int .i64 (heldN (wa : Int)), .bool true]
      have := RG.new (W := W) (wa : Int) true hB h1.updW.size
      rw [HHA.out] at this
      exact this
    · simp at e; have := h1.lt c hc; omega
  clear h1 hU1 hf1
  go_wp2_with fail
  refine (SL.new HS1.out.1.updW HT.out (wc : Int)).mono ?_
  rintro e w2 ⟨tb, F2, rfl, h2, hU2, hf2⟩
  rw [HHC.out] at h2
  have HA3 : Hid (AS W sb w1.heap.size 0 wa [] F1 [w1.heap.size] tb w2.heap.size 0 wc [] F2 [w2.heap.size] (w2.alloc (.cells #[.slice none 0 0, .int .u64 0, .int .i64 wc, .bool true] 62))) := by
    have hu := (Upd.refl [] w2).alloc (.cells #[.slice none 0 0, .int .u64 0, .int .i64 wc, .bool true] 62)
    have hl1 := HS1.out.lt
    have hs2 := hU2.size
    refine ⟨(HS1.out.upd hU2).upd hu, ⟨h2.upd hu, ?_, fun c hc e => ?_, by simp⟩, fun c hc e => ?_⟩
    · have hB := Blk.new w2 62 [.slice none 0 0, .int .u64 0, .int .i64 (heldN (wc : Int)), .bool true]
      have := RG.new (W := W) (wc : Int) true hB h2.updW.size
      rw [HHC.out] at this
      exact this
    · simp at e; have := h2.lt c hc; omega
    · have := hl1 c e
      rcases List.mem_append.1 hc with h | h
      · have := hf2 c h; omega
      · simp at h; omega
  clear h2 hU2 hf2
  go_wp2_with fail
  refine (awake6_any _ (tab_upd HT.out HA3.out.1.1.updW)).mono ?_
  rintro e w4 ⟨rfl, hU⟩
  have HA4 := Lib.hid (HA3.out.upd hU)
  clear hU HA3 HS1
  obtain ⟨b, hb1⟩ : ∃ b, w1.heap.size = b := ⟨_, rfl⟩
  obtain ⟨d, hd1⟩ : ∃ b, w2.heap.size = b := ⟨_, rfl⟩
  rw [hb1, hd1] at HA4 ⊢
  clear hb1 hd1
  go_wp2
  go_loopw [11] (fun iv wr => Wid6At W sb b wa tb d wc c iv wr) (fun iv _ => c - (intOf iv).toNat)
  case atStart => exact ⟨0, 0, [], _, _, _, _, rfl, by omega, by simp, HA4.out⟩
  case round =>
    clear HA4
    obtain ⟨i, base, L, fp, fq, gp, gq, rfl, hi, hLi, hA⟩ := hrel
    have HA := Lib.hid hA
    clear hA
    by_cases hlt : i < c
    · rcases HD.out with h0 | ⟨bd, off, rfl, hb1, hcc⟩
      · omega
      obtain ⟨c0, c1, c2, hk0, hk1⟩ := hcc i (by omega)
      rw [← HA.out.1.1.updW.cell hb1 (by simp)] at c0 c1 c2
      have lbd := Nat.lt_of_lt_of_le hb1 HA.out.1.1.updW.size
      have him : i < m := by omega
      have t1 : decide (i < m) = true := by simp; omega
      have t2 : decide ((i : Int) < 60) = true := by simp; omega
      have b1 : (i : Int) < (m : Int) := by omega
      obtain ⟨k, hk⟩ : ∃ k, D i 0 = k := ⟨_, rfl⟩
      obtain ⟨key, hkey⟩ : ∃ k, D i 1 = k := ⟨_, rfl⟩
      obtain ⟨id, hid⟩ : ∃ k, D i 2 = k := ⟨_, rfl⟩
      rw [hk] at c0
      rw [hkey] at c1 hk0 hk1
      rw [hid] at c2
      obtain ⟨kk, rfl⟩ := Int.eq_ofNat_of_zero_le hk0
      have hkk : kk < 18446744073709551616 := by omega
      have HKK := Lib.hid hkk
      have HCC : Hid (∀ w', Upd [] W w' → w'.cell? ⟨bd, off + i * 3, none⟩ = some (.int .i64 k) ∧ w'.cell? ⟨bd, off + i * 3 + 1, none⟩ = some (.int .u64 (kk : Int)) ∧ w'.cell? ⟨bd, off + i * 3 + 2, none⟩ = some (.int .i64 id)) := fun w' hu => by
        obtain ⟨x0, x1, x2, _⟩ := hcc i (by omega)
        rw [hk] at x0
        rw [hkey] at x1
        rw [hid] at x2
        rw [hu.cell hb1 (by simp), hu.cell hb1 (by simp), hu.cell hb1 (by simp)]
        exact ⟨x0, x1, x2⟩
      have HBD := Lib.hid hb1
      obtain ⟨base6, hb6⟩ : ∃ x, dB base L (modI k 9) (nearK kk base) id = x := ⟨_, rfl⟩
      obtain ⟨L6, hL6⟩ : ∃ x, dL base L (modI k 9) (nearK kk base) (nameI id) = x := ⟨_, rfl⟩
      have HB6 := Lib.hid hb6
      have HL6 := Lib.hid hL6
      clear hcc hb1 hk hkey hid hk1 hkk hb6 hL6
      go_wp2_with fail
      refine (step6D_any W sb b base wa L fp fq k id kk HKK.out _ HA.out.1 (by omega)).mono ?_
      rintro e w6 hst
      unfold Deed6D at hst
      rw [HB6.out, HL6.out] at hst
      obtain ⟨rfl, fp6, fq6, hA6, hl6⟩ := HA.out.deedE hst
      have HA6 := Lib.hid hA6
      obtain ⟨c0, c1, c2⟩ := HCC.out w6 hA6.1.1.updW
      have lbd := Nat.lt_of_lt_of_le HBD.out hA6.1.1.updW.size
      clear hA6 hst
      go_wp2_with fail
      refine (step6D_any W tb d base wc L gp gq k id kk HKK.out _ HA6.out.2.1 (by omega)).mono ?_
      rintro e w7 hst
      unfold Deed6D at hst
      rw [HB6.out, HL6.out] at hst
      obtain ⟨rfl, gp7, gq7, hA7, hl7⟩ := HA6.out.swap.deedE hst
      have HA7 := Lib.hid hA7.swap
      clear hA7 hst c0 c1 c2
      go_wp2_with fail
      refine HA7.out.1.1.base_.mono ?_
      rintro e w8 ⟨rfl, rfl⟩
      go_wp2_with fail
      refine HA7.out.2.1.1.base_.mono ?_
      rintro e w8 ⟨rfl, rfl⟩
      obtain ⟨n6, hn6⟩ : ∃ n, L6.length = n := ⟨_, rfl⟩
      rw [hn6] at hl6
      have HN6 := Lib.hid hn6
      clear hn6 hl7
      go_wp2_with fail
      refine HA7.out.1.1.len.mono ?_
      rintro e w8 ⟨rfl, hU8⟩
      rw [HN6.out]
      have HA8 := Lib.hid (HA7.out.upd hU8)
      clear hU8
      go_wp2_with fail
      refine HA8.out.2.1.1.len.mono ?_
      rintro e w9 ⟨rfl, hU9⟩
      rw [HN6.out]
      have HA9 := Lib.hid (HA8.out.upd hU9)
      clear hU9
      by_cases hw : wa ≤ wc
      · have u1 : decide (wa ≤ wc) = true := by simp [hw]
        have hfm := farN_mono (base := base6) hw L6
        obtain ⟨f1, hf1⟩ : ∃ n, farN base6 wa L6 = n := ⟨_, rfl⟩
        obtain ⟨f2, hf2⟩ : ∃ n, farN base6 wc L6 = n := ⟨_, rfl⟩
        rw [hf1, hf2] at hfm
        have u2 : decide (f1 < f2) = false := by simp; omega
        have HF1 := Lib.hid hf1
        have HF2 := Lib.hid hf2
        clear hf1 hf2 hfm hw
        go_wp2_with fail
        refine HA9.out.1.1.over_.mono ?_
        rintro e w10 ⟨rfl, hU10⟩
        rw [HF1.out]
        have HA10 := Lib.hid (HA9.out.upd hU10)
        clear hU10
        go_wp2_with fail
        refine HA10.out.2.1.1.over_.mono ?_
        rintro e w11 ⟨rfl, hU11⟩
        rw [HF2.out]
        have HA11 := Lib.hid (HA10.out.upd hU11)
        clear hU11
        go_wp2
        exact ⟨⟨i + 1, base6, L6, fp6, fq6, gp7, gq7, by congr 1, by omega, by have := HN6.out; omega, HA11.out⟩, by first | (simp [intOf]; done) | (simp [intOf]; omega)⟩
      · have u1 : decide (wa ≤ wc) = false := by simp; omega
        go_wp2
        exact ⟨⟨i + 1, base6, L6, fp6, fq6, gp7, gq7, by congr 1, by omega, by have := HN6.out; omega, HA9.out⟩, by first | (simp [intOf]; done) | (simp [intOf]; omega)⟩
    · have t1 : Hid (decide (i < m) = true ∧ decide ((i : Int) < 60) = false ∨ decide (i < m) = false) := by
        have := HC.out
        unfold Hid
        by_cases h : i < m
        · left; exact ⟨by simp; omega, by simp; omega⟩
        · right; simp; omega
      obtain ⟨n, hn⟩ : ∃ n, L.length = n := ⟨_, rfl⟩
      rw [hn] at hLi
      have HN := Lib.hid hn
      have hn80 : n ≤ 80 := by omega
      clear hn hLi
      rcases t1.out with ⟨t2, t3⟩ | t2
      all_goals
        clear t1
        go_wp2_with fail
        refine HA.out.1.1.all.mono ?_
        rintro e w6 ⟨aoa, capa, rfl, hRa, -, hU6⟩
        rw [HN.out] at hRa ⊢
        have HRa := Lib.hid hRa
        have HA6 := Lib.hid (HA.out.upd hU6)
        clear hRa hU6
        go_wp2_with fail
        refine HA6.out.2.1.1.all.mono ?_
        rintro e w7 ⟨aob, capb, rfl, hRb, -, hU7⟩
        rw [HN.out] at hRb ⊢
        have HRb := Lib.hid hRb
        have HRa7 := Lib.hid (HRa.out.upd hU7 (by simp))
        have HA7 := Lib.hid (HA6.out.upd hU7)
        clear hRb hU7
        go_wp2_with fail
        refine (plain_any aoa aob n capa capb L _ HN.out (by omega) HRa7.out HRb.out).mono ?_
        rintro e w8 ⟨rfl, hU8⟩
        go_wp2
        go_ret
        exact ⟨rfl, HA7.out.1.1.updW.trans hU8⟩
end Go.Proofs.YtbnifhdnpeiheaaDoor
