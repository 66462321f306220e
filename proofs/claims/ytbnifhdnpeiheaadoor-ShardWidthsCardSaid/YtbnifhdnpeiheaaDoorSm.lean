/-
  The walk of ShardApart. Condition: where a table of the library's lies.
-/
import Derived.Test.YtbnifhdnpeiheaaDoorSk
import Derived.Test.YtbnifhdnpeiheaaDoorPB
import Derived.Test.YtbnifhdnpeiheaaDoorPS
set_option linter.unusedVariables false
set_option linter.unusedSimpArgs false
namespace Go.Proofs.YtbnifhdnpeiheaaDoor
open Go.RowKit

theorem SR.lt {W w : World} {wb b base wd : Nat} {L : List It} {fp fq : List Nat} (h : SR W wb b base wd L fp fq w) : ∀ c ∈ fp ++ fq, c < w.heap.size := by
  intro c hc
  rcases List.mem_append.1 hc with hc | hc
  · exact h.1.lt c hc
  · exact h.2.1.lt c hc
theorem SR.newB {W w : World} {wb b base wd : Nat} {L : List It} {fp fq : List Nat} (h : SR W wb b base wd L fp fq w) : ∀ c ∈ fp ++ fq, W.heap.size ≤ c := by
  intro c hc
  rcases List.mem_append.1 hc with hc | hc
  · exact h.1.newB c hc
  · exact h.2.1.newB c hc
/-- Two pairs side by side. -/
def AS (W : World) (wb b base wd : Nat) (L : List It) (fp fq : List Nat) (vb d base2 wd2 : Nat) (M : List It) (gp gq : List Nat) (w : World) : Prop :=
  SR W wb b base wd L fp fq w ∧ SR W vb d base2 wd2 M gp gq w ∧ ∀ c ∈ gp ++ gq, c ∉ fp ++ fq
section
variable {W w w' : World} {wb b base wd : Nat} {L : List It} {fp fq : List Nat} {vb d base2 wd2 : Nat} {M : List It} {gp gq : List Nat}
theorem AS.swap (h : AS W wb b base wd L fp fq vb d base2 wd2 M gp gq w) : AS W vb d base2 wd2 M gp gq wb b base wd L fp fq w := ⟨h.2.1, h.1, fun c hc e => h.2.2 c e hc⟩
theorem AS.updS {S : List Nat} (h : AS W wb b base wd L fp fq vb d base2 wd2 M gp gq w) (hu : Upd S w w') (hS : ∀ c ∈ S, w.heap.size ≤ c) : AS W wb b base wd L fp fq vb d base2 wd2 M gp gq w' := by
  have hW := h.1.1.updW.size
  have k1 := h.1.lt
  have k2 := h.2.1.lt
  refine ⟨h.1.updS hu (fun c hc e => ?_) (fun c hc e => ?_) (fun c hc => by have := hS c hc; omega), h.2.1.updS hu (fun c hc e => ?_) (fun c hc e => ?_) (fun c hc => by have := hS c hc; omega), h.2.2⟩
  · have := k1 c (by simp [hc]); have := hS c e; omega
  · have := k1 c (by simp [hc]); have := hS c e; omega
  · have := k2 c (by simp [hc]); have := hS c e; omega
  · have := k2 c (by simp [hc]); have := hS c e; omega
theorem AS.upd (h : AS W wb b base wd L fp fq vb d base2 wd2 M gp gq w) (hu : Upd [] w w') : AS W wb b base wd L fp fq vb d base2 wd2 M gp gq w' := h.updS hu (by simp)
theorem AS.deed {e : Ending} (h : AS W wb b base wd L fp fq vb d base2 wd2 M gp gq w) (k : Deed6 W wb b base wd L fp fq w e w') :
    e = .returned (.bool true) ∧ ∃ base' L' fp' fq', AS W wb b base' wd L' fp' fq' vb d base2 wd2 M gp gq w' ∧ L'.length ≤ L.length + 1 := by
  obtain ⟨he, base', L', fp', fq', k1, k2, k3, k4, k5⟩ := k
  have hl := h.2.1.lt
  refine ⟨he, base', L', fp', fq', ⟨k1, h.2.1.updS k4 (fun c hc e => h.2.2 c (by simp [hc]) e) (fun c hc e => h.2.2 c (by simp [hc]) e) h.1.newB, fun c hc e => ?_⟩, k5⟩
  have h1 := hl c hc
  rcases List.mem_append.1 e with e | e
  · rcases k2 c e with h' | h'
    · exact h.2.2 c hc (by simp [h'])
    · omega
  · rcases k3 c e with h' | h'
    · exact h.2.2 c hc (by simp [h'])
    · omega
end
def Apart6At (W : World) (wb b wd vb d wd2 c : Nat) (iv : Value) (wr : World) : Prop := ∃ (i base base2 : Nat) (L M : List It) (fp fq gp gq : List Nat), iv = .int .i64 i ∧ i ≤ c ∧ L.length ≤ i ∧ M.length ≤ i ∧ AS W wb b base wd L fp fq vb d base2 wd2 M gp gq wr


set_option maxRecDepth 100000 in
set_option maxHeartbeats 64000000 in
theorem sapart_walk (width : Int) (v1 : Value) (m1 : Nat) (D1 : Nat → Nat → Int) (v2 : Value) (m2 : Nat) (D2 : Nat → Nat → Int) (W : World) (hT : TabAt 0 Lib.deBruijn64tab W) (_ : (Lit.int .i64 width).wf = true) (hv1 : RowsAt W [.i64, .u64, .i64] v1 m1 D1) (hv2 : RowsAt W [.i64, .u64, .i64] v2 m2 D2) :
    Calls Tryd.prog 15 #[.int .i64 width, v1, v2] W (RetUpd [] W (.bool true)) := by
  obtain ⟨ao1, cap1, rfl, hm1, hD1⟩ := deed_cells hv1
  obtain ⟨ao2, cap2, rfl, hm2, hD2⟩ := deed_cells hv2
  unfold maxLen at hm1 hm2
  have HD1 := Lib.hid hD1
  have HD2 := Lib.hid hD2
  have HT := Lib.hid hT
  clear hD1 hv1 hD2 hv2 hT
  obtain ⟨c, hc⟩ : ∃ c : Nat, min m1 40 = c := ⟨_, rfl⟩
  have hcm : c ≤ m1 := by omega
  have hc40 : c ≤ 40 := by omega
  have HC : Hid (min m1 40 = c) := hc
  clear hc
  go_enter Tryd.func15, Tryd.ntmps15
  go_wp2_with fail
  refine (smade_any W width W (Upd.refl [] W) HT.out).mono ?_
  rintro e1 w1 ⟨wb, b, wd, fp0, fq0, rfl, hP, -, -, -⟩
  have HP1 := Lib.hid hP
  clear hP
  go_wp2_with fail
  refine (smade_any W width w1 HP1.out.1.updW HT.out).mono ?_
  rintro e2 w2 ⟨vb, d, wd2, gp0, gq0, rfl, hP, hU, hg1, hg2⟩
  have HA2 : Hid (AS W wb b 0 wd [] fp0 fq0 vb d 0 wd2 [] gp0 gq0 w2) := ⟨HP1.out.upd hU, hP, fun c hc e => by
    have h1 := HP1.out.lt c e
    rcases List.mem_append.1 hc with h | h
    · have := hg1 c h; omega
    · have := hg2 c h; omega⟩
  clear hP hU hg1 hg2 HP1
  go_wp2_with fail
  refine (awake6_any _ (tab_upd HT.out HA2.out.1.1.updW)).mono ?_
  rintro e w3 ⟨rfl, hU⟩
  have HA3 := Lib.hid (HA2.out.upd hU)
  clear hU HA2
  go_wp2
  go_loopw [11] (fun iv wr => Apart6At W wb b wd vb d wd2 c iv wr) (fun iv _ => c - (intOf iv).toNat)
  case atStart => exact ⟨0, 0, 0, [], [], _, _, _, _, rfl, by omega, by simp, by simp, HA3.out⟩
  case round =>
    clear HA3
    obtain ⟨i, base, base2, L, M, fp, fq, gp, gq, rfl, hi, hLi, hMi, hA⟩ := hrel
    have HA := Lib.hid hA
    clear hA
    by_cases hlt : i < c
    · rcases HD1.out with h0 | ⟨bd, off, rfl, hb1, hcc⟩
      · omega
      obtain ⟨c0, c1, c2, hk0, hk1⟩ := hcc i (by omega)
      rw [← HA.out.1.1.updW.cell hb1 (by simp)] at c0 c1 c2
      have him : i < m1 := by omega
      have t1 : decide (i < m1) = true := by simp; omega
      have t2 : decide ((i : Int) < 40) = true := by simp; omega
      have b1 : (i : Int) < (m1 : Int) := by omega
      obtain ⟨k, hk⟩ : ∃ k, D1 i 0 = k := ⟨_, rfl⟩
      obtain ⟨key, hkey⟩ : ∃ k, D1 i 1 = k := ⟨_, rfl⟩
      obtain ⟨id, hid⟩ : ∃ k, D1 i 2 = k := ⟨_, rfl⟩
      rw [hk] at c0
      rw [hkey] at c1 hk0 hk1
      rw [hid] at c2
      obtain ⟨kk, rfl⟩ := Int.eq_ofNat_of_zero_le hk0
      have hkk : kk < 18446744073709551616 := by omega
      clear hk hkey hid hk0 hk1
      clear hcc hb1
      go_wp2_with fail
      refine (step6_any W wb b base wd L fp fq k id kk hkk _ HA.out.1 (by omega)).mono ?_
      rintro e w6 hst
      obtain ⟨rfl, base6, L6, fp6, fq6, hA6, hl6⟩ := HA.out.deed hst
      have HA6 := Lib.hid hA6
      clear hA6 hst c0 c1 c2 hkk
      by_cases hm : i < m2
      · have u1 : decide (i < m2) = true := by simp [hm]
        have b2 : (i : Int) < (m2 : Int) := by omega
        rcases HD2.out with h0 | ⟨bd2, off2, rfl, hb2, hcc⟩
        · omega
        obtain ⟨c0, c1, c2, hk0, hk1⟩ := hcc i (by omega)
        rw [← HA6.out.1.1.updW.cell hb2 (by simp)] at c0 c1 c2
        have lb2 := Nat.lt_of_lt_of_le hb2 HA6.out.1.1.updW.size
        obtain ⟨k, hk⟩ : ∃ k, D2 i 0 = k := ⟨_, rfl⟩
        obtain ⟨key, hkey⟩ : ∃ k, D2 i 1 = k := ⟨_, rfl⟩
        obtain ⟨id, hid⟩ : ∃ k, D2 i 2 = k := ⟨_, rfl⟩
        rw [hk] at c0
        rw [hkey] at c1 hk0 hk1
        rw [hid] at c2
        obtain ⟨kk, rfl⟩ := Int.eq_ofNat_of_zero_le hk0
        have hkk : kk < 18446744073709551616 := by omega
        clear hk hkey hid hk0 hk1
        clear hcc hb2
        go_wp2_with fail
        refine (step6_any W vb d base2 wd2 M gp gq _ _ _ hkk _ HA6.out.2.1 (by omega)).mono ?_
        rintro e w7 hst
        obtain ⟨rfl, base7, M7, gp7, gq7, hA7, hl7⟩ := HA6.out.swap.deed hst
        have HA7 := Lib.hid hA7.swap
        clear hA7 hst c0 c1 c2 hkk
        go_wp2_with fail
        refine (HA7.out.1.1.all).mono ?_
        rintro e w8 ⟨ao8, cap8, rfl, hR, hF, hU⟩
        obtain ⟨n8, hn⟩ : ∃ n, L6.length = n := ⟨_, rfl⟩
        rw [hn] at hR ⊢
        have hn8 : n8 ≤ 1000 := by omega
        have HR8 := Lib.hid hR
        have HF8 := Lib.hid hF
        have HU8 := Lib.hid hU
        clear hn hR hF hU
        go_wp2_with fail
        refine (spoil_any ao8 n8 cap8 _ _ hn8 HR8.out).mono ?_
        rintro e w9 ⟨rfl, hU⟩
        have HA9 := Lib.hid (HA7.out.updS (HU8.out.nil.trans hU) HF8.out)
        clear hU
        go_wp2_with fail
        refine (HA9.out.2.1.1.all).mono ?_
        rintro e w10 ⟨ao10, cap10, rfl, hR, hF, hU⟩
        obtain ⟨n10, hn⟩ : ∃ n, M7.length = n := ⟨_, rfl⟩
        rw [hn] at hR ⊢
        have hn10 : n10 ≤ 1000 := by omega
        have HR10 := Lib.hid hR
        have HF10 := Lib.hid hF
        have HU10 := Lib.hid hU
        clear hn hR hF hU
        go_wp2_with fail
        refine (spoil_any ao10 n10 cap10 _ _ hn10 HR10.out).mono ?_
        rintro e w11 ⟨rfl, hU⟩
        have HA11 := Lib.hid (HA9.out.updS (HU10.out.nil.trans hU) HF10.out)
        clear hU
        go_wp2
        exact ⟨⟨i + 1, base6, base7, L6, M7, fp6, fq6, gp7, gq7, by congr 1, by omega, by omega, by omega, HA11.out⟩, by first | (simp [intOf]; done) | (simp [intOf]; omega)⟩
      · have u1 : decide (i < m2) = false := by simp [hm]
        go_wp2_with fail
        refine (HA6.out.1.1.all).mono ?_
        rintro e w8 ⟨ao8, cap8, rfl, hR, hF, hU⟩
        obtain ⟨n8, hn⟩ : ∃ n, L6.length = n := ⟨_, rfl⟩
        rw [hn] at hR ⊢
        have hn8 : n8 ≤ 1000 := by omega
        have HR8 := Lib.hid hR
        have HF8 := Lib.hid hF
        have HU8 := Lib.hid hU
        clear hn hR hF hU
        go_wp2_with fail
        refine (spoil_any ao8 n8 cap8 _ _ hn8 HR8.out).mono ?_
        rintro e w9 ⟨rfl, hU⟩
        have HA9 := Lib.hid (HA6.out.updS (HU8.out.nil.trans hU) HF8.out)
        clear hU
        go_wp2_with fail
        refine (HA9.out.2.1.1.all).mono ?_
        rintro e w10 ⟨ao10, cap10, rfl, hR, hF, hU⟩
        obtain ⟨n10, hn⟩ : ∃ n, M.length = n := ⟨_, rfl⟩
        rw [hn] at hR ⊢
        have hn10 : n10 ≤ 1000 := by omega
        have HR10 := Lib.hid hR
        have HF10 := Lib.hid hF
        have HU10 := Lib.hid hU
        clear hn hR hF hU
        go_wp2_with fail
        refine (spoil_any ao10 n10 cap10 _ _ hn10 HR10.out).mono ?_
        rintro e w11 ⟨rfl, hU⟩
        have HA11 := Lib.hid (HA9.out.updS (HU10.out.nil.trans hU) HF10.out)
        clear hU
        go_wp2
        exact ⟨⟨i + 1, base6, base2, L6, M, fp6, fq6, gp, gq, by congr 1, by omega, by omega, by omega, HA11.out⟩, by first | (simp [intOf]; done) | (simp [intOf]; omega)⟩
    · have t1 : Hid (decide (i < m1) = true ∧ decide ((i : Int) < 40) = false ∨ decide (i < m1) = false) := by
        have := HC.out
        unfold Hid
        by_cases h : i < m1
        · left; exact ⟨by simp; omega, by simp; omega⟩
        · right; simp; omega
      obtain ⟨ao6, cap6, hB6, hR, -⟩ := HA.out.1.2.1.cells
      obtain ⟨ao7, cap7, hB7, hR7, -⟩ := HA.out.2.1.2.1.cells
      have q0 := hB6.cell (j := 0) rfl
      have lb6 := hB6.lt
      have q1 := hB7.cell (j := 0) rfl
      have lb7 := hB7.lt
      obtain ⟨n, hn⟩ : ∃ n, L.length = n := ⟨_, rfl⟩
      rw [hn] at q0 hR hLi
      obtain ⟨n2, hn2⟩ : ∃ n, M.length = n := ⟨_, rfl⟩
      rw [hn2] at q1 hR7 hMi
      have HN := Lib.hid hn
      have HR := Lib.hid hR
      have HN2 := Lib.hid hn2
      have HR7 := Lib.hid hR7
      obtain ⟨fn, hfn⟩ : ∃ fn, farN base wd L = fn := ⟨_, rfl⟩
      have HFN := Lib.hid hfn
      clear hfn
      have hn80 : n ≤ 80 := by omega
      have hn280 : n2 ≤ 80 := by omega
      clear hn hR hLi hB6 hn2 hR7 hMi hB7
      rcases t1.out with ⟨t2, t3⟩ | t2
      all_goals
        clear t1
        have tokA : True := trivial
        have tokP : True := trivial
        go_wp2_with fail
        go_region_held3 (fun w2 => Upd [] wr w2 ∧ ∀ (b o : Nat), b < wr.heap.size → b ∉ ([] : List Nat) → w2.cell? ⟨b, o, none⟩ = wr.cell? ⟨b, o, none⟩)
          (first | exact Held.init _ _ | assumption | exact Held.step (by assumption) hBf | exact Held.step (by assumption) hBe | exact Held.step (by assumption) hBd | exact Held.step (by assumption) hBc | exact Held.step (by assumption) hBb | exact Held.step (by assumption) hBa)
          (first | (go_at_call 47; have tk := tokA; clear tokA; refine ((HA.out.upd (Upd.refl [] wr).drew).1.1.all).mono ?_; rintro e w6 ⟨aoa, capa, rfl, hRa, -, hBa⟩; rw [HN.out] at hRa ⊢; have HRa := Lib.hid hRa; have HUa : Hid (Upd [] wr w6) := (Upd.refl [] wr).drew.trans hBa; clear hRa) | (go_at_call 33; have tk2 := tokP; clear tokP; refine (plain_any aoa ao6 n capa cap6 L _ HN.out (by omega) HRa.out (HR.out.upd HUa.out (by simp))).mono ?_; rintro e w7 ⟨rfl, hBb⟩; have HUb : Hid (Upd [] wr w7) := HUa.out.trans hBb; have tok : True := trivial) | (go_at_call 47; have tk := tok; refine ((HA.out.upd HUb.out).2.1.1.all).mono ?_; rintro e w8 ⟨aob, capb, rfl, hRb, -, hBc⟩; rw [HN2.out] at hRb ⊢; have HRb := Lib.hid hRb; have HUc : Hid (Upd [] wr w8) := HUb.out.trans hBc; clear hRb) | (go_at_call 33; refine (plain_any aob ao7 n2 capb cap7 M _ HN2.out (by omega) HRb.out (HR7.out.upd HUc.out (by simp))).mono ?_; rintro e w9 ⟨rfl, hBd⟩; have HUd : Hid (Upd [] wr w9) := HUc.out.trans hBd) | (go_at_call 45; refine ((HA.out.upd HUd.out).1.1.over_).mono ?_; rintro e w10 ⟨rfl, hBe⟩; rw [HFN.out]; have HUe : Hid (Upd [] wr w10) := HUd.out.trans hBe) | (go_at_call 46; refine ((HA.out.upd HUe.out).1.over_).mono ?_; rintro e w11 ⟨rfl, hBf⟩; rw [HFN.out]; have HUf : Hid (Upd [] wr w11) := HUe.out.trans hBf))
        all_goals
          go_wp2
          go_ret
          exact ⟨rfl, HA.out.1.1.updW.trans HUf.out⟩
end Go.Proofs.YtbnifhdnpeiheaaDoor
