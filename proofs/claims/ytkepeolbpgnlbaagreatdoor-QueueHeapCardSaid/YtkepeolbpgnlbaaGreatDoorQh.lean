/-
  The document's queue: first. No condition.
-/
import Derived.Test.YtkepeolbpgnlbaaGreatDoorQg
set_option linter.unusedVariables false
set_option linter.unusedSimpArgs false
namespace Go.Proofs.YtkepeolbpgnlbaaGreatDoor
open Go.RowKit

theorem firstNo {M : List Sh} {fin : Int} {w wr w' : World} {i : Nat} {best : Int} (hi : i < M.length) (hb : best = -1 ∨ ∃ (b : Nat) (y : It) (s : List It), best = b ∧ b < M.length ∧ (shAt M b).2 = y :: s) (hU : Upd [] w wr) (hu : Upd [] wr w')
    (hf : scanF (hasM M) (headM M) 16 1 (M.length - i) i best = fin) (ht : takesF (hasM M) (headM M) 16 1 i best = false) : FirstAt w M fin (.int .i64 best) (.int .i64 ((i : Int) + 1)) w' :=
  ⟨i + 1, best, by congr 1, rfl, by omega, hb, hU.trans hu, by rw [scanF_step _ _ _ _ _ _ _ hi, ht] at hf; exact hf⟩
theorem firstYes {M : List Sh} {fin : Int} {w wr w' : World} {i : Nat} {best : Int} (hi : i < M.length) {y : It} {s : List It} (hK : (shAt M i).2 = y :: s) (hU : Upd [] w wr) (hu : Upd [] wr w')
    (hf : scanF (hasM M) (headM M) 16 1 (M.length - i) i best = fin) (ht : takesF (hasM M) (headM M) 16 1 i best = true) : FirstAt w M fin (.int .i64 i) (.int .i64 ((i : Int) + 1)) w' :=
  ⟨i + 1, i, by congr 1, rfl, by omega, .inr ⟨i, y, s, rfl, hi, hK⟩, hU.trans hu, by rw [scanF_step _ _ _ _ _ _ _ hi, ht] at hf; exact hf⟩
section
variable {W w : World} {qb wd : Nat} {M : List Sh} {L : List It} {fp : List Nat}
set_option maxRecDepth 100000 in
set_option maxHeartbeats 16000000 in
theorem RQ.first (h : RQ W qb wd M fp w) (hok : QOk M L) : Calls Tryz.prog 61 #[.pointer (some ⟨qb, 0, none⟩)] w (FirstQ M L w) := by
  obtain ⟨sr, cap, sb, F, h1, rfl⟩ := h
  have HQ := Lib.hid h1
  have HOK := Lib.hid hok
  have h16 := hok.small
  obtain ⟨p0w, -, lqw, -⟩ := h1.cells
  obtain ⟨n, hn⟩ : ∃ n, M.length = n := ⟨_, rfl⟩
  have HN := Lib.hid hn
  rw [hn] at h16 p0w
  obtain ⟨fin, hfin⟩ : ∃ f, scanF (hasM M) (headM M) 16 1 M.length 0 (-1) = f := ⟨_, rfl⟩
  have HFIN := Lib.hid hfin
  clear h1 hok hn hfin
  go_enter Tryz.func61, Tryz.ntmps61
  go_wp2_with fail
  go_loopw [3, 4] (fun bv iv wr => FirstAt w M fin bv iv wr) (fun _ iv _ => n - (intOf iv).toNat)
  case atStart => exact ⟨0, -1, rfl, rfl, by omega, .inl rfl, Upd.refl _ _, HFIN.out⟩
  case round =>
    clear p0w lqw
    obtain ⟨i, best, rfl, rfl, hi, hb, hU, hf⟩ := hrel
    rw [HN.out] at hi
    obtain ⟨p0, pp, lq, ls⟩ := (HQ.out.upd hU).cells
    rw [HN.out] at p0
    have HB := Lib.hid hb
    have HU := Lib.hid hU
    have HF := Lib.hid hf
    by_cases hlt : i < n
    · have t1 : decide (i < n) = true := by simp [hlt]
      have b1 : (i : Int) < (n : Int) := by omega
      have hiM : i < M.length := by rw [HN.out]; exact hlt
      have HIM := Lib.hid hiM
      have pi := pp i hiM
      obtain ⟨aoi, capi, hBi, hRi, -, -, -, -⟩ := ((HQ.out.upd hU).sh i hiM).cells
      have c0 := hBi.cell (j := 0) rfl
      have lb := hBi.lt
      have hhas := hasM_get hiM
      have hhead := headM_get hiM
      obtain ⟨K, hK⟩ : ∃ K, (shAt M i).2 = K := ⟨_, rfl⟩
      have HK := Lib.hid hK
      rw [hK] at c0 hRi hhas hhead
      cases K with
      | nil =>
        have HT : Hid (takesF (hasM M) (headM M) 16 1 i best = false) := takes_no2 (by rw [hhas]; rfl)
        simp only [List.length_nil] at c0
        clear hb hU hf pp hRi hhas hhead hK hBi
        go_wp2_with fail
        go_quiet (fail)
        go_wp2
        exact ⟨(firstNo HIM.out HB.out HU.out ((Upd.refl [] wr).drewN nq) HF.out HT.out), by first | (simp [intOf]; done) | (simp [intOf]; omega)⟩
      | cons y s =>
        obtain ⟨g, rfl, hr⟩ := hRi.row (by simp)
        obtain ⟨y0, y1⟩ := item_cells hr (i := 0) (by simp)
        have ly := hr.lt
        rw [show atI (y :: s) 0 = y from rfl] at y0 y1
        rw [Nat.zero_mul] at y0 y1
        obtain ⟨m, hm⟩ : ∃ m, (y :: s).length = m := ⟨_, rfl⟩
        have hm0 : 0 < m := by rw [← hm]; simp
        have hm1 : decide (0 < m) = true := by simp; omega
        have hm2 : (0 : Int) < (m : Int) := by omega
        rw [hm] at c0
        have hup : up (16 + i) 1 = 1 := up_one _ (by omega)
        rcases hb with rfl | ⟨b, z, u, rfl, hbM, hKb⟩
        · have HT : Hid (takesF (hasM M) (headM M) 16 1 i (-1) = true) := takes_yes hup (by rw [hhas]; rfl) (by omega)
          clear hU hf pp hRi hhas hhead hK hBi hr hm hup
          go_wp2_with fail
          go_quiet (fail)
          go_wp2
          exact ⟨(firstYes HIM.out HK.out HU.out ((Upd.refl [] wr).drewN nq) HF.out HT.out), by first | (simp [intOf]; done) | (simp [intOf]; omega)⟩
        · have pb := pp b hbM
          obtain ⟨aob, capb, hBb, hRb, -, -, -, -⟩ := ((HQ.out.upd hU).sh b hbM).cells
          rw [hKb] at hRb hBb
          obtain ⟨g', rfl, hr'⟩ := hRb.row (by simp)
          obtain ⟨z0, z1⟩ := item_cells hr' (i := 0) (by simp)
          have lz := hr'.lt
          rw [show atI (z :: u) 0 = z from rfl] at z0 z1
          rw [Nat.zero_mul] at z0 z1
          have d0 := hBb.cell (j := 0) rfl
          have ld := hBb.lt
          obtain ⟨m', hm'⟩ : ∃ m', (z :: u).length = m' := ⟨_, rfl⟩
          have hm0' : 0 < m' := by rw [← hm']; simp
          rw [hm'] at d0
          have hhb := headM_get hbM
          rw [hKb] at hhb
          have hta := takes_as (xs := headM M) (best := (b : Int)) hup (by rw [hhas]; rfl) (by omega)
          rw [hhead, hhb] at hta
          have hta2 : takesF (hasM M) (headM M) 16 1 i (b : Int) = Proofs.YtkepeolbpgnlbaaGreatDoor.ahead y z := hta
          obtain ⟨tb, htb⟩ : ∃ tb, Proofs.YtkepeolbpgnlbaaGreatDoor.ahead y z = tb := ⟨_, rfl⟩
          rw [htb] at hta2
          have HAH := Lib.hid htb
          have HT := Lib.hid hta2
          have t5 : decide ((b : Int) < 0) = false := by simp
          have b2 : (b : Int) < (n : Int) := by have := HN.out; omega
          have b3 : (0 : Int) ≤ (b : Int) := by omega
          have hbn : b < n := by have := HN.out; omega
          obtain ⟨TZ, hNE, FZ, hFU, hFS⟩ := upd_fam [] wr
          obtain ⟨HFU, HFS⟩ : Hid (∀ z, Upd [] wr (FZ z)) ∧ Hid (∀ w, Upd [] wr w → ∃ z, w = FZ z) := ⟨hFU, hFS⟩
          have f0 := fun z => ((hFU z).cell lq (by simp) 0).trans p0
          have f1 := fun z => ((hFU z).cell ls (by simp) b).trans pb
          have f2 := fun z => ((hFU z).cell ld (by simp) 0).trans d0
          have f3 := fun z => ((hFU z).cell ly (by simp) 0).trans y0
          have f4 := fun z => ((hFU z).cell ly (by simp) (0 + 1)).trans y1
          have f5 := fun z => ((hFU z).cell lz (by simp) 0).trans z0
          have f6 := fun z => ((hFU z).cell lz (by simp) (0 + 1)).trans z1
          clear hU hf pp hRi hhas hhead hK hBi hr hm hup hRb hr' hBb hm' hhb hta hta2 htb hFU hFS
          cases tb with
          | true =>
            go_wp2_with fail
            refine wp_region_fam FZ (by kernel_rfl) (by kernel_rfl) (HFS.out _ (Upd.refl [] wr).drew) ?_
            repeat (go_big_quiet_step (first | (go_at_call 46; exact (rahead_any y z _).mono (fun _ _ h => ⟨by rw [h.1, HAH.out], HFS.out _ ((HFU.out _).trans h.2)⟩))))
            refine wpQuiet_nil ?_
            intro _ hw'
            obtain ⟨nq, hw''⟩ := hw'
            subst hw''
            go_wp2
            exact ⟨(firstYes HIM.out HK.out HU.out (HFU.out nq) HF.out HT.out), by first | (simp [intOf]; done) | (simp [intOf]; omega)⟩
          | false =>
            go_wp2_with fail
            refine wp_region_fam FZ (by kernel_rfl) (by kernel_rfl) (HFS.out _ (Upd.refl [] wr).drew) ?_
            repeat (go_big_quiet_step (first | (go_at_call 46; exact (rahead_any y z _).mono (fun _ _ h => ⟨by rw [h.1, HAH.out], HFS.out _ ((HFU.out _).trans h.2)⟩))))
            refine wpQuiet_nil ?_
            intro _ hw'
            obtain ⟨nq, hw''⟩ := hw'
            subst hw''
            go_wp2
            exact ⟨(firstNo HIM.out HB.out HU.out (HFU.out nq) HF.out HT.out), by first | (simp [intOf]; done) | (simp [intOf]; omega)⟩
    · have t1 : decide (i < n) = false := by simp; omega
      have e : i = n := by omega
      have HBF : Hid (fin = best) := by
        have := HF.out
        rw [e, HN.out, Nat.sub_self] at this
        exact this.symm
      clear hb hU hf pp
      go_wp2
      go_ret
      have := first_fin HOK.out HU.out
      rw [HFIN.out, HBF.out] at this
      exact this
end
end Go.Proofs.YtkepeolbpgnlbaaGreatDoor
