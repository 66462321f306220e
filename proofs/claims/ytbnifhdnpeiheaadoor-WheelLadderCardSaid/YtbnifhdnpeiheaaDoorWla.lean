/-
  The walk of WheelLadder. Condition: where a table of the library's lies.
-/
import Derived.Test.YtbnifhdnpeiheaaDoorWz
import Derived.Test.YtbnifhdnpeiheaaDoorPR
import Derived.Test.YtbnifhdnpeiheaaDoorWu
import Derived.Test.YtbnifhdnpeiheaaDoorPB
set_option linter.unusedVariables false
set_option linter.unusedSimpArgs false
namespace Go.Proofs.YtbnifhdnpeiheaaDoor
open Go.RowKit

def Lad5At (W : World) (wb b wd c : Nat) (iv : Value) (wr : World) : Prop := ∃ (i base : Nat) (L : List It) (fp fq : List Nat), iv = .int .i64 i ∧ i ≤ c ∧ L.length ≤ i ∧ WR W wb b base wd L fp fq wr
def Lad5In (W : World) (wb b base wd : Nat) (L : List It) (fp fq : List Nat) (ao : Option Addr) (n cap : Nat) (iv : Value) (wr : World) : Prop := ∃ i : Nat, iv = .int .i64 i ∧ i ≤ n ∧ WR W wb b base wd L fp fq wr ∧ RowO wr 35 2 ao n cap (L.flatMap itVs)
theorem lad_level (base k wd l : Nat) (hb : base < 18446744073709551616) (hk : k < 18446744073709551616) (hw : heldN (wd : Int) = wd) (h : base ≤ k) (hl : lev3 wd base k = l) (w : World) : Calls Tryd.prog 34 #[.int .u64 base, .int .u64 k, .int .i64 wd] w (fun e w' => e = .returned (.int .i64 l) ∧ w = w') := by
  have := level_any base k hb hk wd w
  rw [hw] at this
  unfold levN at this
  rw [if_neg (by omega), hl] at this
  exact this
theorem lad_bucket (k l wd : Nat) (hw : heldN (wd : Int) = wd) (hl : l < 3) (w : World) : Calls Tryd.prog 36 #[.int .u64 k, .int .i64 l, .int .i64 wd] w (fun e w' => e = .returned (.int .i64 (bucN wd k l)) ∧ w = w') := by
  have := bucket_any k l hl wd w
  rw [hw] at this
  exact this
theorem lad_map {W w : World} {wb base wd : Nat} {L : List It} {fp : List Nat} (h : WG W wb base wd L fp w) (l X : Nat) (hl : l < 3) (hX : mapX base wd L l = X) :
    Calls Tryd.prog 19 #[.pointer (some ⟨wb, 0, none⟩), .int .i64 l] w (fun e w' => e = .returned (.int .u64 X) ∧ w = w') := by
  have := h.map (l : Int)
  unfold mapI at this
  rw [if_neg (by omega), Int.toNat_natCast, hX] at this
  exact this


theorem lad_mapz {W w : World} {wb base wd : Nat} {L : List It} {fp : List Nat} (h : WG W wb base wd L fp w) (l : Nat) (hl : l < 3) (hX : mapX base wd L l = 0) :
    Calls Tryd.prog 19 #[.pointer (some ⟨wb, 0, none⟩), .int .i64 l] w (fun e w' => e = .returned (.int .u64 0) ∧ w = w') := lad_map h l 0 hl hX
theorem lad_head {L : List It} {x : It} (h : atI L 0 = x) (hn : 0 < L.length) : ∃ r, L = x :: r := by
  cases L with
  | nil => simp at hn
  | cons y r => exact ⟨r, by rw [← h]; rfl⟩
def LadK (a : Nat) (kv : Value) : Prop := ∃ j : Nat, j ≤ a ∧ kv = .int .i64 j

set_option maxRecDepth 100000 in
set_option maxHeartbeats 32000000 in
theorem wladder_walk (width : Int) (v : Value) (m : Nat) (D : Nat → Nat → Int) (W : World) (hT : TabAt 0 Lib.deBruijn64tab W) (_ : (Lit.int .i64 width).wf = true) (hv : RowsAt W [.i64, .u64, .i64] v m D) :
    Calls Tryd.prog 7 #[.int .i64 width, v] W (RetUpd [] W (.bool true)) := by
  obtain ⟨ao, cap, rfl, hmm, hD⟩ := deed_cells hv
  unfold maxLen at hmm
  have HD := Lib.hid hD
  have HT := Lib.hid hT
  clear hD hv hT
  obtain ⟨c, hc⟩ : ∃ c : Nat, min m 60 = c := ⟨_, rfl⟩
  have hcm : c ≤ m := by omega
  have hc60 : c ≤ 60 := by omega
  have HC : Hid (min m 60 = c) := hc
  clear hc
  go_enter Tryd.func7, Tryd.ntmps7
  go_wp2_with fail
  refine (made_any W width W (Upd.refl [] W) HT.out).mono ?_
  rintro e1 w1 ⟨wb, b, wd, fp0, fq0, rfl, hP, -, -, -⟩
  have HP1 := Lib.hid hP
  clear hP
  go_wp2_with fail
  refine (awake5_any _ (tab_upd HT.out HP1.out.1.updW)).mono ?_
  rintro e w2 ⟨rfl, hU⟩
  have HP2 := Lib.hid (HP1.out.upd hU)
  clear hU HP1
  go_wp2
  go_loopw [7] (fun iv wr => Lad5At W wb b wd c iv wr) (fun iv _ => c - (intOf iv).toNat)
  case atStart => exact ⟨0, 0, [], _, _, rfl, by omega, by simp, HP2.out⟩
  case round =>
    clear HP2
    obtain ⟨i, base, L, fp, fq, rfl, hi, hLi, hP⟩ := hrel
    have HP := Lib.hid hP
    clear hP
    by_cases hlt : i < c
    · rcases HD.out with h0 | ⟨bd, off, rfl, hb1, hcc⟩
      · omega
      obtain ⟨c0, c1, c2, hk0, hk1⟩ := hcc i (by omega)
      rw [← HP.out.1.updW.cell hb1 (by simp)] at c0 c1 c2
      have him : i < m := by omega
      have t1 : decide (i < m) = true := by simp; omega
      have t2 : decide ((i : Int) < 60) = true := by simp; omega
      have b1 : (i : Int) < (m : Int) := by omega
      obtain ⟨k, hk⟩ : ∃ k, D i 0 = k := ⟨_, rfl⟩
      obtain ⟨key, hkey⟩ : ∃ k, D i 1 = k := ⟨_, rfl⟩
      obtain ⟨id, hid⟩ : ∃ k, D i 2 = k := ⟨_, rfl⟩
      rw [hk] at c0
      rw [hkey] at c1 hk0 hk1
      rw [hid] at c2
      obtain ⟨kk, rfl⟩ := Int.eq_ofNat_of_zero_le hk0
      clear hcc hb1 hk hkey hid
      go_wp2_with fail
      refine (step5_any W wb b base wd L fp fq k id kk (by omega) _ HP.out (by omega)).mono ?_
      rintro e w6 h6
      obtain ⟨rfl, base6, L6, fp6, fq6, hP6, hl6⟩ := h6.to
      have HP6 := Lib.hid hP6
      clear hP6 h6
      go_wp2
      exact ⟨⟨i + 1, base6, L6, fp6, fq6, by congr 1, by omega, by omega, HP6.out⟩, by first | (simp [intOf]; done) | (simp [intOf]; omega)⟩
    · have t1 : Hid (decide (i < m) = true ∧ decide ((i : Int) < 60) = false ∨ decide (i < m) = false) := by
        have := HC.out
        unfold Hid
        by_cases h : i < m
        · left; exact ⟨by simp; omega, by simp; omega⟩
        · right; simp; omega
      clear HD HC hcm
      rcases t1.out with ⟨t2, t3⟩ | t2
      all_goals
        clear t1
        go_wp2_with fail
        refine (HP.out.1.all).mono ?_
        rintro e w3 ⟨aoa, capa, rfl, hR, hFA, hU3⟩
        have HP3 := Lib.hid (HP.out.upd hU3)
        have HLAD := Lib.hid HP.out.1.lad
        obtain ⟨n, hn⟩ : ∃ n, L.length = n := ⟨_, rfl⟩
        rw [hn] at hR hLi ⊢
        have HR3 := Lib.hid hR
        have HN := Lib.hid hn
        clear hn hR hU3 HP hFA
        go_wp2
        go_loopw [9] (fun iv wr => Lad5In W wb b base wd L fp fq aoa n capa iv wr) (fun iv _ => n - (intOf iv).toNat)
        case atStart => exact ⟨0, rfl, by omega, HP3.out, HR3.out⟩
        case round =>
          clear HP3 HR3
          obtain ⟨i2, rfl, hi2, hP, hR⟩ := hrel
          have HP := Lib.hid hP
          have HR := Lib.hid hR
          obtain ⟨aq, cq, hB, -, hb64, hwid, -, -⟩ := hP.2.1.cells
          rw [HN.out] at hB
          have q0 := hB.cell (j := 0) rfl
          have q2 := hB.cell (j := 2) rfl
          have lb := hB.lt
          have HW := Lib.hid hwid
          have HB64 := Lib.hid hb64
          clear hP hR hB hwid hb64
          by_cases hin : i2 < n
          · have v1 : decide (i2 < n) = true := by simp [hin]
            have b1 : (i2 : Int) < (n : Int) := by omega
            obtain ⟨g, hg, lg, x0, x1⟩ := HR.out.items HN.out hin
            subst hg
            obtain ⟨x, hx⟩ : ∃ x, atI L i2 = x := ⟨_, rfl⟩
            rw [hx] at x0 x1
            have hxL : x ∈ L := by rw [← hx, atI_get L i2 (by rw [HN.out]; exact hin)]; exact List.getElem_mem _
            obtain ⟨hk1, hk2, hk3⟩ := HLAD.out.key x hxL
            have ha3 := HLAD.out.lev x hxL
            obtain ⟨k, hkk⟩ : ∃ k, kn x = k := ⟨_, rfl⟩
            rw [hkk] at hk1 hk2 hk3 ha3
            rw [hk1] at x0
            obtain ⟨a, hla⟩ : ∃ a, lev3 wd base k = a := ⟨_, rfl⟩
            rw [hla] at ha3
            obtain ⟨bb, hbb⟩ : ∃ bb, bucN wd k a = bb := ⟨_, rfl⟩
            have HLV := Lib.hid (fun w => lad_level base k wd a HB64.out hk2 HW.out hk3 hla w)
            have HBU := Lib.hid (fun w => lad_bucket k a wd HW.out ha3 w)
            rw [hbb] at HBU
            have HX := Lib.hid hx
            have HXL := Lib.hid hxL
            have HKK := Lib.hid hkk
            have HA := Lib.hid hla
            have HBB := Lib.hid hbb
            clear hx hxL hkk hla hbb hk1 hk2 hk3 x1
            have u1 : decide ((a : Int) < 0) = false := by simp
            have u2 : decide ((2 : Int) < (a : Int)) = false := by simp; omega
            go_wp2
            go_quiet ((first | (go_at_call 35; exact Calls.quiet_of_same ((WG.base (HP.out.1.upd ((Upd.refl [] wr).drewN _))).mono (fun _ _ h => ⟨h.1, h.2.symm⟩))) | (go_at_call 34; exact Calls.quiet_of_same ((HLV.out _).mono (fun _ _ h => ⟨h.1, h.2.symm⟩))) | (go_at_call 36; exact Calls.quiet_of_same ((HBU.out _).mono (fun _ _ h => ⟨h.1, h.2.symm⟩)))))
            go_wp2
            go_quiet ((go_at_call 36; exact (HBU.out _).mono (fun _ _ h => ⟨h.1, _, h.2.symm⟩)))
            by_cases hz : i2 = 0
            · have v2 : ((i2 : Int) == 0) = true := by simp [hz]
              obtain ⟨r, hr⟩ := lad_head (L := L) (x := x) (by rw [← hz]; exact HX.out) (by rw [HN.out]; omega)
              have HM0 : Hid (∀ j, j < a → mapX base wd L j = 0) := by
                unfold Hid
                intro j hj
                have h1 := HP.out.1.isMap j (by omega)
                have h2 := HLAD.out
                rw [hr] at h1 h2 ⊢
                exact lad_map0 h2 (by rw [HKK.out, HA.out]; exact hj) h1
              have h1 := HP.out.1.isMap a (by omega)
              obtain ⟨X, hX⟩ : ∃ X, mapX base wd L a = X := ⟨_, rfl⟩
              rw [hX] at h1
              have h2 := HLAD.out
              have HXX := Lib.hid hX
              have HX64 := Lib.hid h1.1
              have hbt : ∃ t, bitsB X 64 = bb :: t := by
                rw [hr] at h1 h2
                have h3 := lad_mapb h2 (X := X) (by rw [HKK.out, HA.out]; exact h1)
                rw [HKK.out, HA.out, HBB.out] at h3
                exact h3
              obtain ⟨t, ht⟩ := hbt
              have HBT := Lib.hid ht
              obtain ⟨nn, hnn⟩ : ∃ nn, (bb :: t).length = nn := ⟨_, rfl⟩
              have hn1 : 0 < nn := by rw [← hnn]; simp
              have HNN := Lib.hid hnn
              clear hr h1 h2 hX ht hnn hz
              go_wp2
              go_loop [12] (fun kv => LadK a kv) (fun kv => a - (intOf kv).toNat)
              case atStart => exact ⟨0, by omega, rfl⟩
              case round =>
                obtain ⟨j, hj, rfl⟩ := hrel
                by_cases hja : j < a
                · have v3 : decide (j < a) = true := by simp [hja]
                  go_wp2_with fail
                  refine (lad_mapz (HP.out.1.upd ((Upd.refl [] wr).drewN _)) j (by omega) (HM0.out j hja)).mono ?_
                  rintro e w8 ⟨rfl, rfl⟩
                  go_wp2
                  exact ⟨⟨j + 1, by omega, by congr 1⟩, by first | (simp [intOf]; done) | (simp [intOf]; omega)⟩
                · have v3 : decide (j < a) = false := by simp [hja]
                  go_wp2_with fail
                  refine (lad_map (HP.out.1.upd ((Upd.refl [] wr).drewN _)) a X (by omega) HXX.out).mono ?_
                  rintro e w8 ⟨rfl, rfl⟩
                  go_wp2_with fail
                  refine (rbits_all X HX64.out _).mono ?_
                  rintro e w9 ⟨ao9, cp9, rfl, hR9, -, hU9⟩
                  rw [HBT.out, HNN.out] at hR9
                  rw [HBT.out, HNN.out]
                  obtain ⟨g9, hg9, hr9⟩ := hR9.row hn1
                  subst hg9
                  have y0 := hr9.cell (j := 0) (v := .int .i64 bb) rfl
                  have ly := hr9.lt
                  have HP9 := Lib.hid (HP.out.upd (((Upd.refl [] wr).drewN _).trans hU9))
                  have HR9 := Lib.hid (HR.out.upd (((Upd.refl [] wr).drewN _).trans hU9) (by simp))
                  have v4 : ((nn : Int) == 0) = false := by simp; omega
                  have b4 : (0 : Int) < (nn : Int) := by omega
                  clear hr9 hR9 hU9
                  go_wp2
                  exact ⟨⟨i2 + 1, by congr 1, by omega, HP9.out, HR9.out⟩, by first | (simp [intOf]; done) | (simp [intOf]; omega)⟩
            · obtain ⟨j, hj⟩ : ∃ j, i2 = j + 1 := ⟨i2 - 1, by omega⟩
              have v2 : ((i2 : Int) == 0) = false := by simp [hz]
              have e1 : (i2 : Int) - 1 = (j : Int) := by omega
              have b2 : (j : Int) < (n : Int) := by omega
              obtain ⟨g', hg', _, y0, -⟩ := HR.out.items HN.out (i := j) (by omega)
              injection hg' with hg'
              injection hg' with hg'
              subst hg'
              obtain ⟨y, hy⟩ : ∃ y, atI L j = y := ⟨_, rfl⟩
              rw [hy] at y0
              have hyL : y ∈ L := by rw [← hy, atI_get L j (by rw [HN.out]; omega)]; exact List.getElem_mem _
              obtain ⟨hq1, hq2, hq3⟩ := HLAD.out.key y hyL
              have hc3 := HLAD.out.lev y hyL
              have hyx : kn y ≤ kn x := by
                have h1 : ahead y x = true := by
                  have h2 := List.pairwise_iff_getElem.1 HLAD.out.srt j i2 (by rw [HN.out]; omega) (by rw [HN.out]; omega) (by omega)
                  rw [← atI_get, ← atI_get, hy, HX.out] at h2
                  exact h2
                have h2 := ahead_key h1
                have h3 := (HLAD.out.key x HXL.out).1
                omega
              obtain ⟨hl1, hl2⟩ := lad_levs HLAD.out hyL HXL.out hyx
              rw [HKK.out, HA.out] at hl1 hl2
              rw [HBB.out] at hl2
              obtain ⟨ky, hky⟩ : ∃ ky, kn y = ky := ⟨_, rfl⟩
              rw [hky] at hq1 hq2 hq3 hc3 hl1 hl2
              rw [hq1] at y0
              obtain ⟨a2, hla2⟩ : ∃ a, lev3 wd base ky = a := ⟨_, rfl⟩
              rw [hla2] at hc3 hl1 hl2
              have HLV2 := Lib.hid (fun w => lad_level base ky wd a2 HB64.out hq2 HW.out hq3 hla2 w)
              obtain ⟨b2b, hb2b⟩ : ∃ bb, bucN wd ky a2 = bb := ⟨_, rfl⟩
              have HBU2 := Lib.hid (fun w => lad_bucket ky a2 wd HW.out hc3 w)
              rw [hb2b] at HBU2 hl2
              have HL2 := Lib.hid hl2
              have w1' : decide (a < a2) = false := by simp; omega
              clear hy hyL hyx hq1 hq2 hq3 hky hla2 hb2b hl2 hj hz
              go_wp2
              go_quiet ((first | (go_at_call 35; exact (WG.base (HP.out.1.upd ((Upd.refl [] wr).drewN _))).mono (fun _ _ h => ⟨h.1, _, h.2.symm⟩)) | (go_at_call 34; exact (HLV2.out _).mono (fun _ _ h => ⟨h.1, _, h.2.symm⟩))))
              by_cases hca : a2 = a
              · have w2' : ((a2 : Int) == (a : Int)) = true := by simp [hca]
                have hbl := HL2.out hca
                have w3' : decide (bb < b2b) = false := by simp; omega
                clear hca hbl
                go_wp2
                go_quiet ((go_at_call 36; exact (HBU2.out _).mono (fun _ _ h => ⟨h.1, _, h.2.symm⟩)))
                go_wp2
                exact ⟨⟨i2 + 1, by congr 1, by omega, HP.out.upd ((Upd.refl [] wr).drewN _), HR.out.upd ((Upd.refl [] wr).drewN _) (by simp)⟩, by first | (simp [intOf]; done) | (simp [intOf]; omega)⟩
              · have w2' : ((a2 : Int) == (a : Int)) = false := by simp; omega
                go_wp2
                go_quiet (fail)
                go_wp2
                exact ⟨⟨i2 + 1, by congr 1, by omega, HP.out.upd ((Upd.refl [] wr).drewN _), HR.out.upd ((Upd.refl [] wr).drewN _) (by simp)⟩, by first | (simp [intOf]; done) | (simp [intOf]; omega)⟩
          · have v1 : decide (i2 < n) = false := by simp; omega
            go_wp2
            go_ret
            exact ⟨by simp, HP.out.1.updW⟩
end Go.Proofs.YtbnifhdnpeiheaaDoor
