/-
  The walk of the wheel's Move. Condition: where a table of the library's lies.
-/
import Derived.Test.YtbnifhdnpeiheaaDoorWk
set_option linter.unusedVariables false
set_option linter.unusedSimpArgs false
namespace Go.Proofs.YtbnifhdnpeiheaaDoor
open Go.RowKit

def Meta (s s0 : WS) : Prop := s.base = s0.base ∧ s.wd = s0.wd ∧ s.M = s0.M ∧ s.mb = s0.mb
theorem Meta.refl (s : WS) : Meta s s := ⟨rfl, rfl, rfl, rfl⟩
theorem Meta.trans {a b c : WS} (h : Meta a b) (k : Meta b c) : Meta a c := ⟨h.1.trans k.1, h.2.1.trans k.2.1, h.2.2.1.trans k.2.2.1, h.2.2.2.trans k.2.2.2⟩

/-- A wheel on the way, in memory. -/
def MvW (wb : Nat) (s0 : WS) (lv : Nat) (rest L : List It) (F : List Nat) (w0 : World) (s : WS) (wr : World) : Prop := WhAt wr wb s ∧ PO s lv rest L ∧ Meta s s0 ∧ Fr F (s.fp wb) w0 wr
def MvAt (wb : Nat) (s0 : WS) (L : List It) (F : List Nat) (w0 : World) (v : Value) (wr : World) : Prop := ∃ lv s, v = .int .i64 ((lv : Nat) : Int) ∧ lv ≤ 2 ∧ MvW wb s0 lv [] L F w0 s wr
def MvIn (wb : Nat) (s0 : WS) (lv : Nat) (B L : List It) (ao : Option Addr) (n cap : Nat) (F : List Nat) (w0 : World) (v : Value) (wr : World) : Prop :=
  ∃ (i : Nat) (s : WS), v = .int .i64 i ∧ i ≤ n ∧ MvW wb s0 (lv - 1) (B.drop i) L F w0 s wr ∧ RowO wr 35 2 ao n cap (B.flatMap itVs) ∧ ∀ c ∈ blkO ao, c ∉ s.fp wb

/-- What a move leaves. -/
def MoveTo (wb : Nat) (s : WS) (L : List It) (t0 : Nat) (w w' : World) : Prop :=
  ∃ s', WhAt w' wb s' ∧ WOk s' L ∧ s'.base = t0 ∧ s'.wd = s.wd ∧ Fr (s.fp wb) (s'.fp wb) w w'

theorem withBase {w : World} {wb : Nat} {s : WS} (h : WhAt w wb s) {t0 : Nat} (ht : t0 < 18446744073709551616) : WhAt (w.setCell ⟨wb, 0, none⟩ (.int .u64 t0)) wb { s with base := t0 } := by
  have hu : Upd [wb] w (w.setCell ⟨wb, 0, none⟩ (.int .u64 t0)) := (Upd.refl _ _).setCell (by simp) _
  refine { top := ?_, rows := fun q hq' => (h.rows q hq').upd hu (fun c hc => by simp; exact (h.d2 q hq' c hc).1), map := h.map.upd hu (by simp; exact fun e => h.d1 e.symm), ndm := h.ndm, d1 := h.d1, d2 := h.d2, d3 := h.d3, small := h.small, b64 := ht, wd40 := h.wd40, mw64 := h.mw64, msmall := h.msmall }
  refine (h.top.set 0 _).congr (fun o ho => ?_)
  by_cases e : o = 0
  · subst e; rfl
  · rw [if_neg e]
    unfold wheelF
    simp [e]

theorem kn_cast {x : It} (h : KeyOk x) : x.1 = (kn x : Int) := by unfold kn; have := h.1; omega


set_option maxRecDepth 100000 in
set_option maxHeartbeats 16000000 in
theorem wmove_yes (wb : Nat) (s : WS) (L : List It) (t0 : Nat) (ht : t0 < 18446744073709551616) (w : World) (h : WhAt w wb s) (hT : TabAt 0 Lib.deBruijn64tab w) (hok : WOk s L) (h1 : s.base ≤ t0) (h2 : ∀ x ∈ L, t0 ≤ kn x) :
    Calls Tryd.prog 38 #[.pointer (some ⟨wb, 0, none⟩), .int .u64 t0] w (fun e w' => e = .returned (.bool true) ∧ MoveTo wb s L t0 w w') := by
  have HH := Lib.hid h
  have HOK := Lib.hid hok
  have HT := Lib.hid hT
  have H1 := Lib.hid h1
  have H2 := Lib.hid h2
  obtain ⟨y, ok, hy⟩ : ∃ y ok, firstV L = itV y ok := by cases L <;> exact ⟨_, _, rfl⟩
  have hcase : (ok = false) ∨ (ok = true ∧ decide (y.1 < (t0 : Int)) = false) := by
    cases L with
    | nil => unfold firstV itV at hy; simp at hy; exact .inl hy.2
    | cons x r =>
      right
      unfold firstV itV at hy
      simp at hy
      refine ⟨hy.2, ?_⟩
      have hx := h2 x (by simp)
      have hk := (hok.key x (by simp)).1
      unfold kn at hx
      have := hk.1
      rw [← hy.1.1]
      simp
      omega
  have HY := Lib.hid hy
  have lw := h.top.lt
  have t1 : decide (t0 < s.base) = false := by simp; omega
  obtain ⟨bs, hbs⟩ : ∃ bs, s.base = bs := ⟨_, rfl⟩
  rw [hbs] at t1
  have HBS := Lib.hid hbs
  clear h hok hT h1 h2 hy hbs
  rcases hcase with rfl | ⟨rfl, t2⟩
  all_goals
    go_enter Tryd.func38, Tryd.ntmps38
    go_wp2_with fail
    refine (wmin_any wb s w HH.out HT.out (wok_ne HOK.out HH.out)).mono ?_
    rintro e w1 ⟨v, rfl, hv, hU1⟩
    rw [wok_min HOK.out HH.out hv, HY.out]
    unfold itV
    have HU1 : Hid (Upd [] w w1) := hU1
    have hT1 := (HH.out.up hU1).top
    have c0 := hT1.cell (o := 0) (by omega)
    rw [wheelF_base, HBS.out] at c0
    have z0 := hT1.free 0
    have lw1 := hT1.lt
    clear hv hU1 hT1
    go_wp2_with fail
    go_loopw [7] (fun v wr => MvAt wb { s with base := t0 } L (s.fp wb) w v wr) (fun v _ => (intOf v).toNat)
    case atStart => exact ⟨2, { s with base := t0 }, rfl, by omega, (withBase (HH.out.up HU1.out) ht).up ((Upd.refl [] _).alloc _), HOK.out.base H1.out H2.out, Meta.refl _, fun c hc => .inl hc, (((HU1.out.nil (S := s.fp wb)).setCell (p := ⟨wb, 0, none⟩) (.inl (WS.mem_fp.2 (.inl rfl))) _).alloc _)⟩
    case round =>
      obtain ⟨lv, s1, rfl, hlv, hA, hP, hM, hF⟩ := hrel
      have HA := Lib.hid hA
      have HP := Lib.hid hP
      have HM := Lib.hid hM
      have HF := Lib.hid hF
      clear hA hP hM hF c0 z0
      have h3 : lv = 0 ∨ lv = 1 ∨ lv = 2 := by omega
      clear hlv
      rcases h3 with rfl | rfl | rfl
      · go_wp2
        go_ret
        have hb : s1.base = t0 := HM.out.1
        exact ⟨rfl, s1, HA.out, HP.out.ok HOK.out HM.out.2.2.1 (by rw [hb]; exact H2.out), hb, HM.out.2.1, HF.out⟩
      · skip
        have c1 := HA.out.top.cell (o := 1) (by omega)
        rw [wheelF_wd] at c1
        have lwr := HA.out.top.lt
        have hbu := fun w => bucket_any t0 1 (by omega) s1.wd w
        rw [heldN_id HA.out.wd40] at hbu
        have HBU := Lib.hid hbu
        have hb1 : s1.base = t0 := HM.out.1
        have hbb := bucN_lt s1.wd t0 1
        have hbad : ∀ x ∈ (s1.bk (1 * 64 + bucN s1.wd t0 1)).L, lev3 s1.wd t0 (kn x) < 1 := by
          intro x hx
          have := HP.out.bad (by omega) (by omega) (x := x) (by rw [hb1]; exact hx)
          rw [hb1] at this
          exact this
        have hPE := HP.out.empty (by omega) (by omega) (HA.out.mw64 1 (by omega))
        rw [hb1] at hPE
        obtain ⟨b, hbe⟩ : ∃ b, bucN s1.wd t0 1 = b := ⟨_, rfl⟩
        rw [hbe] at HBU hbb hbad hPE
        have HBAD := Lib.hid hbad
        have HPE := Lib.hid hPE
        have HB1 := Lib.hid hb1
        clear hbu hbe hbad hPE hb1
        go_wp2_with fail
        refine (HBU.out _).mono ?_
        rintro e wz ⟨rfl, rfl⟩
        go_wp2_with fail
        refine (wempty_any wb 1 b s1 _ HA.out (by omega) hbb).mono ?_
        rintro e w5 ⟨rfl, hE, hU5⟩
        have hR5 := (HA.out.rows (1 * 64 + b) (by omega)).upd hU5 (fun c hc => by simp; exact (HA.out.d2 _ (by omega) c hc).1)
        have hsm := HA.out.small (1 * 64 + b) (by omega)
        have hdis : ∀ c ∈ blkO (s1.bk (1 * 64 + b)).ao, c ∉ (emptyS s1 1 b).fp wb := by
          intro c hc e
          have hd := HA.out.d2 (1 * 64 + b) (by omega) c hc
          rcases WS.mem_fp.1 e with e | e | ⟨q, hq, e⟩
          · exact hd.1 e
          · exact hd.2 e
          · simp only [emptyS] at e
            split at e
            · cases e
            · rename_i hne
              exact HA.out.d3 (1 * 64 + b) (by omega) q hq (by omega) c hc e
        obtain ⟨B, hB⟩ : ∃ B, (s1.bk (1 * 64 + b)).L = B := ⟨_, rfl⟩
        obtain ⟨ao, hao⟩ : ∃ ao, (s1.bk (1 * 64 + b)).ao = ao := ⟨_, rfl⟩
        obtain ⟨cap, hcap⟩ : ∃ cap, (s1.bk (1 * 64 + b)).cap = cap := ⟨_, rfl⟩
        rw [hB] at HBAD HPE hR5 hsm ⊢
        rw [hao] at hR5 hdis ⊢
        rw [hcap] at hR5 ⊢
        obtain ⟨n, hn⟩ : ∃ n, B.length = n := ⟨_, rfl⟩
        rw [hn] at hR5 hsm ⊢
        have HN := Lib.hid hn
        have HMW : Hid (MvW wb { s with base := t0 } 0 B L (s.fp wb) w (emptyS s1 1 b) w5) := ⟨hE, HPE.out, HM.out, HF.out.trans ⟨fun c hc => .inl (empty_fp hc), hU5.mono (fun i _ hm => by simp at hm; subst hm; exact WS.mem_fp.2 (.inl rfl))⟩⟩
        have HR5 := Lib.hid hR5
        have HDIS := Lib.hid hdis
        clear hE hU5 hR5 hdis hB hao hcap hn c1
        go_wp2_with fail
        obtain ⟨wo, rfl⟩ : ∃ wo : World, wo = wr := ⟨_, rfl⟩
        go_loopw [49] (fun v wr => MvIn wb { s with base := t0 } 1 B L ao n cap (s.fp wb) w v wr) (fun v _ => n - (intOf v).toNat)
        case atStart => exact ⟨0, _, rfl, by omega, HMW.out, HR5.out, HDIS.out⟩
        case round =>
          clear HMW HR5 HDIS
          obtain ⟨i, s2, rfl, hi, ⟨hA2, hP2, hM2, hF2⟩, hR, hD⟩ := hrel
          have HA2 := Lib.hid hA2
          have HP2 := Lib.hid hP2
          have HM2 := Lib.hid hM2
          have HF2 := Lib.hid hF2
          have HR := Lib.hid hR
          have HD := Lib.hid hD
          clear hA2 hP2 hM2 hF2 hR hD
          by_cases hlt : i < n
          · have u1 : decide (i < n) = true := by simp [hlt]
            have bi : (i : Int) < (n : Int) := by omega
            obtain ⟨g, hg, lg, x0, x1⟩ := HR.out.items HN.out hlt
            have hil : i < B.length := by rw [HN.out]; exact hlt
            have hdrop : B.drop i = atI B i :: B.drop (i + 1) := by rw [atI_get B i hil]; exact List.drop_eq_getElem_cons hil
            have hmem : atI B i ∈ B := by rw [atI_get B i hil]; exact List.getElem_mem _
            obtain ⟨y, hyy⟩ : ∃ y, atI B i = y := ⟨_, rfl⟩
            rw [hyy] at hdrop hmem x0 x1
            have hP3 := HP2.out
            rw [hdrop] at hP3
            have hyL : y ∈ L := hP3.perm.mem_iff.1 (by simp)
            have hky := (HOK.out.key y hyL).1
            have hb2 : s2.base = t0 := HM2.out.1
            have hw2 : s2.wd = s1.wd := HM2.out.2.1.trans HM.out.2.1.symm
            have hge : s2.base ≤ kn y := by rw [hb2]; exact H2.out y hyL
            have hlev : lev3 s2.wd s2.base (kn y) < 1 := by rw [hb2, hw2]; exact HBAD.out y hmem
            have hlen := fun q hq => hP3.len (q := q) hq
            have hL := HOK.out.len
            rw [kn_cast hky] at x0
            obtain ⟨l2, hl2⟩ : ∃ l2, lev3 s2.wd s2.base (kn y) = l2 := ⟨_, rfl⟩
            have hk64 : kn y < 18446744073709551616 := by unfold kn; have := hky.1; have := hky.2; omega
            have hbl2 := bucN_lt s2.wd (kn y) l2
            rw [hl2] at hlev
            have hpu := fun w h => wput_any wb l2 y.2 (kn y) hk64 s2 w h hge hl2 (by omega) (by have := hlen (l2 * 64 + bucN s2.wd (kn y) l2) (by omega); simp at this; omega)
            have HPU := Lib.hid hpu
            have HP3 := Lib.hid hP3
            have HL2 := Lib.hid hl2
            have HKY := Lib.hid hky
            have hl23 : l2 < 3 := by omega
            subst hg
            clear hdrop hmem hyy hP3 hyL hb2 hw2 hge hl2 hlen hL hky hpu hil
            go_wp2_with fail
            refine (HPU.out _ (HA2.out.up ((Upd.refl [] _).alloc _))).mono ?_
            rintro e w7 ⟨rfl, hp⟩
            obtain ⟨ao7, cap7, hA7, hF7⟩ := hp.fr hl23 hbl2
            have hyc : ((kn y : Nat) : Int) = y.1 := (kn_cast HKY.out).symm
            have HA7 := Lib.hid hA7
            have HF7 : Hid (Fr (s2.fp wb) ((putS s2 l2 (bucN s2.wd (kn y) l2) (kn y, y.2) ao7 cap7).fp wb) wr w7) := (Fr.of ((Upd.refl [] _).alloc _)).trans hF7
            have HYC := Lib.hid hyc
            clear hp hA7 hF7 hyc x0 x1
            go_wp2
            have hR7 := HR.out.upd HF7.out.2 HD.out
            refine ⟨⟨i + 1, _, by congr 1, by omega, ⟨HA7.out, ?_, HM2.out, HF2.out.trans HF7.out⟩, hR7, fun c hc e => ?_⟩, by first | (simp [intOf]; done) | (simp [intOf]; omega)⟩
            · have := HP3.out.put HL2.out hl23 (ao := ao7) (cap := cap7)
              rw [HYC.out]
              exact this
            · rcases HF7.out.1 c e with e | e
              · exact HD.out c hc e
              · have := HR.out.lt c hc; omega
          · have u1 : decide (i < n) = false := by simp [hlt]
            have hPf : PO s2 0 [] L := by
              have := HP2.out
              rw [List.drop_eq_nil_of_le (by rw [HN.out]; omega)] at this
              exact this
            have HPF := Lib.hid hPf
            clear hPf
            go_wp2
            exact ⟨⟨0, s2, by first | rfl | congr 1, by omega, HA2.out, HPF.out, HM2.out, HF2.out⟩, by first | (simp [intOf]; done) | (simp [intOf]; omega)⟩
      · skip
        have c1 := HA.out.top.cell (o := 1) (by omega)
        rw [wheelF_wd] at c1
        have lwr := HA.out.top.lt
        have hbu := fun w => bucket_any t0 2 (by omega) s1.wd w
        rw [heldN_id HA.out.wd40] at hbu
        have HBU := Lib.hid hbu
        have hb1 : s1.base = t0 := HM.out.1
        have hbb := bucN_lt s1.wd t0 2
        have hbad : ∀ x ∈ (s1.bk (2 * 64 + bucN s1.wd t0 2)).L, lev3 s1.wd t0 (kn x) < 2 := by
          intro x hx
          have := HP.out.bad (by omega) (by omega) (x := x) (by rw [hb1]; exact hx)
          rw [hb1] at this
          exact this
        have hPE := HP.out.empty (by omega) (by omega) (HA.out.mw64 2 (by omega))
        rw [hb1] at hPE
        obtain ⟨b, hbe⟩ : ∃ b, bucN s1.wd t0 2 = b := ⟨_, rfl⟩
        rw [hbe] at HBU hbb hbad hPE
        have HBAD := Lib.hid hbad
        have HPE := Lib.hid hPE
        have HB1 := Lib.hid hb1
        clear hbu hbe hbad hPE hb1
        go_wp2_with fail
        refine (HBU.out _).mono ?_
        rintro e wz ⟨rfl, rfl⟩
        go_wp2_with fail
        refine (wempty_any wb 2 b s1 _ HA.out (by omega) hbb).mono ?_
        rintro e w5 ⟨rfl, hE, hU5⟩
        have hR5 := (HA.out.rows (2 * 64 + b) (by omega)).upd hU5 (fun c hc => by simp; exact (HA.out.d2 _ (by omega) c hc).1)
        have hsm := HA.out.small (2 * 64 + b) (by omega)
        have hdis : ∀ c ∈ blkO (s1.bk (2 * 64 + b)).ao, c ∉ (emptyS s1 2 b).fp wb := by
          intro c hc e
          have hd := HA.out.d2 (2 * 64 + b) (by omega) c hc
          rcases WS.mem_fp.1 e with e | e | ⟨q, hq, e⟩
          · exact hd.1 e
          · exact hd.2 e
          · simp only [emptyS] at e
            split at e
            · cases e
            · rename_i hne
              exact HA.out.d3 (2 * 64 + b) (by omega) q hq (by omega) c hc e
        obtain ⟨B, hB⟩ : ∃ B, (s1.bk (2 * 64 + b)).L = B := ⟨_, rfl⟩
        obtain ⟨ao, hao⟩ : ∃ ao, (s1.bk (2 * 64 + b)).ao = ao := ⟨_, rfl⟩
        obtain ⟨cap, hcap⟩ : ∃ cap, (s1.bk (2 * 64 + b)).cap = cap := ⟨_, rfl⟩
        rw [hB] at HBAD HPE hR5 hsm ⊢
        rw [hao] at hR5 hdis ⊢
        rw [hcap] at hR5 ⊢
        obtain ⟨n, hn⟩ : ∃ n, B.length = n := ⟨_, rfl⟩
        rw [hn] at hR5 hsm ⊢
        have HN := Lib.hid hn
        have HMW : Hid (MvW wb { s with base := t0 } 1 B L (s.fp wb) w (emptyS s1 2 b) w5) := ⟨hE, HPE.out, HM.out, HF.out.trans ⟨fun c hc => .inl (empty_fp hc), hU5.mono (fun i _ hm => by simp at hm; subst hm; exact WS.mem_fp.2 (.inl rfl))⟩⟩
        have HR5 := Lib.hid hR5
        have HDIS := Lib.hid hdis
        clear hE hU5 hR5 hdis hB hao hcap hn c1
        go_wp2_with fail
        obtain ⟨wo, rfl⟩ : ∃ wo : World, wo = wr := ⟨_, rfl⟩
        go_loopw [49] (fun v wr => MvIn wb { s with base := t0 } 2 B L ao n cap (s.fp wb) w v wr) (fun v _ => n - (intOf v).toNat)
        case atStart => exact ⟨0, _, rfl, by omega, HMW.out, HR5.out, HDIS.out⟩
        case round =>
          clear HMW HR5 HDIS
          obtain ⟨i, s2, rfl, hi, ⟨hA2, hP2, hM2, hF2⟩, hR, hD⟩ := hrel
          have HA2 := Lib.hid hA2
          have HP2 := Lib.hid hP2
          have HM2 := Lib.hid hM2
          have HF2 := Lib.hid hF2
          have HR := Lib.hid hR
          have HD := Lib.hid hD
          clear hA2 hP2 hM2 hF2 hR hD
          by_cases hlt : i < n
          · have u1 : decide (i < n) = true := by simp [hlt]
            have bi : (i : Int) < (n : Int) := by omega
            obtain ⟨g, hg, lg, x0, x1⟩ := HR.out.items HN.out hlt
            have hil : i < B.length := by rw [HN.out]; exact hlt
            have hdrop : B.drop i = atI B i :: B.drop (i + 1) := by rw [atI_get B i hil]; exact List.drop_eq_getElem_cons hil
            have hmem : atI B i ∈ B := by rw [atI_get B i hil]; exact List.getElem_mem _
            obtain ⟨y, hyy⟩ : ∃ y, atI B i = y := ⟨_, rfl⟩
            rw [hyy] at hdrop hmem x0 x1
            have hP3 := HP2.out
            rw [hdrop] at hP3
            have hyL : y ∈ L := hP3.perm.mem_iff.1 (by simp)
            have hky := (HOK.out.key y hyL).1
            have hb2 : s2.base = t0 := HM2.out.1
            have hw2 : s2.wd = s1.wd := HM2.out.2.1.trans HM.out.2.1.symm
            have hge : s2.base ≤ kn y := by rw [hb2]; exact H2.out y hyL
            have hlev : lev3 s2.wd s2.base (kn y) < 2 := by rw [hb2, hw2]; exact HBAD.out y hmem
            have hlen := fun q hq => hP3.len (q := q) hq
            have hL := HOK.out.len
            rw [kn_cast hky] at x0
            obtain ⟨l2, hl2⟩ : ∃ l2, lev3 s2.wd s2.base (kn y) = l2 := ⟨_, rfl⟩
            have hk64 : kn y < 18446744073709551616 := by unfold kn; have := hky.1; have := hky.2; omega
            have hbl2 := bucN_lt s2.wd (kn y) l2
            rw [hl2] at hlev
            have hpu := fun w h => wput_any wb l2 y.2 (kn y) hk64 s2 w h hge hl2 (by omega) (by have := hlen (l2 * 64 + bucN s2.wd (kn y) l2) (by omega); simp at this; omega)
            have HPU := Lib.hid hpu
            have HP3 := Lib.hid hP3
            have HL2 := Lib.hid hl2
            have HKY := Lib.hid hky
            have hl23 : l2 < 3 := by omega
            subst hg
            clear hdrop hmem hyy hP3 hyL hb2 hw2 hge hl2 hlen hL hky hpu hil
            go_wp2_with fail
            refine (HPU.out _ (HA2.out.up ((Upd.refl [] _).alloc _))).mono ?_
            rintro e w7 ⟨rfl, hp⟩
            obtain ⟨ao7, cap7, hA7, hF7⟩ := hp.fr hl23 hbl2
            have hyc : ((kn y : Nat) : Int) = y.1 := (kn_cast HKY.out).symm
            have HA7 := Lib.hid hA7
            have HF7 : Hid (Fr (s2.fp wb) ((putS s2 l2 (bucN s2.wd (kn y) l2) (kn y, y.2) ao7 cap7).fp wb) wr w7) := (Fr.of ((Upd.refl [] _).alloc _)).trans hF7
            have HYC := Lib.hid hyc
            clear hp hA7 hF7 hyc x0 x1
            go_wp2
            have hR7 := HR.out.upd HF7.out.2 HD.out
            refine ⟨⟨i + 1, _, by congr 1, by omega, ⟨HA7.out, ?_, HM2.out, HF2.out.trans HF7.out⟩, hR7, fun c hc e => ?_⟩, by first | (simp [intOf]; done) | (simp [intOf]; omega)⟩
            · have := HP3.out.put HL2.out hl23 (ao := ao7) (cap := cap7)
              rw [HYC.out]
              exact this
            · rcases HF7.out.1 c e with e | e
              · exact HD.out c hc e
              · have := HR.out.lt c hc; omega
          · have u1 : decide (i < n) = false := by simp [hlt]
            have hPf : PO s2 1 [] L := by
              have := HP2.out
              rw [List.drop_eq_nil_of_le (by rw [HN.out]; omega)] at this
              exact this
            have HPF := Lib.hid hPf
            clear hPf
            go_wp2
            exact ⟨⟨1, s2, by first | rfl | congr 1, by omega, HA2.out, HPF.out, HM2.out, HF2.out⟩, by first | (simp [intOf]; done) | (simp [intOf]; omega)⟩

theorem wmove_no (wb : Nat) (s : WS) (L : List It) (t0 : Nat) (w : World) (h : WhAt w wb s) (hT : TabAt 0 Lib.deBruijn64tab w) (hok : WOk s L) (h1 : t0 < s.base ∨ ∃ x ∈ L, kn x < t0) :
    Calls Tryd.prog 38 #[.pointer (some ⟨wb, 0, none⟩), .int .u64 t0] w (RetUpd [] w (.bool false)) := by
  have HH := Lib.hid h
  have HOK := Lib.hid hok
  have HT := Lib.hid hT
  obtain ⟨y, ok, hy⟩ : ∃ y ok, firstV L = itV y ok := by cases L <;> exact ⟨_, _, rfl⟩
  have hcase : decide (t0 < s.base) = true ∨ (decide (t0 < s.base) = false ∧ ok = true ∧ decide (y.1 < (t0 : Int)) = true) := by
    by_cases hb : t0 < s.base
    · exact .inl (by simp [hb])
    · right
      obtain ⟨x, hx, hlt⟩ := h1.resolve_left hb
      cases L with
      | nil => cases hx
      | cons z r =>
        unfold firstV itV at hy
        simp at hy
        refine ⟨by simp; omega, hy.2, ?_⟩
        have hkx := (hok.key x hx).1
        have hkz := (hok.key z (by simp)).1
        have hle : z.1 ≤ x.1 := by
          rcases List.mem_cons.1 hx with rfl | hx
          · omega
          · have := (List.pairwise_cons.1 hok.srt).1 x hx
            rw [ahead_iff] at this
            omega
        have hx0 := hkx.1
        unfold kn at hlt
        have e1 : z.1 = y.1 := by rw [← hy.1.1]
        rw [← e1]
        simp
        omega
  have HY := Lib.hid hy
  have lw := h.top.lt
  obtain ⟨bs, hbs⟩ : ∃ bs, s.base = bs := ⟨_, rfl⟩
  rw [hbs] at hcase
  have HBS := Lib.hid hbs
  clear h hok hT h1 hy hbs
  rcases hcase with t1 | ⟨t1, rfl, t2⟩
  all_goals
    go_enter Tryd.func38, Tryd.ntmps38
    go_wp2_with fail
    refine (wmin_any wb s w HH.out HT.out (wok_ne HOK.out HH.out)).mono ?_
    rintro e w1 ⟨v, rfl, hv, hU1⟩
    rw [wok_min HOK.out HH.out hv, HY.out]
    unfold itV
    have HU1 : Hid (Upd [] w w1) := hU1
    have hT1 := (HH.out.up hU1).top
    have c0 := hT1.cell (o := 0) (by omega)
    rw [wheelF_base, HBS.out] at c0
    have z0 := hT1.free 0
    have lw1 := hT1.lt
    clear hv hU1 hT1
    go_wp2
    go_ret
    exact ⟨rfl, HU1.out.alloc _⟩
end Go.Proofs.YtbnifhdnpeiheaaDoor
