/-
  The walk of CoreRises. Condition: where a table of the library's lies.
-/
import Derived.Test.YtolohheflbmfaaaGreatDoorCu
import Derived.Test.YtolohheflbmfaaaGreatDoorCo
set_option linter.unusedVariables false
set_option linter.unusedSimpArgs false
namespace Go.Proofs.YtolohheflbmfaaaGreatDoor
open Go.RowKit

/-- Each Pick was followed by its Done: v so far, how many were served. -/
structure RS (s : CS) (v n : Nat) : Prop where
  ri : RI s
  idle : s.is = false
  low : v ≤ s.v
  srv : s.served = n
theorem wakeC_keep (s : CS) (obj flow : Int) (r : Nat) : (wakeC s obj flow r).v = s.v ∧ (wakeC s obj flow r).served = s.served ∧ (wakeC s obj flow r).is = s.is := by
  unfold wakeC; split
  · exact ⟨rfl, rfl, rfl⟩
  · exact ⟨rfl, rfl, rfl⟩
theorem RS.wake {s : CS} {v n m : Nat} (h : RS s v n) (hci : CI s m) (obj flow : Int) (r : Nat) : RS (wakeC s obj flow r) v n := by
  obtain ⟨e1, e2, e3⟩ := wakeC_keep s obj flow r
  exact ⟨h.ri.wake hci obj flow r, by rw [e3]; exact h.idle, by rw [e1]; exact h.low, by rw [e2]; exact h.srv⟩
theorem RS.none_ {s : CS} {v n m : Nat} (h : RS s v n) (hci : CI s m) (hL : s.L = []) : pickV s = .tuple #[.int .i64 0, .int .u64 0, .bool false] ∧ RS (pickC s) v n := by
  have hr := h.ri.pick hci (by rw [hL]; intro x hx; cases hx)
  refine ⟨by unfold pickV; rw [hL], hr.1, ?_, Nat.le_trans h.low hr.2, ?_⟩
  · rw [pickC_nil hL]; exact h.idle
  · rw [pickC_nil hL]; exact h.srv
theorem done_idle {s : CS} (h : s.is = false) (size : Int) (more : Bool) : doneC s size more = s := by unfold doneC; rw [if_neg (by rw [h]; simp)]
theorem RS.serve {s : CS} {v n m : Nat} (h : RS s v n) (hci : CI s m) (hk : ∀ x ∈ s.L, x.1 = (kn x : Int) ∧ kn x < 18446744073709551616) {x : It} {l : List It} (hL : s.L = x :: l) :
    (∃ (o : Int) (p : Nat), pickV s = .tuple #[.int .i64 o, .int .u64 p, .bool true]) ∧ (pickC s).is = true ∧ ∀ size more, RS (doneC (pickC s) size more) v (n + 1) := by
  have hr := h.ri.pick hci (fun x hx => (hk x hx).1)
  have hcp := hci.pick (fun x hx => (hk x hx).2)
  have hkey : (pickC s).v ≤ (pickC s).key := by rw [pickC_cons hL]; exact Nat.le_refl _
  have his : (pickC s).is = true := by rw [pickC_cons hL]
  refine ⟨⟨_, _, by unfold pickV; rw [hL]⟩, his, fun size more => ?_⟩
  obtain ⟨d1, d2⟩ := hr.1.done hcp hkey size more
  refine ⟨d1, ?_, by rw [d2]; exact Nat.le_trans h.low hr.2, ?_⟩
  · unfold doneC; rw [if_pos his]
  · unfold doneC; rw [if_pos his]
    show (pickC s).served + 1 = n + 1
    rw [pickC_cons hL]; show s.served + 1 = n + 1; rw [h.srv]
theorem RS.next {s : CS} {v n : Nat} (h : RS s v n) : RS s s.v n := ⟨h.ri, h.idle, Nat.le_refl _, h.srv⟩

/-- One who serves, with what holds of it. -/
def KC (W : World) (kb V n : Nat) (s : CS) (F : List Nat) (w : World) : Prop := KG W kb V s F w ∧ CI s n
section
variable {W w w' : World} {kb V n : Nat} {s s' : CS} {F : List Nat}
theorem KC.upd (h : KC W kb V n s F w) (hu : Upd [] w w') : KC W kb V n s F w' := ⟨h.1.upd hu, h.2⟩
theorem KC.updW (h : KC W kb V n s F w) : Upd [] W w := h.1.updW
end
def CRisesAt (W : World) (kb V c : Nat) (vv nv iv : Value) (wr : World) : Prop :=
  ∃ (i v n : Nat) (s : CS) (F : List Nat), iv = .int .i64 i ∧ vv = .int .u64 v ∧ nv = .int .i64 n ∧ i ≤ c ∧ n ≤ i ∧ RS s v n ∧ KC W kb V (3 * i) s F wr
theorem lt_false {a b : Nat} (h : b ≤ a) : decide (a < b) = false := by simp [h]
theorem lt_falseI {a b : Nat} (h : b ≤ a) : decide ((a : Int) < (b : Int)) = false := by simp; omega

set_option maxRecDepth 100000 in
set_option maxHeartbeats 64000000 in
theorem crises_walk (sh sl wo wd : Int) (un : Nat) (v : Value) (m : Nat) (D : Nat → Nat → Value) (W : World) (hT : TabAt 0 Lib.deBruijn64tab W) (_ : un < 18446744073709551616) (hv : ActRow W v m D) :
    Calls Tryz.prog 6 #[.agg #[.int .i64 sh, .int .i64 sl, .int .i64 wo, .int .i64 wd, .int .u64 un], v] W (RetUpd [] W (.bool true)) := by
  obtain ⟨ao, cap, rfl, hmm, hD⟩ := act_cells hv
  unfold maxLen at hmm
  have HD := Lib.hid hD
  have HT := Lib.hid hT
  clear hD hv hT
  obtain ⟨c, hc⟩ : ∃ c : Nat, Min.min m 80 = c := ⟨_, rfl⟩
  have hcm : c ≤ m := by omega
  have hc40 : c ≤ 80 := by omega
  have HC : Hid (Min.min m 80 = c) := hc
  clear hc
  go_enter Tryz.func6, Tryz.ntmps6
  go_wp2_with fail
  refine (made21_any W sh sl wo wd un _ ((Upd.refl [] W).alloc _) HT.out).mono ?_
  rintro e1 w1 ⟨kb, xb, V, m0, F0, G0, rfl, hP, -, -⟩
  have HP1 : Hid (KC W kb V 0 (newC m0) F0 w1) := ⟨hP.1, hP.2.2.1⟩
  clear hP
  go_wp2_with fail
  refine (awake21_any _ (tab_upd HT.out HP1.out.updW)).mono ?_
  rintro e w2 ⟨rfl, hU⟩
  have HP2 := Lib.hid (HP1.out.upd hU)
  clear hU HP1
  go_wp2_with fail
  go_loopw [7, 8, 9] (fun vv nv iv wr => CRisesAt W kb V c vv nv iv wr) (fun _ _ iv _ => c - (intOf iv).toNat)
  case atStart => exact ⟨0, 0, 0, _, _, rfl, rfl, rfl, Nat.zero_le _, Nat.le_refl _, ⟨RI.new _, rfl, Nat.le_refl _, rfl⟩, HP2.out⟩
  case round =>
    clear HP2
    obtain ⟨i, v, n, s, F, rfl, rfl, rfl, hi, hni, hRS, hP⟩ := hrel
    have HP := Lib.hid hP
    have HRS := Lib.hid hRS
    have HNI := Lib.hid hni
    clear hP hRS
    by_cases hlt : i < c
    · skip
      rcases HD.out with h0 | ⟨bd, off, rfl, hb1, hcc⟩
      · omega
      obtain ⟨k, o, z, f, mo, r, more, c0, c1, c2, c3, c4, c5, c6, hz, hr⟩ := hcc i (by omega)
      have hUW := HP.out.updW
      rw [← hUW.cell hb1 (by simp)] at c0 c1 c2 c3 c4 c5 c6
      have lbd := Nat.lt_of_lt_of_le hb1 hUW.size
      have him : i < m := by omega
      have t1 : decide (i < m) = true := by simp; omega
      have t2 : decide ((i : Int) < 80) = true := by simp; omega
      have b1 : (i : Int) < (m : Int) := by omega
      have HZ := Lib.hid hz
      have HR := Lib.hid hr
      have HBW := Lib.hid hb1
      have HLC := Lib.hid hlt
      have HI1 : Hid (i + 1 ≤ c) := hlt
      have HI80 : Hid (i + 1 ≤ 100) := by unfold Hid; omega
      clear hcc hb1 hz hr hUW
      have hb1 : (n : Int) < 1000 := by omega
      have HN5 : Hid (n ≤ i + 1) := by unfold Hid; omega
      have HN900 : Hid (3 * i + 2 < 900) := by unfold Hid; omega
      clear hni hi hlt
      obtain ⟨q, hq⟩ : ∃ q, modI k 2 = q := ⟨_, rfl⟩
      have HQ := Lib.hid hq
      have hSZ := sizeI_bd HZ.out
      obtain ⟨sz, hsz⟩ : ∃ x, sizeI z = x := ⟨_, rfl⟩
      rw [hsz] at hSZ
      have HSB := Lib.hid hSZ
      have HSZ : Hid (∀ w', Calls Tryz.prog 20 #[.agg #[.int .i64 k, .int .i64 o, .int .i64 z, .int .i64 f, .int .i64 mo, .int .u64 r, .bool more]] w' (RetUpd [] w' (.int .i64 sz))) := fun w' => by
        rw [← hsz]; exact size21_any k o z f mo r more w'
      clear hq hSZ hsz
      by_cases hq0 : q = 0
      · have ta : (q == 0) = true := by simp [hq0]
        clear hq0
        go_wp2_with fail
        refine (mod_any k 2 (by omega) (by omega) _).mono ?_
        rintro e w4 ⟨rfl, rfl⟩
        rw [HQ.out]
        go_wp2_with fail
        refine (object21_any k o z f mo r more HR.out _).mono ?_
        rintro e w5 ⟨ob, fl, mo2, rr, rfl, hrr, hU5⟩
        have HU5 := Lib.hid hU5
        have HRR := Lib.hid hrr
        clear hU5 hrr
        go_wp2_with fail
        refine ((HP.out.upd HU5.out).1.wake HP.out.2 (by have := HN900.out; omega) ob fl mo2 rr HRR.out).mono ?_
        rintro e w6 ⟨rfl, F6, h6, -⟩
        obtain ⟨s6, hs6⟩ : ∃ x, wakeC s ob fl rr = x := ⟨_, rfl⟩
        have HK6 : Hid (KC W kb V (3 * i + 1) s6 F6 w6) := by rw [← hs6]; exact ⟨h6, HP.out.2.wake ob fl HRR.out⟩
        have HR6 : Hid (RS s6 v n) := by rw [← hs6]; exact HRS.out.wake HP.out.2 ob fl rr
        clear h6 hs6 c0 c1 c2 c3 c4 c5 c6
        go_wp2_with fail
        refine (HK6.out.1.items_ (by have := HK6.out.2.len; have := HN900.out; omega)).mono ?_
        rintro e wa ⟨aoa, capa, rfl, hR, hF, hU⟩
        have HKA := Lib.hid (HK6.out.upd hU)
        have hv1 := lt_false HR6.out.low
        have hv2 := lt_falseI HR6.out.low
        have hsv : Hid (s6.served = n) := HR6.out.srv
        have hns : ((n : Int) != (n : Int)) = false := by simp
        obtain ⟨sv, hsve⟩ : ∃ x, s6.v = x := ⟨_, rfl⟩
        rw [hsve] at hv1 hv2
        have HV : Hid (∀ w', Upd [] wa w' → Calls Tryz.prog 23 #[.pointer (some ⟨kb, 0, none⟩)] w' (fun e w'' => e = .returned (.int .u64 sv) ∧ w' = w'')) := fun w' hu => by rw [← hsve]; exact (HKA.out.upd hu).1.v_
        have HS : Hid (∀ w', Upd [] wa w' → Calls Tryz.prog 24 #[.pointer (some ⟨kb, 0, none⟩)] w' (fun e w'' => e = .returned (.int .i64 n) ∧ w' = w'')) := fun w' hu => by rw [← hsv.out]; exact (HKA.out.upd hu).1.served_
        have HSV := Lib.hid hsve
        rcases hL3 : s6.L with _ | ⟨x, l⟩
        · have t5 : decide ((0 : Int) < ((0 : Nat) : Int)) = false := by simp
          clear hR hF hU hsve hL3
          go_wp2_with fail
          go_quiet (first | (go_at_call 23; exact Calls.quiet_of_same ((HV.out _ ((Upd.refl [] wa).drewN _)).mono (fun _ _ h => ⟨h.1, h.2.symm⟩))) | (go_at_call 24; exact Calls.quiet_of_same ((HS.out _ ((Upd.refl [] wa).drewN _)).mono (fun _ _ h => ⟨h.1, h.2.symm⟩))))
          go_wp2_with fail
          refine (HV.out _ ((Upd.refl [] wa).drewN _)).mono ?_
          rintro e wz ⟨rfl, rfl⟩
          go_wp2
          exact ⟨⟨i + 1, sv, n, _, _, by congr 1, rfl, by first | rfl | congr 1, HI1.out, HN5.out, by rw [← HSV.out]; exact HR6.out.next, (HKA.out.upd ((Upd.refl [] wa).drewN _)).1, HKA.out.2.mono (by omega)⟩, inner_measR HLC.out⟩
        · obtain ⟨kx, hkx⟩ : ∃ q, kn x = q := ⟨_, rfl⟩
          have hx1 := HK6.out.1.keysL x (by rw [hL3]; simp)
          have hlow := HR6.out.ri.keys x (by rw [hL3]; simp)
          rw [hsve, hkx] at hlow
          have hx2 : x.1 = (kx : Int) := by rw [← hkx]; exact hx1.1
          rw [hL3] at hR
          obtain ⟨g, hg, hrow⟩ := hR.row (by simp)
          subst hg
          have y0 := hrow.cell (j := 0) (by rw [List.flatMap_cons]; rfl)
          rw [hx2] at y0
          have hrl := hrow.lt
          obtain ⟨nl, hnl⟩ : ∃ q, (x :: l).length = q := ⟨_, rfl⟩
          have hnl0 : 0 < nl := by rw [← hnl]; simp
          have t5 : decide (0 < nl) = true := by simp [hnl0]
          have t6 : decide ((0 : Int) < (nl : Int)) = true := by simp; omega
          have b5 : (0 : Int) < (nl : Int) := by omega
          have t7 := lt_false hlow
          have t8 := lt_falseI hlow
          rw [hnl]
          clear hR hF hU hsve hL3 hkx hx1 hlow hrow hnl
          go_wp2_with fail
          go_quiet (first | (go_at_call 23; exact Calls.quiet_of_same ((HV.out _ ((Upd.refl [] wa).drewN _)).mono (fun _ _ h => ⟨h.1, h.2.symm⟩))) | (go_at_call 24; exact Calls.quiet_of_same ((HS.out _ ((Upd.refl [] wa).drewN _)).mono (fun _ _ h => ⟨h.1, h.2.symm⟩))))
          go_wp2_with fail
          refine (HV.out _ ((Upd.refl [] wa).drewN _)).mono ?_
          rintro e wz ⟨rfl, rfl⟩
          go_wp2
          exact ⟨⟨i + 1, sv, n, _, _, by congr 1, rfl, by first | rfl | congr 1, HI1.out, HN5.out, by rw [← HSV.out]; exact HR6.out.next, (HKA.out.upd ((Upd.refl [] wa).drewN _)).1, HKA.out.2.mono (by omega)⟩, inner_measR HLC.out⟩
      · have ta : (q == 0) = false := by simp [hq0]
        clear hq0
        cases hL : s.L with
        | nil =>
          obtain ⟨hpv, hrs⟩ := HRS.out.none_ HP.out.2 hL
          have HPV := Lib.hid hpv
          go_wp2_with fail
          refine (mod_any k 2 (by omega) (by omega) _).mono ?_
          rintro e w4 ⟨rfl, rfl⟩
          rw [HQ.out]
          go_wp2_with fail
          refine HP.out.1.pick.mono ?_
          rintro e w6 ⟨rfl, F6, h6, -⟩
          rw [HPV.out]
          obtain ⟨s6, hs6⟩ : ∃ x, pickC s = x := ⟨_, rfl⟩
          have HK6 : Hid (KC W kb V (3 * i + 1) s6 F6 w6) := by rw [← hs6]; exact ⟨h6, HP.out.2.pick (by rw [hL]; intro x hx; cases hx)⟩
          have HR6 : Hid (RS s6 v n) := by rw [← hs6]; exact hrs
          clear h6 hs6 c0 c1 c2 c3 c4 c5 c6 hL hpv hrs
          go_wp2_with fail
          refine (HK6.out.1.items_ (by have := HK6.out.2.len; have := HN900.out; omega)).mono ?_
          rintro e wa ⟨aoa, capa, rfl, hR, hF, hU⟩
          have HKA := Lib.hid (HK6.out.upd hU)
          have hv1 := lt_false HR6.out.low
          have hv2 := lt_falseI HR6.out.low
          have hsv : Hid (s6.served = n) := HR6.out.srv
          have hns : ((n : Int) != (n : Int)) = false := by simp
          obtain ⟨sv, hsve⟩ : ∃ x, s6.v = x := ⟨_, rfl⟩
          rw [hsve] at hv1 hv2
          have HV : Hid (∀ w', Upd [] wa w' → Calls Tryz.prog 23 #[.pointer (some ⟨kb, 0, none⟩)] w' (fun e w'' => e = .returned (.int .u64 sv) ∧ w' = w'')) := fun w' hu => by rw [← hsve]; exact (HKA.out.upd hu).1.v_
          have HS : Hid (∀ w', Upd [] wa w' → Calls Tryz.prog 24 #[.pointer (some ⟨kb, 0, none⟩)] w' (fun e w'' => e = .returned (.int .i64 n) ∧ w' = w'')) := fun w' hu => by rw [← hsv.out]; exact (HKA.out.upd hu).1.served_
          have HSV := Lib.hid hsve
          rcases hL3 : s6.L with _ | ⟨x, l⟩
          · have t5 : decide ((0 : Int) < ((0 : Nat) : Int)) = false := by simp
            clear hR hF hU hsve hL3
            go_wp2_with fail
            go_quiet (first | (go_at_call 23; exact Calls.quiet_of_same ((HV.out _ ((Upd.refl [] wa).drewN _)).mono (fun _ _ h => ⟨h.1, h.2.symm⟩))) | (go_at_call 24; exact Calls.quiet_of_same ((HS.out _ ((Upd.refl [] wa).drewN _)).mono (fun _ _ h => ⟨h.1, h.2.symm⟩))))
            go_wp2_with fail
            refine (HV.out _ ((Upd.refl [] wa).drewN _)).mono ?_
            rintro e wz ⟨rfl, rfl⟩
            go_wp2
            exact ⟨⟨i + 1, sv, n, _, _, by congr 1, rfl, by first | rfl | congr 1, HI1.out, HN5.out, by rw [← HSV.out]; exact HR6.out.next, (HKA.out.upd ((Upd.refl [] wa).drewN _)).1, HKA.out.2.mono (by omega)⟩, inner_measR HLC.out⟩
          · obtain ⟨kx, hkx⟩ : ∃ q, kn x = q := ⟨_, rfl⟩
            have hx1 := HK6.out.1.keysL x (by rw [hL3]; simp)
            have hlow := HR6.out.ri.keys x (by rw [hL3]; simp)
            rw [hsve, hkx] at hlow
            have hx2 : x.1 = (kx : Int) := by rw [← hkx]; exact hx1.1
            rw [hL3] at hR
            obtain ⟨g, hg, hrow⟩ := hR.row (by simp)
            subst hg
            have y0 := hrow.cell (j := 0) (by rw [List.flatMap_cons]; rfl)
            rw [hx2] at y0
            have hrl := hrow.lt
            obtain ⟨nl, hnl⟩ : ∃ q, (x :: l).length = q := ⟨_, rfl⟩
            have hnl0 : 0 < nl := by rw [← hnl]; simp
            have t5 : decide (0 < nl) = true := by simp [hnl0]
            have t6 : decide ((0 : Int) < (nl : Int)) = true := by simp; omega
            have b5 : (0 : Int) < (nl : Int) := by omega
            have t7 := lt_false hlow
            have t8 := lt_falseI hlow
            rw [hnl]
            clear hR hF hU hsve hL3 hkx hx1 hlow hrow hnl
            go_wp2_with fail
            go_quiet (first | (go_at_call 23; exact Calls.quiet_of_same ((HV.out _ ((Upd.refl [] wa).drewN _)).mono (fun _ _ h => ⟨h.1, h.2.symm⟩))) | (go_at_call 24; exact Calls.quiet_of_same ((HS.out _ ((Upd.refl [] wa).drewN _)).mono (fun _ _ h => ⟨h.1, h.2.symm⟩))))
            go_wp2_with fail
            refine (HV.out _ ((Upd.refl [] wa).drewN _)).mono ?_
            rintro e wz ⟨rfl, rfl⟩
            go_wp2
            exact ⟨⟨i + 1, sv, n, _, _, by congr 1, rfl, by first | rfl | congr 1, HI1.out, HN5.out, by rw [← HSV.out]; exact HR6.out.next, (HKA.out.upd ((Upd.refl [] wa).drewN _)).1, HKA.out.2.mono (by omega)⟩, inner_measR HLC.out⟩
        | cons x l =>
          obtain ⟨⟨po, pp, hpv⟩, hpis, hrs⟩ := HRS.out.serve HP.out.2 HP.out.1.keysL hL
          have HPV := Lib.hid hpv
          go_wp2_with fail
          refine (mod_any k 2 (by omega) (by omega) _).mono ?_
          rintro e w4 ⟨rfl, rfl⟩
          rw [HQ.out]
          go_wp2_with fail
          refine HP.out.1.pick.mono ?_
          rintro e w5 ⟨rfl, F5, h5, hF5⟩
          rw [HPV.out]
          obtain ⟨s5, hs5⟩ : ∃ x, pickC s = x := ⟨_, rfl⟩
          rw [hs5] at h5 hpis hrs
          have HK5 : Hid (KC W kb V (3 * i + 1) s5 F5 w5) := ⟨h5, by rw [← hs5]; exact HP.out.2.pick (fun x hx => (HP.out.1.keysL x hx).2)⟩
          have HIS := Lib.hid hpis
          have HR5 := Lib.hid (hrs sz more)
          clear h5 hs5 hL hpv hrs hpis
          have hnf : bd ∉ F := fun e => by have := HP.out.1.newB bd e; have := HBW.out; omega
          have e0 := (hF5.2.cell lbd hnf (off + i * 7)).trans c0
          have e1 := (hF5.2.cell lbd hnf (off + i * 7 + 1)).trans c1
          have e2 := (hF5.2.cell lbd hnf (off + i * 7 + 2)).trans c2
          have e3 := (hF5.2.cell lbd hnf (off + i * 7 + 3)).trans c3
          have e4 := (hF5.2.cell lbd hnf (off + i * 7 + 4)).trans c4
          have e5 := (hF5.2.cell lbd hnf (off + i * 7 + 5)).trans c5
          have e6 := (hF5.2.cell lbd hnf (off + i * 7 + 6)).trans c6
          have lb5 := Nat.lt_of_lt_of_le lbd hF5.2.size
          have hnf5 := hF5.far lbd hnf
          obtain ⟨s6, hs6⟩ : ∃ x, doneC s5 sz more = x := ⟨_, rfl⟩
          rw [hs6] at HR5
          have HC6 : Hid (CI s6 (3 * i + 2)) := by rw [← hs6]; exact HK5.out.2.done sz more
          have HDK : Hid (∀ w', Upd [] w5 w' → Calls Tryz.prog 14 #[.pointer (some ⟨kb, 0, none⟩), .int .i64 sz, .bool more] w' (fun e w'' => e = .returned (.bool true) ∧ KGTo W kb V s6 F5 w' w'')) := fun w' hu => by
            have := (HK5.out.upd hu).1.done HK5.out.2 (by have := HN900.out; omega) sz HSB.out more
            rw [HIS.out, hs6] at this; exact this
          have HDK2 : Hid (∀ w'' F6, KG W kb V s6 F6 w'' → Calls Tryz.prog 14 #[.pointer (some ⟨kb, 0, none⟩), .int .i64 sz, .bool more] w'' (fun e w4 => e = .returned (.bool false) ∧ KGTo W kb V s6 F6 w'' w4)) := fun w'' F6 hk => by
            have := hk.done HC6.out (by have := HN900.out; omega) sz HSB.out more
            rw [HR5.out.idle, done_idle HR5.out.idle] at this; exact this
          obtain ⟨n1, hn1⟩ : ∃ x, n + 1 = x := ⟨_, rfl⟩
          have hn1i : (n : Int) + 1 = (n1 : Int) := by omega
          rw [hn1] at HR5
          have HN5 : Hid (n1 ≤ i + 1) := by unfold Hid; have := HNI.out; omega
          have HN1 := Lib.hid hn1i
          clear c0 c1 c2 c3 c4 c5 c6 hs6 hF5 hnf hn1 hn1i
          have tok : True := trivial
          have tok2 : True := trivial
          go_wp2_with fail
          rw [HN1.out]
          go_region_held3 (fun w2 => Upd F5 w5 w2 ∧ ∀ (b o : Nat), b < w5.heap.size → b ∉ F5 → w2.cell? ⟨b, o, none⟩ = w5.cell? ⟨b, o, none⟩)
            (first | exact Held.init _ _ | exact Held.more (by assumption) hBd hTd | exact Held.step (by assumption) hBc | exact Held.step (by assumption) hBb | exact Held.step (by assumption) hBa)
            (first | (go_at_call 20; have tk := tok; clear tok; refine (HSZ.out _).mono ?_; rintro e w6 ⟨rfl, h6⟩; have H6 := Lib.hid h6; have hBa := h6.nil (S := F5); clear h6) | (go_at_call 14; have tk2 := tok2; clear tok2; refine (HDK.out _ ((Upd.refl [] w5).drew.trans H6.out)).mono ?_; rintro e w7 ⟨rfl, F7, h7, hF7⟩; have H7 := Lib.hid h7; have HF7 := Lib.hid hF7; have hBb := hF7.2; clear h7 hF7) | (go_at_call 20; refine (HSZ.out _).mono ?_; rintro e w8 ⟨rfl, h8⟩; have H8 := Lib.hid h8; have hBc := h8.nil (S := F5); clear h8) | (go_at_call 14; refine (HDK2.out _ F7 (H7.out.upd H8.out)).mono ?_; rintro e w9 ⟨rfl, F9, h9, hF9⟩; have H9 := Lib.hid h9; have hBd := hF9.2; have hTd : ∀ c ∈ F7, c ∈ F5 ∨ w5.heap.size ≤ c := fun c hc => (HF7.out.1 c hc).imp id (fun e => by have := H6.out.size; simp at this; omega); clear h9 hF9))
          have HK6 : Hid (KC W kb V (3 * i + 2) s6 F9 w9) := ⟨H9.out, HC6.out⟩
          clear e0 e1 e2 e3 e4 e5 e6
          go_wp2_with fail
          refine (HK6.out.1.items_ (by have := HK6.out.2.len; have := HN900.out; omega)).mono ?_
          rintro e wa ⟨aoa, capa, rfl, hR, hF, hU⟩
          have HKA := Lib.hid (HK6.out.upd hU)
          have hv1 := lt_false HR5.out.low
          have hv2 := lt_falseI HR5.out.low
          have hsv : Hid (s6.served = n1) := HR5.out.srv
          have hns : ((n1 : Int) != (n1 : Int)) = false := by simp
          obtain ⟨sv, hsve⟩ : ∃ x, s6.v = x := ⟨_, rfl⟩
          rw [hsve] at hv1 hv2
          have HV : Hid (∀ w', Upd [] wa w' → Calls Tryz.prog 23 #[.pointer (some ⟨kb, 0, none⟩)] w' (fun e w'' => e = .returned (.int .u64 sv) ∧ w' = w'')) := fun w' hu => by rw [← hsve]; exact (HKA.out.upd hu).1.v_
          have HS : Hid (∀ w', Upd [] wa w' → Calls Tryz.prog 24 #[.pointer (some ⟨kb, 0, none⟩)] w' (fun e w'' => e = .returned (.int .i64 n1) ∧ w' = w'')) := fun w' hu => by rw [← hsv.out]; exact (HKA.out.upd hu).1.served_
          have HSV := Lib.hid hsve
          rcases hL3 : s6.L with _ | ⟨x, l⟩
          · have t5 : decide ((0 : Int) < ((0 : Nat) : Int)) = false := by simp
            clear hR hF hU hsve hL3
            go_wp2_with fail
            go_quiet (first | (go_at_call 23; exact Calls.quiet_of_same ((HV.out _ ((Upd.refl [] wa).drewN _)).mono (fun _ _ h => ⟨h.1, h.2.symm⟩))) | (go_at_call 24; exact Calls.quiet_of_same ((HS.out _ ((Upd.refl [] wa).drewN _)).mono (fun _ _ h => ⟨h.1, h.2.symm⟩))))
            go_wp2_with fail
            refine (HV.out _ ((Upd.refl [] wa).drewN _)).mono ?_
            rintro e wz ⟨rfl, rfl⟩
            go_wp2
            exact ⟨⟨i + 1, sv, n1, _, _, by congr 1, rfl, by first | rfl | congr 1, HI1.out, HN5.out, by rw [← HSV.out]; exact HR5.out.next, (HKA.out.upd ((Upd.refl [] wa).drewN _)).1, HKA.out.2.mono (by omega)⟩, inner_measR HLC.out⟩
          · obtain ⟨kx, hkx⟩ : ∃ q, kn x = q := ⟨_, rfl⟩
            have hx1 := HK6.out.1.keysL x (by rw [hL3]; simp)
            have hlow := HR5.out.ri.keys x (by rw [hL3]; simp)
            rw [hsve, hkx] at hlow
            have hx2 : x.1 = (kx : Int) := by rw [← hkx]; exact hx1.1
            rw [hL3] at hR
            obtain ⟨g, hg, hrow⟩ := hR.row (by simp)
            subst hg
            have y0 := hrow.cell (j := 0) (by rw [List.flatMap_cons]; rfl)
            rw [hx2] at y0
            have hrl := hrow.lt
            obtain ⟨nl, hnl⟩ : ∃ q, (x :: l).length = q := ⟨_, rfl⟩
            have hnl0 : 0 < nl := by rw [← hnl]; simp
            have t5 : decide (0 < nl) = true := by simp [hnl0]
            have t6 : decide ((0 : Int) < (nl : Int)) = true := by simp; omega
            have b5 : (0 : Int) < (nl : Int) := by omega
            have t7 := lt_false hlow
            have t8 := lt_falseI hlow
            rw [hnl]
            clear hR hF hU hsve hL3 hkx hx1 hlow hrow hnl
            go_wp2_with fail
            go_quiet (first | (go_at_call 23; exact Calls.quiet_of_same ((HV.out _ ((Upd.refl [] wa).drewN _)).mono (fun _ _ h => ⟨h.1, h.2.symm⟩))) | (go_at_call 24; exact Calls.quiet_of_same ((HS.out _ ((Upd.refl [] wa).drewN _)).mono (fun _ _ h => ⟨h.1, h.2.symm⟩))))
            go_wp2_with fail
            refine (HV.out _ ((Upd.refl [] wa).drewN _)).mono ?_
            rintro e wz ⟨rfl, rfl⟩
            go_wp2
            exact ⟨⟨i + 1, sv, n1, _, _, by congr 1, rfl, by first | rfl | congr 1, HI1.out, HN5.out, by rw [← HSV.out]; exact HR5.out.next, (HKA.out.upd ((Upd.refl [] wa).drewN _)).1, HKA.out.2.mono (by omega)⟩, inner_measR HLC.out⟩
    · skip
      have t1 : Hid (decide (i < m) = true ∧ decide ((i : Int) < 80) = false ∨ decide (i < m) = false) := by
        have := HC.out
        unfold Hid
        by_cases h : i < m
        · left; exact ⟨by simp; omega, by simp; omega⟩
        · right; simp; omega
      rcases t1.out with ⟨t2, t3⟩ | t2
      all_goals
        clear t1
        go_wp2
        go_ret
        exact ⟨rfl, HP.out.updW⟩
end Go.Proofs.YtolohheflbmfaaaGreatDoor
