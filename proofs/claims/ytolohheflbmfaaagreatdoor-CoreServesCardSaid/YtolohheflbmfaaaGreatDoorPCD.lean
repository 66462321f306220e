/-
  Texts of this claim, joined: Co, Cw, Cp, Cx. No condition.
-/
import Derived.Test.YtolohheflbmfaaaGreatDoorPCC
set_option linter.unusedVariables false
set_option linter.unusedSimpArgs false
/-! Co -/
namespace Go.Proofs.YtolohheflbmfaaaGreatDoor

theorem pushM_baseC {M : List Sh} {L : List It} (h : QOk M L) (k : Nat) (id : Int) : (pushM M k id).length = M.length ∧ ∀ i, (shAt (pushM M k id) i).1 = (shAt M i).1 := by
  refine ⟨pushM_len M k id, fun i => ?_⟩
  unfold pushM
  split
  · rw [shAt_set (rt_lt h.one id)]; split
    · rename_i e; rw [e]
    · rfl
  · rfl

/-- No base is above v, no key below it. -/
structure RI (s : CS) : Prop where
  base : ∀ i, i < s.M.length → (shAt s.M i).1 ≤ s.v
  keys : ∀ x ∈ s.L, s.v ≤ kn x
theorem RI.take {s : CS} {n : Nat} (h : RI s) (hci : CI s n) {k : Nat} (hk : s.v ≤ k) {flow : Int} (h0 : 0 ≤ flow) : takeQ s.M k flow = !hasI s.L flow := by
  have hr := rt_lt hci.ok.one flow
  unfold takeQ
  rw [hci.ok.has flow h0]
  simp [h0, Nat.le_trans (h.base _ hr) hk]
theorem RI.push {M : List Sh} {L : List It} {v : Nat} (hok : QOk M L) (h1 : ∀ i, i < M.length → (shAt M i).1 ≤ v) (h2 : ∀ x ∈ L, v ≤ kn x) {k : Nat} (hk : v ≤ k) (flow : Int) :
    (∀ i, i < (pushM M k flow).length → (shAt (pushM M k flow) i).1 ≤ v) ∧ ∀ x ∈ pushL M L k flow, v ≤ kn x := by
  obtain ⟨e1, e2⟩ := pushM_baseC hok k flow
  refine ⟨fun i hi => by rw [e2]; exact h1 i (by rw [← e1]; exact hi), fun x hx => ?_⟩
  unfold pushL at hx
  split at hx
  · rcases List.mem_cons.1 ((insI_perm _ _).mem_iff.1 hx) with rfl | hx
    · unfold kn; simpa using hk
    · exact h2 x hx
  · exact h2 x hx
theorem RI.wake {s : CS} {n : Nat} (h : RI s) (hci : CI s n) (obj flow : Int) (r : Nat) : RI (wakeC s obj flow r) := by
  unfold wakeC
  split
  · obtain ⟨p1, p2⟩ := RI.push hci.ok h.base h.keys (k := wakeK s obj) (by unfold wakeK; omega) flow
    exact ⟨p1, p2⟩
  · exact h
theorem RI.pick {s : CS} {n : Nat} (h : RI s) (hci : CI s n) (hk : ∀ x ∈ s.L, x.1 = (kn x : Int)) : RI (pickC s) ∧ s.v ≤ (pickC s).v := by
  cases hL : s.L with
  | nil =>
    rw [pickC_nil hL]
    refine ⟨⟨fun i hi => ?_, fun x hx => ?_⟩, ?_⟩
    · have := h.base i hi; simp only; omega
    · simp only [hL] at hx; cases hx
    · simp only; omega
  | cons x l =>
    have hv := h.keys x (by rw [hL]; simp)
    have hm : popM s.M s.L = s.M.set (rt s.M.length x.2) (kn x, (shAt s.M (rt s.M.length x.2)).2.tail) := by rw [hL]; rfl
    rw [pickC_cons hL]
    refine ⟨⟨fun i hi => ?_, fun y hy => ?_⟩, hv⟩
    · simp only at hi ⊢
      rw [popM_len] at hi
      rw [hm, shAt_set (rt_lt hci.ok.one x.2)]
      split
      · exact Nat.le_refl _
      · exact Nat.le_trans (h.base i hi) hv
    · simp only at hy ⊢
      have hs := hci.ok.srt
      rw [hL] at hs hy
      exact srt_head_le hs (fun z hz => hk z (by rw [hL]; exact hz)) y (by simp at hy; simp [hy])
theorem addT_ge {a b : Nat} (ha : a < 18446744073709551616) : a ≤ addT a b := by unfold addT topN; omega
theorem RI.done {s : CS} {n : Nat} (h : RI s) (hci : CI s n) (hk : s.v ≤ s.key) (size : Int) (more : Bool) : RI (doneC s size more) ∧ (doneC s size more).v = s.v := by
  unfold doneC
  split
  · have hf : s.v ≤ (doneT s size).finish := by
      have := addT_ge (b := mulT (sizeN size) (s.th s.obj).r) hci.k64
      show s.v ≤ addT s.key _
      omega
    obtain ⟨p1, p2⟩ := RI.push hci.ok h.base h.keys hf (doneT s size).flow
    cases more
    · exact ⟨⟨h.base, h.keys⟩, rfl⟩
    · exact ⟨⟨p1, p2⟩, rfl⟩
  · exact ⟨h, rfl⟩
theorem RI.new (m : Nat) : RI (newC m) := ⟨fun i _ => by show (shAt (zeroM m) i).1 ≤ 0; rw [zeroM_at]; exact Nat.le_refl _, fun _ hx => (by cases hx)⟩
end Go.Proofs.YtolohheflbmfaaaGreatDoor

/-! Cw -/
namespace Go.Proofs.YtolohheflbmfaaaGreatDoor
open Go.RowKit

/-- Each Pick was followed by its Done: v so far, how many were served. -/
structure RS (s : CS) (v n : Nat) : Prop where
  ri : RI s
  idle : s.is = false
  low : v ≤ s.v
  srv : s.served = n
theorem wakeC_keep (s : CS) (obj flow : Int) (r : Nat) : (wakeC s obj flow r).v = s.v ∧ (wakeC s obj flow r).served = s.served ∧ (wakeC s obj flow r).is = s.is := by
  unfold wakeC; split
  · exact ⟨rfl, rfl, rfl⟩
  · exact ⟨rfl, rfl, rfl⟩
theorem RS.wake {s : CS} {v n m : Nat} (h : RS s v n) (hci : CI s m) (obj flow : Int) (r : Nat) : RS (wakeC s obj flow r) v n := by
  obtain ⟨e1, e2, e3⟩ := wakeC_keep s obj flow r
  exact ⟨h.ri.wake hci obj flow r, by rw [e3]; exact h.idle, by rw [e1]; exact h.low, by rw [e2]; exact h.srv⟩
theorem RS.none_ {s : CS} {v n m : Nat} (h : RS s v n) (hci : CI s m) (hL : s.L = []) : pickV s = .tuple #[.int .i64 0, .int .u64 0, .bool false] ∧ RS (pickC s) v n := by
  have hr := h.ri.pick hci (by rw [hL]; intro x hx; cases hx)
  refine ⟨by unfold pickV; rw [hL], hr.1, ?_, Nat.le_trans h.low hr.2, ?_⟩
  · rw [pickC_nil hL]; exact h.idle
  · rw [pickC_nil hL]; exact h.srv
theorem done_idle {s : CS} (h : s.is = false) (size : Int) (more : Bool) : doneC s size more = s := by unfold doneC; rw [if_neg (by rw [h]; simp)]
theorem RS.serve {s : CS} {v n m : Nat} (h : RS s v n) (hci : CI s m) (hk : ∀ x ∈ s.L, x.1 = (kn x : Int) ∧ kn x < 18446744073709551616) {x : It} {l : List It} (hL : s.L = x :: l) :
    (∃ (o : Int) (p : Nat), pickV s = .tuple #[.int .i64 o, .int .u64 p, .bool true]) ∧ (pickC s).is = true ∧ ∀ size more, RS (doneC (pickC s) size more) v (n + 1) := by
  have hr := h.ri.pick hci (fun x hx => (hk x hx).1)
  have hcp := hci.pick (fun x hx => (hk x hx).2)
  have hkey : (pickC s).v ≤ (pickC s).key := by rw [pickC_cons hL]; exact Nat.le_refl _
  have his : (pickC s).is = true := by rw [pickC_cons hL]
  refine ⟨⟨_, _, by unfold pickV; rw [hL]⟩, his, fun size more => ?_⟩
  obtain ⟨d1, d2⟩ := hr.1.done hcp hkey size more
  refine ⟨d1, ?_, by rw [d2]; exact Nat.le_trans h.low hr.2, ?_⟩
  · unfold doneC; rw [if_pos his]
  · unfold doneC; rw [if_pos his]
    show (pickC s).served + 1 = n + 1
    rw [pickC_cons hL]; show s.served + 1 = n + 1; rw [h.srv]
theorem RS.next {s : CS} {v n : Nat} (h : RS s v n) : RS s s.v n := ⟨h.ri, h.idle, Nat.le_refl _, h.srv⟩

/-- One who serves, with what holds of it. -/
def KC (W : World) (kb V n : Nat) (s : CS) (F : List Nat) (w : World) : Prop := KG W kb V s F w ∧ CI s n
section
variable {W w w' : World} {kb V n : Nat} {s s' : CS} {F : List Nat}
theorem KC.upd (h : KC W kb V n s F w) (hu : Upd [] w w') : KC W kb V n s F w' := ⟨h.1.upd hu, h.2⟩
theorem KC.updW (h : KC W kb V n s F w) : Upd [] W w := h.1.updW
end
def CRisesAt (W : World) (kb V c : Nat) (vv nv iv : Value) (wr : World) : Prop :=
  ∃ (i v n : Nat) (s : CS) (F : List Nat), iv = .int .i64 i ∧ vv = .int .u64 v ∧ nv = .int .i64 n ∧ i ≤ c ∧ n ≤ i ∧ RS s v n ∧ KC W kb V (3 * i) s F wr
theorem lt_false {a b : Nat} (h : b ≤ a) : decide (a < b) = false := by simp [h]
theorem lt_falseI {a b : Nat} (h : b ≤ a) : decide ((a : Int) < (b : Int)) = false := by simp; omega

set_option maxRecDepth 100000 in
set_option maxHeartbeats 64000000 in
theorem crises_walk (sh sl wo wd : Int) (un : Nat) (v : Value) (m : Nat) (D : Nat → Nat → Value) (W : World) (hT : TabAt 0 Lib.deBruijn64tab W) (_ : un < 18446744073709551616) (hv : ActRow W v m D) :
    Calls Tryz.prog 6 #[.agg #[.int .i64 sh, .int .i64 sl, .int .i64 wo, .int .i64 wd, .int .u64 un], v] W (RetUpd [] W (.bool true)) := by
  obtain ⟨ao, cap, rfl, hmm, hD⟩ := act_cells hv
  unfold maxLen at hmm
  have HD := Lib.hid hD
  have HT := Lib.hid hT
  clear hD hv hT
  obtain ⟨c, hc⟩ : ∃ c : Nat, Min.min m 80 = c := ⟨_, rfl⟩
  have hcm : c ≤ m := by omega
  have hc40 : c ≤ 80 := by omega
  have HC : Hid (Min.min m 80 = c) := hc
  clear hc
  go_enter Tryz.func6, Tryz.ntmps6
  go_wp2_with fail
  refine (made21_any W sh sl wo wd un _ ((Upd.refl [] W).alloc _) HT.out).mono ?_
  rintro e1 w1 ⟨kb, xb, V, m0, F0, G0, rfl, hP, -, -⟩
  have HP1 : Hid (KC W kb V 0 (newC m0) F0 w1) := ⟨hP.1, hP.2.2.1⟩
  clear hP
  go_wp2_with fail
  refine (awake21_any _ (tab_upd HT.out HP1.out.updW)).mono ?_
  rintro e w2 ⟨rfl, hU⟩
  have HP2 := Lib.hid (HP1.out.upd hU)
  clear hU HP1
  go_wp2_with fail
  go_loopw [7, 8, 9] (fun vv nv iv wr => CRisesAt W kb V c vv nv iv wr) (fun _ _ iv _ => c - (intOf iv).toNat)
  case atStart => exact ⟨0, 0, 0, _, _, rfl, rfl, rfl, Nat.zero_le _, Nat.le_refl _, ⟨RI.new _, rfl, Nat.le_refl _, rfl⟩, HP2.out⟩
  case round =>
    clear HP2
    obtain ⟨i, v, n, s, F, rfl, rfl, rfl, hi, hni, hRS, hP⟩ := hrel
    have HP := Lib.hid hP
    have HRS := Lib.hid hRS
    have HNI := Lib.hid hni
    clear hP hRS
    by_cases hlt : i < c
    · skip
      rcases HD.out with h0 | ⟨bd, off, rfl, hb1, hcc⟩
      · omega
      obtain ⟨k, o, z, f, mo, r, more, c0, c1, c2, c3, c4, c5, c6, hz, hr⟩ := hcc i (by omega)
      have hUW := HP.out.updW
      rw [← hUW.cell hb1 (by simp)] at c0 c1 c2 c3 c4 c5 c6
      have lbd := Nat.lt_of_lt_of_le hb1 hUW.size
      have him : i < m := by omega
      have t1 : decide (i < m) = true := by simp; omega
      have t2 : decide ((i : Int) < 80) = true := by simp; omega
      have b1 : (i : Int) < (m : Int) := by omega
      have HZ := Lib.hid hz
      have HR := Lib.hid hr
      have HBW := Lib.hid hb1
      have HLC := Lib.hid hlt
      have HI1 : Hid (i + 1 ≤ c) := hlt
      have HI80 : Hid (i + 1 ≤ 100) := by unfold Hid; omega
      clear hcc hb1 hz hr hUW
      have hb1 : (n : Int) < 1000 := by omega
      have HN5 : Hid (n ≤ i + 1) := by unfold Hid; omega
      have HN900 : Hid (3 * i + 2 < 900) := by unfold Hid; omega
      clear hni hi hlt
      obtain ⟨q, hq⟩ : ∃ q, modI k 2 = q := ⟨_, rfl⟩
      have HQ := Lib.hid hq
      have hSZ := sizeI_bd HZ.out
      obtain ⟨sz, hsz⟩ : ∃ x, sizeI z = x := ⟨_, rfl⟩
      rw [hsz] at hSZ
      have HSB := Lib.hid hSZ
      have HSZ : Hid (∀ w', Calls Tryz.prog 20 #[.agg #[.int .i64 k, .int .i64 o, .int .i64 z, .int .i64 f, .int .i64 mo, .int .u64 r, .bool more]] w' (RetUpd [] w' (.int .i64 sz))) := fun w' => by
        rw [← hsz]; exact size21_any k o z f mo r more w'
      clear hq hSZ hsz
      by_cases hq0 : q = 0
      · have ta : (q == 0) = true := by simp [hq0]
        clear hq0
        go_wp2_with fail
        refine (mod_any k 2 (by omega) (by omega) _).mono ?_
        rintro e w4 ⟨rfl, rfl⟩
        rw [HQ.out]
        go_wp2_with fail
        refine (object21_any k o z f mo r more HR.out _).mono ?_
        rintro e w5 ⟨ob, fl, mo2, rr, rfl, hrr, hU5⟩
        have HU5 := Lib.hid hU5
        have HRR := Lib.hid hrr
        clear hU5 hrr
        go_wp2_with fail
        refine ((HP.out.upd HU5.out).1.wake HP.out.2 (by have := HN900.out; omega) ob fl mo2 rr HRR.out).mono ?_
        rintro e w6 ⟨rfl, F6, h6, -⟩
        obtain ⟨s6, hs6⟩ : ∃ x, wakeC s ob fl rr = x := ⟨_, rfl⟩
        have HK6 : Hid (KC W kb V (3 * i + 1) s6 F6 w6) := by rw [← hs6]; exact ⟨h6, HP.out.2.wake ob fl HRR.out⟩
        have HR6 : Hid (RS s6 v n) := by rw [← hs6]; exact HRS.out.wake HP.out.2 ob fl rr
        clear h6 hs6 c0 c1 c2 c3 c4 c5 c6
        go_wp2_with fail
        refine (HK6.out.1.items_ (by have := HK6.out.2.len; have := HN900.out; omega)).mono ?_
        rintro e wa ⟨aoa, capa, rfl, hR, hF, hU⟩
        have HKA := Lib.hid (HK6.out.upd hU)
        have hv1 := lt_false HR6.out.low
        have hv2 := lt_falseI HR6.out.low
        have hsv : Hid (s6.served = n) := HR6.out.srv
        have hns : ((n : Int) != (n : Int)) = false := by simp
        obtain ⟨sv, hsve⟩ : ∃ x, s6.v = x := ⟨_, rfl⟩
        rw [hsve] at hv1 hv2
        have HV : Hid (∀ w', Upd [] wa w' → Calls Tryz.prog 23 #[.pointer (some ⟨kb, 0, none⟩)] w' (fun e w'' => e = .returned (.int .u64 sv) ∧ w' = w'')) := fun w' hu => by rw [← hsve]; exact (HKA.out.upd hu).1.v_
        have HS : Hid (∀ w', Upd [] wa w' → Calls Tryz.prog 24 #[.pointer (some ⟨kb, 0, none⟩)] w' (fun e w'' => e = .returned (.int .i64 n) ∧ w' = w'')) := fun w' hu => by rw [← hsv.out]; exact (HKA.out.upd hu).1.served_
        have HSV := Lib.hid hsve
        rcases hL3 : s6.L with _ | ⟨x, l⟩
        · have t5 : decide ((0 : Int) < ((0 : Nat) : Int)) = false := by simp
          clear hR hF hU hsve hL3
          go_wp2_with fail
          go_quiet (first | (go_at_call 23; exact Calls.quiet_of_same ((HV.out _ ((Upd.refl [] wa).drewN _)).mono (fun _ _ h => ⟨h.1, h.2.symm⟩))) | (go_at_call 24; exact Calls.quiet_of_same ((HS.out _ ((Upd.refl [] wa).drewN _)).mono (fun _ _ h => ⟨h.1, h.2.symm⟩))))
          go_wp2_with fail
          refine (HV.out _ ((Upd.refl [] wa).drewN _)).mono ?_
          rintro e wz ⟨rfl, rfl⟩
          go_wp2
          exact ⟨⟨i + 1, sv, n, _, _, by congr 1, rfl, by first | rfl | congr 1, HI1.out, HN5.out, by rw [← HSV.out]; exact HR6.out.next, (HKA.out.upd ((Upd.refl [] wa).drewN _)).1, HKA.out.2.mono (by omega)⟩, inner_measR HLC.out⟩
        · obtain ⟨kx, hkx⟩ : ∃ q, kn x = q := ⟨_, rfl⟩
          have hx1 := HK6.out.1.keysL x (by rw [hL3]; simp)
          have hlow := HR6.out.ri.keys x (by rw [hL3]; simp)
          rw [hsve, hkx] at hlow
          have hx2 : x.1 = (kx : Int) := by rw [← hkx]; exact hx1.1
          rw [hL3] at hR
          obtain ⟨g, hg, hrow⟩ := hR.row (by simp)
          subst hg
          have y0 := hrow.cell (j := 0) (by rw [List.flatMap_cons]; rfl)
          rw [hx2] at y0
          have hrl := hrow.lt
          obtain ⟨nl, hnl⟩ : ∃ q, (x :: l).length = q := ⟨_, rfl⟩
          have hnl0 : 0 < nl := by rw [← hnl]; simp
          have t5 : decide (0 < nl) = true := by simp [hnl0]
          have t6 : decide ((0 : Int) < (nl : Int)) = true := by simp; omega
          have b5 : (0 : Int) < (nl : Int) := by omega
          have t7 := lt_false hlow
          have t8 := lt_falseI hlow
          rw [hnl]
          clear hR hF hU hsve hL3 hkx hx1 hlow hrow hnl
          go_wp2_with fail
          go_quiet (first | (go_at_call 23; exact Calls.quiet_of_same ((HV.out _ ((Upd.refl [] wa).drewN _)).mono (fun _ _ h => ⟨h.1, h.2.symm⟩))) | (go_at_call 24; exact Calls.quiet_of_same ((HS.out _ ((Upd.refl [] wa).drewN _)).mono (fun _ _ h => ⟨h.1, h.2.symm⟩))))
          go_wp2_with fail
          refine (HV.out _ ((Upd.refl [] wa).drewN _)).mono ?_
          rintro e wz ⟨rfl, rfl⟩
          go_wp2
          exact ⟨⟨i + 1, sv, n, _, _, by congr 1, rfl, by first | rfl | congr 1, HI1.out, HN5.out, by rw [← HSV.out]; exact HR6.out.next, (HKA.out.upd ((Upd.refl [] wa).drewN _)).1, HKA.out.2.mono (by omega)⟩, inner_measR HLC.out⟩
      · have ta : (q == 0) = false := by simp [hq0]
        clear hq0
        cases hL : s.L with
        | nil =>
          obtain ⟨hpv, hrs⟩ := HRS.out.none_ HP.out.2 hL
          have HPV := Lib.hid hpv
          go_wp2_with fail
          refine (mod_any k 2 (by omega) (by omega) _).mono ?_
          rintro e w4 ⟨rfl, rfl⟩
          rw [HQ.out]
          go_wp2_with fail
          refine HP.out.1.pick.mono ?_
          rintro e w6 ⟨rfl, F6, h6, -⟩
          rw [HPV.out]
          obtain ⟨s6, hs6⟩ : ∃ x, pickC s = x := ⟨_, rfl⟩
          have HK6 : Hid (KC W kb V (3 * i + 1) s6 F6 w6) := by rw [← hs6]; exact ⟨h6, HP.out.2.pick (by rw [hL]; intro x hx; cases hx)⟩
          have HR6 : Hid (RS s6 v n) := by rw [← hs6]; exact hrs
          clear h6 hs6 c0 c1 c2 c3 c4 c5 c6 hL hpv hrs
          go_wp2_with fail
          refine (HK6.out.1.items_ (by have := HK6.out.2.len; have := HN900.out; omega)).mono ?_
          rintro e wa ⟨aoa, capa, rfl, hR, hF, hU⟩
          have HKA := Lib.hid (HK6.out.upd hU)
          have hv1 := lt_false HR6.out.low
          have hv2 := lt_falseI HR6.out.low
          have hsv : Hid (s6.served = n) := HR6.out.srv
          have hns : ((n : Int) != (n : Int)) = false := by simp
          obtain ⟨sv, hsve⟩ : ∃ x, s6.v = x := ⟨_, rfl⟩
          rw [hsve] at hv1 hv2
          have HV : Hid (∀ w', Upd [] wa w' → Calls Tryz.prog 23 #[.pointer (some ⟨kb, 0, none⟩)] w' (fun e w'' => e = .returned (.int .u64 sv) ∧ w' = w'')) := fun w' hu => by rw [← hsve]; exact (HKA.out.upd hu).1.v_
          have HS : Hid (∀ w', Upd [] wa w' → Calls Tryz.prog 24 #[.pointer (some ⟨kb, 0, none⟩)] w' (fun e w'' => e = .returned (.int .i64 n) ∧ w' = w'')) := fun w' hu => by rw [← hsv.out]; exact (HKA.out.upd hu).1.served_
          have HSV := Lib.hid hsve
          rcases hL3 : s6.L with _ | ⟨x, l⟩
          · have t5 : decide ((0 : Int) < ((0 : Nat) : Int)) = false := by simp
            clear hR hF hU hsve hL3
            go_wp2_with fail
            go_quiet (first | (go_at_call 23; exact Calls.quiet_of_same ((HV.out _ ((Upd.refl [] wa).drewN _)).mono (fun _ _ h => ⟨h.1, h.2.symm⟩))) | (go_at_call 24; exact Calls.quiet_of_same ((HS.out _ ((Upd.refl [] wa).drewN _)).mono (fun _ _ h => ⟨h.1, h.2.symm⟩))))
            go_wp2_with fail
            refine (HV.out _ ((Upd.refl [] wa).drewN _)).mono ?_
            rintro e wz ⟨rfl, rfl⟩
            go_wp2
            exact ⟨⟨i + 1, sv, n, _, _, by congr 1, rfl, by first | rfl | congr 1, HI1.out, HN5.out, by rw [← HSV.out]; exact HR6.out.next, (HKA.out.upd ((Upd.refl [] wa).drewN _)).1, HKA.out.2.mono (by omega)⟩, inner_measR HLC.out⟩
          · obtain ⟨kx, hkx⟩ : ∃ q, kn x = q := ⟨_, rfl⟩
            have hx1 := HK6.out.1.keysL x (by rw [hL3]; simp)
            have hlow := HR6.out.ri.keys x (by rw [hL3]; simp)
            rw [hsve, hkx] at hlow
            have hx2 : x.1 = (kx : Int) := by rw [← hkx]; exact hx1.1
            rw [hL3] at hR
            obtain ⟨g, hg, hrow⟩ := hR.row (by simp)
            subst hg
            have y0 := hrow.cell (j := 0) (by rw [List.flatMap_cons]; rfl)
            rw [hx2] at y0
            have hrl := hrow.lt
            obtain ⟨nl, hnl⟩ : ∃ q, (x :: l).length = q := ⟨_, rfl⟩
            have hnl0 : 0 < nl := by rw [← hnl]; simp
            have t5 : decide (0 < nl) = true := by simp [hnl0]
            have t6 : decide ((0 : Int) < (nl : Int)) = true := by simp; omega
            have b5 : (0 : Int) < (nl : Int) := by omega
            have t7 := lt_false hlow
            have t8 := lt_falseI hlow
            rw [hnl]
            clear hR hF hU hsve hL3 hkx hx1 hlow hrow hnl
            go_wp2_with fail
            go_quiet (first | (go_at_call 23; exact Calls.quiet_of_same ((HV.out _ ((Upd.refl [] wa).drewN _)).mono (fun _ _ h => ⟨h.1, h.2.symm⟩))) | (go_at_call 24; exact Calls.quiet_of_same ((HS.out _ ((Upd.refl [] wa).drewN _)).mono (fun _ _ h => ⟨h.1, h.2.symm⟩))))
            go_wp2_with fail
            refine (HV.out _ ((Upd.refl [] wa).drewN _)).mono ?_
            rintro e wz ⟨rfl, rfl⟩
            go_wp2
            exact ⟨⟨i + 1, sv, n, _, _, by congr 1, rfl, by first | rfl | congr 1, HI1.out, HN5.out, by rw [← HSV.out]; exact HR6.out.next, (HKA.out.upd ((Upd.refl [] wa).drewN _)).1, HKA.out.2.mono (by omega)⟩, inner_measR HLC.out⟩
        | cons x l =>
          obtain ⟨⟨po, pp, hpv⟩, hpis, hrs⟩ := HRS.out.serve HP.out.2 HP.out.1.keysL hL
          have HPV := Lib.hid hpv
          go_wp2_with fail
          refine (mod_any k 2 (by omega) (by omega) _).mono ?_
          rintro e w4 ⟨rfl, rfl⟩
          rw [HQ.out]
          go_wp2_with fail
          refine HP.out.1.pick.mono ?_
          rintro e w5 ⟨rfl, F5, h5, hF5⟩
          rw [HPV.out]
          obtain ⟨s5, hs5⟩ : ∃ x, pickC s = x := ⟨_, rfl⟩
          rw [hs5] at h5 hpis hrs
          have HK5 : Hid (KC W kb V (3 * i + 1) s5 F5 w5) := ⟨h5, by rw [← hs5]; exact HP.out.2.pick (fun x hx => (HP.out.1.keysL x hx).2)⟩
          have HIS := Lib.hid hpis
          have HR5 := Lib.hid (hrs sz more)
          clear h5 hs5 hL hpv hrs hpis
          have hnf : bd ∉ F := fun e => by have := HP.out.1.newB bd e; have := HBW.out; omega
          have e0 := (hF5.2.cell lbd hnf (off + i * 7)).trans c0
          have e1 := (hF5.2.cell lbd hnf (off + i * 7 + 1)).trans c1
          have e2 := (hF5.2.cell lbd hnf (off + i * 7 + 2)).trans c2
          have e3 := (hF5.2.cell lbd hnf (off + i * 7 + 3)).trans c3
          have e4 := (hF5.2.cell lbd hnf (off + i * 7 + 4)).trans c4
          have e5 := (hF5.2.cell lbd hnf (off + i * 7 + 5)).trans c5
          have e6 := (hF5.2.cell lbd hnf (off + i * 7 + 6)).trans c6
          have lb5 := Nat.lt_of_lt_of_le lbd hF5.2.size
          have hnf5 := hF5.far lbd hnf
          obtain ⟨s6, hs6⟩ : ∃ x, doneC s5 sz more = x := ⟨_, rfl⟩
          rw [hs6] at HR5
          have HC6 : Hid (CI s6 (3 * i + 2)) := by rw [← hs6]; exact HK5.out.2.done sz more
          have HDK : Hid (∀ w', Upd [] w5 w' → Calls Tryz.prog 14 #[.pointer (some ⟨kb, 0, none⟩), .int .i64 sz, .bool more] w' (fun e w'' => e = .returned (.bool true) ∧ KGTo W kb V s6 F5 w' w'')) := fun w' hu => by
            have := (HK5.out.upd hu).1.done HK5.out.2 (by have := HN900.out; omega) sz HSB.out more
            rw [HIS.out, hs6] at this; exact this
          have HDK2 : Hid (∀ w'' F6, KG W kb V s6 F6 w'' → Calls Tryz.prog 14 #[.pointer (some ⟨kb, 0, none⟩), .int .i64 sz, .bool more] w'' (fun e w4 => e = .returned (.bool false) ∧ KGTo W kb V s6 F6 w'' w4)) := fun w'' F6 hk => by
            have := hk.done HC6.out (by have := HN900.out; omega) sz HSB.out more
            rw [HR5.out.idle, done_idle HR5.out.idle] at this; exact this
          obtain ⟨n1, hn1⟩ : ∃ x, n + 1 = x := ⟨_, rfl⟩
          have hn1i : (n : Int) + 1 = (n1 : Int) := by omega
          rw [hn1] at HR5
          have HN5 : Hid (n1 ≤ i + 1) := by unfold Hid; have := HNI.out; omega
          have HN1 := Lib.hid hn1i
          clear c0 c1 c2 c3 c4 c5 c6 hs6 hF5 hnf hn1 hn1i
          have tok : True := trivial
          have tok2 : True := trivial
          go_wp2_with fail
          rw [HN1.out]
          go_region_held3 (fun w2 => Upd F5 w5 w2 ∧ ∀ (b o : Nat), b < w5.heap.size → b ∉ F5 → w2.cell? ⟨b, o, none⟩ = w5.cell? ⟨b, o, none⟩)
            (first | exact Held.init _ _ | exact Held.more (by assumption) hBd hTd | exact Held.step (by assumption) hBc | exact Held.step (by assumption) hBb | exact Held.step (by assumption) hBa)
            (first | (go_at_call 20; have tk := tok; clear tok; refine (HSZ.out _).mono ?_; rintro e w6 ⟨rfl, h6⟩; have H6 := Lib.hid h6; have hBa := h6.nil (S := F5); clear h6) | (go_at_call 14; have tk2 := tok2; clear tok2; refine (HDK.out _ ((Upd.refl [] w5).drew.trans H6.out)).mono ?_; rintro e w7 ⟨rfl, F7, h7, hF7⟩; have H7 := Lib.hid h7; have HF7 := Lib.hid hF7; have hBb := hF7.2; clear h7 hF7) | (go_at_call 20; refine (HSZ.out _).mono ?_; rintro e w8 ⟨rfl, h8⟩; have H8 := Lib.hid h8; have hBc := h8.nil (S := F5); clear h8) | (go_at_call 14; refine (HDK2.out _ F7 (H7.out.upd H8.out)).mono ?_; rintro e w9 ⟨rfl, F9, h9, hF9⟩; have H9 := Lib.hid h9; have hBd := hF9.2; have hTd : ∀ c ∈ F7, c ∈ F5 ∨ w5.heap.size ≤ c := fun c hc => (HF7.out.1 c hc).imp id (fun e => by have := H6.out.size; simp at this; omega); clear h9 hF9))
          have HK6 : Hid (KC W kb V (3 * i + 2) s6 F9 w9) := ⟨H9.out, HC6.out⟩
          clear e0 e1 e2 e3 e4 e5 e6
          go_wp2_with fail
          refine (HK6.out.1.items_ (by have := HK6.out.2.len; have := HN900.out; omega)).mono ?_
          rintro e wa ⟨aoa, capa, rfl, hR, hF, hU⟩
          have HKA := Lib.hid (HK6.out.upd hU)
          have hv1 := lt_false HR5.out.low
          have hv2 := lt_falseI HR5.out.low
          have hsv : Hid (s6.served = n1) := HR5.out.srv
          have hns : ((n1 : Int) != (n1 : Int)) = false := by simp
          obtain ⟨sv, hsve⟩ : ∃ x, s6.v = x := ⟨_, rfl⟩
          rw [hsve] at hv1 hv2
          have HV : Hid (∀ w', Upd [] wa w' → Calls Tryz.prog 23 #[.pointer (some ⟨kb, 0, none⟩)] w' (fun e w'' => e = .returned (.int .u64 sv) ∧ w' = w'')) := fun w' hu => by rw [← hsve]; exact (HKA.out.upd hu).1.v_
          have HS : Hid (∀ w', Upd [] wa w' → Calls Tryz.prog 24 #[.pointer (some ⟨kb, 0, none⟩)] w' (fun e w'' => e = .returned (.int .i64 n1) ∧ w' = w'')) := fun w' hu => by rw [← hsv.out]; exact (HKA.out.upd hu).1.served_
          have HSV := Lib.hid hsve
          rcases hL3 : s6.L with _ | ⟨x, l⟩
          · have t5 : decide ((0 : Int) < ((0 : Nat) : Int)) = false := by simp
            clear hR hF hU hsve hL3
            go_wp2_with fail
            go_quiet (first | (go_at_call 23; exact Calls.quiet_of_same ((HV.out _ ((Upd.refl [] wa).drewN _)).mono (fun _ _ h => ⟨h.1, h.2.symm⟩))) | (go_at_call 24; exact Calls.quiet_of_same ((HS.out _ ((Upd.refl [] wa).drewN _)).mono (fun _ _ h => ⟨h.1, h.2.symm⟩))))
            go_wp2_with fail
            refine (HV.out _ ((Upd.refl [] wa).drewN _)).mono ?_
            rintro e wz ⟨rfl, rfl⟩
            go_wp2
            exact ⟨⟨i + 1, sv, n1, _, _, by congr 1, rfl, by first | rfl | congr 1, HI1.out, HN5.out, by rw [← HSV.out]; exact HR5.out.next, (HKA.out.upd ((Upd.refl [] wa).drewN _)).1, HKA.out.2.mono (by omega)⟩, inner_measR HLC.out⟩
          · obtain ⟨kx, hkx⟩ : ∃ q, kn x = q := ⟨_, rfl⟩
            have hx1 := HK6.out.1.keysL x (by rw [hL3]; simp)
            have hlow := HR5.out.ri.keys x (by rw [hL3]; simp)
            rw [hsve, hkx] at hlow
            have hx2 : x.1 = (kx : Int) := by rw [← hkx]; exact hx1.1
            rw [hL3] at hR
            obtain ⟨g, hg, hrow⟩ := hR.row (by simp)
            subst hg
            have y0 := hrow.cell (j := 0) (by rw [List.flatMap_cons]; rfl)
            rw [hx2] at y0
            have hrl := hrow.lt
            obtain ⟨nl, hnl⟩ : ∃ q, (x :: l).length = q := ⟨_, rfl⟩
            have hnl0 : 0 < nl := by rw [← hnl]; simp
            have t5 : decide (0 < nl) = true := by simp [hnl0]
            have t6 : decide ((0 : Int) < (nl : Int)) = true := by simp; omega
            have b5 : (0 : Int) < (nl : Int) := by omega
            have t7 := lt_false hlow
            have t8 := lt_falseI hlow
            rw [hnl]
            clear hR hF hU hsve hL3 hkx hx1 hlow hrow hnl
            go_wp2_with fail
            go_quiet (first | (go_at_call 23; exact Calls.quiet_of_same ((HV.out _ ((Upd.refl [] wa).drewN _)).mono (fun _ _ h => ⟨h.1, h.2.symm⟩))) | (go_at_call 24; exact Calls.quiet_of_same ((HS.out _ ((Upd.refl [] wa).drewN _)).mono (fun _ _ h => ⟨h.1, h.2.symm⟩))))
            go_wp2_with fail
            refine (HV.out _ ((Upd.refl [] wa).drewN _)).mono ?_
            rintro e wz ⟨rfl, rfl⟩
            go_wp2
            exact ⟨⟨i + 1, sv, n1, _, _, by congr 1, rfl, by first | rfl | congr 1, HI1.out, HN5.out, by rw [← HSV.out]; exact HR5.out.next, (HKA.out.upd ((Upd.refl [] wa).drewN _)).1, HKA.out.2.mono (by omega)⟩, inner_measR HLC.out⟩
    · skip
      have t1 : Hid (decide (i < m) = true ∧ decide ((i : Int) < 80) = false ∨ decide (i < m) = false) := by
        have := HC.out
        unfold Hid
        by_cases h : i < m
        · left; exact ⟨by simp; omega, by simp; omega⟩
        · right; simp; omega
      rcases t1.out with ⟨t2, t3⟩ | t2
      all_goals
        clear t1
        go_wp2
        go_ret
        exact ⟨rfl, HP.out.updW⟩
end Go.Proofs.YtolohheflbmfaaaGreatDoor

/-! Cp -/
namespace Go.Proofs.YtolohheflbmfaaaGreatDoor

def updN {α : Type} (f : Nat → α) (k : Nat) (x : α) : Nat → α := fun j => if j = k then x else f j
theorem updN_same {α : Type} (f : Nat → α) (k : Nat) (x : α) : updN f k x k = x := by unfold updN; rw [if_pos rfl]
theorem updN_other {α : Type} (f : Nat → α) {k j : Nat} (x : α) (h : j ≠ k) : updN f k x j = f j := by unfold updN; rw [if_neg h]
theorem hasI_ins (x : It) (L : List It) (id : Int) : hasI (insI x L) id = (decide (x.2 = id) || hasI L id) := by
  rw [hasI_perm (insI_perm x L)]
  unfold hasI
  rw [List.any_cons]
  by_cases h : x.2 = id <;> simp [h]
theorem hasI_tail {L : List It} (hn : NdI L) {x : It} {l : List It} (hL : L = x :: l) (id : Int) : hasI l id = (hasI L id && !decide (x.2 = id)) := by
  subst hL
  unfold NdI at hn
  rw [List.map_cons, List.nodup_cons] at hn
  by_cases h : x.2 = id
  · have : hasI l id = false := by
      rw [hasI_no]; intro y hy e
      exact hn.1 (by rw [h, ← e]; exact List.mem_map_of_mem hy)
    simp [h, this]
  · unfold hasI; rw [List.any_cons]; simp [h]
theorem mem_tail {L : List It} {x y : It} {l : List It} (hL : L = x :: l) (h : y ∈ l) : y ∈ L := by rw [hL]; simp [h]
structure PI (s : CS) (nn : Nat → Nat) (inn : Nat → Bool) : Prop where
  ri : RI s
  idle : s.is = false
  place : ∀ j : Nat, j < 6 → (s.th j).place = nn j
  has : ∀ j : Nat, j < 6 → hasI s.L (10 + j) = inn j
  only : ∀ x ∈ s.L, ∃ j : Nat, j < 6 ∧ x.2 = 10 + j
  own : ∀ j : Nat, j < 6 → inn j = true → s.ow (10 + j) = j ∧ (s.th j).flow = 10 + j
theorem PI.new (m : Nat) : PI (newC m) (fun _ => 0) (fun _ => false) := ⟨RI.new m, rfl, fun _ _ => rfl, fun _ _ => rfl, fun _ hx => (by cases hx), fun _ _ h => (by cases h)⟩
theorem PI.wake {s : CS} {n : Nat} {nn : Nat → Nat} {inn : Nat → Bool} (h : PI s nn inn) (hci : CI s n) {j : Nat} (hj : j < 6) (hin : inn j = false) (r : Nat) :
    wakeB s j (10 + j) = true ∧ PI (wakeC s j (10 + j) r) nn (updN inn j true) := by
  have hb : wakeB s j (10 + j) = true := by
    unfold wakeB
    rw [h.ri.take hci (by unfold wakeK; omega) (by omega), h.has j hj, hin]; rfl
  have hb2 : takeQ s.M (wakeK s j) (10 + j) = true := hb
  refine ⟨hb, h.ri.wake hci _ _ _, ?_, fun i hi => ?_, fun i hi => ?_, fun x hx => ?_, fun i hi hi2 => ?_⟩
  · unfold wakeC; rw [if_pos hb]; exact h.idle
  · unfold wakeC; rw [if_pos hb]; simp only [updI]
    split
    · rename_i e; have e2 : i = j := by omega
      subst e2; exact h.place i hi
    · exact h.place i hi
  · unfold wakeC; rw [if_pos hb]
    show hasI (pushL s.M s.L (wakeK s j) (10 + j)) (10 + i) = _
    unfold pushL; rw [if_pos hb2, hasI_ins, h.has i hi]
    by_cases e : i = j
    · subst e; rw [updN_same]; simp
    · rw [updN_other _ _ e]
      have : ¬ ((10 : Int) + j = 10 + i) := by omega
      simp [this]
  · unfold wakeC at hx; rw [if_pos hb] at hx
    have hx' : x ∈ pushL s.M s.L (wakeK s j) (10 + j) := hx
    unfold pushL at hx'; rw [if_pos hb2] at hx'
    rcases List.mem_cons.1 ((insI_perm _ _).mem_iff.1 hx') with rfl | hx'
    · exact ⟨j, hj, rfl⟩
    · exact h.only x hx'
  · unfold wakeC; rw [if_pos hb]; simp only [updI]
    by_cases e : i = j
    · subst e; simp
    · rw [updN_other _ _ e] at hi2
      have e1 : ¬ ((10 : Int) + i = 10 + j) := by omega
      have e2 : ¬ ((i : Int) = j) := by omega
      rw [if_neg e1, if_neg e2]
      exact h.own i hi hi2
theorem PI.serve {s : CS} {n : Nat} {nn : Nat → Nat} {inn : Nat → Bool} (h : PI s nn inn) (hci : CI s n) (hk : ∀ x ∈ s.L, x.1 = (kn x : Int) ∧ kn x < 18446744073709551616) {j0 : Nat} (hj0 : j0 < 6) (hin : inn j0 = true) :
    ∃ j : Nat, j < 6 ∧ inn j = true ∧ pickV s = .tuple #[.int .i64 j, .int .u64 (nn j), .bool true] ∧ (pickC s).is = true ∧ ∀ size more, PI (doneC (pickC s) size more) (updN nn j (nn j + 1)) (updN inn j more) := by
  have h1 := (hasI_iff _ _).1 ((h.has j0 hj0).trans hin)
  cases hL : s.L with
  | nil => rw [hL] at h1; obtain ⟨x, hx, _⟩ := h1; cases hx
  | cons x l =>
    obtain ⟨j, hj, hxj⟩ := h.only x (by rw [hL]; simp)
    have hinj : inn j = true := by rw [← h.has j hj, hasI_iff]; exact ⟨x, by rw [hL]; simp, hxj⟩
    obtain ⟨how, hfl⟩ := h.own j hj hinj
    have hpk := h.ri.pick hci (fun x hx => (hk x hx).1)
    have hcp := hci.pick (fun x hx => (hk x hx).2)
    refine ⟨j, hj, hinj, ?_, ?_, fun size more => ?_⟩
    · unfold pickV; rw [hL]; simp only; rw [hxj, how, h.place j hj]
    · rw [pickC_cons hL]
    · have hkey : (pickC s).v ≤ (pickC s).key := by rw [pickC_cons hL]; exact Nat.le_refl _
      have hri := hpk.1.done hcp hkey size more
      have his : (pickC s).is = true := by rw [pickC_cons hL]
      have hobj : (pickC s).obj = j := by rw [pickC_cons hL]; simp only; rw [hxj, how]
      have hth : (pickC s).th = s.th := by rw [pickC_cons hL]
      have howp : (pickC s).ow = s.ow := by rw [pickC_cons hL]
      have hLp : (pickC s).L = l := by rw [pickC_cons hL, hL]; rfl
      have hf : (doneT (pickC s) size).flow = 10 + j := by unfold doneT; rw [hth, hobj, hfl]
      have hpl : (doneT (pickC s) size).place = nn j + 1 := by unfold doneT; rw [hth, hobj, h.place j hj]
      have hnl : hasI l (10 + j) = false := by rw [hasI_tail hci.ok.nd hL]; simp [hxj]
      have htk : takeQ (pickC s).M (doneT (pickC s) size).finish (10 + j) = true := by
        have hfin : (pickC s).v ≤ (doneT (pickC s) size).finish := by
          have := addT_ge (b := mulT (sizeN size) ((pickC s).th (pickC s).obj).r) hcp.k64
          show _ ≤ addT _ _
          omega
        rw [hpk.1.take hcp hfin (by omega), hLp, hnl]; rfl
      have hdL : (doneC (pickC s) size more).L = if more = true then insI (((doneT (pickC s) size).finish : Int), 10 + (j : Int)) l else l := by
        unfold doneC; rw [if_pos his]
        cases more
        · simp only [Bool.false_eq_true, if_false]; exact hLp
        · simp only [if_true]
          show pushL (pickC s).M (pickC s).L (doneT (pickC s) size).finish (doneT (pickC s) size).flow = _
          rw [hf]; unfold pushL; rw [if_pos htk, hLp]
      have hdth : (doneC (pickC s) size more).th = updI s.th j (doneT (pickC s) size) := by unfold doneC; rw [if_pos his]; simp only; rw [hth, hobj]
      have hdow : (doneC (pickC s) size more).ow = s.ow := by unfold doneC; rw [if_pos his]; exact howp
      refine ⟨hri.1, ?_, fun i hi => ?_, fun i hi => ?_, fun y hy => ?_, fun i hi hi2 => ?_⟩
      · unfold doneC; rw [if_pos his]
      · rw [hdth]; unfold updI
        by_cases e : i = j
        · subst e; rw [if_pos rfl, updN_same, hpl]
        · rw [if_neg (by omega), updN_other _ _ e]; exact h.place i hi
      · rw [hdL]
        have h3 := hasI_tail hci.ok.nd hL (10 + (i : Int))
        rw [h.has i hi, hxj] at h3
        by_cases e : i = j
        · subst e; rw [updN_same]
          cases more
          · simp only [Bool.false_eq_true, if_false]; exact hnl
          · simp only [if_true]; rw [hasI_ins]; simp
        · rw [updN_other _ _ e]
          have e1 : ¬ ((10 : Int) + j = 10 + i) := by omega
          have e2 : hasI l (10 + (i : Int)) = inn i := by rw [h3]; simp [e1]
          cases more
          · simp only [Bool.false_eq_true, if_false]; exact e2
          · simp only [if_true]; rw [hasI_ins, e2]; simp [e1]
      · rw [hdL] at hy
        have hin2 : y ∈ l ∨ y = (((doneT (pickC s) size).finish : Int), 10 + (j : Int)) := by
          cases more
          · simp only [Bool.false_eq_true, if_false] at hy; exact .inl hy
          · simp only [if_true] at hy
            rcases List.mem_cons.1 ((insI_perm _ _).mem_iff.1 hy) with rfl | hy
            · exact .inr rfl
            · exact .inl hy
        rcases hin2 with hy | rfl
        · exact h.only y (mem_tail hL hy)
        · exact ⟨j, hj, rfl⟩
      · rw [hdth, hdow]; unfold updI
        by_cases e : i = j
        · subst e; rw [if_pos rfl]; exact ⟨how, hf⟩
        · rw [updN_other _ _ e] at hi2
          rw [if_neg (by omega)]; exact h.own i hi hi2
end Go.Proofs.YtolohheflbmfaaaGreatDoor

/-! Cx -/
namespace Go.Proofs.YtolohheflbmfaaaGreatDoor
open Go.RowKit

def numsV (nn : Nat → Nat) : List Value := [.int .u64 (nn 0), .int .u64 (nn 1), .int .u64 (nn 2), .int .u64 (nn 3), .int .u64 (nn 4), .int .u64 (nn 5)]
def truthsV (b : Nat → Bool) : List Value := [.bool (b 0), .bool (b 1), .bool (b 2), .bool (b 3), .bool (b 4), .bool (b 5)]
theorem six_cases {j : Nat} (h : j < 6) : j = 0 ∨ j = 1 ∨ j = 2 ∨ j = 3 ∨ j = 4 ∨ j = 5 := by omega
theorem numsV_at (nn : Nat → Nat) {j : Nat} (h : j < 6) : (numsV nn)[j]? = some (.int .u64 (nn j)) := by
  rcases six_cases h with rfl | rfl | rfl | rfl | rfl | rfl <;> rfl
theorem truthsV_at (b : Nat → Bool) {j : Nat} (h : j < 6) : (truthsV b)[j]? = some (.bool (b j)) := by
  rcases six_cases h with rfl | rfl | rfl | rfl | rfl | rfl <;> rfl
theorem numsV_set (nn : Nat → Nat) {j : Nat} (h : j < 6) (x : Nat) : (numsV nn).set j (.int .u64 x) = numsV (updN nn j x) := by
  rcases six_cases h with rfl | rfl | rfl | rfl | rfl | rfl <;> rfl
theorem truthsV_set (b : Nat → Bool) {j : Nat} (h : j < 6) (x : Bool) : (truthsV b).set j (.bool x) = truthsV (updN b j x) := by
  rcases six_cases h with rfl | rfl | rfl | rfl | rfl | rfl <;> rfl

/-- The two rows of the law, and the one who serves. -/
structure PlAt (W : World) (kb V nb ib m : Nat) (s : CS) (F : List Nat) (nn : Nat → Nat) (inn : Nat → Bool) (w : World) : Prop where
  kc : KC W kb V m s F w
  nums : Blk w nb 31 (numsV nn)
  ins : Blk w ib 32 (truthsV inn)
  pi : PI s nn inn
  ne : nb ≠ ib
  f1 : nb ∉ F
  f2 : ib ∉ F
  w1 : W.heap.size ≤ nb
  w2 : W.heap.size ≤ ib
section
variable {W w w' : World} {kb V nb ib m : Nat} {s s' : CS} {F : List Nat} {nn : Nat → Nat} {inn : Nat → Bool}
theorem PlAt.upd (h : PlAt W kb V nb ib m s F nn inn w) (hu : Upd [] w w') : PlAt W kb V nb ib m s F nn inn w' :=
  { h with kc := h.kc.upd hu, nums := h.nums.upd hu (by simp), ins := h.ins.upd hu (by simp) }
theorem PlAt.updW (h : PlAt W kb V nb ib m s F nn inn w) : Upd [] W w := h.kc.updW

/-- A deed of the one who serves. -/
theorem PlAt.deed {nn' : Nat → Nat} {inn' : Nat → Bool} (h : PlAt W kb V nb ib m s F nn inn w) {F' : List Nat} (hk : KG W kb V s' F' w') (hf : Fr F F' w w') {m' : Nat} (hc : CI s' m') (hn : nn' = nn) (hi : inn' = inn) (hp : PI s' nn' inn') : PlAt W kb V nb ib m' s' F' nn' inn' w' := by
  subst hn hi
  exact { kc := ⟨hk, hc⟩, nums := h.nums.upd hf.2 h.f1, ins := h.ins.upd hf.2 h.f2, pi := hp, ne := h.ne, f1 := hf.far h.nums.lt h.f1, f2 := hf.far h.ins.lt h.f2, w1 := h.w1, w2 := h.w2 }
theorem PlAt.fin {w6 : World} {s6 : CS} {F6 : List Nat} {jj x : Nat} {b : Bool} (hk : KG W kb V s6 F6 w6) (hc : CI s6 m) (hn : Blk w6 nb 31 (numsV nn)) (hi : Blk w6 ib 32 (truthsV inn)) (ne : nb ≠ ib) (f1 : nb ∉ F6) (f2 : ib ∉ F6) (w1 : W.heap.size ≤ nb) (w2 : W.heap.size ≤ ib)
    (hj : jj < 6) (hp : PI s6 (updN nn jj x) (updN inn jj b)) :
    PlAt W kb V nb ib m s6 F6 (updN nn jj x) (updN inn jj b) ((w6.setCell ⟨nb, jj, none⟩ (.int .u64 x)).setCell ⟨ib, jj, none⟩ (.bool b)) := by
  have u1 : Upd [nb] w6 (w6.setCell ⟨nb, jj, none⟩ (.int .u64 x)) := (Upd.refl [nb] w6).setCell (.inl (by simp)) _
  have u2 : Upd [ib] (w6.setCell ⟨nb, jj, none⟩ (.int .u64 x)) ((w6.setCell ⟨nb, jj, none⟩ (.int .u64 x)).setCell ⟨ib, jj, none⟩ (.bool b)) := (Upd.refl [ib] _).setCell (.inl (by simp)) _
  have h1 := (hn.set jj (.int .u64 x)).upd u2 (by simpa using ne)
  rw [numsV_set nn hj] at h1
  have h2 := (hi.upd u1 (by simpa using ne.symm)).set jj (.bool b)
  rw [truthsV_set inn hj] at h2
  refine { kc := ⟨(hk.updS u1 (fun c hc e => ?_) (fun c hc => ?_)).updS u2 (fun c hc e => ?_) (fun c hc => ?_), hc⟩, nums := h1, ins := h2, pi := hp, ne := ne, f1 := f1, f2 := f2, w1 := w1, w2 := w2 }
  · simp only [List.mem_cons, List.not_mem_nil, or_false] at e; exact f1 (e ▸ hc)
  · simp only [List.mem_cons, List.not_mem_nil, or_false] at hc; omega
  · simp only [List.mem_cons, List.not_mem_nil, or_false] at e; exact f2 (e ▸ hc)
  · simp only [List.mem_cons, List.not_mem_nil, or_false] at hc; omega

/-- One who is woken: his truth is set ahead of it. -/
theorem PlAt.mark {j : Nat} (h : PlAt W kb V nb ib m s F nn inn w) (hj : j < 6) (b : Bool) : KC W kb V m s F (w.setCell ⟨ib, j, none⟩ (.bool b)) ∧ Blk (w.setCell ⟨ib, j, none⟩ (.bool b)) nb 31 (numsV nn) ∧ Blk (w.setCell ⟨ib, j, none⟩ (.bool b)) ib 32 (truthsV (updN inn j b)) ∧ Upd [ib] w (w.setCell ⟨ib, j, none⟩ (.bool b)) := by
  have u2 : Upd [ib] w (w.setCell ⟨ib, j, none⟩ (.bool b)) := (Upd.refl [ib] _).setCell (.inl (by simp)) _
  have h2 := h.ins.set j (.bool b)
  rw [truthsV_set inn hj] at h2
  refine ⟨⟨h.kc.1.updS u2 (fun c hc e => ?_) (fun c hc => ?_), h.kc.2⟩, h.nums.upd u2 (by simpa using h.ne), h2, u2⟩
  · simp only [List.mem_cons, List.not_mem_nil, or_false] at e; exact h.f2 (e ▸ hc)
  · simp only [List.mem_cons, List.not_mem_nil, or_false] at hc; have := h.w2; omega
end
def CPlacesAt (W : World) (kb V nb ib c : Nat) (iv : Value) (wr : World) : Prop :=
  ∃ (i : Nat) (s : CS) (F : List Nat) (nn : Nat → Nat) (inn : Nat → Bool), iv = .int .i64 i ∧ i ≤ c ∧ (∀ j, j < 6 → nn j ≤ i) ∧ PlAt W kb V nb ib (3 * i) s F nn inn wr

set_option maxRecDepth 100000 in
set_option maxHeartbeats 64000000 in
theorem cplaces_walk (sh sl wo wd : Int) (un : Nat) (v : Value) (m : Nat) (D : Nat → Nat → Value) (W : World) (hT : TabAt 0 Lib.deBruijn64tab W) (_ : un < 18446744073709551616) (hv : ActRow W v m D) :
    Calls Tryz.prog 3 #[.agg #[.int .i64 sh, .int .i64 sl, .int .i64 wo, .int .i64 wd, .int .u64 un], v] W (RetUpd [] W (.bool true)) := by
  obtain ⟨ao, cap, rfl, hmm, hD⟩ := act_cells hv
  unfold maxLen at hmm
  have HD := Lib.hid hD
  have HT := Lib.hid hT
  clear hD hv hT
  obtain ⟨c, hc⟩ : ∃ c : Nat, Min.min m 80 = c := ⟨_, rfl⟩
  have hcm : c ≤ m := by omega
  have hc40 : c ≤ 80 := by omega
  have HC : Hid (Min.min m 80 = c) := hc
  clear hc
  go_enter Tryz.func3, Tryz.ntmps3
  go_wp2_with fail
  refine (made21_any W sh sl wo wd un _ ((Upd.refl [] W).alloc _) HT.out).mono ?_
  rintro e1 w1 ⟨kb, xb, V, m0, F0, G0, rfl, hP, -, -⟩
  have HP1 : Hid (KC W kb V 0 (newC m0) F0 w1) := ⟨hP.1, hP.2.2.1⟩
  clear hP
  go_wp2_with fail
  refine (awake21_any _ (tab_upd HT.out HP1.out.updW)).mono ?_
  rintro e w2 ⟨rfl, hU⟩
  have HP2 := Lib.hid (HP1.out.upd hU)
  clear hU HP1
  go_wp2_with fail
  have HP3 : Hid (PlAt W kb V w2.heap.size (w2.heap.size + 1) 0 (newC m0) F0 (fun _ => 0) (fun _ => false) ((w2.alloc (.cells #[.int .u64 0, .int .u64 0, .int .u64 0, .int .u64 0, .int .u64 0, .int .u64 0] 31)).alloc (.cells #[.bool false, .bool false, .bool false, .bool false, .bool false, .bool false] 32))) := by
    have hu : Upd [] w2 (w2.alloc (.cells #[.int .u64 0, .int .u64 0, .int .u64 0, .int .u64 0, .int .u64 0, .int .u64 0] 31)) := (Upd.refl [] w2).alloc _
    have hu2 : Upd [] (w2.alloc (.cells #[.int .u64 0, .int .u64 0, .int .u64 0, .int .u64 0, .int .u64 0, .int .u64 0] 31)) ((w2.alloc (.cells #[.int .u64 0, .int .u64 0, .int .u64 0, .int .u64 0, .int .u64 0, .int .u64 0] 31)).alloc (.cells #[.bool false, .bool false, .bool false, .bool false, .bool false, .bool false] 32)) := (Upd.refl [] _).alloc _
    have hs := HP2.out.updW.size
    have hl := HP2.out.1.lt
    exact { kc := HP2.out.upd (hu.trans hu2), nums := (Blk.new w2 31 (numsV (fun _ => 0))).upd hu2 (by simp), ins := by rw [show w2.heap.size + 1 = (w2.alloc (.cells #[.int .u64 0, .int .u64 0, .int .u64 0, .int .u64 0, .int .u64 0, .int .u64 0] 31)).heap.size by simp]; exact Blk.new _ 32 (truthsV (fun _ => false)), pi := PI.new m0, ne := by omega, f1 := fun e => by (have := hl _ e; omega), f2 := fun e => by (have := hl _ e; omega), w1 := hs, w2 := by omega }
  obtain ⟨nb, hnb⟩ : ∃ x, w2.heap.size = x := ⟨_, rfl⟩
  obtain ⟨ib, hib⟩ : ∃ x, w2.heap.size + 1 = x := ⟨_, rfl⟩
  rw [hib] at HP3 ⊢
  rw [hnb] at HP3 ⊢
  clear HP2 hnb hib
  go_wp2_with fail
  go_loopw [9] (fun iv wr => CPlacesAt W kb V nb ib c iv wr) (fun iv _ => c - (intOf iv).toNat)
  case atStart => exact ⟨0, _, _, _, _, rfl, Nat.zero_le _, fun _ _ => Nat.le_refl _, HP3.out⟩
  case round =>
    clear HP3
    obtain ⟨i, s, F, nn, inn, rfl, hi, hni, hP⟩ := hrel
    have HP := Lib.hid hP
    have HNI := Lib.hid hni
    clear hP hni
    by_cases hlt : i < c
    · skip
      rcases HD.out with h0 | ⟨bd, off, rfl, hb1, hcc⟩
      · omega
      obtain ⟨k, o, z, f, mo, r, more, c0, c1, c2, c3, c4, c5, c6, hz, hr⟩ := hcc i (by omega)
      have hUW := HP.out.updW
      rw [← hUW.cell hb1 (by simp)] at c0 c1 c2 c3 c4 c5 c6
      have lbd := Nat.lt_of_lt_of_le hb1 hUW.size
      have him : i < m := by omega
      have t1 : decide (i < m) = true := by simp; omega
      have t2 : decide ((i : Int) < 80) = true := by simp; omega
      have b1 : (i : Int) < (m : Int) := by omega
      have HZ := Lib.hid hz
      have HR := Lib.hid hr
      have HBW := Lib.hid hb1
      have HLC := Lib.hid hlt
      have HI1 : Hid (i + 1 ≤ c) := hlt
      have HI80 : Hid (i + 1 ≤ 100) := by unfold Hid; omega
      clear hcc hb1 hz hr hUW
      have HN900 : Hid (3 * i + 3 < 900) := by unfold Hid; omega
      have hjb := modI_bd o 6 (by omega) (by omega)
      obtain ⟨j, hj⟩ : ∃ j : Nat, modI o 6 = (j : Int) := ⟨(modI o 6).toNat, by omega⟩
      have hj6 : j < 6 := by omega
      have HJ := Lib.hid hj
      have HJ6 := Lib.hid hj6
      have bj : (j : Int) < 6 := by omega
      have wj : wrap64 (10 + (j : Int)) = 10 + j := by unfold wrap64; omega
      have i0 := HP.out.ins.cell (truthsV_at inn hj6)
      have if0 := HP.out.ins.free j
      have lib := HP.out.ins.lt
      obtain ⟨q, hq⟩ : ∃ x, inn j = x := ⟨_, rfl⟩
      rw [hq] at i0
      have HQ := Lib.hid hq
      clear hi hlt hjb hj hj6 hq
      cases q with
      | true =>
        go_wp2_with fail
        refine (mod_any o 6 (by omega) (by omega) _).mono ?_
        rintro e w4 ⟨rfl, rfl⟩
        rw [HJ.out]
        go_wp2_with fail
        have HP1 : Hid (PlAt W kb V nb ib (3 * i + 1) s F nn inn wr) := { HP.out with kc := ⟨HP.out.kc.1, HP.out.kc.2.mono (by omega)⟩ }
        obtain ⟨jj, hjj, hin, hpv, hpis, hpi⟩ := HP1.out.pi.serve HP1.out.kc.2 HP1.out.kc.1.keysL HJ6.out HQ.out
        have HPV := Lib.hid hpv
        have hnfb : bd ∉ F := fun e => by have := HP1.out.kc.1.newB bd e; have := HBW.out; omega
        refine HP1.out.kc.1.pick.mono ?_
        rintro e w5 ⟨rfl, F5, h5, hF5⟩
        rw [HPV.out]
        have HCK : Hid (CI (pickC s) (3 * i + 2)) := HP1.out.kc.2.pick (fun x hx => (HP1.out.kc.1.keysL x hx).2)
        obtain ⟨s5, hs5⟩ : ∃ x, pickC s = x := ⟨_, rfl⟩
        rw [hs5] at h5 hpis hpi HCK
        have hn5 := HP1.out.nums.upd hF5.2 HP1.out.f1
        have hi5 := HP1.out.ins.upd hF5.2 HP1.out.f2
        have f5a := hF5.far HP1.out.nums.lt HP1.out.f1
        have f5b := hF5.far HP1.out.ins.lt HP1.out.f2
        have e2 := (hF5.2.cell lbd hnfb (off + i * 7 + 2)).trans c2
        have e6 := (hF5.2.cell lbd hnfb (off + i * 7 + 6)).trans c6
        have lb5 := Nat.lt_of_lt_of_le lbd hF5.2.size
        have hnf5 := hF5.far lbd hnfb
        have n0 := hn5.cell (numsV_at nn hjj)
        have y0 := hi5.cell (truthsV_at _ hjj)
        rw [hin] at y0
        have nf0 := hn5.free jj
        have yf0 := hi5.free jj
        have lnb := hn5.lt
        have lyb := hi5.lt
        obtain ⟨p, hp⟩ : ∃ x, nn jj = x := ⟨_, rfl⟩
        rw [hp] at n0 hpi ⊢
        have HPP := Lib.hid hp
        have hpb : p ≤ i := by rw [← hp]; exact HNI.out jj hjj
        have HNI2 : Hid (∀ j, j < 6 → updN nn jj (p + 1) j ≤ i + 1) := fun j hj => by
          by_cases e : j = jj
          · subst e; rw [updN_same]; omega
          · rw [updN_other _ _ e]; have := HNI.out j hj; omega
        obtain ⟨p1, hp1⟩ : ∃ x, p + 1 = x := ⟨_, rfl⟩
        rw [hp1] at hpi HNI2
        have wp : IntKind.u64.wrap ((p : Int) + 1) = (p1 : Int) := by have := HN900.out; rw [IntKind.wrap_u64]; omega
        have tj1 : decide ((jj : Int) < 0) = false := by simp
        have tj2 : decide ((5 : Int) < (jj : Int)) = false := by simp; omega
        have tj3 : decide (5 < jj) = false := by simp; omega
        have tj4 : ((p : Int) != (p : Int)) = false := by simp
        have bj1 : (jj : Int) < 6 := by omega
        have hsb := (modI_bd z 50 (by omega) (by omega))
        obtain ⟨sz, hsz⟩ : ∃ x, modI z 50 = x := ⟨_, rfl⟩
        rw [hsz] at hsb
        have HMZ : Hid (∀ w, Calls Tryz.prog 11 #[.int .i64 z, .int .i64 50] w (fun e w' => e = .returned (.int .i64 sz) ∧ w = w')) := fun w => by rw [← hsz]; exact mod_any z 50 (by omega) (by omega) w
        have HIS := Lib.hid hpis
        obtain ⟨s6, hs6⟩ : ∃ x, doneC s5 sz more = x := ⟨_, rfl⟩
        have HPI := Lib.hid (hpi sz more)
        rw [hs6] at HPI
        have HC6 : Hid (CI s6 (3 * i + 3)) := by rw [← hs6]; exact HCK.out.done sz more
        have HDK : Hid (∀ w', Upd [] w5 w' → Calls Tryz.prog 14 #[.pointer (some ⟨kb, 0, none⟩), .int .i64 sz, .bool more] w' (fun e w'' => e = .returned (.bool true) ∧ KGTo W kb V s6 F5 w' w'')) := fun w' hu => by
          have := (h5.upd hu).done HCK.out (by have := HN900.out; omega) sz (by omega) more
          rw [HIS.out, hs6] at this; exact this
        have HN5 := Lib.hid hn5
        have HI5 := Lib.hid hi5
        have HFA := Lib.hid f5a
        have HFB := Lib.hid f5b
        have HJJ := Lib.hid hjj
        clear h5 hpis hpi hs5 hF5 hn5 hi5 f5a f5b hp hp1 hsb hsz hs6 hpb hpv hin hnfb hjj
        go_wp2_with fail
        refine wp_region_tail 36 (by kernel_rfl) (by kernel_rfl) ?_
        simp only [List.take_succ_cons, List.take_zero, List.drop_succ_cons, List.drop_zero]
        repeat (go_big_quiet_step (fail))
        go_big_quiet_step (exact ((HMZ.out _).mono (fun _ _ h => ⟨h.1, h.2.symm⟩)) _)
        repeat (go_big_quiet_step (fail))
        refine wpQuiet_nil ?_
        go_wp2_with fail
        refine (HDK.out _ (Upd.refl [] w5).drew).mono ?_
        rintro e w6 ⟨rfl, F6, h6, hF6⟩
        have ud : Upd [] w5 w5.drew := (Upd.refl [] w5).drew
        have hn6 := (HN5.out.upd ud (by simp)).upd hF6.2 HFA.out
        have hi6 := (HI5.out.upd ud (by simp)).upd hF6.2 HFB.out
        have n6 := hn6.cell (numsV_at nn HJJ.out)
        have y6 := hi6.cell (truthsV_at _ HJJ.out)
        have nf6 := hn6.free jj
        have yf6 := hi6.free jj
        have d6 := ((hF6.2.cell lb5 hnf5 (off + i * 7 + 6)).trans e6)
        have lb6 : bd < w6.heap.size := Nat.lt_of_lt_of_le lb5 hF6.2.size
        have lnb6 := hn6.lt
        have lyb6 := hi6.lt
        have HFIN := Lib.hid (PlAt.fin h6 HC6.out hn6 hi6 HP1.out.ne (hF6.far HN5.out.lt HFA.out) (hF6.far HI5.out.lt HFB.out) HP1.out.w1 HP1.out.w2 HJJ.out HPI.out)
        rw [HPP.out] at n6
        clear h6 hF6 hn6 hi6 ud n0 y0 nf0 yf0 e2 e6 lnb lyb
        have hne := HP1.out.ne
        have hne2 := hne.symm
        go_wp2
        exact ⟨⟨i + 1, s6, F6, updN nn jj p1, updN inn jj more, by congr 1, HI1.out, HNI2.out, by rw [show 3 * (i + 1) = 3 * i + 3 by omega]; exact HFIN.out⟩, inner_measR HLC.out⟩
      | false =>
        go_wp2_with fail
        refine (mod_any o 6 (by omega) (by omega) _).mono ?_
        rintro e w4 ⟨rfl, rfl⟩
        rw [HJ.out]
        go_wp2_with fail
        obtain ⟨m1, m2, m3, m4⟩ := HP.out.mark HJ6.out true
        obtain ⟨hwb, hwp⟩ := HP.out.pi.wake HP.out.kc.2 HJ6.out HQ.out 3
        have hwc := HP.out.kc.2.wake (j : Int) (10 + (j : Int)) (r := 3) (by omega)
        have hni2 : bd ∉ [ib] := fun e => by simp only [List.mem_cons, List.not_mem_nil, or_false] at e; have := HP.out.w2; have := HBW.out; omega
        refine (m1.1.wake HP.out.kc.2 (by have := HN900.out; omega) (j : Int) (10 + (j : Int)) 0 3 (by omega)).mono ?_
        rintro e w4 ⟨rfl, F4, h4, hF4⟩
        rw [hwb]
        have hnf4 : bd ∉ F := fun e => by have := HP.out.kc.1.newB bd e; have := HBW.out; omega
        have lm : bd < (wr.setCell ⟨ib, j, none⟩ (.bool true)).heap.size := Nat.lt_of_lt_of_le lbd m4.size
        replace c2 := (hF4.2.cell lm hnf4 (off + i * 7 + 2)).trans ((m4.cell lbd hni2 (off + i * 7 + 2)).trans c2)
        replace c6 := (hF4.2.cell lm hnf4 (off + i * 7 + 6)).trans ((m4.cell lbd hni2 (off + i * 7 + 6)).trans c6)
        replace lbd := Nat.lt_of_lt_of_le lm hF4.2.size
        obtain ⟨s4, hs4⟩ : ∃ x, wakeC s (j : Int) (10 + (j : Int)) 3 = x := ⟨_, rfl⟩
        rw [hs4] at h4 hwp hwc
        have HP1 : Hid (PlAt W kb V nb ib (3 * i + 1) s4 F4 nn (updN inn j true) w4) := { kc := ⟨h4, hwc⟩, nums := m2.upd hF4.2 HP.out.f1, ins := m3.upd hF4.2 HP.out.f2, pi := hwp, ne := HP.out.ne, f1 := hF4.far (Nat.lt_of_lt_of_le HP.out.nums.lt m4.size) HP.out.f1, f2 := hF4.far (Nat.lt_of_lt_of_le HP.out.ins.lt m4.size) HP.out.f2, w1 := HP.out.w1, w2 := HP.out.w2 }
        obtain ⟨inn4, hin4⟩ : ∃ x, updN inn j true = x := ⟨_, rfl⟩
        have HQ2 : Hid (inn4 j = true) := by unfold Hid; rw [← hin4]; exact updN_same _ _ _
        rw [hin4] at HP1
        clear m1 m2 m3 m4 hwb hwp hwc hni2 h4 hF4 hnf4 lm hs4 i0 if0 c0 c1 c3 c4 c5 hin4
        go_wp2_with fail
        obtain ⟨jj, hjj, hin, hpv, hpis, hpi⟩ := HP1.out.pi.serve HP1.out.kc.2 HP1.out.kc.1.keysL HJ6.out HQ2.out
        have HPV := Lib.hid hpv
        have hnfb : bd ∉ F4 := fun e => by have := HP1.out.kc.1.newB bd e; have := HBW.out; omega
        refine HP1.out.kc.1.pick.mono ?_
        rintro e w5 ⟨rfl, F5, h5, hF5⟩
        rw [HPV.out]
        have HCK : Hid (CI (pickC s4) (3 * i + 2)) := HP1.out.kc.2.pick (fun x hx => (HP1.out.kc.1.keysL x hx).2)
        obtain ⟨s5, hs5⟩ : ∃ x, pickC s4 = x := ⟨_, rfl⟩
        rw [hs5] at h5 hpis hpi HCK
        have hn5 := HP1.out.nums.upd hF5.2 HP1.out.f1
        have hi5 := HP1.out.ins.upd hF5.2 HP1.out.f2
        have f5a := hF5.far HP1.out.nums.lt HP1.out.f1
        have f5b := hF5.far HP1.out.ins.lt HP1.out.f2
        have e2 := (hF5.2.cell lbd hnfb (off + i * 7 + 2)).trans c2
        have e6 := (hF5.2.cell lbd hnfb (off + i * 7 + 6)).trans c6
        have lb5 := Nat.lt_of_lt_of_le lbd hF5.2.size
        have hnf5 := hF5.far lbd hnfb
        have n0 := hn5.cell (numsV_at nn hjj)
        have y0 := hi5.cell (truthsV_at _ hjj)
        rw [hin] at y0
        have nf0 := hn5.free jj
        have yf0 := hi5.free jj
        have lnb := hn5.lt
        have lyb := hi5.lt
        obtain ⟨p, hp⟩ : ∃ x, nn jj = x := ⟨_, rfl⟩
        rw [hp] at n0 hpi ⊢
        have HPP := Lib.hid hp
        have hpb : p ≤ i := by rw [← hp]; exact HNI.out jj hjj
        have HNI2 : Hid (∀ j, j < 6 → updN nn jj (p + 1) j ≤ i + 1) := fun j hj => by
          by_cases e : j = jj
          · subst e; rw [updN_same]; omega
          · rw [updN_other _ _ e]; have := HNI.out j hj; omega
        obtain ⟨p1, hp1⟩ : ∃ x, p + 1 = x := ⟨_, rfl⟩
        rw [hp1] at hpi HNI2
        have wp : IntKind.u64.wrap ((p : Int) + 1) = (p1 : Int) := by have := HN900.out; rw [IntKind.wrap_u64]; omega
        have tj1 : decide ((jj : Int) < 0) = false := by simp
        have tj2 : decide ((5 : Int) < (jj : Int)) = false := by simp; omega
        have tj3 : decide (5 < jj) = false := by simp; omega
        have tj4 : ((p : Int) != (p : Int)) = false := by simp
        have bj1 : (jj : Int) < 6 := by omega
        have hsb := (modI_bd z 50 (by omega) (by omega))
        obtain ⟨sz, hsz⟩ : ∃ x, modI z 50 = x := ⟨_, rfl⟩
        rw [hsz] at hsb
        have HMZ : Hid (∀ w, Calls Tryz.prog 11 #[.int .i64 z, .int .i64 50] w (fun e w' => e = .returned (.int .i64 sz) ∧ w = w')) := fun w => by rw [← hsz]; exact mod_any z 50 (by omega) (by omega) w
        have HIS := Lib.hid hpis
        obtain ⟨s6, hs6⟩ : ∃ x, doneC s5 sz more = x := ⟨_, rfl⟩
        have HPI := Lib.hid (hpi sz more)
        rw [hs6] at HPI
        have HC6 : Hid (CI s6 (3 * i + 3)) := by rw [← hs6]; exact HCK.out.done sz more
        have HDK : Hid (∀ w', Upd [] w5 w' → Calls Tryz.prog 14 #[.pointer (some ⟨kb, 0, none⟩), .int .i64 sz, .bool more] w' (fun e w'' => e = .returned (.bool true) ∧ KGTo W kb V s6 F5 w' w'')) := fun w' hu => by
          have := (h5.upd hu).done HCK.out (by have := HN900.out; omega) sz (by omega) more
          rw [HIS.out, hs6] at this; exact this
        have HN5 := Lib.hid hn5
        have HI5 := Lib.hid hi5
        have HFA := Lib.hid f5a
        have HFB := Lib.hid f5b
        have HJJ := Lib.hid hjj
        clear h5 hpis hpi hs5 hF5 hn5 hi5 f5a f5b hp hp1 hsb hsz hs6 hpb hpv hin hnfb hjj
        go_wp2_with fail
        refine wp_region_tail 36 (by kernel_rfl) (by kernel_rfl) ?_
        simp only [List.take_succ_cons, List.take_zero, List.drop_succ_cons, List.drop_zero]
        repeat (go_big_quiet_step (fail))
        go_big_quiet_step (exact ((HMZ.out _).mono (fun _ _ h => ⟨h.1, h.2.symm⟩)) _)
        repeat (go_big_quiet_step (fail))
        refine wpQuiet_nil ?_
        go_wp2_with fail
        refine (HDK.out _ (Upd.refl [] w5).drew).mono ?_
        rintro e w6 ⟨rfl, F6, h6, hF6⟩
        have ud : Upd [] w5 w5.drew := (Upd.refl [] w5).drew
        have hn6 := (HN5.out.upd ud (by simp)).upd hF6.2 HFA.out
        have hi6 := (HI5.out.upd ud (by simp)).upd hF6.2 HFB.out
        have n6 := hn6.cell (numsV_at nn HJJ.out)
        have y6 := hi6.cell (truthsV_at _ HJJ.out)
        have nf6 := hn6.free jj
        have yf6 := hi6.free jj
        have d6 := ((hF6.2.cell lb5 hnf5 (off + i * 7 + 6)).trans e6)
        have lb6 : bd < w6.heap.size := Nat.lt_of_lt_of_le lb5 hF6.2.size
        have lnb6 := hn6.lt
        have lyb6 := hi6.lt
        have HFIN := Lib.hid (PlAt.fin h6 HC6.out hn6 hi6 HP1.out.ne (hF6.far HN5.out.lt HFA.out) (hF6.far HI5.out.lt HFB.out) HP1.out.w1 HP1.out.w2 HJJ.out HPI.out)
        rw [HPP.out] at n6
        clear h6 hF6 hn6 hi6 ud n0 y0 nf0 yf0 e2 e6 lnb lyb
        have hne := HP1.out.ne
        have hne2 := hne.symm
        go_wp2
        exact ⟨⟨i + 1, s6, F6, updN nn jj p1, updN inn4 jj more, by congr 1, HI1.out, HNI2.out, by rw [show 3 * (i + 1) = 3 * i + 3 by omega]; exact HFIN.out⟩, inner_measR HLC.out⟩
    · skip
      have t1 : Hid (decide (i < m) = true ∧ decide ((i : Int) < 80) = false ∨ decide (i < m) = false) := by
        have := HC.out
        unfold Hid
        by_cases h : i < m
        · left; exact ⟨by simp; omega, by simp; omega⟩
        · right; simp; omega
      rcases t1.out with ⟨t2, t3⟩ | t2
      all_goals
        clear t1
        go_wp2
        go_ret
        exact ⟨rfl, HP.out.updW⟩
end Go.Proofs.YtolohheflbmfaaaGreatDoor
