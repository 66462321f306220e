/-
  The walk of CoreLoops. Condition: where a table of the library's lies.
-/
import Derived.Test.YtolohheflbmfaaaGreatDoorCu
import Derived.Test.YtolohheflbmfaaaGreatDoorQuiet
set_option linter.unusedVariables false
set_option linter.unusedSimpArgs false
namespace Go.Proofs.YtolohheflbmfaaaGreatDoor
open Go.RowKit

theorem truth_cells {w : World} {v : Value} {n : Nat} {D : Nat → Nat → Value} (h : FlatAt w [none] v n D) :
    ∃ ao cap, v = .slice ao n cap ∧ n ≤ maxLen ∧ (n = 0 ∨ ∃ b off, ao = some ⟨b, off, none⟩ ∧ b < w.heap.size ∧ ∀ i, i < n → ∃ t : Bool, w.cell? ⟨b, off + i, none⟩ = some (.bool t)) := by
  obtain ⟨ao, cap, hv, hm, h | ⟨b, off, ha, hb, hc⟩⟩ := h
  · exact ⟨ao, cap, hv, hm, .inl h⟩
  · refine ⟨ao, cap, hv, hm, .inr ⟨b, off, ha, hb, fun i hi => ?_⟩⟩
    obtain ⟨c0, t, e0⟩ := hc i hi 0 none rfl
    exact ⟨t, by simpa [e0] using c0⟩
def CLoopsR (W : World) (kb xb V : Nat) (rv : Value) (wr : World) : Prop := ∃ (r : Nat) (s : CS) (F G : List Nat), rv = .int .i64 r ∧ r ≤ 3 ∧ KP W kb xb V (60 * r) s F G wr
def CLoopsI (W : World) (kb xb V r c : Nat) (iv : Value) (wr : World) : Prop := ∃ (i : Nat) (s : CS) (F G : List Nat), iv = .int .i64 i ∧ i ≤ c ∧ KP W kb xb V (60 * r + 2 * i) s F G wr
theorem rounds_meas {r : Nat} (h : r < 3) : 3 - (intOf (.int .i64 ((r : Int) + 1))).toNat < 3 - (intOf (.int .i64 (r : Int))).toNat := by simp [intOf]; omega
theorem neq_self (b : Bool) : (b != b) = false := by cases b <;> rfl

set_option maxRecDepth 100000 in
set_option maxHeartbeats 64000000 in
theorem cloops_walk (sh sl wo wd : Int) (un : Nat) (v : Value) (m : Nat) (D : Nat → Nat → Value) (v2 : Value) (m2 : Nat) (D2 : Nat → Nat → Value) (W : World) (hT : TabAt 0 Lib.deBruijn64tab W) (_ : un < 18446744073709551616) (hv : ActRow W v m D) (hv2 : FlatAt W [none] v2 m2 D2) :
    Calls Tryz.prog 5 #[.agg #[.int .i64 sh, .int .i64 sl, .int .i64 wo, .int .i64 wd, .int .u64 un], v, v2] W (RetUpd [] W (.bool true)) := by
  obtain ⟨ao2, cap2, rfl, hmm2, hD2⟩ := truth_cells hv2
  unfold maxLen at hmm2
  have HD2 := Lib.hid hD2
  clear hD2 hv2
  obtain ⟨ao, cap, rfl, hmm, hD⟩ := act_cells hv
  unfold maxLen at hmm
  have HD := Lib.hid hD
  have HT := Lib.hid hT
  clear hD hv hT
  obtain ⟨c, hc⟩ : ∃ c : Nat, Min.min m 30 = c := ⟨_, rfl⟩
  have hcm : c ≤ m := by omega
  have hc40 : c ≤ 30 := by omega
  have HC : Hid (Min.min m 30 = c) := hc
  clear hc
  go_enter Tryz.func5, Tryz.ntmps5
  go_wp2_with fail
  refine (made21_any W sh sl wo wd un _ ((Upd.refl [] W).alloc _) HT.out).mono ?_
  rintro e1 w1 ⟨kb, xb, V, m0, F0, G0, rfl, hP, -, -⟩
  have HP1 := Lib.hid hP
  clear hP
  go_wp2_with fail
  refine (awake21_any _ (tab_upd HT.out HP1.out.updW)).mono ?_
  rintro e w2 ⟨rfl, hU⟩
  have HP2 := Lib.hid (HP1.out.upd hU)
  clear hU HP1
  go_wp2_with fail
  go_loopw [9] (fun rv wr => CLoopsR W kb xb V rv wr) (fun rv _ => 3 - (intOf rv).toNat)
  case atStart => exact ⟨0, _, _, _, rfl, by omega, HP2.out⟩
  case round =>
    clear HP2
    obtain ⟨rn, s0, F1, G1, rfl, hr3, hP⟩ := hrel
    have HPO := Lib.hid hP
    clear hP
    by_cases hlt3 : rn < 3
    · have t0 : decide ((rn : Int) < 3) = true := by simp; omega
      have HR3 := Lib.hid hlt3
      have br : (rn : Int) < 3 := by omega
      obtain ⟨wo_, hwo⟩ : ∃ x : World, x = wr := ⟨_, rfl⟩
      rw [← hwo] at HPO ⊢
      clear hwo hlt3 hr3
      go_wp2_with fail
      go_loopw [10] (fun iv wr => CLoopsI W kb xb V rn c iv wr) (fun iv _ => c - (intOf iv).toNat)
      case atStart => exact ⟨0, _, _, _, rfl, Nat.zero_le _, HPO.out⟩
      case round =>
        clear HPO
        obtain ⟨i, s, F, G, rfl, hi, hP⟩ := hrel
        have HP := Lib.hid hP
        clear hP
        by_cases hlt : i < c
        · skip
          rcases HD.out with h0 | ⟨bd, off, rfl, hb1, hcc⟩
          · omega
          obtain ⟨k, o, z, f, mo, r, more, c0, c1, c2, c3, c4, c5, c6, hz, hr⟩ := hcc i (by omega)
          have hUW := HP.out.updW
          rw [← hUW.cell hb1 (by simp)] at c0 c1 c2 c3 c4 c5 c6
          have lbd := Nat.lt_of_lt_of_le hb1 hUW.size
          have him : i < m := by omega
          have t1 : decide (i < m) = true := by simp; omega
          have t2 : decide ((i : Int) < 30) = true := by simp; omega
          have b1 : (i : Int) < (m : Int) := by omega
          have HZ := Lib.hid hz
          have HR := Lib.hid hr
          have HBW := Lib.hid hb1
          have HLC := Lib.hid hlt
          have HI1 : Hid (i + 1 ≤ c) := hlt
          have HI80 : Hid (i + 1 ≤ 100) := by unfold Hid; omega
          clear hcc hb1 hz hr hUW
          have HN900 : Hid (60 * rn + 2 * i + 2 < 900) := by unfold Hid; omega
          obtain ⟨kr, hkr⟩ : ∃ x, wrap64 (k + (rn : Int)) = x := ⟨_, rfl⟩
          obtain ⟨q, hq⟩ : ∃ x, modI kr 2 = x := ⟨_, rfl⟩
          have HQ := Lib.hid hq
          clear hi hlt hq
          by_cases hq0 : q = 0
          · have ta : (q == 0) = true := by simp [hq0]
            clear hq0
            go_wp2_with fail
            obtain ⟨wb, hwb⟩ : ∃ x, wr.alloc (.cells #[.int .i64 k, .int .i64 o, .int .i64 z, .int .i64 f, .int .i64 mo, .int .u64 r, .bool more] 37) = x := ⟨_, rfl⟩
            have hB1 : Blk wb wr.heap.size 37 [.int .i64 k, .int .i64 o, .int .i64 z, .int .i64 f, .int .i64 mo, .int .u64 r, .bool more] := by rw [← hwb]; exact Blk.new wr 37 _
            have hU1 : Upd [] wr wb := by rw [← hwb]; exact (Upd.refl [] wr).alloc _
            rw [hwb]
            have n4 : wr.heap.size ∉ F ++ G := fun e => by have := HP.out.lt _ e; omega
            obtain ⟨bo, hbo⟩ : ∃ x, wr.heap.size = x := ⟨_, rfl⟩
            rw [hbo] at hB1 n4 ⊢
            have b0 := hB1.cell (j := 0) rfl
            have d1 := hB1.cell (j := 1) rfl
            have d2 := hB1.cell (j := 2) rfl
            have d3 := hB1.cell (j := 3) rfl
            have d4 := hB1.cell (j := 4) rfl
            have d5 := hB1.cell (j := 5) rfl
            have d6 := hB1.cell (j := 6) rfl
            have lb := hB1.lt
            have HPB := Lib.hid (HP.out.upd hU1)
            clear hwb hB1 hU1 hbo c0 c1 c2 c3 c4 c5 c6
            refine (mod_any kr 2 (by omega) (by omega) _).mono ?_
            rintro e w4 ⟨rfl, rfl⟩
            rw [HQ.out]
            go_wp2_with fail
            refine (object21_any k o z f mo r more HR.out _).mono ?_
            rintro e w5 ⟨ob, fl, mo2, rr, rfl, hrr, hU2⟩
            have HU2 := Lib.hid hU2
            have HRR := Lib.hid hrr
            clear hU2 hrr
            go_wp2_with fail
            obtain ⟨w3, hw3⟩ : ∃ x, w5.alloc (.cells #[.int .i64 fl, .int .i64 mo2, .int .u64 rr] 35) = x := ⟨_, rfl⟩
            have hB3 : Blk w3 w5.heap.size 35 [.int .i64 fl, .int .i64 mo2, .int .u64 rr] := by rw [← hw3]; exact Blk.new w5 35 _
            have hU3 : Upd [] wb w3 := by rw [← hw3]; exact HU2.out.alloc _
            rw [hw3]
            have n5 : w5.heap.size ∉ F ++ G := fun e => by have := HPB.out.lt _ e; have := HU2.out.size; omega
            obtain ⟨bj, hbj⟩ : ∃ x, w5.heap.size = x := ⟨_, rfl⟩
            rw [hbj] at hB3 n5 ⊢
            have e0 := hB3.cell (j := 0) rfl
            have e1 := hB3.cell (j := 1) rfl
            have e2 := hB3.cell (j := 2) rfl
            have lj := hB3.lt
            have HK3 := Lib.hid (HPB.out.upd hU3)
            clear hw3 hB3 hU3 hbj b0 d1 d2 d3 d4 d5 d6
            obtain ⟨bw, hbw⟩ : ∃ x, wakeB s ob fl = x := ⟨_, rfl⟩
            have HWK : Hid (∀ w', Upd [] w3 w' → Calls Tryz.prog 12 #[.pointer (some ⟨kb, 0, none⟩), .int .i64 ob, .agg #[.int .i64 fl, .int .i64 mo2, .int .u64 rr]] w' (fun e w'' => e = .returned (.bool bw) ∧ KGTo W kb V (wakeC s ob fl rr) F w' w'')) := fun w' hu => by
              rw [← hbw]; exact (HK3.out.upd hu).1.wake HK3.out.2.2.1 (by have := HN900.out; omega) ob fl mo2 rr HRR.out
            have HWR : Hid (∀ w' w'', Upd [] w3 w' → KGTo W kb V (wakeC s ob fl rr) F w' w'' → Calls Tryz.prog 18 #[.pointer (some ⟨xb, 0, none⟩), .int .i64 ob, .agg #[.int .i64 fl, .int .i64 mo2, .int .u64 rr]] w'' (fun e w4 => e = .returned (.bool bw) ∧ RG16To W xb V (60 * rn + 2 * i + 1) (wakeC s ob fl rr) G w'' w4)) := fun w' w'' hu hk => by
              rw [← hbw]; exact ((HK3.out.upd hu).after hk).wake HK3.out.2.2.1 (by have := HN900.out; omega) ob fl mo2 rr HRR.out
            have tnb := neq_self bw
            clear hbw
            go_region_held3 (fun w2 => Upd (F ++ G) w3 w2 ∧ ∀ (b o : Nat), b < w3.heap.size → b ∉ (F ++ G) → w2.cell? ⟨b, o, none⟩ = w3.cell? ⟨b, o, none⟩)
              (first | exact Held.init _ _ | exact Held.step (by assumption) hBb | exact Held.step (by assumption) hBa)
              (first | (go_at_call 12; refine (HWK.out _ (Upd.refl [] w3).drew).mono ?_; rintro e w6 ⟨rfl, h6⟩; have H6 := Lib.hid h6; have hBa := h6.up.mono (T := F ++ G) (fun i _ hm => by simp [hm]); clear h6) | (go_at_call 18; refine (HWR.out _ _ (Upd.refl [] w3).drew H6.out).mono ?_; rintro e w7 ⟨rfl, h7⟩; have H7 := Lib.hid h7; have hBb := h7.up.mono (T := F ++ G) (fun i _ hm => by simp [hm]); clear h7))
            obtain ⟨F8, G8, hK8, -⟩ := HK3.out.both (Upd.refl [] w3).drew H6.out (Upd.refl _ _) H7.out (Upd.refl _ _) (HK3.out.2.2.1.wake ob fl HRR.out)
            go_wp2
            exact ⟨⟨i + 1, _, F8, G8, by congr 1, HI1.out, hK8.mono (by omega)⟩, inner_measR HLC.out⟩
          · have ta : (q == 0) = false := by simp [hq0]
            clear hq0
            have hSZ := sizeI_bd HZ.out
            obtain ⟨sz, hsz⟩ : ∃ x, sizeI z = x := ⟨_, rfl⟩
            rw [hsz] at hSZ
            have HSB := Lib.hid hSZ
            have HSE := Lib.hid hsz
            obtain ⟨po, pp, pk, hpv⟩ := pickV_is s
            have HPV := Lib.hid hpv
            have tn1 : (po != po) = false := by simp
            have tn2 : ((pp : Int) != (pp : Int)) = false := by simp
            clear hSZ hsz hpv
            cases pk
            · go_wp2_with fail
              obtain ⟨wb, hwb⟩ : ∃ x, wr.alloc (.cells #[.int .i64 k, .int .i64 o, .int .i64 z, .int .i64 f, .int .i64 mo, .int .u64 r, .bool more] 37) = x := ⟨_, rfl⟩
              have hB1 : Blk wb wr.heap.size 37 [.int .i64 k, .int .i64 o, .int .i64 z, .int .i64 f, .int .i64 mo, .int .u64 r, .bool more] := by rw [← hwb]; exact Blk.new wr 37 _
              have hU1 : Upd [] wr wb := by rw [← hwb]; exact (Upd.refl [] wr).alloc _
              rw [hwb]
              have n4 : wr.heap.size ∉ F ++ G := fun e => by have := HP.out.lt _ e; omega
              obtain ⟨bo, hbo⟩ : ∃ x, wr.heap.size = x := ⟨_, rfl⟩
              rw [hbo] at hB1 n4 ⊢
              have b0 := hB1.cell (j := 0) rfl
              have d1 := hB1.cell (j := 1) rfl
              have d2 := hB1.cell (j := 2) rfl
              have d3 := hB1.cell (j := 3) rfl
              have d4 := hB1.cell (j := 4) rfl
              have d5 := hB1.cell (j := 5) rfl
              have d6 := hB1.cell (j := 6) rfl
              have lb := hB1.lt
              have HPB := Lib.hid (HP.out.upd hU1)
              clear hwb hB1 hU1 hbo c0 c1 c2 c3 c4 c5 c6
              refine (mod_any kr 2 (by omega) (by omega) _).mono ?_
              rintro e w4 ⟨rfl, rfl⟩
              rw [HQ.out]
              go_wp2_with fail
              refine HPB.out.1.pick.mono ?_
              rintro e w6 ⟨rfl, h6⟩
              have H6 := Lib.hid h6
              clear h6
              rw [HPV.out]
              go_wp2_with fail
              refine ((HPB.out.after H6.out).pick HPB.out.2.2.1 HPB.out.1.keys (by have := HN900.out; omega)).mono ?_
              rintro e w7 ⟨rfl, h7⟩
              rw [HPV.out]
              obtain ⟨F7, G7, hK7, hf7, hg7, hu7⟩ := HPB.out.both (Upd.refl [] _) H6.out (Upd.refl _ _) h7 (Upd.refl _ _) (HPB.out.2.2.1.pick (fun x hx => (HPB.out.1.keysL x hx).2))
              have n7 : bo ∉ F7 ++ G7 := fun e => by
                rcases List.mem_append.1 e with e | e
                · rcases hf7 bo e with e | e
                  · exact n4 (by simp [e])
                  · omega
                · rcases hg7 bo e with e | e
                  · exact n4 (by simp [e])
                  · omega
              replace b0 := (hu7.cell lb n4 0).trans b0
              replace d1 := (hu7.cell lb n4 1).trans d1
              replace d2 := (hu7.cell lb n4 2).trans d2
              replace d3 := (hu7.cell lb n4 3).trans d3
              replace d4 := (hu7.cell lb n4 4).trans d4
              replace d5 := (hu7.cell lb n4 5).trans d5
              replace d6 := (hu7.cell lb n4 6).trans d6
              replace lb := Nat.lt_of_lt_of_le lb hu7.size
              obtain ⟨s5, hs5⟩ : ∃ x, pickC s = x := ⟨_, rfl⟩
              rw [hs5] at hK7
              have HP7 := Lib.hid hK7
              obtain ⟨si, hsi⟩ : ∃ x, s5.is = x := ⟨_, rfl⟩
              have HSI := Lib.hid hsi
              clear h7 hK7 hf7 hg7 hu7 n4 hs5 hsi
              by_cases hm2 : i < m2
              · have u1 : decide (i < m2) = true := by simp [hm2]
                have b2 : (i : Int) < (m2 : Int) := by omega
                rcases HD2.out with h0 | ⟨bt, oft, rfl, hbt, hct⟩
                · omega
                obtain ⟨tb, ct⟩ := hct i hm2
                rw [← HP7.out.updW.cell hbt (by simp)] at ct
                have lbt := Nat.lt_of_lt_of_le hbt HP7.out.updW.size
                clear hbt hct hm2
                have HLK : Hid (∀ w', Upd [] w7 w' → Calls Tryz.prog 16 #[.pointer (some ⟨kb, 0, none⟩), .pointer (some ⟨xb, 0, none⟩)] w' (RetUpd [] w' (.bool true))) := fun w' hu => looks21_any (HP7.out.upd hu) (by have := HN900.out; omega)
                obtain ⟨TZ, hNE, FZ, hFU, hFS⟩ := upd_fam [] w7
                have HFU := Lib.hid hFU
                have HFS := Lib.hid hFS
                clear hFU hFS
                go_wp2_with fail
                refine wp_region_fam FZ (by kernel_rfl) (by kernel_rfl) (HFS.out _ (Upd.refl [] w7).drew) ?_
                repeat (go_big_quiet_step (first | (go_at_call 16; exact (HLK.out _ (HFU.out _)).mono (fun _ _ h => ⟨h.1, HFS.out _ ((HFU.out _).trans h.2)⟩))))
                refine wpQuiet_nil ?_
                intro _ hw'
                obtain ⟨nq, hw''⟩ := hw'
                subst hw''
                go_wp2
                exact ⟨⟨i + 1, _, F7, G7, by congr 1, HI1.out, (HP7.out.upd (HFU.out _)).mono (by omega)⟩, inner_measR HLC.out⟩
              · have u1 : decide (i < m2) = false := by simp [hm2]
                clear hm2
                have HLK : Hid (∀ w', Upd [] w7 w' → Calls Tryz.prog 16 #[.pointer (some ⟨kb, 0, none⟩), .pointer (some ⟨xb, 0, none⟩)] w' (RetUpd [] w' (.bool true))) := fun w' hu => looks21_any (HP7.out.upd hu) (by have := HN900.out; omega)
                obtain ⟨TZ, hNE, FZ, hFU, hFS⟩ := upd_fam [] w7
                have HFU := Lib.hid hFU
                have HFS := Lib.hid hFS
                clear hFU hFS
                go_wp2_with fail
                refine wp_region_fam FZ (by kernel_rfl) (by kernel_rfl) (HFS.out _ (Upd.refl [] w7).drew) ?_
                repeat (go_big_quiet_step (first | (go_at_call 16; exact (HLK.out _ (HFU.out _)).mono (fun _ _ h => ⟨h.1, HFS.out _ ((HFU.out _).trans h.2)⟩))))
                refine wpQuiet_nil ?_
                intro _ hw'
                obtain ⟨nq, hw''⟩ := hw'
                subst hw''
                go_wp2
                exact ⟨⟨i + 1, _, F7, G7, by congr 1, HI1.out, (HP7.out.upd (HFU.out _)).mono (by omega)⟩, inner_measR HLC.out⟩
            · go_wp2_with fail
              obtain ⟨wb, hwb⟩ : ∃ x, wr.alloc (.cells #[.int .i64 k, .int .i64 o, .int .i64 z, .int .i64 f, .int .i64 mo, .int .u64 r, .bool more] 37) = x := ⟨_, rfl⟩
              have hB1 : Blk wb wr.heap.size 37 [.int .i64 k, .int .i64 o, .int .i64 z, .int .i64 f, .int .i64 mo, .int .u64 r, .bool more] := by rw [← hwb]; exact Blk.new wr 37 _
              have hU1 : Upd [] wr wb := by rw [← hwb]; exact (Upd.refl [] wr).alloc _
              rw [hwb]
              have n4 : wr.heap.size ∉ F ++ G := fun e => by have := HP.out.lt _ e; omega
              obtain ⟨bo, hbo⟩ : ∃ x, wr.heap.size = x := ⟨_, rfl⟩
              rw [hbo] at hB1 n4 ⊢
              have b0 := hB1.cell (j := 0) rfl
              have d1 := hB1.cell (j := 1) rfl
              have d2 := hB1.cell (j := 2) rfl
              have d3 := hB1.cell (j := 3) rfl
              have d4 := hB1.cell (j := 4) rfl
              have d5 := hB1.cell (j := 5) rfl
              have d6 := hB1.cell (j := 6) rfl
              have lb := hB1.lt
              have HPB := Lib.hid (HP.out.upd hU1)
              clear hwb hB1 hU1 hbo c0 c1 c2 c3 c4 c5 c6
              refine (mod_any kr 2 (by omega) (by omega) _).mono ?_
              rintro e w4 ⟨rfl, rfl⟩
              rw [HQ.out]
              go_wp2_with fail
              refine HPB.out.1.pick.mono ?_
              rintro e w6 ⟨rfl, h6⟩
              have H6 := Lib.hid h6
              clear h6
              rw [HPV.out]
              go_wp2_with fail
              refine ((HPB.out.after H6.out).pick HPB.out.2.2.1 HPB.out.1.keys (by have := HN900.out; omega)).mono ?_
              rintro e w7 ⟨rfl, h7⟩
              rw [HPV.out]
              obtain ⟨F7, G7, hK7, hf7, hg7, hu7⟩ := HPB.out.both (Upd.refl [] _) H6.out (Upd.refl _ _) h7 (Upd.refl _ _) (HPB.out.2.2.1.pick (fun x hx => (HPB.out.1.keysL x hx).2))
              have n7 : bo ∉ F7 ++ G7 := fun e => by
                rcases List.mem_append.1 e with e | e
                · rcases hf7 bo e with e | e
                  · exact n4 (by simp [e])
                  · omega
                · rcases hg7 bo e with e | e
                  · exact n4 (by simp [e])
                  · omega
              replace b0 := (hu7.cell lb n4 0).trans b0
              replace d1 := (hu7.cell lb n4 1).trans d1
              replace d2 := (hu7.cell lb n4 2).trans d2
              replace d3 := (hu7.cell lb n4 3).trans d3
              replace d4 := (hu7.cell lb n4 4).trans d4
              replace d5 := (hu7.cell lb n4 5).trans d5
              replace d6 := (hu7.cell lb n4 6).trans d6
              replace lb := Nat.lt_of_lt_of_le lb hu7.size
              obtain ⟨s5, hs5⟩ : ∃ x, pickC s = x := ⟨_, rfl⟩
              rw [hs5] at hK7
              have HP7 := Lib.hid hK7
              obtain ⟨si, hsi⟩ : ∃ x, s5.is = x := ⟨_, rfl⟩
              have HSI := Lib.hid hsi
              clear h7 hK7 hf7 hg7 hu7 n4 hs5 hsi
              by_cases hm2 : i < m2
              · have u1 : decide (i < m2) = true := by simp [hm2]
                have b2 : (i : Int) < (m2 : Int) := by omega
                rcases HD2.out with h0 | ⟨bt, oft, rfl, hbt, hct⟩
                · omega
                obtain ⟨tb, ct⟩ := hct i hm2
                rw [← HP7.out.updW.cell hbt (by simp)] at ct
                have lbt := Nat.lt_of_lt_of_le hbt HP7.out.updW.size
                clear hbt hct hm2
                have HSZ : Hid (∀ w', Calls Tryz.prog 20 #[.agg #[.int .i64 k, .int .i64 o, .int .i64 z, .int .i64 f, .int .i64 mo, .int .u64 r, .bool more]] w' (RetUpd [] w' (.int .i64 sz))) := fun w' => by
                  rw [← HSE.out]; exact size21_any k o z f mo r more w'
                have HDK : Hid (∀ w', Upd [] w7 w' → Calls Tryz.prog 14 #[.pointer (some ⟨kb, 0, none⟩), .int .i64 sz, .bool tb] w' (fun e w'' => e = .returned (.bool si) ∧ KGTo W kb V (doneC s5 sz tb) F7 w' w'')) := fun w' hu => by
                  rw [← HSI.out]; exact (HP7.out.upd hu).1.done HP7.out.2.2.1 (by have := HN900.out; omega) sz HSB.out tb
                have HDR : Hid (∀ w' w'' w4, Upd [] w7 w' → KGTo W kb V (doneC s5 sz tb) F7 w' w'' → Upd [] w'' w4 → Calls Tryz.prog 21 #[.pointer (some ⟨xb, 0, none⟩), .int .i64 sz, .bool tb] w4 (fun e w5 => e = .returned (.bool si) ∧ RG16To W xb V (60 * rn + 2 * i + 1 + 1) (doneC s5 sz tb) G7 w4 w5)) := fun w' w'' w4 hu hk hu2 => by
                  rw [← HSI.out]; exact (((HP7.out.upd hu).after hk).upd hu2).done HP7.out.2.2.1 (by have := HN900.out; omega) sz HSB.out tb
                have HLK : Hid (∀ w' w5 w6 w8, Upd [] w7 w' → KGTo W kb V (doneC s5 sz tb) F7 w' w5 → Upd [] w5 w6 → RG16To W xb V (60 * rn + 2 * i + 1 + 1) (doneC s5 sz tb) G7 w6 w8 → Calls Tryz.prog 16 #[.pointer (some ⟨kb, 0, none⟩), .pointer (some ⟨xb, 0, none⟩)] w8 (RetUpd [] w8 (.bool true))) := fun w' w5 w6 w8 hu hk hu2 hg => by
                  obtain ⟨F', G', hk2, -⟩ := HP7.out.both hu hk hu2 hg (Upd.refl [] w8) (HP7.out.2.2.1.done sz tb)
                  exact looks21_any hk2 (by have := HN900.out; omega)
                have tn4 := neq_self si
                have tok : True := trivial
                go_wp2_with fail
                go_region_held3 (fun w2 => Upd (F7 ++ G7) w7 w2 ∧ ∀ (b o : Nat), b < w7.heap.size → b ∉ (F7 ++ G7) → w2.cell? ⟨b, o, none⟩ = w7.cell? ⟨b, o, none⟩)
                  (first | exact Held.init _ _ | exact Held.step (by assumption) hBe | exact Held.step (by assumption) hBb | exact Held.step (by assumption) hBd | exact Held.step (by assumption) hBa | exact Held.step (by assumption) hBc)
                  (first | (go_at_call 20; have tk := tok; clear tok; refine (HSZ.out _).mono ?_; rintro e wp ⟨rfl, h5⟩; have H5 := Lib.hid h5; have hBc := h5.nil (S := F7 ++ G7); clear h5) | (go_at_call 14; refine (HDK.out _ ((Upd.refl [] w7).drew.trans H5.out)).mono ?_; rintro e wq ⟨rfl, h6⟩; have H8 := Lib.hid h6; have hBa := h6.up.mono (T := F7 ++ G7) (fun i _ hm => by simp [hm]); clear h6) | (go_at_call 20; refine (HSZ.out _).mono ?_; rintro e ws ⟨rfl, h7⟩; have H9 := Lib.hid h7; have hBd := h7.nil (S := F7 ++ G7); clear h7) | (go_at_call 21; refine (HDR.out _ _ _ ((Upd.refl [] w7).drew.trans H5.out) H8.out H9.out).mono ?_; rintro e wt ⟨rfl, h8⟩; have H10 := Lib.hid h8; have hBb := h8.up.mono (T := F7 ++ G7) (fun i _ hm => by simp [hm]); clear h8) | (go_at_call 16; refine (HLK.out _ _ _ _ ((Upd.refl [] w7).drew.trans H5.out) H8.out H9.out H10.out).mono ?_; rintro e wu ⟨rfl, h9⟩; have H11 := Lib.hid h9; have hBe := h9.nil (S := F7 ++ G7); clear h9))
                obtain ⟨F8, G8, hK8, -⟩ := HP7.out.both ((Upd.refl [] w7).drew.trans H5.out) H8.out H9.out H10.out H11.out (HP7.out.2.2.1.done sz tb)
                go_wp2
                exact ⟨⟨i + 1, _, F8, G8, by congr 1, HI1.out, hK8.mono (by omega)⟩, inner_measR HLC.out⟩
              · have u1 : decide (i < m2) = false := by simp [hm2]
                clear hm2
                have HSZ : Hid (∀ w', Calls Tryz.prog 20 #[.agg #[.int .i64 k, .int .i64 o, .int .i64 z, .int .i64 f, .int .i64 mo, .int .u64 r, .bool more]] w' (RetUpd [] w' (.int .i64 sz))) := fun w' => by
                  rw [← HSE.out]; exact size21_any k o z f mo r more w'
                have HDK : Hid (∀ w', Upd [] w7 w' → Calls Tryz.prog 14 #[.pointer (some ⟨kb, 0, none⟩), .int .i64 sz, .bool false] w' (fun e w'' => e = .returned (.bool si) ∧ KGTo W kb V (doneC s5 sz false) F7 w' w'')) := fun w' hu => by
                  rw [← HSI.out]; exact (HP7.out.upd hu).1.done HP7.out.2.2.1 (by have := HN900.out; omega) sz HSB.out false
                have HDR : Hid (∀ w' w'' w4, Upd [] w7 w' → KGTo W kb V (doneC s5 sz false) F7 w' w'' → Upd [] w'' w4 → Calls Tryz.prog 21 #[.pointer (some ⟨xb, 0, none⟩), .int .i64 sz, .bool false] w4 (fun e w5 => e = .returned (.bool si) ∧ RG16To W xb V (60 * rn + 2 * i + 1 + 1) (doneC s5 sz false) G7 w4 w5)) := fun w' w'' w4 hu hk hu2 => by
                  rw [← HSI.out]; exact (((HP7.out.upd hu).after hk).upd hu2).done HP7.out.2.2.1 (by have := HN900.out; omega) sz HSB.out false
                have HLK : Hid (∀ w' w5 w6 w8, Upd [] w7 w' → KGTo W kb V (doneC s5 sz false) F7 w' w5 → Upd [] w5 w6 → RG16To W xb V (60 * rn + 2 * i + 1 + 1) (doneC s5 sz false) G7 w6 w8 → Calls Tryz.prog 16 #[.pointer (some ⟨kb, 0, none⟩), .pointer (some ⟨xb, 0, none⟩)] w8 (RetUpd [] w8 (.bool true))) := fun w' w5 w6 w8 hu hk hu2 hg => by
                  obtain ⟨F', G', hk2, -⟩ := HP7.out.both hu hk hu2 hg (Upd.refl [] w8) (HP7.out.2.2.1.done sz false)
                  exact looks21_any hk2 (by have := HN900.out; omega)
                have tn4 := neq_self si
                have tok : True := trivial
                go_wp2_with fail
                go_region_held3 (fun w2 => Upd (F7 ++ G7) w7 w2 ∧ ∀ (b o : Nat), b < w7.heap.size → b ∉ (F7 ++ G7) → w2.cell? ⟨b, o, none⟩ = w7.cell? ⟨b, o, none⟩)
                  (first | exact Held.init _ _ | exact Held.step (by assumption) hBe | exact Held.step (by assumption) hBb | exact Held.step (by assumption) hBd | exact Held.step (by assumption) hBa | exact Held.step (by assumption) hBc)
                  (first | (go_at_call 20; have tk := tok; clear tok; refine (HSZ.out _).mono ?_; rintro e wp ⟨rfl, h5⟩; have H5 := Lib.hid h5; have hBc := h5.nil (S := F7 ++ G7); clear h5) | (go_at_call 14; refine (HDK.out _ ((Upd.refl [] w7).drew.trans H5.out)).mono ?_; rintro e wq ⟨rfl, h6⟩; have H8 := Lib.hid h6; have hBa := h6.up.mono (T := F7 ++ G7) (fun i _ hm => by simp [hm]); clear h6) | (go_at_call 20; refine (HSZ.out _).mono ?_; rintro e ws ⟨rfl, h7⟩; have H9 := Lib.hid h7; have hBd := h7.nil (S := F7 ++ G7); clear h7) | (go_at_call 21; refine (HDR.out _ _ _ ((Upd.refl [] w7).drew.trans H5.out) H8.out H9.out).mono ?_; rintro e wt ⟨rfl, h8⟩; have H10 := Lib.hid h8; have hBb := h8.up.mono (T := F7 ++ G7) (fun i _ hm => by simp [hm]); clear h8) | (go_at_call 16; refine (HLK.out _ _ _ _ ((Upd.refl [] w7).drew.trans H5.out) H8.out H9.out H10.out).mono ?_; rintro e wu ⟨rfl, h9⟩; have H11 := Lib.hid h9; have hBe := h9.nil (S := F7 ++ G7); clear h9))
                obtain ⟨F8, G8, hK8, -⟩ := HP7.out.both ((Upd.refl [] w7).drew.trans H5.out) H8.out H9.out H10.out H11.out (HP7.out.2.2.1.done sz false)
                go_wp2
                exact ⟨⟨i + 1, _, F8, G8, by congr 1, HI1.out, hK8.mono (by omega)⟩, inner_measR HLC.out⟩
        · skip
          have t1 : Hid (decide (i < m) = true ∧ decide ((i : Int) < 30) = false ∨ decide (i < m) = false) := by
            have := HC.out
            unfold Hid
            by_cases h : i < m
            · left; exact ⟨by simp; omega, by simp; omega⟩
            · right; simp; omega
          have HRS : Hid (KP W kb xb V (60 * (rn + 1)) s F G wr) := HP.out.mono (by omega)
          rcases t1.out with ⟨t2, t3⟩ | t2
          all_goals
            clear t1
            go_wp2
            exact ⟨⟨rn + 1, s, F, G, by congr 1, by have := HR3.out; omega, HRS.out⟩, rounds_meas HR3.out⟩
    · have t0 : decide ((rn : Int) < 3) = false := by simp; omega
      go_wp2_with fail
      refine (looks21_any HPO.out (by omega)).mono ?_
      rintro e w7 ⟨rfl, hU7⟩
      have HP7 := Lib.hid (HPO.out.upd hU7)
      clear hU7
      go_wp2
      go_ret
      exact ⟨rfl, HP7.out.updW⟩
end Go.Proofs.YtolohheflbmfaaaGreatDoor
