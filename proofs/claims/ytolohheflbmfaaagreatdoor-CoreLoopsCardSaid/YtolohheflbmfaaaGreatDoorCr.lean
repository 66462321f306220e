/-
  law21: step. No condition.
-/
import Derived.Test.YtolohheflbmfaaaGreatDoorCq
set_option linter.unusedVariables false
set_option linter.unusedSimpArgs false
namespace Go.Proofs.YtolohheflbmfaaaGreatDoor
open Go.RowKit

def Step21To (W : World) (kb xb wd n : Nat) (F G : List Nat) (w : World) (e : Ending) (w' : World) : Prop := e = .returned (.bool true) ∧ ∃ s', KPTo W kb xb wd n s' F G w w'
theorem pickV_is (s : CS) : ∃ (o : Int) (p : Nat) (ok : Bool), pickV s = .tuple #[.int .i64 o, .int .u64 p, .bool ok] := by
  unfold pickV; split
  · exact ⟨0, 0, false, rfl⟩
  · exact ⟨_, _, _, rfl⟩

set_option maxRecDepth 100000 in
set_option maxHeartbeats 64000000 in
theorem step21_any {W w : World} {kb xb wd n : Nat} {s : CS} {F G : List Nat} (h : KP W kb xb wd n s F G w) (hn : n < 900) (kind obj z flow most : Int) (r : Nat) (more : Bool) (hz : z < 9223372036854775808) (hr : r < 18446744073709551616) :
    Calls Tryz.prog 15 #[.pointer (some ⟨kb, 0, none⟩), .pointer (some ⟨xb, 0, none⟩), .agg #[.int .i64 kind, .int .i64 obj, .int .i64 z, .int .i64 flow, .int .i64 most, .int .u64 r, .bool more]] w (Step21To W kb xb wd (n + 1) F G w) := by
  have HP := Lib.hid h
  have HNN := Lib.hid hn
  have HR := Lib.hid hr
  have HZ := Lib.hid (sizeI_bd hz)
  obtain ⟨m, hm⟩ : ∃ m, modI kind 6 = m := ⟨_, rfl⟩
  have hmb := modI_bd kind 6 (by omega) (by omega)
  rw [hm] at hmb
  have HM := Lib.hid hm
  have hc : m = 0 ∨ m = 1 ∨ m = 2 ∨ m = 3 ∨ (m = 4 ∨ m = 5) := by omega
  clear h hn hr hz hm hmb
  rcases hc with rfl | rfl | rfl | rfl | hc
  · skip
    go_enter Tryz.func15, Tryz.ntmps15
    go_wp2_with fail
    refine (mod_any kind 6 (by omega) (by omega) _).mono ?_
    rintro e w2 ⟨rfl, rfl⟩
    rw [HM.out]
    go_wp2_with fail
    refine (object21_any kind obj z flow most r more HR.out _).mono ?_
    rintro e w2 ⟨ob, fl, mo, rr, rfl, hrr, hU2⟩
    have HU2 := Lib.hid (((Upd.refl [] w).alloc (.cells #[.int .i64 kind, .int .i64 obj, .int .i64 z, .int .i64 flow, .int .i64 most, .int .u64 r, .bool more] 37)).trans hU2)
    have HRR := Lib.hid hrr
    clear hU2 hrr
    go_wp2_with fail
    obtain ⟨w3, hw3⟩ : ∃ x, w2.alloc (.cells #[.int .i64 fl, .int .i64 mo, .int .u64 rr] 35) = x := ⟨_, rfl⟩
    have hB3 : Blk w3 w2.heap.size 35 [.int .i64 fl, .int .i64 mo, .int .u64 rr] := by rw [← hw3]; exact Blk.new w2 35 _
    have hU3 : Upd [] w w3 := by rw [← hw3]; exact HU2.out.alloc _
    rw [hw3]
    have hK3 := HP.out.upd hU3
    have n4 : w2.heap.size ∉ F ++ G := fun e => by have := HP.out.lt _ e; have := HU2.out.size; omega
    obtain ⟨bo, hbo⟩ : ∃ x, w2.heap.size = x := ⟨_, rfl⟩
    rw [hbo] at hB3 n4 ⊢
    have b0 := hB3.cell (j := 0) rfl
    have b1 := hB3.cell (j := 1) rfl
    have b2 := hB3.cell (j := 2) rfl
    have lb := hB3.lt
    have HK3 := Lib.hid hK3
    have HU3 := Lib.hid hU3
    clear hw3 hB3 hU3 hK3 hbo
    obtain ⟨bw, hbw⟩ : ∃ x, wakeB s ob fl = x := ⟨_, rfl⟩
    have HWK : Hid (∀ w', Upd [] w3 w' → Calls Tryz.prog 12 #[.pointer (some ⟨kb, 0, none⟩), .int .i64 ob, .agg #[.int .i64 fl, .int .i64 mo, .int .u64 rr]] w' (fun e w'' => e = .returned (.bool bw) ∧ KGTo W kb wd (wakeC s ob fl rr) F w' w'')) := fun w' hu => by
      rw [← hbw]; exact (HK3.out.upd hu).1.wake HK3.out.2.2.1 HNN.out ob fl mo rr HRR.out
    have HWR : Hid (∀ w' w'', Upd [] w3 w' → KGTo W kb wd (wakeC s ob fl rr) F w' w'' → Calls Tryz.prog 18 #[.pointer (some ⟨xb, 0, none⟩), .int .i64 ob, .agg #[.int .i64 fl, .int .i64 mo, .int .u64 rr]] w'' (fun e w4 => e = .returned (.bool bw) ∧ RG16To W xb wd (n + 1) (wakeC s ob fl rr) G w'' w4)) := fun w' w'' hu hk => by
      rw [← hbw]; exact ((HK3.out.upd hu).after hk).wake HK3.out.2.2.1 HNN.out ob fl mo rr HRR.out
    have HFF := Lib.hid (List.subset_append_left F G)
    clear hbw
    go_region_held3 (fun w2 => Upd (F ++ G) w3 w2 ∧ ∀ (b o : Nat), b < w3.heap.size → b ∉ (F ++ G) → w2.cell? ⟨b, o, none⟩ = w3.cell? ⟨b, o, none⟩)
      (first | exact Held.init _ _ | exact Held.step (by assumption) hBb | exact Held.step (by assumption) hBa)
      (first | (go_at_call 12; refine (HWK.out _ (Upd.refl [] w3).drew).mono ?_; rintro e w6 ⟨rfl, h6⟩; have H6 := Lib.hid h6; have hBa := h6.up.mono (T := F ++ G) (fun i _ hm => by simp [hm]); clear h6) | (go_at_call 18; refine (HWR.out _ _ (Upd.refl [] w3).drew H6.out).mono ?_; rintro e w7 ⟨rfl, h7⟩; have H7 := Lib.hid h7; have hBb := h7.up.mono (T := F ++ G) (fun i _ hm => by simp [hm]); clear h7))
    go_wp2
    go_ret
    exact ⟨rfl, _, HP.out.both HU3.out.drew H6.out (Upd.refl _ _) H7.out (Upd.refl _ _) (HP.out.2.2.1.wake ob fl HRR.out)⟩
  · skip
    go_enter Tryz.func15, Tryz.ntmps15
    go_wp2_with fail
    refine (mod_any kind 6 (by omega) (by omega) _).mono ?_
    rintro e w2 ⟨rfl, rfl⟩
    rw [HM.out]
    go_wp2_with fail
    refine (object21_any kind obj z flow most r more HR.out _).mono ?_
    rintro e w2 ⟨ob, fl, mo, rr, rfl, hrr, hU2⟩
    have HU2 := Lib.hid (((Upd.refl [] w).alloc (.cells #[.int .i64 kind, .int .i64 obj, .int .i64 z, .int .i64 flow, .int .i64 most, .int .u64 r, .bool more] 37)).trans hU2)
    have HRR := Lib.hid hrr
    clear hU2 hrr
    go_wp2_with fail
    obtain ⟨w3, hw3⟩ : ∃ x, w2.alloc (.cells #[.int .i64 fl, .int .i64 mo, .int .u64 rr] 35) = x := ⟨_, rfl⟩
    have hB3 : Blk w3 w2.heap.size 35 [.int .i64 fl, .int .i64 mo, .int .u64 rr] := by rw [← hw3]; exact Blk.new w2 35 _
    have hU3 : Upd [] w w3 := by rw [← hw3]; exact HU2.out.alloc _
    rw [hw3]
    have hK3 := HP.out.upd hU3
    have n4 : w2.heap.size ∉ F ++ G := fun e => by have := HP.out.lt _ e; have := HU2.out.size; omega
    obtain ⟨bo, hbo⟩ : ∃ x, w2.heap.size = x := ⟨_, rfl⟩
    rw [hbo] at hB3 n4 ⊢
    have b0 := hB3.cell (j := 0) rfl
    have b1 := hB3.cell (j := 1) rfl
    have b2 := hB3.cell (j := 2) rfl
    have lb := hB3.lt
    have HK3 := Lib.hid hK3
    have HU3 := Lib.hid hU3
    clear hw3 hB3 hU3 hK3 hbo
    obtain ⟨bw, hbw⟩ : ∃ x, wakeB s ob fl = x := ⟨_, rfl⟩
    have HWK : Hid (∀ w', Upd [] w3 w' → Calls Tryz.prog 12 #[.pointer (some ⟨kb, 0, none⟩), .int .i64 ob, .agg #[.int .i64 fl, .int .i64 mo, .int .u64 rr]] w' (fun e w'' => e = .returned (.bool bw) ∧ KGTo W kb wd (wakeC s ob fl rr) F w' w'')) := fun w' hu => by
      rw [← hbw]; exact (HK3.out.upd hu).1.wake HK3.out.2.2.1 HNN.out ob fl mo rr HRR.out
    have HWR : Hid (∀ w' w'', Upd [] w3 w' → KGTo W kb wd (wakeC s ob fl rr) F w' w'' → Calls Tryz.prog 18 #[.pointer (some ⟨xb, 0, none⟩), .int .i64 ob, .agg #[.int .i64 fl, .int .i64 mo, .int .u64 rr]] w'' (fun e w4 => e = .returned (.bool bw) ∧ RG16To W xb wd (n + 1) (wakeC s ob fl rr) G w'' w4)) := fun w' w'' hu hk => by
      rw [← hbw]; exact ((HK3.out.upd hu).after hk).wake HK3.out.2.2.1 HNN.out ob fl mo rr HRR.out
    have HFF := Lib.hid (List.subset_append_left F G)
    clear hbw
    go_region_held3 (fun w2 => Upd (F ++ G) w3 w2 ∧ ∀ (b o : Nat), b < w3.heap.size → b ∉ (F ++ G) → w2.cell? ⟨b, o, none⟩ = w3.cell? ⟨b, o, none⟩)
      (first | exact Held.init _ _ | exact Held.step (by assumption) hBb | exact Held.step (by assumption) hBa)
      (first | (go_at_call 12; refine (HWK.out _ (Upd.refl [] w3).drew).mono ?_; rintro e w6 ⟨rfl, h6⟩; have H6 := Lib.hid h6; have hBa := h6.up.mono (T := F ++ G) (fun i _ hm => by simp [hm]); clear h6) | (go_at_call 18; refine (HWR.out _ _ (Upd.refl [] w3).drew H6.out).mono ?_; rintro e w7 ⟨rfl, h7⟩; have H7 := Lib.hid h7; have hBb := h7.up.mono (T := F ++ G) (fun i _ hm => by simp [hm]); clear h7))
    go_wp2
    go_ret
    exact ⟨rfl, _, HP.out.both HU3.out.drew H6.out (Upd.refl _ _) H7.out (Upd.refl _ _) (HP.out.2.2.1.wake ob fl HRR.out)⟩
  · skip
    go_enter Tryz.func15, Tryz.ntmps15
    go_wp2_with fail
    refine (mod_any kind 6 (by omega) (by omega) _).mono ?_
    rintro e w2 ⟨rfl, rfl⟩
    rw [HM.out]
    go_wp2_with fail
    refine (object21_any kind obj z flow most r more HR.out _).mono ?_
    rintro e w2 ⟨ob, fl, mo, rr, rfl, hrr, hU2⟩
    have HU2 := Lib.hid (((Upd.refl [] w).alloc (.cells #[.int .i64 kind, .int .i64 obj, .int .i64 z, .int .i64 flow, .int .i64 most, .int .u64 r, .bool more] 37)).trans hU2)
    have HRR := Lib.hid hrr
    clear hU2 hrr
    go_wp2_with fail
    obtain ⟨w3, hw3⟩ : ∃ x, w2.alloc (.cells #[.int .i64 fl, .int .i64 mo, .int .u64 rr] 35) = x := ⟨_, rfl⟩
    have hB3 : Blk w3 w2.heap.size 35 [.int .i64 fl, .int .i64 mo, .int .u64 rr] := by rw [← hw3]; exact Blk.new w2 35 _
    have hU3 : Upd [] w w3 := by rw [← hw3]; exact HU2.out.alloc _
    rw [hw3]
    have hK3 := HP.out.upd hU3
    have n4 : w2.heap.size ∉ F ++ G := fun e => by have := HP.out.lt _ e; have := HU2.out.size; omega
    obtain ⟨bo, hbo⟩ : ∃ x, w2.heap.size = x := ⟨_, rfl⟩
    rw [hbo] at hB3 n4 ⊢
    have b0 := hB3.cell (j := 0) rfl
    have b1 := hB3.cell (j := 1) rfl
    have b2 := hB3.cell (j := 2) rfl
    have lb := hB3.lt
    have HK3 := Lib.hid hK3
    have HU3 := Lib.hid hU3
    clear hw3 hB3 hU3 hK3 hbo
    obtain ⟨bw, hbw⟩ : ∃ x, wakeB s ob fl = x := ⟨_, rfl⟩
    have HWK : Hid (∀ w', Upd [] w3 w' → Calls Tryz.prog 12 #[.pointer (some ⟨kb, 0, none⟩), .int .i64 ob, .agg #[.int .i64 fl, .int .i64 mo, .int .u64 rr]] w' (fun e w'' => e = .returned (.bool bw) ∧ KGTo W kb wd (wakeC s ob fl rr) F w' w'')) := fun w' hu => by
      rw [← hbw]; exact (HK3.out.upd hu).1.wake HK3.out.2.2.1 HNN.out ob fl mo rr HRR.out
    have HWR : Hid (∀ w' w'', Upd [] w3 w' → KGTo W kb wd (wakeC s ob fl rr) F w' w'' → Calls Tryz.prog 18 #[.pointer (some ⟨xb, 0, none⟩), .int .i64 ob, .agg #[.int .i64 fl, .int .i64 mo, .int .u64 rr]] w'' (fun e w4 => e = .returned (.bool bw) ∧ RG16To W xb wd (n + 1) (wakeC s ob fl rr) G w'' w4)) := fun w' w'' hu hk => by
      rw [← hbw]; exact ((HK3.out.upd hu).after hk).wake HK3.out.2.2.1 HNN.out ob fl mo rr HRR.out
    have HFF := Lib.hid (List.subset_append_left F G)
    clear hbw
    go_region_held3 (fun w2 => Upd (F ++ G) w3 w2 ∧ ∀ (b o : Nat), b < w3.heap.size → b ∉ (F ++ G) → w2.cell? ⟨b, o, none⟩ = w3.cell? ⟨b, o, none⟩)
      (first | exact Held.init _ _ | exact Held.step (by assumption) hBb | exact Held.step (by assumption) hBa)
      (first | (go_at_call 12; refine (HWK.out _ (Upd.refl [] w3).drew).mono ?_; rintro e w6 ⟨rfl, h6⟩; have H6 := Lib.hid h6; have hBa := h6.up.mono (T := F ++ G) (fun i _ hm => by simp [hm]); clear h6) | (go_at_call 18; refine (HWR.out _ _ (Upd.refl [] w3).drew H6.out).mono ?_; rintro e w7 ⟨rfl, h7⟩; have H7 := Lib.hid h7; have hBb := h7.up.mono (T := F ++ G) (fun i _ hm => by simp [hm]); clear h7))
    go_wp2
    go_ret
    exact ⟨rfl, _, HP.out.both HU3.out.drew H6.out (Upd.refl _ _) H7.out (Upd.refl _ _) (HP.out.2.2.1.wake ob fl HRR.out)⟩
  · skip
    go_enter Tryz.func15, Tryz.ntmps15
    go_wp2_with fail
    refine (mod_any kind 6 (by omega) (by omega) _).mono ?_
    rintro e w2 ⟨rfl, rfl⟩
    rw [HM.out]
    go_wp2_with fail
    obtain ⟨w1, hw1⟩ : ∃ x, w.alloc (.cells #[.int .i64 kind, .int .i64 obj, .int .i64 z, .int .i64 flow, .int .i64 most, .int .u64 r, .bool more] 37) = x := ⟨_, rfl⟩
    have hB1 : Blk w1 w.heap.size 37 [.int .i64 kind, .int .i64 obj, .int .i64 z, .int .i64 flow, .int .i64 most, .int .u64 r, .bool more] := by rw [← hw1]; exact Blk.new w 37 _
    have hU1 : Upd [] w w1 := by rw [← hw1]; exact (Upd.refl [] w).alloc _
    rw [hw1]
    have n4 : w.heap.size ∉ F ++ G := fun e => by have := HP.out.lt _ e; omega
    obtain ⟨bo, hbo⟩ : ∃ x, w.heap.size = x := ⟨_, rfl⟩
    rw [hbo] at hB1 n4 ⊢
    have b0 := hB1.cell (j := 0) rfl
    have b1 := hB1.cell (j := 1) rfl
    have b2 := hB1.cell (j := 2) rfl
    have b3 := hB1.cell (j := 3) rfl
    have b4 := hB1.cell (j := 4) rfl
    have b5 := hB1.cell (j := 5) rfl
    have b6 := hB1.cell (j := 6) rfl
    have lb := hB1.lt
    have HU1 := Lib.hid hU1
    have HK1 := Lib.hid (HP.out.upd hU1)
    clear hw1 hB1 hU1 hbo
    obtain ⟨si, hsi⟩ : ∃ x, s.is = x := ⟨_, rfl⟩
    obtain ⟨sz, hsz⟩ : ∃ x, sizeI z = x := ⟨_, rfl⟩
    rw [hsz] at HZ
    have HDK : Hid (∀ w', Upd [] w1 w' → Calls Tryz.prog 14 #[.pointer (some ⟨kb, 0, none⟩), .int .i64 sz, .bool more] w' (fun e w'' => e = .returned (.bool si) ∧ KGTo W kb wd (doneC s sz more) F w' w'')) := fun w' hu => by
      rw [← hsi]; exact (HK1.out.upd hu).1.done HK1.out.2.2.1 HNN.out sz HZ.out more
    have HDR : Hid (∀ w' w'' w4, Upd [] w1 w' → KGTo W kb wd (doneC s sz more) F w' w'' → Upd [] w'' w4 → Calls Tryz.prog 21 #[.pointer (some ⟨xb, 0, none⟩), .int .i64 sz, .bool more] w4 (fun e w5 => e = .returned (.bool si) ∧ RG16To W xb wd (n + 1) (doneC s sz more) G w4 w5)) := fun w' w'' w4 hu hk hu2 => by
      rw [← hsi]; exact (((HK1.out.upd hu).after hk).upd hu2).done HK1.out.2.2.1 HNN.out sz HZ.out more
    have HSZ : Hid (∀ w', Calls Tryz.prog 20 #[.agg #[.int .i64 kind, .int .i64 obj, .int .i64 z, .int .i64 flow, .int .i64 most, .int .u64 r, .bool more]] w' (RetUpd [] w' (.int .i64 sz))) := fun w' => by
      rw [← hsz]; exact size21_any kind obj z flow most r more w'
    have tok : True := trivial
    clear hsi hsz
    go_region_held3 (fun w2 => Upd (F ++ G) w1 w2 ∧ ∀ (b o : Nat), b < w1.heap.size → b ∉ (F ++ G) → w2.cell? ⟨b, o, none⟩ = w1.cell? ⟨b, o, none⟩)
      (first | exact Held.init _ _ | exact Held.step (by assumption) hBb | exact Held.step (by assumption) hBd | exact Held.step (by assumption) hBa | exact Held.step (by assumption) hBc)
      (first | (go_at_call 20; have tk := tok; clear tok; refine (HSZ.out _).mono ?_; rintro e w5 ⟨rfl, h5⟩; have H5 := Lib.hid h5; have hBc := h5.nil (S := F ++ G); clear h5) | (go_at_call 14; refine (HDK.out _ ((Upd.refl [] w1).drew.trans H5.out)).mono ?_; rintro e w6 ⟨rfl, h6⟩; have H6 := Lib.hid h6; have hBa := h6.up.mono (T := F ++ G) (fun i _ hm => by simp [hm]); clear h6) | (go_at_call 20; refine (HSZ.out _).mono ?_; rintro e w7 ⟨rfl, h7⟩; have H7 := Lib.hid h7; have hBd := h7.nil (S := F ++ G); clear h7) | (go_at_call 21; refine (HDR.out _ _ _ ((Upd.refl [] w1).drew.trans H5.out) H6.out H7.out).mono ?_; rintro e w8 ⟨rfl, h8⟩; have H8 := Lib.hid h8; have hBb := h8.up.mono (T := F ++ G) (fun i _ hm => by simp [hm]); clear h8))
    go_wp2
    go_ret
    exact ⟨rfl, _, HP.out.both (HU1.out.drew.trans H5.out) H6.out H7.out H8.out (Upd.refl _ _) (HP.out.2.2.1.done sz more)⟩
  · obtain ⟨po, pp, pk, hpv⟩ := pickV_is s
    have HPV := Lib.hid hpv
    clear hpv
    have t0 : (m == 0) = false := by rcases hc with rfl | rfl <;> rfl
    have t1 : (m == 1) = false := by rcases hc with rfl | rfl <;> rfl
    have t2 : (m == 2) = false := by rcases hc with rfl | rfl <;> rfl
    have t3 : (m == 3) = false := by rcases hc with rfl | rfl <;> rfl
    clear hc
    cases pk
    · skip
      go_enter Tryz.func15, Tryz.ntmps15
      go_wp2_with fail
      refine (mod_any kind 6 (by omega) (by omega) _).mono ?_
      rintro e w2 ⟨rfl, rfl⟩
      rw [HM.out]
      go_wp2_with fail
      refine (HP.out.upd ((Upd.refl [] w).alloc (.cells #[.int .i64 kind, .int .i64 obj, .int .i64 z, .int .i64 flow, .int .i64 most, .int .u64 r, .bool more] 37))).1.pick.mono ?_
      rintro e w6 ⟨rfl, h6⟩
      have H6 := Lib.hid h6
      clear h6
      rw [HPV.out]
      go_wp2_with fail
      refine (((HP.out.upd ((Upd.refl [] w).alloc (.cells #[.int .i64 kind, .int .i64 obj, .int .i64 z, .int .i64 flow, .int .i64 most, .int .u64 r, .bool more] 37))).after H6.out).pick HP.out.2.2.1 HP.out.1.keys HNN.out).mono ?_
      rintro e w7 ⟨rfl, h7⟩
      have H7 := Lib.hid h7
      clear h7
      rw [HPV.out]
      go_wp2
      go_ret
      exact ⟨rfl, _, HP.out.both ((Upd.refl [] w).alloc _) H6.out (Upd.refl _ _) H7.out (Upd.refl _ _) (HP.out.2.2.1.pick (fun x hx => (HP.out.1.keysL x hx).2))⟩
    · skip
      go_enter Tryz.func15, Tryz.ntmps15
      go_wp2_with fail
      refine (mod_any kind 6 (by omega) (by omega) _).mono ?_
      rintro e w2 ⟨rfl, rfl⟩
      rw [HM.out]
      go_wp2_with fail
      refine (HP.out.upd ((Upd.refl [] w).alloc (.cells #[.int .i64 kind, .int .i64 obj, .int .i64 z, .int .i64 flow, .int .i64 most, .int .u64 r, .bool more] 37))).1.pick.mono ?_
      rintro e w6 ⟨rfl, h6⟩
      have H6 := Lib.hid h6
      clear h6
      rw [HPV.out]
      go_wp2_with fail
      refine (((HP.out.upd ((Upd.refl [] w).alloc (.cells #[.int .i64 kind, .int .i64 obj, .int .i64 z, .int .i64 flow, .int .i64 most, .int .u64 r, .bool more] 37))).after H6.out).pick HP.out.2.2.1 HP.out.1.keys HNN.out).mono ?_
      rintro e w7 ⟨rfl, h7⟩
      have H7 := Lib.hid h7
      clear h7
      rw [HPV.out]
      go_wp2
      go_ret
      exact ⟨rfl, _, HP.out.both ((Upd.refl [] w).alloc _) H6.out (Upd.refl _ _) H7.out (Upd.refl _ _) (HP.out.2.2.1.pick (fun x hx => (HP.out.1.keysL x hx).2))⟩
end Go.Proofs.YtolohheflbmfaaaGreatDoor
