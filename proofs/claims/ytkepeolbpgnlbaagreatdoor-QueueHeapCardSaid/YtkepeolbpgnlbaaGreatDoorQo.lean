/-
  The walk of law08.step. No condition.
-/
import Derived.Test.YtkepeolbpgnlbaaGreatDoorQn
set_option linter.unusedVariables false
set_option linter.unusedSimpArgs false
namespace Go.Proofs.YtkepeolbpgnlbaaGreatDoor
open Go.RowKit

theorem QR.keys2 {W w : World} {qb rb wd : Nat} {M : List Sh} {L : List It} {fp fq : List Nat} (h : QR W qb rb wd M L fp fq w) : ∀ i, i < M.length → ∀ x ∈ (shAt M i).2, x.1 = (kn x : Int) ∧ kn x < 18446744073709551616 := fun i hi x hx => ⟨(h.1.keys i hi x hx).1, (h.1.keys i hi x hx).2.1⟩

set_option maxRecDepth 100000 in
set_option maxHeartbeats 64000000 in
theorem step8_any (W : World) (qb rb wd : Nat) (M : List Sh) (L : List It) (fp fq : List Nat) (k id : Int) (key : Nat) (h0 : key < 18446744073709551616) (w : World) (h : QR W qb rb wd M L fp fq w) (hsm : L.length < 1000) :
    Calls Tryz.prog 9 #[.pointer (some ⟨qb, 0, none⟩), .pointer (some ⟨rb, 0, none⟩), .agg #[.int .i64 k, .int .u64 key, .int .i64 id]] w (Deed8 W qb rb wd M L fp fq (modI k 8) w) := by
  have HP := Lib.hid h
  have HFP := Lib.hid h.1.lt
  have HFQ := Lib.hid h.2.1.lt
  have HONE := Lib.hid h.1.ok.one
  have H16 := Lib.hid h.1.ok.small
  obtain ⟨nm, hnm⟩ : ∃ x, nameI id = x := ⟨_, rfl⟩
  have HNM := Lib.hid hnm
  have hmb := modI_bd k 8 (by omega) (by omega)
  obtain ⟨m, hm⟩ : ∃ m, modI k 8 = m := ⟨_, rfl⟩
  rw [hm] at hmb ⊢
  have HM := Lib.hid hm
  have HMB := Lib.hid hmb
  obtain ⟨w1, hw1⟩ : ∃ w1, w1 = w.alloc (.cells #[.int .i64 k, .int .u64 key, .int .i64 id] 31 (0, 0)) := ⟨_, rfl⟩
  have hU1 : Upd [] w w1 := by rw [hw1]; exact (Upd.refl _ w).alloc _
  have HU1 := Lib.hid hU1
  have hB1 : Blk w1 w.heap.size 31 [.int .i64 k, .int .u64 key, .int .i64 id] := by rw [hw1]; exact heap_one w _
  have HB1 := Lib.hid hB1
  have d0 := hB1.cell (j := 0) rfl
  have d1 := hB1.cell (j := 1) rfl
  have d2 := hB1.cell (j := 2) rfl
  have ld := hB1.lt
  have HBASE : Hid (∀ w', Upd [] w1 w' → Calls Tryz.prog 31 #[.pointer (some ⟨rb, 0, none⟩)] w' (BaseTo w')) := fun w' hu => (h.2.1.upd (hU1.trans hu)).base h.1.ok.one h.1.ok.small
  have HW1 := Lib.hid hw1
  clear h hnm hm hmb hw1 hU1 hB1
  go_enter Tryz.func9, Tryz.ntmps9
  go_wp2_with fail
  rw [← HW1.out]
  go_cut [7] (fun s7 wx => Item6 w1 nm s7 wx)
  case first =>
    go_region_held3 (fun w2 => Upd [] w1 w2 ∧ ∀ (b o : Nat), b < w1.heap.size → b ∉ ([] : List Nat) → w2.cell? ⟨b, o, none⟩ = w1.cell? ⟨b, o, none⟩)
      (first | exact Held.init _ _ | assumption | exact Held.step (by assumption) hBb | exact Held.step (by assumption) hBa | exact Held.step (by assumption) hBc | exact Held.new (by assumption) _ | exact Held.new (Held.init [] w1) _ | exact Held.new (Held.step (Held.init [] w1) hBc) _ | exact Held.new (Held.step (Held.step (Held.init [] w1) hBc) hBa) _ | exact Held.new (Held.step (Held.step (Held.step (Held.init [] w1) hBc) hBa) hBb) _ | exact Held.far (Held.far (by assumption) (by first | omega | (simp; done) | (simp; omega)) _) (by first | omega | (simp; done) | (simp; omega)) _)
      (first | (go_at_call 31; refine (HBASE.out _ (by first | exact (Upd.refl [] w1).drew | exact ((Upd.refl [] w1).alloc _).drew)).mono ?_; rintro e w9 ⟨bb, hbb, rfl, hBc⟩; have hcs0 := hBc.cells; have hfs0 := hBc.frozens; have hsz0 := hBc.size; (try simp at hsz0); (try (have q := szero_at hBc; obtain ⟨q0, q1, q2, q3, q4⟩ := q))) | (go_at_call 13; refine (near_any _ _ _ _ h0 _).mono ?_; rintro e w3 ⟨nk, hnk, rfl, hBa⟩; have hcs := hBa.cells; have hfs := hBa.frozens; have hsz1 := hBa.size; (try simp at hsz1); (try (have q := szero_keep hBa q0 q1 q2 q3 q4; obtain ⟨r0, r1, r2, r3, r4⟩ := q)); (try (have q := szero_at' hBa; obtain ⟨q0, q1, q2, q3, q4⟩ := q))) | (go_at_call 32; refine (name_any _ _ _ _).mono ?_; rintro e w4 ⟨rfl, hBb⟩; rw [HNM.out]; have hcs2 := hBb.cells; have hfs2 := hBb.frozens; have hsz2 := hBb.size; (try simp at hsz2); (try (have q := szero_keep hBb r0 r1 r2 r3 r4; obtain ⟨s0, s1, s2, s3, s4⟩ := q)); (try (have q := szero_keep hBb q0 q1 q2 q3 q4; obtain ⟨r0, r1, r2, r3, r4⟩ := q)); (try (have q := szero_at' hBb; obtain ⟨q0, q1, q2, q3, q4⟩ := q))))
    all_goals
      go_wp2_with fail
      go_meet
      refine ⟨nk, hnk, _, rfl, ?_, ?_, ?_, ?_, ‹Upd [] w1 _ ∧ _›.1⟩
      · first | omega | (simp; done) | (simp; omega)
      · first | omega | (simp; done) | (simp; omega)
      · first | (simp; done) | exact (two_set rfl rfl s0 s1 _ _).1 | exact (two_set rfl rfl r0 r1 _ _).1 | exact (two_set rfl rfl q0 q1 _ _).1
      · first | (simp; done) | exact (two_set rfl rfl s0 s1 _ _).2 | exact (two_set rfl rfl r0 r1 _ _).2 | exact (two_set rfl rfl q0 q1 _ _).2
  case rest =>
    obtain ⟨nk, hnk, g, rfl, hg1, hg2, hx0, hx1, hU4⟩ := hcut
    have HNK := Lib.hid hnk
    have hB4 := HB1.out.upd hU4 (by simp)
    have f0 := hB4.cell (j := 0) rfl
    have f1 := hB4.cell (j := 1) rfl
    have f2 := hB4.cell (j := 2) rfl
    have lf := hB4.lt
    have n1 : g ∉ fp := fun e => by have := HFP.out g e; omega
    have n2 : g ∉ fq := fun e => by have := HFQ.out g e; omega
    have HU4 : Hid (Upd [] w wc) := HU1.out.trans hU4
    clear hU4 hB4 d0 d1 d2 ld hnk
    go_wp2_with fail
    refine (what_any k key id 8 (by omega) (by omega) _).mono ?_
    rintro e w5 ⟨rfl, hU5⟩
    rw [HM.out]
    have HU5 : Hid (Upd [] w w5) := HU4.out.trans hU5
    have HP5 : Hid (QR W qb rb wd M L fp fq w5) := HP.out.upd HU5.out
    have x0 := (hU5.cell hg2 (by simp) 0).trans hx0
    have x1 := (hU5.cell hg2 (by simp) 1).trans hx1
    have lg5 := Nat.lt_of_lt_of_le hg2 hU5.size
    have hm8 : m = 0 ∨ m = 1 ∨ m = 2 ∨ m = 3 ∨ m = 4 ∨ m = 5 ∨ m = 6 ∨ m = 7 := by have := HMB.out; omega
    obtain ⟨r, hr⟩ : ∃ r, takeQ M nk nm = r := ⟨_, rfl⟩
    have HR := Lib.hid hr
    clear hU5 hx0 hx1 f0 f1 f2 lf hr
    rcases hm8 with rfl | rfl | rfl | rfl | rfl | rfl | rfl | rfl
    · skip
      go_wp2_with fail
      have HP5d : Hid (QR W qb rb wd M L fp fq w5.drew) := HP5.out.upd (Upd.refl [] w5).drew
      go_region_held3 (fun w2 => Upd (fp ++ fq) w5 w2 ∧ ∀ (b o : Nat), b < w5.heap.size → b ∉ (fp ++ fq) → w2.cell? ⟨b, o, none⟩ = w5.cell? ⟨b, o, none⟩)
        (first | exact Held.init _ _ | exact Held.step (by assumption) hBb | exact Held.step (by assumption) hBa)
        (first | (go_at_call 16; refine (HP5d.out.1.push nk HNK.out nm hsm).mono ?_; rintro e w6 ⟨rfl, h6⟩; rw [HR.out]; have H6 := Lib.hid h6; have hBa := h6.up.mono (T := fp ++ fq) (fun i _ hm => by simp [hm]); clear h6) | (go_at_call 33; refine ((HP5d.out.after H6.out).push HP5d.out.1.ok nk HNK.out nm hsm).mono ?_; rintro e w7 ⟨rfl, h7⟩; rw [HR.out]; have H7 := Lib.hid h7; have hBb := h7.up.mono (T := fp ++ fq) (fun i _ hm => by simp [hm]); clear h7))
      go_wp2
      go_ret
      exact deed8_push (by omega) nk nm HU5.out.drew HP5d.out HFP.out HFQ.out H6.out (Upd.refl _ _) H7.out (Upd.refl _ _)
    · skip
      go_wp2_with fail
      have HP5d : Hid (QR W qb rb wd M L fp fq w5.drew) := HP5.out.upd (Upd.refl [] w5).drew
      go_region_held3 (fun w2 => Upd (fp ++ fq) w5 w2 ∧ ∀ (b o : Nat), b < w5.heap.size → b ∉ (fp ++ fq) → w2.cell? ⟨b, o, none⟩ = w5.cell? ⟨b, o, none⟩)
        (first | exact Held.init _ _ | exact Held.step (by assumption) hBb | exact Held.step (by assumption) hBa)
        (first | (go_at_call 16; refine (HP5d.out.1.push nk HNK.out nm hsm).mono ?_; rintro e w6 ⟨rfl, h6⟩; rw [HR.out]; have H6 := Lib.hid h6; have hBa := h6.up.mono (T := fp ++ fq) (fun i _ hm => by simp [hm]); clear h6) | (go_at_call 33; refine ((HP5d.out.after H6.out).push HP5d.out.1.ok nk HNK.out nm hsm).mono ?_; rintro e w7 ⟨rfl, h7⟩; rw [HR.out]; have H7 := Lib.hid h7; have hBb := h7.up.mono (T := fp ++ fq) (fun i _ hm => by simp [hm]); clear h7))
      go_wp2
      go_ret
      exact deed8_push (by omega) nk nm HU5.out.drew HP5d.out HFP.out HFQ.out H6.out (Upd.refl _ _) H7.out (Upd.refl _ _)
    · skip
      go_wp2_with fail
      have HP5d : Hid (QR W qb rb wd M L fp fq w5.drew) := HP5.out.upd (Upd.refl [] w5).drew
      go_region_held3 (fun w2 => Upd (fp ++ fq) w5 w2 ∧ ∀ (b o : Nat), b < w5.heap.size → b ∉ (fp ++ fq) → w2.cell? ⟨b, o, none⟩ = w5.cell? ⟨b, o, none⟩)
        (first | exact Held.init _ _ | exact Held.step (by assumption) hBb | exact Held.step (by assumption) hBa)
        (first | (go_at_call 16; refine (HP5d.out.1.push nk HNK.out nm hsm).mono ?_; rintro e w6 ⟨rfl, h6⟩; rw [HR.out]; have H6 := Lib.hid h6; have hBa := h6.up.mono (T := fp ++ fq) (fun i _ hm => by simp [hm]); clear h6) | (go_at_call 33; refine ((HP5d.out.after H6.out).push HP5d.out.1.ok nk HNK.out nm hsm).mono ?_; rintro e w7 ⟨rfl, h7⟩; rw [HR.out]; have H7 := Lib.hid h7; have hBb := h7.up.mono (T := fp ++ fq) (fun i _ hm => by simp [hm]); clear h7))
      go_wp2
      go_ret
      exact deed8_push (by omega) nk nm HU5.out.drew HP5d.out HFP.out HFQ.out H6.out (Upd.refl _ _) H7.out (Upd.refl _ _)
    · skip
      go_wp2_with fail
      have HP5d : Hid (QR W qb rb wd M L fp fq w5.drew) := HP5.out.upd (Upd.refl [] w5).drew
      go_region_held3 (fun w2 => Upd (fp ++ fq) w5 w2 ∧ ∀ (b o : Nat), b < w5.heap.size → b ∉ (fp ++ fq) → w2.cell? ⟨b, o, none⟩ = w5.cell? ⟨b, o, none⟩)
        (first | exact Held.init _ _ | exact Held.step (by assumption) hBb | exact Held.step (by assumption) hBa)
        (first | (go_at_call 16; refine (HP5d.out.1.push nk HNK.out nm hsm).mono ?_; rintro e w6 ⟨rfl, h6⟩; rw [HR.out]; have H6 := Lib.hid h6; have hBa := h6.up.mono (T := fp ++ fq) (fun i _ hm => by simp [hm]); clear h6) | (go_at_call 33; refine ((HP5d.out.after H6.out).push HP5d.out.1.ok nk HNK.out nm hsm).mono ?_; rintro e w7 ⟨rfl, h7⟩; rw [HR.out]; have H7 := Lib.hid h7; have hBb := h7.up.mono (T := fp ++ fq) (fun i _ hm => by simp [hm]); clear h7))
      go_wp2
      go_ret
      exact deed8_push (by omega) nk nm HU5.out.drew HP5d.out HFP.out HFQ.out H6.out (Upd.refl _ _) H7.out (Upd.refl _ _)
    · skip
      obtain ⟨y, ok, hy⟩ : ∃ y ok, (firstV L) = itV y ok := (firstVit L)
      have HY := Lib.hid hy
      clear hy
      go_wp2_with fail
      refine ((QG.pop HP5.out.1)).mono ?_
      rintro e w6 ⟨rfl, h6⟩
      rw [HY.out]
      unfold itV
      have H6 := Lib.hid h6
      have lg6 := h6.up.size
      have x6 := (h6.up.cell lg5 n1 1).trans x1
      have lgw := Nat.lt_of_lt_of_le lg5 lg6
      clear h6
      go_wp2_with fail
      have HI6 : Hid (RQ W rb wd M fq (w6.alloc (.cells #[.int .u64 y.1, .int .i64 y.2] 37))) := (HP5.out.after H6.out).upd ((Upd.refl [] w6).alloc _)
      have hn6 : w6.heap.size ∉ fq := fun e => by have := HFQ.out _ e; have := HU5.out.size; omega
      refine ((RQ.pop HI6.out HP5.out.1.ok (QR.keys2 HP5.out))).mono ?_
      rintro e w7 ⟨rfl, h7⟩
      rw [HY.out]
      unfold itV
      have H7 := Lib.hid h7
      have hBx := (Blk.new w6 37 [.int .u64 y.1, .int .i64 y.2]).upd h7.up hn6
      have a0 := hBx.cell (j := 0) rfl
      have a1 := hBx.cell (j := 1) rfl
      have lax := hBx.lt
      clear h7 hBx
      go_wp2
      go_ret
      exact (deed8pop (by omega)) HU5.out HP5.out HFP.out HFQ.out H6.out ((Upd.refl _ _).alloc _) H7.out ((Upd.refl _ _).alloc _)
    · skip
      obtain ⟨y, ok, hy⟩ : ∃ y ok, (firstV L) = itV y ok := (firstVit L)
      have HY := Lib.hid hy
      clear hy
      go_wp2_with fail
      refine ((QG.pop HP5.out.1)).mono ?_
      rintro e w6 ⟨rfl, h6⟩
      rw [HY.out]
      unfold itV
      have H6 := Lib.hid h6
      have lg6 := h6.up.size
      have x6 := (h6.up.cell lg5 n1 1).trans x1
      have lgw := Nat.lt_of_lt_of_le lg5 lg6
      clear h6
      go_wp2_with fail
      have HI6 : Hid (RQ W rb wd M fq (w6.alloc (.cells #[.int .u64 y.1, .int .i64 y.2] 37))) := (HP5.out.after H6.out).upd ((Upd.refl [] w6).alloc _)
      have hn6 : w6.heap.size ∉ fq := fun e => by have := HFQ.out _ e; have := HU5.out.size; omega
      refine ((RQ.pop HI6.out HP5.out.1.ok (QR.keys2 HP5.out))).mono ?_
      rintro e w7 ⟨rfl, h7⟩
      rw [HY.out]
      unfold itV
      have H7 := Lib.hid h7
      have hBx := (Blk.new w6 37 [.int .u64 y.1, .int .i64 y.2]).upd h7.up hn6
      have a0 := hBx.cell (j := 0) rfl
      have a1 := hBx.cell (j := 1) rfl
      have lax := hBx.lt
      clear h7 hBx
      go_wp2
      go_ret
      exact (deed8pop (by omega)) HU5.out HP5.out HFP.out HFQ.out H6.out ((Upd.refl _ _).alloc _) H7.out ((Upd.refl _ _).alloc _)
    · skip
      obtain ⟨y, ok, hy⟩ : ∃ y ok, (dropV L nm) = itV y ok := (dropVit L nm)
      have HY := Lib.hid hy
      clear hy
      go_wp2_with fail
      refine ((QG.drop HP5.out.1 nm)).mono ?_
      rintro e w6 ⟨rfl, h6⟩
      rw [HY.out]
      unfold itV
      have H6 := Lib.hid h6
      have lg6 := h6.up.size
      have x6 := (h6.up.cell lg5 n1 1).trans x1
      have lgw := Nat.lt_of_lt_of_le lg5 lg6
      clear h6
      go_wp2_with fail
      have HI6 : Hid (RQ W rb wd M fq (w6.alloc (.cells #[.int .u64 y.1, .int .i64 y.2] 37))) := (HP5.out.after H6.out).upd ((Upd.refl [] w6).alloc _)
      have hn6 : w6.heap.size ∉ fq := fun e => by have := HFQ.out _ e; have := HU5.out.size; omega
      refine ((RQ.drop HI6.out HP5.out.1.ok nm)).mono ?_
      rintro e w7 ⟨rfl, h7⟩
      rw [HY.out]
      unfold itV
      have H7 := Lib.hid h7
      have hBx := (Blk.new w6 37 [.int .u64 y.1, .int .i64 y.2]).upd h7.up hn6
      have a0 := hBx.cell (j := 0) rfl
      have a1 := hBx.cell (j := 1) rfl
      have lax := hBx.lt
      clear h7 hBx
      go_wp2
      go_ret
      exact (deed8drop (by omega) nm) HU5.out HP5.out HFP.out HFQ.out H6.out ((Upd.refl _ _).alloc _) H7.out ((Upd.refl _ _).alloc _)
    · obtain ⟨y, ok, hy⟩ := firstVit L
      have HY := Lib.hid hy
      clear hy
      go_wp2_with fail
      refine (HP5.out.1.min).mono ?_
      rintro e w6 ⟨rfl, hU6⟩
      rw [HY.out]
      unfold itV
      have HU6 := Lib.hid hU6
      have lg6 := hU6.size
      have x6 := (hU6.cell lg5 (by simp) 1).trans x1
      have lgw := Nat.lt_of_lt_of_le lg5 lg6
      clear hU6
      go_wp2_with fail
      refine ((HP5.out.upd (HU6.out.alloc (.cells #[.int .u64 y.1, .int .i64 y.2] 37))).2.1.min HP5.out.1.ok).mono ?_
      rintro e w7 ⟨rfl, hU7⟩
      rw [HY.out]
      unfold itV
      have HU7 := Lib.hid hU7
      have hBx := (Blk.new w6 37 [.int .u64 y.1, .int .i64 y.2]).upd hU7 (by simp)
      have a0 := hBx.cell (j := 0) rfl
      have a1 := hBx.cell (j := 1) rfl
      have lax := hBx.lt
      have x7 : w7.cell? ⟨g, 1, none⟩ = some (.int .i64 nm) := by rw [hU7.cell (b := g) (by simp; omega) (by simp) 1, World.cell?_alloc_past _ _ _ (by simpa using lgw)]; exact x6
      have lg7 : g < w7.heap.size := by have := hU7.size; simp at this; omega
      have HP8 : Hid (QR W qb rb wd M L fp fq (w7.alloc (.cells #[.int .u64 y.1, .int .i64 y.2] 37))) := HP5.out.upd (((HU6.out.alloc _).trans hU7).alloc _)
      have HU8 : Hid (Upd [] w (w7.alloc (.cells #[.int .u64 y.1, .int .i64 y.2] 37))) := HU5.out.trans (((HU6.out.alloc _).trans hU7).alloc _)
      clear hU7 hBx x6
      by_cases hid : 0 ≤ nm
      · obtain ⟨r1, r2, r3⟩ := rt_eqs HONE.out H16.out hid
        have d1 : decide (0 ≤ nm) = true := by simp [hid]
        have hxq := HP.out.1.ok.has nm hid
        obtain ⟨i, hi⟩ : ∃ i, rt M.length nm = i := ⟨_, rfl⟩
        rw [hi] at r1 r2 r3 hxq
        obtain ⟨n, hn⟩ : ∃ n, M.length = n := ⟨_, rfl⟩
        have HN := Lib.hid hn
        have HII : Hid (i < M.length) := r2
        have HH := Lib.hid HP8.out.2.1
        rw [hn] at r1 r2
        have h1n := HONE.out
        have h16 := H16.out
        rw [hn] at h1n h16
        have d2 : ((n : Int) == 0) = false := by simp; omega
        have b1 : (i : Int) < (n : Int) := by omega
        have b2 : (0 : Int) ≤ (i : Int) := by omega
        have hfacts : ∃ (sr cap sbi : Nat), (w7.alloc (.cells #[.int .u64 y.1, .int .i64 y.2] 37)).cell? ⟨rb, 0, none⟩ = some (.slice (some ⟨sr, 0, none⟩) n cap) ∧ (w7.alloc (.cells #[.int .u64 y.1, .int .i64 y.2] 37)).cell? ⟨sr, i, none⟩ = some (.pointer (some ⟨sbi, 0, none⟩)) ∧ ∀ w', Upd [] (w7.alloc (.cells #[.int .u64 y.1, .int .i64 y.2] 37)) w' → Calls Tryz.prog 39 #[.pointer (some ⟨sbi, 0, none⟩), .int .i64 nm] w' (fun e w'' => e = .returned (.int .i64 (posI (shAt M i).2 nm)) ∧ w' = w'') := by
          obtain ⟨sr, cap, sb, F, hq, -⟩ := HH.out
          obtain ⟨p0, pp, -, -⟩ := hq.cells
          rw [hn] at p0
          exact ⟨sr, cap, sb i, p0, pp i HII.out, fun w' hu => ((hq.sh i HII.out).upd hu (by simp)).at_ nm⟩
        obtain ⟨sr, cap, sbi, p0, pi, hat⟩ := hfacts
        have HAT0 := Lib.hid hat
        have HXQ := Lib.hid hxq
        clear hi hn hat hxq hid
        cases hx : hasI L nm with
        | true =>
          have hx2 := hx
          rw [HXQ.out] at hx2
          obtain ⟨i', hi', hil, _⟩ := posI_of hx2
          have HX := Lib.hid hx
          have HI := Lib.hid hi'
          have hib : (i' : Int) < 1000000 := by have := HP.out.1.ok.len_sh HII.out; omega
          clear hx hx2 hi' hil
          obtain ⟨w8, hw8⟩ : ∃ w8, w8 = w7.alloc (.cells #[.int .u64 y.1, .int .i64 y.2] 37) := ⟨_, rfl⟩
          go_wp2_with fail
          rw [← hw8]
          have z0 : w8.cell? ⟨w7.heap.size, 0, none⟩ = some (.int .u64 y.1) := by rw [hw8]; exact (Blk.new w7 37 [.int .u64 y.1, .int .i64 y.2]).cell (j := 0) rfl
          have z1 : w8.cell? ⟨w7.heap.size, 1, none⟩ = some (.int .i64 y.2) := by rw [hw8]; exact (Blk.new w7 37 [.int .u64 y.1, .int .i64 y.2]).cell (j := 1) rfl
          have y0 : w8.cell? ⟨w6.heap.size, 0, none⟩ = some (.int .u64 y.1) := by rw [hw8, World.cell?_alloc_past _ _ _ (by simpa using lax)]; exact a0
          have y1 : w8.cell? ⟨w6.heap.size, 1, none⟩ = some (.int .i64 y.2) := by rw [hw8, World.cell?_alloc_past _ _ _ (by simpa using lax)]; exact a1
          have x8 : w8.cell? ⟨g, 1, none⟩ = some (.int .i64 nm) := by rw [hw8, World.cell?_alloc_past _ _ _ (by simpa using lg7)]; exact x7
          have hs8 : w8.heap.size = w7.heap.size + 1 := by rw [hw8]; simp
          have l1 : w7.heap.size < w8.heap.size := by omega
          have l2 : w6.heap.size < w8.heap.size := by omega
          have l3 : g < w8.heap.size := by omega
          rw [← hw8] at HP8 HU8
          (rw [← hw8] at p0 pi HAT0; have HAT := HAT0)
          clear hw8 hs8 a0 a1 x7
          go_quiet (first | (go_at_call 38; exact Calls.quiet_of ((HP8.out.upd ((Upd.refl [] w8).drewN _)).1.has nm |>.mono (fun _ _ h => ⟨by rw [h.1, HX.out], h.2⟩))) | (go_at_call 39; exact Calls.quiet_of_same ((HAT.out _ ((Upd.refl [] w8).drewN _)).mono (fun _ _ h => ⟨by rw [h.1, HI.out], h.2.symm⟩))))
          go_wp2
          go_ret
          exact deed8_none (by omega) HP.out (HU8.out.drewN _)
        | false =>
          have hx2 := hx
          rw [HXQ.out] at hx2
          have hi' := posI_neg hx2
          have HX := Lib.hid hx
          have HI := Lib.hid hi'
          clear hx hx2 hi'
          obtain ⟨w8, hw8⟩ : ∃ w8, w8 = w7.alloc (.cells #[.int .u64 y.1, .int .i64 y.2] 37) := ⟨_, rfl⟩
          go_wp2_with fail
          rw [← hw8]
          have z0 : w8.cell? ⟨w7.heap.size, 0, none⟩ = some (.int .u64 y.1) := by rw [hw8]; exact (Blk.new w7 37 [.int .u64 y.1, .int .i64 y.2]).cell (j := 0) rfl
          have z1 : w8.cell? ⟨w7.heap.size, 1, none⟩ = some (.int .i64 y.2) := by rw [hw8]; exact (Blk.new w7 37 [.int .u64 y.1, .int .i64 y.2]).cell (j := 1) rfl
          have y0 : w8.cell? ⟨w6.heap.size, 0, none⟩ = some (.int .u64 y.1) := by rw [hw8, World.cell?_alloc_past _ _ _ (by simpa using lax)]; exact a0
          have y1 : w8.cell? ⟨w6.heap.size, 1, none⟩ = some (.int .i64 y.2) := by rw [hw8, World.cell?_alloc_past _ _ _ (by simpa using lax)]; exact a1
          have x8 : w8.cell? ⟨g, 1, none⟩ = some (.int .i64 nm) := by rw [hw8, World.cell?_alloc_past _ _ _ (by simpa using lg7)]; exact x7
          have hs8 : w8.heap.size = w7.heap.size + 1 := by rw [hw8]; simp
          have l1 : w7.heap.size < w8.heap.size := by omega
          have l2 : w6.heap.size < w8.heap.size := by omega
          have l3 : g < w8.heap.size := by omega
          rw [← hw8] at HP8 HU8
          (rw [← hw8] at p0 pi HAT0; have HAT := HAT0)
          clear hw8 hs8 a0 a1 x7
          go_quiet (first | (go_at_call 38; exact Calls.quiet_of ((HP8.out.upd ((Upd.refl [] w8).drewN _)).1.has nm |>.mono (fun _ _ h => ⟨by rw [h.1, HX.out], h.2⟩))) | (go_at_call 39; exact Calls.quiet_of_same ((HAT.out _ ((Upd.refl [] w8).drewN _)).mono (fun _ _ h => ⟨by rw [h.1, HI.out], h.2.symm⟩))))
          go_wp2
          go_ret
          exact deed8_none (by omega) HP.out (HU8.out.drewN _)
      · have hx : hasI L nm = false := HP.out.1.ok.neg (by omega)
        have d1 : decide (0 ≤ nm) = false := by simp; omega
        have HX := Lib.hid hx
        have HI : Hid True := trivial
        have HAT : Hid True := trivial
        clear hx hid
        obtain ⟨w8, hw8⟩ : ∃ w8, w8 = w7.alloc (.cells #[.int .u64 y.1, .int .i64 y.2] 37) := ⟨_, rfl⟩
        go_wp2_with fail
        rw [← hw8]
        have z0 : w8.cell? ⟨w7.heap.size, 0, none⟩ = some (.int .u64 y.1) := by rw [hw8]; exact (Blk.new w7 37 [.int .u64 y.1, .int .i64 y.2]).cell (j := 0) rfl
        have z1 : w8.cell? ⟨w7.heap.size, 1, none⟩ = some (.int .i64 y.2) := by rw [hw8]; exact (Blk.new w7 37 [.int .u64 y.1, .int .i64 y.2]).cell (j := 1) rfl
        have y0 : w8.cell? ⟨w6.heap.size, 0, none⟩ = some (.int .u64 y.1) := by rw [hw8, World.cell?_alloc_past _ _ _ (by simpa using lax)]; exact a0
        have y1 : w8.cell? ⟨w6.heap.size, 1, none⟩ = some (.int .i64 y.2) := by rw [hw8, World.cell?_alloc_past _ _ _ (by simpa using lax)]; exact a1
        have x8 : w8.cell? ⟨g, 1, none⟩ = some (.int .i64 nm) := by rw [hw8, World.cell?_alloc_past _ _ _ (by simpa using lg7)]; exact x7
        have hs8 : w8.heap.size = w7.heap.size + 1 := by rw [hw8]; simp
        have l1 : w7.heap.size < w8.heap.size := by omega
        have l2 : w6.heap.size < w8.heap.size := by omega
        have l3 : g < w8.heap.size := by omega
        rw [← hw8] at HP8 HU8
        clear hw8 hs8 a0 a1 x7
        go_quiet (first | (go_at_call 38; exact Calls.quiet_of ((HP8.out.upd ((Upd.refl [] w8).drewN _)).1.has nm |>.mono (fun _ _ h => ⟨by rw [h.1, HX.out], h.2⟩))))
        go_wp2
        go_ret
        exact deed8_none (by omega) HP.out (HU8.out.drewN _)
end Go.Proofs.YtkepeolbpgnlbaaGreatDoor
