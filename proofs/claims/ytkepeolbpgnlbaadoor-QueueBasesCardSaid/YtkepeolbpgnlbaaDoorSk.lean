/-
  law06.step: a deed done to a wheel and to the document's: both tell the same. No condition.
-/
import Derived.Test.YtkepeolbpgnlbaaDoorSj
import Derived.Test.YtkepeolbpgnlbaaDoorPB
set_option linter.unusedVariables false
set_option linter.unusedSimpArgs false
namespace Go.Proofs.YtkepeolbpgnlbaaDoor
open Go.RowKit

/-- The item of a deed: some key. -/
def Item6 (w1 : World) (nm : Int) (s : Value) (wx : World) : Prop := ∃ k : Nat, k < 18446744073709551616 ∧ ItemVar w1 ((k : Int), nm) s wx

theorem szero_at {w1 w3 : World} (h : Upd [] (w1.alloc (.cells #[.int .u64 0, .int .i64 0] 24)).drew w3) :
    w3.cell? ⟨w1.heap.size, 0, none⟩ = some (.int .u64 0) ∧ w3.cell? ⟨w1.heap.size, 1, none⟩ = some (.int .i64 0) ∧ w3.frozen? ⟨w1.heap.size, 0, none⟩ = false ∧ w3.frozen? ⟨w1.heap.size, 1, none⟩ = false ∧ w1.heap.size < w3.heap.size := by
  have hB := (Blk.new w1 24 [.int .u64 0, .int .i64 0]).upd (((Upd.refl [] _).drew).trans h) (by simp)
  exact ⟨hB.cell rfl, hB.cell rfl, hB.free _, hB.free _, hB.lt⟩
theorem szero_at' {w1 w3 : World} (h : Upd [] (w1.alloc (.cells #[.int .u64 0, .int .i64 0] 24)) w3) :
    w3.cell? ⟨w1.heap.size, 0, none⟩ = some (.int .u64 0) ∧ w3.cell? ⟨w1.heap.size, 1, none⟩ = some (.int .i64 0) ∧ w3.frozen? ⟨w1.heap.size, 0, none⟩ = false ∧ w3.frozen? ⟨w1.heap.size, 1, none⟩ = false ∧ w1.heap.size < w3.heap.size := by
  have hB := (Blk.new w1 24 [.int .u64 0, .int .i64 0]).upd h (by simp)
  exact ⟨hB.cell rfl, hB.cell rfl, hB.free _, hB.free _, hB.lt⟩
theorem szero_keep {w3 w4 : World} {g : Nat} (h : Upd [] w3 w4) (q0 : w3.cell? ⟨g, 0, none⟩ = some (.int .u64 0)) (q1 : w3.cell? ⟨g, 1, none⟩ = some (.int .i64 0)) (q2 : w3.frozen? ⟨g, 0, none⟩ = false) (q3 : w3.frozen? ⟨g, 1, none⟩ = false) (q4 : g < w3.heap.size) :
    w4.cell? ⟨g, 0, none⟩ = some (.int .u64 0) ∧ w4.cell? ⟨g, 1, none⟩ = some (.int .i64 0) ∧ w4.frozen? ⟨g, 0, none⟩ = false ∧ w4.frozen? ⟨g, 1, none⟩ = false ∧ g < w4.heap.size :=
  ⟨(h.cell q4 (by simp) 0).trans q0, (h.cell q4 (by simp) 1).trans q1, (h.frozen q4 (by simp) 0).trans q2, (h.frozen q4 (by simp) 1).trans q3, Nat.lt_of_lt_of_le q4 h.size⟩

theorem szero_S {S : List Nat} {w1 w3 : World} (hn : w1.heap.size ∉ S) (h : Upd S (w1.alloc (.cells #[.int .u64 0, .int .i64 0] 24)).drew w3) :
    w3.cell? ⟨w1.heap.size, 0, none⟩ = some (.int .u64 0) ∧ w3.cell? ⟨w1.heap.size, 1, none⟩ = some (.int .i64 0) ∧ w3.frozen? ⟨w1.heap.size, 0, none⟩ = false ∧ w3.frozen? ⟨w1.heap.size, 1, none⟩ = false ∧ w1.heap.size < w3.heap.size := by
  have hB := (Blk.new w1 24 [.int .u64 0, .int .i64 0]).upd (((Upd.refl S _).drew).trans h) hn
  exact ⟨hB.cell rfl, hB.cell rfl, hB.free _, hB.free _, hB.lt⟩
theorem szero_S' {S : List Nat} {w1 w3 : World} (hn : w1.heap.size ∉ S) (h : Upd S (w1.alloc (.cells #[.int .u64 0, .int .i64 0] 24)) w3) :
    w3.cell? ⟨w1.heap.size, 0, none⟩ = some (.int .u64 0) ∧ w3.cell? ⟨w1.heap.size, 1, none⟩ = some (.int .i64 0) ∧ w3.frozen? ⟨w1.heap.size, 0, none⟩ = false ∧ w3.frozen? ⟨w1.heap.size, 1, none⟩ = false ∧ w1.heap.size < w3.heap.size := by
  have hB := (Blk.new w1 24 [.int .u64 0, .int .i64 0]).upd h hn
  exact ⟨hB.cell rfl, hB.cell rfl, hB.free _, hB.free _, hB.lt⟩

theorem SR.k2 {W w : World} {wb b base wd : Nat} {L : List It} {fp fq : List Nat} (h : SR W wb b base wd L fp fq w) : ∀ x ∈ L, x.1 = (kn x : Int) ∧ kn x < 18446744073709551616 := fun x hx => ⟨(h.2.2.2 x hx).1, (h.2.2.2 x hx).2.1⟩

set_option maxRecDepth 100000 in
set_option maxHeartbeats 32000000 in
theorem step6_any (W : World) (wb b base wd : Nat) (L : List It) (fp fq : List Nat) (k id : Int) (key : Nat) (h0 : key < 18446744073709551616) (w : World) (h : SR W wb b base wd L fp fq w) (hsm : L.length < 1000) :
    Calls Tryd.prog 18 #[.pointer (some ⟨wb, 0, none⟩), .pointer (some ⟨b, 0, none⟩), .agg #[.int .i64 k, .int .u64 key, .int .i64 id]] w (Deed6 W wb b base wd L fp fq w) := by
  have HP := Lib.hid h
  have HFP := Lib.hid h.1.lt
  have HFQ := Lib.hid h.2.1.lt
  obtain ⟨ao, cap, hblk, -, hb64, hwid, hbq, -⟩ := h.2.1.cells
  obtain ⟨nm, hnm⟩ : ∃ x, nameI id = x := ⟨_, rfl⟩
  have HNM := Lib.hid hnm
  have hmb := modI_bd k 9 (by omega) (by omega)
  obtain ⟨m, hm⟩ : ∃ m, modI k 9 = m := ⟨_, rfl⟩
  rw [hm] at hmb
  have HM := Lib.hid hm
  have HMB := Lib.hid hmb
  obtain ⟨w1, hw1⟩ : ∃ w1, w1 = w.alloc (.cells #[.int .i64 k, .int .u64 key, .int .i64 id] 42 (0, 0)) := ⟨_, rfl⟩
  have hU1 : Upd [] w w1 := by rw [hw1]; exact (Upd.refl _ w).alloc _
  have HU1 := Lib.hid hU1
  have hB1 : Blk w1 w.heap.size 42 [.int .i64 k, .int .u64 key, .int .i64 id] := by rw [hw1]; exact heap_one w _
  have HB1 := Lib.hid hB1
  have d0 := hB1.cell (j := 0) rfl
  have d1 := hB1.cell (j := 1) rfl
  have d2 := hB1.cell (j := 2) rfl
  have ld := hB1.lt
  have hblk1 := hblk.upd hU1 (by simp)
  have HBQ := Lib.hid hblk1
  have c1 := hblk1.cell (j := 1) rfl
  have lb := hblk1.lt
  have HW1 := Lib.hid hw1
  clear h hnm hm hmb hw1 hU1 hB1 hblk hblk1 hb64 hwid hbq
  go_enter Tryd.func18, Tryd.ntmps18
  go_wp2_with fail
  rw [← HW1.out]
  go_cut [7] (fun s7 wx => Item6 w1 nm s7 wx)
  case first =>
    go_region_held3 (fun w2 => Upd [] w1 w2 ∧ ∀ (b o : Nat), b < w1.heap.size → b ∉ ([] : List Nat) → w2.cell? ⟨b, o, none⟩ = w1.cell? ⟨b, o, none⟩)
      (first | exact Held.init _ _ | assumption | exact Held.step (by assumption) hBb | exact Held.step (by assumption) hBa | exact Held.new (by assumption) _ | exact Held.new (Held.init [] w1) _ | exact Held.new (Held.step (Held.step (Held.init [] w1) hBa) hBb) _ | exact Held.new (Held.step (Held.init [] w1) hBa) _ | exact Held.far (Held.far (by assumption) (by first | omega | (simp; done) | (simp; omega)) _) (by first | omega | (simp; done) | (simp; omega)) _)
      (first | (go_at_call 35; refine (near_any _ _ _ _ h0 _).mono ?_; rintro e w3 ⟨nk, hnk, rfl, hBa⟩; have hcs := hBa.cells; have hfs := hBa.frozens; have hsz1 := hBa.size; (try simp at hsz1); (try (have q := szero_at hBa; obtain ⟨q0, q1, q2, q3, q4⟩ := q))) | (go_at_call 37; refine (name_any _ _ _ _).mono ?_; rintro e w4 ⟨rfl, hBb⟩; rw [HNM.out]; have hcs2 := hBb.cells; have hfs2 := hBb.frozens; have hsz2 := hBb.size; (try simp at hsz2); (try (have q := szero_at' hBb; obtain ⟨q0, q1, q2, q3, q4⟩ := q)); (try (have q := szero_keep hBb q0 q1 q2 q3 q4; obtain ⟨r0, r1, r2, r3, r4⟩ := q))))
    all_goals
      go_wp2_with fail
      go_meet
      refine ⟨nk, hnk, _, rfl, ?_, ?_, ?_, ?_, ‹Upd [] w1 _ ∧ _›.1⟩
      · first | omega | (simp; done) | (simp; omega)
      · first | omega | (simp; done) | (simp; omega)
      · first | (simp; done) | exact (two_set rfl rfl r0 r1 _ _).1 | exact (two_set rfl rfl q0 q1 _ _).1
      · first | (simp; done) | exact (two_set rfl rfl r0 r1 _ _).2 | exact (two_set rfl rfl q0 q1 _ _).2
  case rest =>
    obtain ⟨nk, hnk, g, rfl, hg1, hg2, hx0, hx1, hU4⟩ := hcut
    have HNK := Lib.hid hnk
    have hB4 := HB1.out.upd hU4 (by simp)
    have f0 := hB4.cell (j := 0) rfl
    have f1 := hB4.cell (j := 1) rfl
    have f2 := hB4.cell (j := 2) rfl
    have lf := hB4.lt
    have n1 : g ∉ fp := fun e => by have := HFP.out g e; omega
    have n2 : g ∉ fq := fun e => by have := HFQ.out g e; omega
    have HU4 : Hid (Upd [] w wc) := HU1.out.trans hU4
    have hU4' := Lib.hid hU4
    clear hU4 hB4 d0 d1 d2 ld c1 hnk
    go_wp2_with fail
    refine (what_any k key id 9 (by omega) (by omega) _).mono ?_
    rintro e w5 ⟨rfl, hU5⟩
    rw [HM.out]
    have HU5 : Hid (Upd [] w w5) := HU4.out.trans hU5
    have HU45 := Lib.hid (hU4'.out.trans hU5)
    have HP5 : Hid (SR W wb b base wd L fp fq w5) := HP.out.upd HU5.out
    have x0 := (hU5.cell hg2 (by simp) 0).trans hx0
    have x1 := (hU5.cell hg2 (by simp) 1).trans hx1
    have lg5 := Nat.lt_of_lt_of_le hg2 hU5.size
    have hm8 : m = 0 ∨ m = 1 ∨ m = 2 ∨ m = 3 ∨ m = 4 ∨ m = 5 ∨ m = 6 ∨ m = 7 ∨ m = 8 := by have := HMB.out; omega
    obtain ⟨r, hr⟩ : ∃ r, takeS base L nk nm = r := ⟨_, rfl⟩
    have HR := Lib.hid hr
    clear hU5 hx0 hx1 f0 f1 f2 lf hr
    rcases hm8 with rfl | rfl | rfl | rfl | rfl | rfl | rfl | rfl | rfl
    · skip
      go_wp2_with fail
      have HP5d : Hid (SR W wb b base wd L fp fq w5.drew) := HP5.out.upd (Upd.refl [] w5).drew
      go_region_held3 (fun w2 => Upd (fp ++ fq) w5 w2 ∧ ∀ (b o : Nat), b < w5.heap.size → b ∉ (fp ++ fq) → w2.cell? ⟨b, o, none⟩ = w5.cell? ⟨b, o, none⟩)
        (first | exact Held.init _ _ | exact Held.step (by assumption) hBb | exact Held.step (by assumption) hBa)
        (first | (go_at_call 31; refine (HP5d.out.1.push nk HNK.out nm hsm).mono ?_; rintro e w6 ⟨rfl, h6⟩; rw [HR.out]; have H6 := Lib.hid h6; have hBa := h6.up.mono (T := fp ++ fq) (fun i _ hm => by simp [hm]); clear h6) | (go_at_call 45; refine ((HP5d.out.after H6.out).push_all nk HNK.out nm hsm).mono ?_; rintro e w7 ⟨rfl, h7⟩; rw [HR.out]; have H7 := Lib.hid h7; have hBb := h7.up.mono (T := fp ++ fq) (fun i _ hm => by simp [hm]); clear h7))
      go_wp2
      go_ret
      exact spair_done5 HU5.out.drew HP5d.out HFP.out HFQ.out H6.out (Upd.refl _ _) H7.out (Upd.refl _ _) (len_ins5 _ L _)
    · skip
      go_wp2_with fail
      have HP5d : Hid (SR W wb b base wd L fp fq w5.drew) := HP5.out.upd (Upd.refl [] w5).drew
      go_region_held3 (fun w2 => Upd (fp ++ fq) w5 w2 ∧ ∀ (b o : Nat), b < w5.heap.size → b ∉ (fp ++ fq) → w2.cell? ⟨b, o, none⟩ = w5.cell? ⟨b, o, none⟩)
        (first | exact Held.init _ _ | exact Held.step (by assumption) hBb | exact Held.step (by assumption) hBa)
        (first | (go_at_call 31; refine (HP5d.out.1.push nk HNK.out nm hsm).mono ?_; rintro e w6 ⟨rfl, h6⟩; rw [HR.out]; have H6 := Lib.hid h6; have hBa := h6.up.mono (T := fp ++ fq) (fun i _ hm => by simp [hm]); clear h6) | (go_at_call 45; refine ((HP5d.out.after H6.out).push_all nk HNK.out nm hsm).mono ?_; rintro e w7 ⟨rfl, h7⟩; rw [HR.out]; have H7 := Lib.hid h7; have hBb := h7.up.mono (T := fp ++ fq) (fun i _ hm => by simp [hm]); clear h7))
      go_wp2
      go_ret
      exact spair_done5 HU5.out.drew HP5d.out HFP.out HFQ.out H6.out (Upd.refl _ _) H7.out (Upd.refl _ _) (len_ins5 _ L _)
    · skip
      go_wp2_with fail
      have HP5d : Hid (SR W wb b base wd L fp fq w5.drew) := HP5.out.upd (Upd.refl [] w5).drew
      go_region_held3 (fun w2 => Upd (fp ++ fq) w5 w2 ∧ ∀ (b o : Nat), b < w5.heap.size → b ∉ (fp ++ fq) → w2.cell? ⟨b, o, none⟩ = w5.cell? ⟨b, o, none⟩)
        (first | exact Held.init _ _ | exact Held.step (by assumption) hBb | exact Held.step (by assumption) hBa)
        (first | (go_at_call 31; refine (HP5d.out.1.push nk HNK.out nm hsm).mono ?_; rintro e w6 ⟨rfl, h6⟩; rw [HR.out]; have H6 := Lib.hid h6; have hBa := h6.up.mono (T := fp ++ fq) (fun i _ hm => by simp [hm]); clear h6) | (go_at_call 45; refine ((HP5d.out.after H6.out).push_all nk HNK.out nm hsm).mono ?_; rintro e w7 ⟨rfl, h7⟩; rw [HR.out]; have H7 := Lib.hid h7; have hBb := h7.up.mono (T := fp ++ fq) (fun i _ hm => by simp [hm]); clear h7))
      go_wp2
      go_ret
      exact spair_done5 HU5.out.drew HP5d.out HFP.out HFQ.out H6.out (Upd.refl _ _) H7.out (Upd.refl _ _) (len_ins5 _ L _)
    · skip
      go_wp2_with fail
      have HP5d : Hid (SR W wb b base wd L fp fq w5.drew) := HP5.out.upd (Upd.refl [] w5).drew
      go_region_held3 (fun w2 => Upd (fp ++ fq) w5 w2 ∧ ∀ (b o : Nat), b < w5.heap.size → b ∉ (fp ++ fq) → w2.cell? ⟨b, o, none⟩ = w5.cell? ⟨b, o, none⟩)
        (first | exact Held.init _ _ | exact Held.step (by assumption) hBb | exact Held.step (by assumption) hBa)
        (first | (go_at_call 31; refine (HP5d.out.1.push nk HNK.out nm hsm).mono ?_; rintro e w6 ⟨rfl, h6⟩; rw [HR.out]; have H6 := Lib.hid h6; have hBa := h6.up.mono (T := fp ++ fq) (fun i _ hm => by simp [hm]); clear h6) | (go_at_call 45; refine ((HP5d.out.after H6.out).push_all nk HNK.out nm hsm).mono ?_; rintro e w7 ⟨rfl, h7⟩; rw [HR.out]; have H7 := Lib.hid h7; have hBb := h7.up.mono (T := fp ++ fq) (fun i _ hm => by simp [hm]); clear h7))
      go_wp2
      go_ret
      exact spair_done5 HU5.out.drew HP5d.out HFP.out HFQ.out H6.out (Upd.refl _ _) H7.out (Upd.refl _ _) (len_ins5 _ L _)
    · skip
      obtain ⟨y, ok, hy⟩ : ∃ y ok, (firstV L) = itV y ok := (firstVit L)
      have HY := Lib.hid hy
      clear hy
      go_wp2_with fail
      refine ((SL.pop HP5.out.1)).mono ?_
      rintro e w6 ⟨rfl, h6⟩
      rw [HY.out]
      unfold itV
      have H6 := Lib.hid h6
      have lg6 := h6.up.size
      have x6 := (h6.up.cell lg5 n1 1).trans x1
      have lgw := Nat.lt_of_lt_of_le lg5 lg6
      clear h6
      go_wp2_with fail
      have HI6 : Hid (RG W b base wd true L fq (w6.alloc (.cells #[.int .u64 y.1, .int .i64 y.2] 24))) := (HP5.out.after H6.out).upd ((Upd.refl [] w6).alloc _) (by simp)
      have hn6 : w6.heap.size ∉ fq := fun e => by have := HFQ.out _ e; have := HU5.out.size; omega
      refine ((RG.pop HI6.out (SR.k2 HP5.out))).mono ?_
      rintro e w7 ⟨rfl, h7⟩
      rw [HY.out]
      unfold itV
      have H7 := Lib.hid h7
      have hBx := (Blk.new w6 24 [.int .u64 y.1, .int .i64 y.2]).upd h7.up hn6
      have a0 := hBx.cell (j := 0) rfl
      have a1 := hBx.cell (j := 1) rfl
      have lax := hBx.lt
      clear h7 hBx
      go_wp2
      go_ret
      exact spair_done5 HU5.out HP5.out HFP.out HFQ.out H6.out ((Upd.refl _ _).alloc _) H7.out ((Upd.refl _ _).alloc _) (by (simp; omega))
    · skip
      obtain ⟨y, ok, hy⟩ : ∃ y ok, (firstV L) = itV y ok := (firstVit L)
      have HY := Lib.hid hy
      clear hy
      go_wp2_with fail
      refine ((SL.pop HP5.out.1)).mono ?_
      rintro e w6 ⟨rfl, h6⟩
      rw [HY.out]
      unfold itV
      have H6 := Lib.hid h6
      have lg6 := h6.up.size
      have x6 := (h6.up.cell lg5 n1 1).trans x1
      have lgw := Nat.lt_of_lt_of_le lg5 lg6
      clear h6
      go_wp2_with fail
      have HI6 : Hid (RG W b base wd true L fq (w6.alloc (.cells #[.int .u64 y.1, .int .i64 y.2] 24))) := (HP5.out.after H6.out).upd ((Upd.refl [] w6).alloc _) (by simp)
      have hn6 : w6.heap.size ∉ fq := fun e => by have := HFQ.out _ e; have := HU5.out.size; omega
      refine ((RG.pop HI6.out (SR.k2 HP5.out))).mono ?_
      rintro e w7 ⟨rfl, h7⟩
      rw [HY.out]
      unfold itV
      have H7 := Lib.hid h7
      have hBx := (Blk.new w6 24 [.int .u64 y.1, .int .i64 y.2]).upd h7.up hn6
      have a0 := hBx.cell (j := 0) rfl
      have a1 := hBx.cell (j := 1) rfl
      have lax := hBx.lt
      clear h7 hBx
      go_wp2
      go_ret
      exact spair_done5 HU5.out HP5.out HFP.out HFQ.out H6.out ((Upd.refl _ _).alloc _) H7.out ((Upd.refl _ _).alloc _) (by (simp; omega))
    · skip
      obtain ⟨y, ok, hy⟩ := dropVit L nm
      have HY := Lib.hid hy
      clear hy
      go_wp2_with fail
      refine (SL.drop HP5.out.1 nm).mono ?_
      rintro e w6 ⟨rfl, h6⟩
      rw [HY.out]
      unfold itV
      have H6 := Lib.hid h6
      have lg6 := h6.up.size
      have x6 := (h6.up.cell lg5 n1 1).trans x1
      have lgw := Nat.lt_of_lt_of_le lg5 lg6
      have lb6 := Nat.lt_of_lt_of_le (Nat.lt_of_lt_of_le lb HU45.out.size) lg6
      clear h6
      go_wp2_with fail
      obtain ⟨w7, hw7⟩ : ∃ w7, w7 = w6.alloc (.cells #[.int .u64 y.1, .int .i64 y.2] 24) := ⟨_, rfl⟩
      have HW7 := Lib.hid hw7
      have HI7 : Hid (RG W b base wd true L fq w7) := by unfold Hid; rw [hw7]; exact (HP5.out.after H6.out).upd ((Upd.refl [] w6).alloc _) (by simp)
      have x7 : w7.cell? ⟨g, 1, none⟩ = some (.int .i64 nm) := by rw [hw7, World.cell?_alloc_past _ _ _ (by simpa using lgw)]; exact x6
      have lg7 : g < w7.heap.size := by rw [hw7]; simp; omega
      have lb7 : b < w7.heap.size := by rw [hw7]; simp; omega
      have hbx := (Blk.new w6 24 [.int .u64 y.1, .int .i64 y.2])
      rw [← hw7] at hbx
      have l67 := hbx.lt
      have HBX := Lib.hid hbx
      rw [← hw7]
      have HG7 : Hid (Upd [] w6 w7) := by unfold Hid; rw [hw7]; exact (Upd.refl [] w6).alloc _
      have HN7 : Hid (w7.heap.size ∉ fq) := fun e => by have := HFQ.out _ e; have := HU5.out.size; omega
      have HN6 : Hid (w6.heap.size ∉ fq) := fun e => by have := HFQ.out _ e; have := HU5.out.size; omega
      clear hw7 hbx x6
      go_region_held3 (fun w2 => Upd fq w7 w2 ∧ ∀ (b o : Nat), b < w7.heap.size → b ∉ fq → w2.cell? ⟨b, o, none⟩ = w7.cell? ⟨b, o, none⟩)
        (first | exact Held.init _ _ | assumption | exact Held.step (by assumption) hBb | exact Held.new (by assumption) _ | exact Held.new (Held.init fq w7) _ | exact Held.new (Held.step (Held.init fq w7) hBb) _ | exact Held.far (Held.far (by assumption) (by first | omega | (simp; done) | (simp; omega)) _) (by first | omega | (simp; done) | (simp; omega)) _)
        (first | (go_at_call 47; refine (RG.drop (by first | exact HI7.out | exact HI7.out.upd (Upd.refl [] w7).drew (by simp) | exact HI7.out.upd (((Upd.refl [] w7).alloc _).drew) (by simp) | exact HI7.out.upd (((Upd.refl [] w7).alloc _)) (by simp)) nm).mono ?_; rintro e w8 ⟨rfl, h8⟩; rw [HY.out]; unfold itV; have H8 := Lib.hid h8; have hBb := h8.up; have hsz8 := hBb.size; (try simp at hsz8); (try (have q := szero_S HN7.out hBb; obtain ⟨q0, q1, q2, q3, q4⟩ := q)); (try (have q := szero_S' HN7.out hBb; obtain ⟨q0, q1, q2, q3, q4⟩ := q)); clear h8))
      all_goals
        have hBx8 := HBX.out.upd (‹Upd fq w7 _ ∧ _›.1) HN6.out
        have a0 := hBx8.cell (j := 0) rfl
        have a1 := hBx8.cell (j := 1) rfl
        have lax := hBx8.lt
        clear hBx8
        go_wp2
        go_ret
        first | exact spair_done5 HU5.out HP5.out HFP.out HFQ.out H6.out HG7.out.drew H8.out ((Upd.refl _ _).alloc _) (by have := dropI_len5 L nm; omega) | exact spair_done6 (S := [w7.heap.size]) HU5.out HP5.out HFP.out HFQ.out H6.out (HG7.out.alloc _).drew H8.out (((Upd.refl _ _).setCell (by simp) _).setCell (by simp) _) (fun c hc => by simp at hc; subst hc; exact ⟨by have := HG7.out.size; omega, by simp⟩) (by have := dropI_len5 L nm; omega)
    · obtain ⟨y, ok, hy⟩ := firstVit L
      have HY := Lib.hid hy
      clear hy
      go_wp2_with fail
      refine (HP5.out.2.1.min).mono ?_
      rintro e w6 ⟨rfl, hU6⟩
      rw [HY.out]
      unfold itV
      have HU6 := Lib.hid hU6
      have lg6 := hU6.size
      have x6 := (hU6.cell lg5 (by simp) 0).trans x0
      have lgw := Nat.lt_of_lt_of_le lg5 lg6
      have hB6 := HB1.out.upd (HU45.out.trans hU6) (by simp)
      have f2 := hB6.cell (j := 2) rfl
      have lf := hB6.lt
      have hQ6 := HBQ.out.upd (HU45.out.trans hU6) (by simp)
      have c1 := hQ6.cell (j := 1) rfl
      have lb6 := hQ6.lt
      clear hU6 hB6 hQ6
      have HPq : Hid (∀ o n, SR W wb b base wd L fp fq ((w6.alloc o).drewN n)) := fun o n => HP5.out.upd ((HU6.out.alloc _).drewN n)
      have HUq : Hid (∀ o n, Upd [] w ((w6.alloc o).drewN n)) := fun o n => HU5.out.trans ((HU6.out.alloc _).drewN n)
      cases ok with
      | false =>
        go_wp2_with fail
        obtain ⟨r, hr⟩ : ∃ r, movB base L nk = r := ⟨_, rfl⟩
        have HR := Lib.hid hr
        clear hr
        refine ((HPq.out _ 0).1.move nk HNK.out).mono ?_
        rintro e w7 ⟨rfl, h7⟩
        rw [HR.out]
        have H7 := Lib.hid h7
        clear h7
        go_wp2_with fail
        refine (((HPq.out _ 0).after H7.out).move nk HNK.out (fun x hx => (HP.out.k2 x hx).1)).mono ?_
        rintro e w8 ⟨rfl, h8⟩
        rw [HR.out]
        have H8 := Lib.hid h8
        clear h8
        go_wp2
        go_ret
        exact spair_done5 (HUq.out _ 0) (HPq.out _ 0) HFP.out HFQ.out H7.out (Upd.refl _ _) H8.out (Upd.refl _ _) (by omega)
      | true =>
        by_cases hp : id.tmod 2 = 0
        · have t1 : (id.tmod 2 == 0) = true := by simp [hp]
          have hyL := firstV_key (HP.out.k2) HY.out
          have hyk := HP.out.2.2.2 y hyL
          obtain ⟨ky, hky⟩ : ∃ n, kn y = n := ⟨_, rfl⟩
          rw [hky] at hyk
          obtain ⟨d, m, t0, e1, e2, e3, e4, e5, e6, ht0⟩ := mid_eqs hyk.2.2 hyk.2.1
          have HT0 := Lib.hid ht0
          have e0 := hyk.1
          clear ht0 hyk hky hyL hp
          go_wp2_with fail
          go_quiet (fail)
          go_wp2_with fail
          clear e1 e2 e3 e4 e5 e6
          obtain ⟨r, hr⟩ : ∃ r, movB base L t0 = r := ⟨_, rfl⟩
          have HR := Lib.hid hr
          clear hr
          refine ((HPq.out _ _).1.move t0 HT0.out).mono ?_
          rintro e w7 ⟨rfl, h7⟩
          rw [HR.out]
          have H7 := Lib.hid h7
          clear h7
          go_wp2_with fail
          refine (((HPq.out _ _).after H7.out).move t0 HT0.out (fun x hx => (HP.out.k2 x hx).1)).mono ?_
          rintro e w8 ⟨rfl, h8⟩
          rw [HR.out]
          have H8 := Lib.hid h8
          clear h8
          go_wp2
          go_ret
          exact spair_done5 (HUq.out _ _) (HPq.out _ _) HFP.out HFQ.out H7.out (Upd.refl _ _) H8.out (Upd.refl _ _) (by omega)
        · have t1 : (id.tmod 2 == 0) = false := by simp [hp]
          clear hp
          go_wp2_with fail
          obtain ⟨r, hr⟩ : ∃ r, movB base L nk = r := ⟨_, rfl⟩
          have HR := Lib.hid hr
          clear hr
          refine ((HPq.out _ 0).1.move nk HNK.out).mono ?_
          rintro e w7 ⟨rfl, h7⟩
          rw [HR.out]
          have H7 := Lib.hid h7
          clear h7
          go_wp2_with fail
          refine (((HPq.out _ 0).after H7.out).move nk HNK.out (fun x hx => (HP.out.k2 x hx).1)).mono ?_
          rintro e w8 ⟨rfl, h8⟩
          rw [HR.out]
          have H8 := Lib.hid h8
          clear h8
          go_wp2
          go_ret
          exact spair_done5 (HUq.out _ 0) (HPq.out _ 0) HFP.out HFQ.out H7.out (Upd.refl _ _) H8.out (Upd.refl _ _) (by omega)
    · obtain ⟨y, ok, hy⟩ := firstVit L
      have HY := Lib.hid hy
      clear hy
      go_wp2_with fail
      refine (HP5.out.1.min).mono ?_
      rintro e w6 ⟨rfl, hU6⟩
      rw [HY.out]
      unfold itV
      have HU6 := Lib.hid hU6
      have lg6 := hU6.size
      have x6 := (hU6.cell lg5 (by simp) 1).trans x1
      have lgw := Nat.lt_of_lt_of_le lg5 lg6
      have lb6 := Nat.lt_of_lt_of_le (Nat.lt_of_lt_of_le lb HU45.out.size) lg6
      clear hU6
      go_wp2_with fail
      refine ((HP5.out.upd (HU6.out.alloc (.cells #[.int .u64 y.1, .int .i64 y.2] 24))).2.1.min).mono ?_
      rintro e w7 ⟨rfl, hU7⟩
      rw [HY.out]
      unfold itV
      have HU7 := Lib.hid hU7
      have hBx := (Blk.new w6 24 [.int .u64 y.1, .int .i64 y.2]).upd hU7 (by simp)
      have a0 := hBx.cell (j := 0) rfl
      have a1 := hBx.cell (j := 1) rfl
      have lax := hBx.lt
      have x7 : w7.cell? ⟨g, 1, none⟩ = some (.int .i64 nm) := by rw [hU7.cell (b := g) (by simp; omega) (by simp) 1, World.cell?_alloc_past _ _ _ (by simpa using lgw)]; exact x6
      have lg7 : g < w7.heap.size := by have := hU7.size; simp at this; omega
      have lb7 : b < w7.heap.size := by have := hU7.size; simp at this; omega
      have HP8 : Hid (SR W wb b base wd L fp fq (w7.alloc (.cells #[.int .u64 y.1, .int .i64 y.2] 24))) := HP5.out.upd (((HU6.out.alloc _).trans hU7).alloc _)
      have HU8 : Hid (Upd [] w (w7.alloc (.cells #[.int .u64 y.1, .int .i64 y.2] 24))) := HU5.out.trans (((HU6.out.alloc _).trans hU7).alloc _)
      clear hU7 hBx x6
      cases hx : hasI L nm with
      | true =>
        obtain ⟨i, hi, hil, _⟩ := posI_of hx
        have HX := Lib.hid hx
        have HI := Lib.hid hi
        have hib : (i : Int) < 1000 := by omega
        clear hx hi
        obtain ⟨w8, hw8⟩ : ∃ w8, w8 = w7.alloc (.cells #[.int .u64 y.1, .int .i64 y.2] 24) := ⟨_, rfl⟩
        go_wp2_with fail
        rw [← hw8]
        have z0 : w8.cell? ⟨w7.heap.size, 0, none⟩ = some (.int .u64 y.1) := by rw [hw8]; exact (Blk.new w7 24 [.int .u64 y.1, .int .i64 y.2]).cell (j := 0) rfl
        have z1 : w8.cell? ⟨w7.heap.size, 1, none⟩ = some (.int .i64 y.2) := by rw [hw8]; exact (Blk.new w7 24 [.int .u64 y.1, .int .i64 y.2]).cell (j := 1) rfl
        have y0 : w8.cell? ⟨w6.heap.size, 0, none⟩ = some (.int .u64 y.1) := by rw [hw8, World.cell?_alloc_past _ _ _ (by simpa using lax)]; exact a0
        have y1 : w8.cell? ⟨w6.heap.size, 1, none⟩ = some (.int .i64 y.2) := by rw [hw8, World.cell?_alloc_past _ _ _ (by simpa using lax)]; exact a1
        have x8 : w8.cell? ⟨g, 1, none⟩ = some (.int .i64 nm) := by rw [hw8, World.cell?_alloc_past _ _ _ (by simpa using lg7)]; exact x7
        have hs8 : w8.heap.size = w7.heap.size + 1 := by rw [hw8]; simp
        have l1 : w7.heap.size < w8.heap.size := by omega
        have l2 : w6.heap.size < w8.heap.size := by omega
        have l3 : g < w8.heap.size := by omega
        have l4 : b < w8.heap.size := by omega
        rw [← hw8] at HP8 HU8
        clear hw8 hs8 a0 a1 x7
        go_region_held3 (fun w2 => Upd [] w8 w2 ∧ ∀ (b o : Nat), b < w8.heap.size → b ∉ ([] : List Nat) → w2.cell? ⟨b, o, none⟩ = w8.cell? ⟨b, o, none⟩)
          (first | exact Held.init _ _ | assumption | exact Held.step (by assumption) hBa)
          (first | (go_at_call 23; refine ((HP8.out.upd (Upd.refl [] w8).drew).1.has nm).mono ?_; rintro e w9 ⟨rfl, hBa⟩; rw [HX.out]) | (go_at_call 42; refine ((HP8.out.upd ((Upd.refl [] w8).drew.trans hBa)).2.1.at_ nm).mono ?_; rintro e w9 ⟨rfl, hw9⟩; rw [HI.out]; subst hw9))
        go_wp2
        go_ret
        exact deed6_none HP.out (HU8.out.drew.trans hBa)
      | false =>
        have hi := posI_neg hx
        have HX := Lib.hid hx
        have HI := Lib.hid hi
        clear hx hi
        obtain ⟨w8, hw8⟩ : ∃ w8, w8 = w7.alloc (.cells #[.int .u64 y.1, .int .i64 y.2] 24) := ⟨_, rfl⟩
        go_wp2_with fail
        rw [← hw8]
        have z0 : w8.cell? ⟨w7.heap.size, 0, none⟩ = some (.int .u64 y.1) := by rw [hw8]; exact (Blk.new w7 24 [.int .u64 y.1, .int .i64 y.2]).cell (j := 0) rfl
        have z1 : w8.cell? ⟨w7.heap.size, 1, none⟩ = some (.int .i64 y.2) := by rw [hw8]; exact (Blk.new w7 24 [.int .u64 y.1, .int .i64 y.2]).cell (j := 1) rfl
        have y0 : w8.cell? ⟨w6.heap.size, 0, none⟩ = some (.int .u64 y.1) := by rw [hw8, World.cell?_alloc_past _ _ _ (by simpa using lax)]; exact a0
        have y1 : w8.cell? ⟨w6.heap.size, 1, none⟩ = some (.int .i64 y.2) := by rw [hw8, World.cell?_alloc_past _ _ _ (by simpa using lax)]; exact a1
        have x8 : w8.cell? ⟨g, 1, none⟩ = some (.int .i64 nm) := by rw [hw8, World.cell?_alloc_past _ _ _ (by simpa using lg7)]; exact x7
        have hs8 : w8.heap.size = w7.heap.size + 1 := by rw [hw8]; simp
        have l1 : w7.heap.size < w8.heap.size := by omega
        have l2 : w6.heap.size < w8.heap.size := by omega
        have l3 : g < w8.heap.size := by omega
        have l4 : b < w8.heap.size := by omega
        rw [← hw8] at HP8 HU8
        clear hw8 hs8 a0 a1 x7
        go_region_held3 (fun w2 => Upd [] w8 w2 ∧ ∀ (b o : Nat), b < w8.heap.size → b ∉ ([] : List Nat) → w2.cell? ⟨b, o, none⟩ = w8.cell? ⟨b, o, none⟩)
          (first | exact Held.init _ _ | assumption | exact Held.step (by assumption) hBa)
          (first | (go_at_call 23; refine ((HP8.out.upd (Upd.refl [] w8).drew).1.has nm).mono ?_; rintro e w9 ⟨rfl, hBa⟩; rw [HX.out]) | (go_at_call 42; refine ((HP8.out.upd ((Upd.refl [] w8).drew.trans hBa)).2.1.at_ nm).mono ?_; rintro e w9 ⟨rfl, hw9⟩; rw [HI.out]; subst hw9))
        go_wp2
        go_ret
        exact deed6_none HP.out (HU8.out.drew.trans hBa)
end Go.Proofs.YtkepeolbpgnlbaaDoor
