/-
  A deed done to a heap and to the reference's list: both tell the same. No condition.
-/
import Derived.Test.YtilibinmbmgedaaHeapV
namespace Go.Proofs.Ytilibinmbmgedaa
open Go.RowKit

theorem zero_at {w1 w3 : World} (h : Upd [] (w1.alloc (.cells #[.int .u64 0, .int .i64 0] 37)).drew w3) :
    w3.cell? ⟨w1.heap.size, 0, none⟩ = some (.int .u64 0) ∧ w3.cell? ⟨w1.heap.size, 1, none⟩ = some (.int .i64 0) ∧ w3.frozen? ⟨w1.heap.size, 0, none⟩ = false ∧ w3.frozen? ⟨w1.heap.size, 1, none⟩ = false ∧ w1.heap.size < w3.heap.size := by
  have hB := (Blk.new w1 37 [.int .u64 0, .int .i64 0]).upd (((Upd.refl [] _).drew).trans h) (by simp)
  exact ⟨hB.cell rfl, hB.cell rfl, hB.free _, hB.free _, hB.lt⟩
theorem zero_at' {w1 w3 : World} (h : Upd [] (w1.alloc (.cells #[.int .u64 0, .int .i64 0] 37)) w3) :
    w3.cell? ⟨w1.heap.size, 0, none⟩ = some (.int .u64 0) ∧ w3.cell? ⟨w1.heap.size, 1, none⟩ = some (.int .i64 0) ∧ w3.frozen? ⟨w1.heap.size, 0, none⟩ = false ∧ w3.frozen? ⟨w1.heap.size, 1, none⟩ = false ∧ w1.heap.size < w3.heap.size := by
  have hB := (Blk.new w1 37 [.int .u64 0, .int .i64 0]).upd h (by simp)
  exact ⟨hB.cell rfl, hB.cell rfl, hB.free _, hB.free _, hB.lt⟩
theorem zero_keep {w3 w4 : World} {g : Nat} (h : Upd [] w3 w4) (q0 : w3.cell? ⟨g, 0, none⟩ = some (.int .u64 0)) (q1 : w3.cell? ⟨g, 1, none⟩ = some (.int .i64 0)) (q2 : w3.frozen? ⟨g, 0, none⟩ = false) (q3 : w3.frozen? ⟨g, 1, none⟩ = false) (q4 : g < w3.heap.size) :
    w4.cell? ⟨g, 0, none⟩ = some (.int .u64 0) ∧ w4.cell? ⟨g, 1, none⟩ = some (.int .i64 0) ∧ w4.frozen? ⟨g, 0, none⟩ = false ∧ w4.frozen? ⟨g, 1, none⟩ = false ∧ g < w4.heap.size :=
  ⟨(h.cell q4 (by simp) 0).trans q0, (h.cell q4 (by simp) 1).trans q1, (h.frozen q4 (by simp) 0).trans q2, (h.frozen q4 (by simp) 1).trans q3, Nat.lt_of_lt_of_le q4 h.size⟩
theorem nilFp {c : Nat} : c ∉ ([] : List Nat) := by simp

theorem HGTo.up {W : World} {hb : Nat} {L : List It} {fp : List Nat} {w w' : World} (h : HGTo W hb L fp w w') : Upd fp w w' := by obtain ⟨_, _, _, h⟩ := h; exact h
theorem IGTo.up {W : World} {b : Nat} {L : List It} {fq : List Nat} {w w' : World} (h : IGTo W b L fq w w') : Upd fq w w' := by obtain ⟨_, _, _, h⟩ := h; exact h
theorem len_push_le4 (L : List It) (x : It) : (if hasI L x.2 = true then L else insI x L).length ≤ L.length + 1 := by rw [len_ins]; split <;> omega
theorem dropI_len (L : List It) (id : Int) : (dropI L id).length ≤ L.length := List.length_filter_le _ _
theorem deed_none {W : World} {hb b : Nat} {L : List It} {fp fq : List Nat} {w w' : World} (hp : PR W hb b L fp fq w) (hU : Upd [] w w') : DeedTo W hb b L fp fq w (.returned (.bool true)) w' :=
  ⟨rfl, L, fp, fq, hp.upd hU, fun _ h => .inl h, fun _ h => .inl h, hU.nil, by omega⟩

set_option maxRecDepth 100000 in
set_option maxHeartbeats 32000000 in
theorem step4_any (W : World) (hb b : Nat) (L : List It) (fp fq : List Nat) (k key id : Int) (h0 : 0 ≤ key) (w : World) (h : PR W hb b L fp fq w) (hsm : L.length < 1000) :
    Calls Try.prog 9 #[.pointer (some ⟨hb, 0, none⟩), .pointer (some ⟨b, 0, none⟩), .agg #[.int .i64 k, .int .u64 key, .int .i64 id]] w (DeedTo W hb b L fp fq w) := by
  have HP := Lib.hid h
  have HFP := Lib.hid h.1.1.lt
  have HFQ := Lib.hid h.2.1.lt
  obtain ⟨sk, hsk⟩ : ∃ x, smallK key = x := ⟨_, rfl⟩
  have HSK := Lib.hid hsk
  obtain ⟨nm, hnm⟩ : ∃ x, nameI id = x := ⟨_, rfl⟩
  have HNM := Lib.hid hnm
  have hmb := modI_bd k 8 (by omega) (by omega)
  obtain ⟨m, hm⟩ : ∃ m, modI k 8 = m := ⟨_, rfl⟩
  rw [hm] at hmb
  have HM := Lib.hid hm
  have HMB := Lib.hid hmb
  obtain ⟨w1, hw1⟩ : ∃ w1, w1 = w.alloc (.cells #[.int .i64 k, .int .u64 key, .int .i64 id] 33 (0, 0)) := ⟨_, rfl⟩
  have hU1 : Upd [] w w1 := by rw [hw1]; exact (Upd.refl _ w).alloc _
  have HU1 := Lib.hid hU1
  have hB1 : Blk w1 w.heap.size 33 [.int .i64 k, .int .u64 key, .int .i64 id] := by rw [hw1]; exact heap_one w _
  have HB1 := Lib.hid hB1
  have d0 := hB1.cell (j := 0) rfl
  have d1 := hB1.cell (j := 1) rfl
  have d2 := hB1.cell (j := 2) rfl
  have ld := hB1.lt
  have HW1 := Lib.hid hw1
  clear h hsk hnm hm hmb hw1 hU1 hB1
  go_enter Try.func9, Try.ntmps9
  go_wp2_with fail
  rw [← HW1.out]
  go_cut [7] (fun s7 wx => ItemVar w1 (sk, nm) s7 wx)
  case first =>
    go_region_held3 (fun w2 => Upd [] w1 w2 ∧ ∀ (b o : Nat), b < w1.heap.size → b ∉ ([] : List Nat) → w2.cell? ⟨b, o, none⟩ = w1.cell? ⟨b, o, none⟩)
      (first | exact Held.init _ _ | assumption | exact Held.step (by assumption) hBb | exact Held.step (by assumption) hBa | exact Held.new (by assumption) _ | exact Held.new (Held.init [] w1) _ | exact Held.new (Held.step (Held.step (Held.init [] w1) hBa) hBb) _ | exact Held.new (Held.step (Held.init [] w1) hBa) _ | exact Held.far (Held.far (by assumption) (by first | omega | (simp; done) | (simp; omega)) _) (by first | omega | (simp; done) | (simp; omega)) _)
      (first | (go_at_call 21; refine (small_any _ _ _ h0 _).mono ?_; rintro e w3 ⟨rfl, hBa⟩; rw [HSK.out]; have hcs := hBa.cells; have hfs := hBa.frozens; have hsz1 := hBa.size; (try simp at hsz1); (try (have q := zero_at hBa; obtain ⟨q0, q1, q2, q3, q4⟩ := q))) | (go_at_call 22; refine (name_any _ _ _ _).mono ?_; rintro e w4 ⟨rfl, hBb⟩; rw [HNM.out]; have hcs2 := hBb.cells; have hfs2 := hBb.frozens; have hsz2 := hBb.size; (try simp at hsz2); (try (have q := zero_at' hBb; obtain ⟨q0, q1, q2, q3, q4⟩ := q)); (try (have q := zero_keep hBb q0 q1 q2 q3 q4; obtain ⟨r0, r1, r2, r3, r4⟩ := q))))
    all_goals
      go_wp2_with fail
      go_meet
      refine ⟨_, rfl, ?_, ?_, ?_, ?_, ‹Upd [] w1 _ ∧ _›.1⟩
      · first | omega | (simp; done) | (simp; omega)
      · first | omega | (simp; done) | (simp; omega)
      · first | (simp; done) | exact (two_set rfl rfl r0 r1 _ _).1 | exact (two_set rfl rfl q0 q1 _ _).1
      · first | (simp; done) | exact (two_set rfl rfl r0 r1 _ _).2 | exact (two_set rfl rfl q0 q1 _ _).2
  case rest =>
    obtain ⟨g, rfl, hg1, hg2, hx0, hx1, hU4⟩ := hcut
    have hB4 := HB1.out.upd hU4 (by simp)
    have f0 := hB4.cell (j := 0) rfl
    have f1 := hB4.cell (j := 1) rfl
    have f2 := hB4.cell (j := 2) rfl
    have lf := hB4.lt
    have n1 : g ∉ fp := fun e => by have := HFP.out g e; omega
    have n2 : g ∉ fq := fun e => by have := HFQ.out g e; omega
    have HU4 : Hid (Upd [] w wc) := HU1.out.trans hU4
    clear hU4 hB4 d0 d1 d2 ld
    go_wp2_with fail
    refine (what_any k key id 8 (by omega) (by omega) _).mono ?_
    rintro e w5 ⟨rfl, hU5⟩
    rw [HM.out]
    have HU5 : Hid (Upd [] w w5) := HU4.out.trans hU5
    have HP5 : Hid (PR W hb b L fp fq w5) := HP.out.upd HU5.out
    have x0 := (hU5.cell hg2 (by simp) 0).trans hx0
    have x1 := (hU5.cell hg2 (by simp) 1).trans hx1
    have lg5 := Nat.lt_of_lt_of_le hg2 hU5.size
    have hm8 : m = 0 ∨ m = 1 ∨ m = 2 ∨ m = 3 ∨ m = 4 ∨ m = 5 ∨ m = 6 ∨ m = 7 := by have := HMB.out; omega
    clear hU5 hx0 hx1 f0 f1 f2 lf
    rcases hm8 with rfl | rfl | rfl | rfl | rfl | rfl | rfl | rfl
    · skip
      go_wp2_with fail
      have HP5d : Hid (PR W hb b L fp fq w5.drew) := HP5.out.upd (Upd.refl [] w5).drew
      go_region_held3 (fun w2 => Upd (fp ++ fq) w5 w2 ∧ ∀ (b o : Nat), b < w5.heap.size → b ∉ (fp ++ fq) → w2.cell? ⟨b, o, none⟩ = w5.cell? ⟨b, o, none⟩)
        (first | exact Held.init _ _ | exact Held.step (by assumption) hBb | exact Held.step (by assumption) hBa)
        (first | (go_at_call 13; refine (HP5d.out.1.push (sk, nm) hsm).mono ?_; rintro e w6 ⟨rfl, h6⟩; have H6 := Lib.hid h6; have hBa := h6.up.mono (T := fp ++ fq) (fun i _ hm => by simp [hm]); clear h6) | (go_at_call 16; refine ((HP5d.out.after H6.out).push (Nat.le_trans HP5d.out.1.2.2.size hBa.size) (sk, nm) hsm).mono ?_; rintro e w7 ⟨rfl, h7⟩; have H7 := Lib.hid h7; have hBb := h7.up.mono (T := fp ++ fq) (fun i _ hm => by simp [hm]); clear h7))
      go_wp2
      go_ret
      exact pair_done HU5.out.drew HP5d.out HFP.out HFQ.out H6.out (Upd.refl _ _) H7.out (Upd.refl _ _) (len_push_le4 L (sk, nm))
    · skip
      go_wp2_with fail
      have HP5d : Hid (PR W hb b L fp fq w5.drew) := HP5.out.upd (Upd.refl [] w5).drew
      go_region_held3 (fun w2 => Upd (fp ++ fq) w5 w2 ∧ ∀ (b o : Nat), b < w5.heap.size → b ∉ (fp ++ fq) → w2.cell? ⟨b, o, none⟩ = w5.cell? ⟨b, o, none⟩)
        (first | exact Held.init _ _ | exact Held.step (by assumption) hBb | exact Held.step (by assumption) hBa)
        (first | (go_at_call 13; refine (HP5d.out.1.push (sk, nm) hsm).mono ?_; rintro e w6 ⟨rfl, h6⟩; have H6 := Lib.hid h6; have hBa := h6.up.mono (T := fp ++ fq) (fun i _ hm => by simp [hm]); clear h6) | (go_at_call 16; refine ((HP5d.out.after H6.out).push (Nat.le_trans HP5d.out.1.2.2.size hBa.size) (sk, nm) hsm).mono ?_; rintro e w7 ⟨rfl, h7⟩; have H7 := Lib.hid h7; have hBb := h7.up.mono (T := fp ++ fq) (fun i _ hm => by simp [hm]); clear h7))
      go_wp2
      go_ret
      exact pair_done HU5.out.drew HP5d.out HFP.out HFQ.out H6.out (Upd.refl _ _) H7.out (Upd.refl _ _) (len_push_le4 L (sk, nm))
    · skip
      go_wp2_with fail
      have HP5d : Hid (PR W hb b L fp fq w5.drew) := HP5.out.upd (Upd.refl [] w5).drew
      go_region_held3 (fun w2 => Upd (fp ++ fq) w5 w2 ∧ ∀ (b o : Nat), b < w5.heap.size → b ∉ (fp ++ fq) → w2.cell? ⟨b, o, none⟩ = w5.cell? ⟨b, o, none⟩)
        (first | exact Held.init _ _ | exact Held.step (by assumption) hBb | exact Held.step (by assumption) hBa)
        (first | (go_at_call 13; refine (HP5d.out.1.push (sk, nm) hsm).mono ?_; rintro e w6 ⟨rfl, h6⟩; have H6 := Lib.hid h6; have hBa := h6.up.mono (T := fp ++ fq) (fun i _ hm => by simp [hm]); clear h6) | (go_at_call 16; refine ((HP5d.out.after H6.out).push (Nat.le_trans HP5d.out.1.2.2.size hBa.size) (sk, nm) hsm).mono ?_; rintro e w7 ⟨rfl, h7⟩; have H7 := Lib.hid h7; have hBb := h7.up.mono (T := fp ++ fq) (fun i _ hm => by simp [hm]); clear h7))
      go_wp2
      go_ret
      exact pair_done HU5.out.drew HP5d.out HFP.out HFQ.out H6.out (Upd.refl _ _) H7.out (Upd.refl _ _) (len_push_le4 L (sk, nm))
    · skip
      go_wp2_with fail
      have HP5d : Hid (PR W hb b L fp fq w5.drew) := HP5.out.upd (Upd.refl [] w5).drew
      go_region_held3 (fun w2 => Upd (fp ++ fq) w5 w2 ∧ ∀ (b o : Nat), b < w5.heap.size → b ∉ (fp ++ fq) → w2.cell? ⟨b, o, none⟩ = w5.cell? ⟨b, o, none⟩)
        (first | exact Held.init _ _ | exact Held.step (by assumption) hBb | exact Held.step (by assumption) hBa)
        (first | (go_at_call 13; refine (HP5d.out.1.push (sk, nm) hsm).mono ?_; rintro e w6 ⟨rfl, h6⟩; have H6 := Lib.hid h6; have hBa := h6.up.mono (T := fp ++ fq) (fun i _ hm => by simp [hm]); clear h6) | (go_at_call 16; refine ((HP5d.out.after H6.out).push (Nat.le_trans HP5d.out.1.2.2.size hBa.size) (sk, nm) hsm).mono ?_; rintro e w7 ⟨rfl, h7⟩; have H7 := Lib.hid h7; have hBb := h7.up.mono (T := fp ++ fq) (fun i _ hm => by simp [hm]); clear h7))
      go_wp2
      go_ret
      exact pair_done HU5.out.drew HP5d.out HFP.out HFQ.out H6.out (Upd.refl _ _) H7.out (Upd.refl _ _) (len_push_le4 L (sk, nm))
    · obtain ⟨y, ok, hy⟩ := firstV_it L
      have HY := Lib.hid hy
      clear hy
      go_wp2_with fail
      refine (HP5.out.1.pop).mono ?_
      rintro e w6 ⟨rfl, h6⟩
      rw [HY.out]
      unfold itV
      have H6 := Lib.hid h6
      have lg6 := h6.up.size
      have x6 := (h6.up.cell lg5 n1 1).trans x1
      have lgw := Nat.lt_of_lt_of_le lg5 lg6
      clear h6
      go_wp2_with fail
      have HI6 : Hid (IG W b L fq (w6.alloc (.cells #[.int .u64 y.1, .int .i64 y.2] 37))) := (HP5.out.after H6.out).upd ((Upd.refl [] w6).alloc _) (by simp)
      have hn6 : w6.heap.size ∉ fq := fun e => by have := HFQ.out _ e; have := HU5.out.size; omega
      refine (IG.pop HI6.out (by have := HP5.out.1.2.2.size; simp; omega)).mono ?_
      rintro e w7 ⟨rfl, h7⟩
      rw [HY.out]
      unfold itV
      have H7 := Lib.hid h7
      have hBx := (Blk.new w6 37 [.int .u64 y.1, .int .i64 y.2]).upd h7.up hn6
      have a0 := hBx.cell (j := 0) rfl
      have a1 := hBx.cell (j := 1) rfl
      have lax := hBx.lt
      clear h7 hBx
      go_wp2
      go_ret
      exact pair_done HU5.out HP5.out HFP.out HFQ.out H6.out ((Upd.refl _ _).alloc _) H7.out ((Upd.refl _ _).alloc _) (by (simp; omega))
    · obtain ⟨y, ok, hy⟩ := dropV_it L nm
      have HY := Lib.hid hy
      clear hy
      go_wp2_with fail
      refine (HP5.out.1.drop nm).mono ?_
      rintro e w6 ⟨rfl, h6⟩
      rw [HY.out]
      unfold itV
      have H6 := Lib.hid h6
      have lg6 := h6.up.size
      have x6 := (h6.up.cell lg5 n1 1).trans x1
      have lgw := Nat.lt_of_lt_of_le lg5 lg6
      clear h6
      go_wp2_with fail
      have HI6 : Hid (IG W b L fq (w6.alloc (.cells #[.int .u64 y.1, .int .i64 y.2] 37))) := (HP5.out.after H6.out).upd ((Upd.refl [] w6).alloc _) (by simp)
      have hn6 : w6.heap.size ∉ fq := fun e => by have := HFQ.out _ e; have := HU5.out.size; omega
      refine (IG.drop HI6.out (by have := HP5.out.1.2.2.size; simp; omega) nm).mono ?_
      rintro e w7 ⟨rfl, h7⟩
      rw [HY.out]
      unfold itV
      have H7 := Lib.hid h7
      have hBx := (Blk.new w6 37 [.int .u64 y.1, .int .i64 y.2]).upd h7.up hn6
      have a0 := hBx.cell (j := 0) rfl
      have a1 := hBx.cell (j := 1) rfl
      have lax := hBx.lt
      clear h7 hBx
      go_wp2
      go_ret
      exact pair_done HU5.out HP5.out HFP.out HFQ.out H6.out ((Upd.refl _ _).alloc _) H7.out ((Upd.refl _ _).alloc _) (by have := dropI_len L nm; omega)
    · cases hx : hasI L nm with
      | true =>
        obtain ⟨i, hi, hil, _⟩ := posI_of hx
        have HX := Lib.hid hx
        have HI := Lib.hid hi
        have hib : (i : Int) < 1000 := by omega
        clear hx hi
        go_wp2_with fail
        go_region_held3 (fun w2 => Upd [] w5 w2 ∧ ∀ (b o : Nat), b < w5.heap.size → b ∉ ([] : List Nat) → w2.cell? ⟨b, o, none⟩ = w5.cell? ⟨b, o, none⟩)
          (first | exact Held.init _ _ | assumption | exact Held.step (by assumption) hBa)
          (first | (go_at_call 19; refine ((HP5.out.upd (Upd.refl [] w5).drew).1.has nm).mono ?_; rintro e w6 ⟨rfl, -, hBa⟩; rw [HX.out]) | (go_at_call 25; refine ((HP5.out.upd ((Upd.refl [] w5).drew.trans hBa)).2.1.at_ nm).mono ?_; rintro e w7 ⟨rfl, hw7⟩; rw [HI.out]; subst hw7))
        go_wp2
        go_ret
        exact deed_none HP.out (HU5.out.drew.trans hBa)
      | false =>
        have hi := posI_neg hx
        have HX := Lib.hid hx
        have HI := Lib.hid hi
        clear hx hi
        go_wp2_with fail
        go_region_held3 (fun w2 => Upd [] w5 w2 ∧ ∀ (b o : Nat), b < w5.heap.size → b ∉ ([] : List Nat) → w2.cell? ⟨b, o, none⟩ = w5.cell? ⟨b, o, none⟩)
          (first | exact Held.init _ _ | assumption | exact Held.step (by assumption) hBa)
          (first | (go_at_call 19; refine ((HP5.out.upd (Upd.refl [] w5).drew).1.has nm).mono ?_; rintro e w6 ⟨rfl, -, hBa⟩; rw [HX.out]) | (go_at_call 25; refine ((HP5.out.upd ((Upd.refl [] w5).drew.trans hBa)).2.1.at_ nm).mono ?_; rintro e w7 ⟨rfl, hw7⟩; rw [HI.out]; subst hw7))
        go_wp2
        go_ret
        exact deed_none HP.out (HU5.out.drew.trans hBa)
    · obtain ⟨y, ok, hy⟩ := firstV_it L
      have HY := Lib.hid hy
      clear hy
      go_wp2_with fail
      refine (heap_min hb L fp _ HP5.out.1.1).mono ?_
      rintro e w6 ⟨rfl, hU6⟩
      rw [HY.out]
      unfold itV
      have HU6 := Lib.hid hU6
      clear hU6
      go_wp2_with fail
      refine ((HP5.out.upd (HU6.out.alloc (.cells #[.int .u64 y.1, .int .i64 y.2] 37))).2.1.min).mono ?_
      rintro e w7 ⟨rfl, hU7⟩
      rw [HY.out]
      unfold itV
      have HU7 := Lib.hid hU7
      have hBx := (Blk.new w6 37 [.int .u64 y.1, .int .i64 y.2]).upd hU7 (by simp)
      have a0 := hBx.cell (j := 0) rfl
      have a1 := hBx.cell (j := 1) rfl
      have lax := hBx.lt
      clear hU7 hBx
      go_wp2
      go_ret
      exact deed_none HP.out (((HU5.out.trans HU6.out).alloc _).trans HU7.out |>.alloc _)
end Go.Proofs.Ytilibinmbmgedaa
