/-
  A shard: Move, Pop. No condition.
-/
import Derived.Test.YtkepeolbpgnlbaaGreatDoorSe
import Derived.Test.YtkepeolbpgnlbaaGreatDoorWmv
set_option linter.unusedVariables false
set_option linter.unusedSimpArgs false
namespace Go.Proofs.YtkepeolbpgnlbaaGreatDoor
open Go.RowKit

section
variable {W w : World} {sb wb hb base wd : Nat} {A B : List It} {fw fh : List Nat}

theorem movB_iff {base t : Nat} {L : List It} : movB base L t = true ↔ base ≤ t ∧ ∀ x ∈ L, t ≤ kn x := by
  unfold movB
  rw [Bool.and_eq_true, decide_eq_true_iff, List.all_eq_true]
  simp
theorem SOk.head {x : It} {r : List It} (h : SOk base wd A B) (e : A ++ B = x :: r) {t : Nat} : (∀ y ∈ A ++ B, t ≤ kn y) ↔ t ≤ kn x := by
  have hs := h.srt
  have hk := h.key
  rw [e] at hs hk ⊢
  constructor
  · intro g; exact g x (by simp)
  · intro g y hy
    exact Nat.le_trans g (srt_head_le hs (fun z hz => (hk z hz).1) y hy)

set_option maxHeartbeats 4000000 in
/-- The first item lies below: no way. -/
theorem SAt.move_over (h : SAt W w sb wb hb base wd A B fw fh) (ho : SOk base wd A B) (hl : (A ++ B).length ≤ 1000) (t : Nat) {y : It} {r : List It} (e : A ++ B = y :: r) (hty : kn y < t) :
    Calls Tryz.prog 75 #[.pointer (some ⟨sb, 0, none⟩), .int .u64 t] w (RetUpd [] w (.bool false)) := by
  obtain ⟨width, p0, p1, p2, -, ls⟩ := h.cells
  have HH := Lib.hid h
  have HO := Lib.hid ho
  have HLL := Lib.hid hl
  have HLT := Lib.hid h.lt
  have HY : Hid (firstV (A ++ B) = itV y true) := by unfold Hid; rw [e]; rfl
  have hk := (ho.key y (by rw [e]; simp)).1
  obtain ⟨k, hkk⟩ : ∃ k, kn y = k := ⟨_, rfl⟩
  rw [hkk] at hk hty
  obtain ⟨y1, y2⟩ := y
  simp only at hk
  subst hk
  have t1 : decide (k < t) = true := by simp [hty]
  clear h ho hl e hkk hty
  go_enter Tryz.func75, Tryz.ntmps75
  go_wp2_with fail
  refine (HH.out.min HO.out.srt).mono ?_
  rintro e w2 ⟨rfl, hU2⟩
  rw [HY.out]
  unfold itV
  have q0 := (hU2.cell ls (by simp) 0).trans p0
  have q1 := (hU2.cell ls (by simp) 1).trans p1
  have lq := Nat.lt_of_lt_of_le ls hU2.size
  have HU2 := Lib.hid hU2
  have HH2 := Lib.hid ((HH.out.upd hU2).upd ((Upd.refl [] w2).alloc (.cells #[.int .u64 (k : Int), .int .i64 y2] 37)))
  clear hU2 p0 p1 p2
  go_wp2
  go_ret
  exact ⟨rfl, HU2.out.alloc _⟩
def SMoveTo (W w : World) (sb wb hb base wd : Nat) (L : List It) (F : List Nat) (t : Nat) (e : Ending) (w' : World) : Prop :=
  e = .returned (.bool (decide (base ≤ t))) ∧ ∃ A' B' fw' fh', SAt W w' sb wb hb (if base ≤ t then t else base) wd A' B' fw' fh' ∧ SOk (if base ≤ t then t else base) wd A' B' ∧ A' ++ B' = L ∧ Fr F (sb :: (fw' ++ fh')) w w'

set_option maxHeartbeats 8000000 in
theorem SAt.move_in (h : SAt W w sb wb hb base wd A B fw fh) (ho : SOk base wd A B) (hl : (A ++ B).length ≤ 1000) (t : Nat) (ht : t < 18446744073709551616) (hall : ∀ x ∈ A ++ B, t ≤ kn x) :
    Calls Tryz.prog 75 #[.pointer (some ⟨sb, 0, none⟩), .int .u64 t] w (SMoveTo W w sb wb hb base wd (A ++ B) (sb :: (fw ++ fh)) t) := by
  obtain ⟨width, p0, p1, p2, -, ls⟩ := h.cells
  have HH := Lib.hid h
  have HO := Lib.hid ho
  have HLL := Lib.hid hl
  have HLT := Lib.hid h.lt
  have HALL := Lib.hid hall
  have HT := Lib.hid ht
  obtain ⟨y, ok, hy⟩ : ∃ y ok, firstV (A ++ B) = itV y ok := by cases A ++ B <;> exact ⟨_, _, rfl⟩
  have HY := Lib.hid hy
  have hcase : ok = false ∨ (ok = true ∧ ∃ k : Nat, y.1 = (k : Int) ∧ t ≤ k) := by
    cases hAB : A ++ B with
    | nil =>
      rw [hAB] at hy
      left
      simp only [firstV, itV, Value.tuple.injEq, Array.mk.injEq, List.cons.injEq, Value.bool.injEq, and_true] at hy
      exact hy.2.symm
    | cons x r =>
      rw [hAB] at hy
      right
      simp only [firstV, itV, Value.tuple.injEq, Array.mk.injEq, List.cons.injEq, Value.agg.injEq, Value.int.injEq, Value.bool.injEq, true_and, and_true] at hy
      have hx : x ∈ A ++ B := by rw [hAB]; simp
      exact ⟨hy.2.symm, kn x, by rw [← hy.1.1]; exact (ho.key x hx).1, hall x hx⟩
  obtain ⟨mv, hmv⟩ : ∃ mv, decide (base ≤ t) = mv := ⟨_, rfl⟩
  have hma : movB base A t = mv := by
    rw [← hmv, Bool.eq_iff_iff, movB_iff, decide_eq_true_iff]
    exact ⟨fun g => g.1, fun g => ⟨g, fun x hx => hall x (by simp [hx])⟩⟩
  have HMV := Lib.hid hmv
  have HMA := Lib.hid hma
  clear h ho hl ht hall hy hma
  rcases hcase with rfl | ⟨rfl, k, hk, htk⟩
  · cases mv with
    | false =>
      go_enter Tryz.func75, Tryz.ntmps75
      go_wp2_with fail
      refine (HH.out.min HO.out.srt).mono ?_
      rintro e w2 ⟨rfl, hU2⟩
      rw [HY.out]
      unfold itV
      have q0 := (hU2.cell ls (by simp) 0).trans p0
      have q1 := (hU2.cell ls (by simp) 1).trans p1
      have lq := Nat.lt_of_lt_of_le ls hU2.size
      have HU2 := Lib.hid hU2
      have HH2 := Lib.hid ((HH.out.upd hU2).upd ((Upd.refl [] w2).alloc (.cells #[.int .u64 y.1, .int .i64 y.2] 37)))
      clear hU2 p0 p1 p2
      go_wp2_with fail
      refine (HH2.out.whl.move_no t HT.out HMA.out).mono ?_
      rintro e w4 ⟨rfl, h4⟩
      obtain ⟨fw4, hS4, hF4⟩ := HH2.out.wstep h4
      have HS4 := Lib.hid hS4
      have HF4 := Lib.hid hF4
      clear h4 hS4 hF4
      go_wp2
      go_ret
      have hb1 : ¬ base ≤ t := by simpa using HMV.out
      refine ⟨by first | (rw [HMV.out]; rfl) | rw [HMV.out], A, B, fw4, fh, ?_⟩
      rw [if_neg hb1]
      exact ⟨HS4.out, HO.out, rfl, (Fr.of (HU2.out.alloc _)).trans HF4.out⟩
    | true =>
      go_enter Tryz.func75, Tryz.ntmps75
      go_wp2_with fail
      refine (HH.out.min HO.out.srt).mono ?_
      rintro e w2 ⟨rfl, hU2⟩
      rw [HY.out]
      unfold itV
      have q0 := (hU2.cell ls (by simp) 0).trans p0
      have q1 := (hU2.cell ls (by simp) 1).trans p1
      have lq := Nat.lt_of_lt_of_le ls hU2.size
      have HU2 := Lib.hid hU2
      have HH2 := Lib.hid ((HH.out.upd hU2).upd ((Upd.refl [] w2).alloc (.cells #[.int .u64 y.1, .int .i64 y.2] 37)))
      clear hU2 p0 p1 p2
      go_wp2_with fail
      refine (HH2.out.whl.move_yes t HT.out HMA.out).mono ?_
      rintro e w4 ⟨rfl, h4⟩
      obtain ⟨fw4, hS4, hF4⟩ := HH2.out.wstep h4
      obtain ⟨width, p0, p1, p2, -, ls4⟩ := hS4.cells
      have HS4 := Lib.hid hS4
      have HF4 := Lib.hid hF4
      have HB1 : Hid (base ≤ t) := by simpa [Hid] using hmv
      clear h4 hS4 hF4
      go_wp2_with fail
      refine (HS4.out.over (HO.out.move HB1.out HALL.out) HLL.out).mono ?_
      rintro e w5 ⟨rfl, A5, B5, fw5, fh5, hS5, hO5, hL5, hF5⟩
      have HS5 := Lib.hid hS5
      have HO5 := Lib.hid hO5
      have HL5 := Lib.hid hL5
      have HF5 := Lib.hid hF5
      clear hS5 hO5 hL5 hF5
      go_wp2
      go_ret
      refine ⟨by first | (rw [HMV.out]; rfl) | rw [HMV.out], A5, B5, fw5, fh5, ?_⟩
      rw [if_pos HB1.out]
      exact ⟨HS5.out, HO5.out, HL5.out, ((Fr.of (HU2.out.alloc _)).trans HF4.out).trans HF5.out⟩
  · obtain ⟨y1, y2⟩ := y
    simp only at hk
    subst hk
    have t1 : decide (k < t) = false := by simp; omega
    cases mv with
    | false =>
      go_enter Tryz.func75, Tryz.ntmps75
      go_wp2_with fail
      refine (HH.out.min HO.out.srt).mono ?_
      rintro e w2 ⟨rfl, hU2⟩
      rw [HY.out]
      unfold itV
      have q0 := (hU2.cell ls (by simp) 0).trans p0
      have q1 := (hU2.cell ls (by simp) 1).trans p1
      have lq := Nat.lt_of_lt_of_le ls hU2.size
      have HU2 := Lib.hid hU2
      have HH2 := Lib.hid ((HH.out.upd hU2).upd ((Upd.refl [] w2).alloc (.cells #[.int .u64 (k : Int), .int .i64 y2] 37)))
      clear hU2 p0 p1 p2
      go_wp2_with fail
      refine (HH2.out.whl.move_no t HT.out HMA.out).mono ?_
      rintro e w4 ⟨rfl, h4⟩
      obtain ⟨fw4, hS4, hF4⟩ := HH2.out.wstep h4
      have HS4 := Lib.hid hS4
      have HF4 := Lib.hid hF4
      clear h4 hS4 hF4
      go_wp2
      go_ret
      have hb1 : ¬ base ≤ t := by simpa using HMV.out
      refine ⟨by first | (rw [HMV.out]; rfl) | rw [HMV.out], A, B, fw4, fh, ?_⟩
      rw [if_neg hb1]
      exact ⟨HS4.out, HO.out, rfl, (Fr.of (HU2.out.alloc _)).trans HF4.out⟩
    | true =>
      go_enter Tryz.func75, Tryz.ntmps75
      go_wp2_with fail
      refine (HH.out.min HO.out.srt).mono ?_
      rintro e w2 ⟨rfl, hU2⟩
      rw [HY.out]
      unfold itV
      have q0 := (hU2.cell ls (by simp) 0).trans p0
      have q1 := (hU2.cell ls (by simp) 1).trans p1
      have lq := Nat.lt_of_lt_of_le ls hU2.size
      have HU2 := Lib.hid hU2
      have HH2 := Lib.hid ((HH.out.upd hU2).upd ((Upd.refl [] w2).alloc (.cells #[.int .u64 (k : Int), .int .i64 y2] 37)))
      clear hU2 p0 p1 p2
      go_wp2_with fail
      refine (HH2.out.whl.move_yes t HT.out HMA.out).mono ?_
      rintro e w4 ⟨rfl, h4⟩
      obtain ⟨fw4, hS4, hF4⟩ := HH2.out.wstep h4
      obtain ⟨width, p0, p1, p2, -, ls4⟩ := hS4.cells
      have HS4 := Lib.hid hS4
      have HF4 := Lib.hid hF4
      have HB1 : Hid (base ≤ t) := by simpa [Hid] using hmv
      clear h4 hS4 hF4
      go_wp2_with fail
      refine (HS4.out.over (HO.out.move HB1.out HALL.out) HLL.out).mono ?_
      rintro e w5 ⟨rfl, A5, B5, fw5, fh5, hS5, hO5, hL5, hF5⟩
      have HS5 := Lib.hid hS5
      have HO5 := Lib.hid hO5
      have HL5 := Lib.hid hL5
      have HF5 := Lib.hid hF5
      clear hS5 hO5 hL5 hF5
      go_wp2
      go_ret
      refine ⟨by first | (rw [HMV.out]; rfl) | rw [HMV.out], A5, B5, fw5, fh5, ?_⟩
      rw [if_pos HB1.out]
      exact ⟨HS5.out, HO5.out, HL5.out, ((Fr.of (HU2.out.alloc _)).trans HF4.out).trans HF5.out⟩
theorem SL.move {L : List It} {F : List Nat} (h : SL W sb base wd L F w) (t : Nat) (ht : t < 18446744073709551616) :
    Calls Tryz.prog 75 #[.pointer (some ⟨sb, 0, none⟩), .int .u64 t] w (fun e w' => e = .returned (.bool (movB base L t)) ∧ SLTo W sb (if movB base L t = true then t else base) wd L F w w') := by
  obtain ⟨A, B, rfl, wb, hb, fw, fh, h1, h2, h3, rfl⟩ := h
  by_cases hall : ∀ x ∈ A ++ B, t ≤ kn x
  · have hm : movB base (A ++ B) t = decide (base ≤ t) := by
      rw [Bool.eq_iff_iff, movB_iff, decide_eq_true_iff]
      exact ⟨fun g => g.1, fun g => ⟨g, hall⟩⟩
    refine (h1.move_in h2 h3 t ht hall).mono ?_
    rintro e w' ⟨rfl, A', B', fw', fh', k1, k2, k3, k4⟩
    rw [hm]
    refine ⟨rfl, _, ⟨A', B', k3.symm, wb, hb, fw', fh', ?_, ?_, by rw [k3]; exact h3, rfl⟩, k4⟩
    · simpa using k1
    · simpa using k2
  · have hm : movB base (A ++ B) t = false := by
      rw [← Bool.not_eq_true, movB_iff]
      exact fun g => hall g.2
    cases hAB : A ++ B with
    | nil => rw [hAB] at hall; simp at hall
    | cons y r =>
      have hty : kn y < t := by
        rw [h2.head hAB] at hall; omega
      rw [← hAB, hm]
      refine (h1.move_over h2 h3 t hAB hty).mono ?_
      rintro e w' ⟨rfl, hU⟩
      rw [if_neg (by simp)]
      exact ⟨rfl, _, ⟨A, B, rfl, wb, hb, fw, fh, h1.upd hU, h2, h3, rfl⟩, Fr.of hU⟩
end
end Go.Proofs.YtkepeolbpgnlbaaGreatDoor
