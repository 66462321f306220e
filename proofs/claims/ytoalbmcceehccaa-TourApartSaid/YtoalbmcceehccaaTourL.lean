/-
  The walk of TourApart. No condition.
-/
import Derived.Test.YtoalbmcceehccaaTourJ
namespace Go.Proofs.Ytoalbmcceehccaa
open Go.RowKit

/-- Both, with the blocks in which they lie. -/
def AtB (W : World) (B : List Nat) (w : World) : Prop :=
  ∃ t r, St w t r ∧ B = [t.bt, t.bl, t.bn, r.p, r.hb, r.xb] ∧ ∀ b ∈ B, W.heap.size ≤ b

theorem AtB.lt {W w : World} {B : List Nat} (h : AtB W B w) : ∀ b ∈ B, b < w.heap.size := by
  obtain ⟨t, r, hS, rfl, _⟩ := h
  intro b hb
  simp only [List.mem_cons, List.not_mem_nil, or_false] at hb
  rcases hb with rfl | rfl | rfl | rfl | rfl | rfl
  · exact hS.ta.top.lt
  · exact hS.ta.leaves.lt
  · exact hS.ta.nodes.lt
  · exact hS.ra.top.lt
  · exact hS.ra.hrow.lt
  · exact hS.ra.xrow.lt
theorem AtB.upd {W w w' : World} {B S : List Nat} (h : AtB W B w) (hu : Upd S w w') (hd : ∀ b ∈ B, b ∉ S) : AtB W B w' := by
  obtain ⟨t, r, hS, rfl, hW⟩ := h
  exact ⟨t, r, { hS with ta := hS.ta.upd hu (hd _ (by simp)) (hd _ (by simp)) (hd _ (by simp)), ra := hS.ra.upd hu (hd _ (by simp)) (hd _ (by simp)) (hd _ (by simp)) }, rfl, hW⟩

/-- Two of them, apart. -/
def At2 (W : World) (B C : List Nat) (w : World) : Prop := AtB W B w ∧ AtB W C w ∧ (∀ b ∈ B, b ∉ C) ∧ Upd [] W w

theorem At2.step1 {W w : World} {a1 a2 a3 a4 a5 a6 : Nat} {C : List Nat} (h : At2 W [a1, a2, a3, a4, a5, a6] C w) (k key id : Int) (h0 : 0 ≤ key) :
    Calls Try.prog 13 #[.pointer (some ⟨a1, 0, none⟩), .pointer (some ⟨a4, 0, none⟩), .agg #[.int .i64 k, .int .u64 key, .int .i64 id]] w (fun e w' => e = .returned (.bool true) ∧ At2 W [a1, a2, a3, a4, a5, a6] C w') := by
  obtain ⟨⟨t, r, hS, hB, hW⟩, hC, hd, hU⟩ := h
  simp only [List.cons.injEq, and_true] at hB
  obtain ⟨rfl, rfl, rfl, rfl, rfl, rfl⟩ := hB
  refine (step_any t r k key id h0 w hS).mono ?_
  rintro e w' ⟨rfl, hu, t', r', hS', e1, e2, e3, e4, e5, e6, _⟩
  refine ⟨rfl, ⟨t', r', hS', by rw [e1, e2, e3, e4, e5, e6], hW⟩, hC.upd hu (fun b hb hm => ?_), hd, hU.then hu (by simp) (fun i hi hm => ?_)⟩
  · refine hd b ?_ hb
    simp at hm ⊢; omega
  · have := hW i (by simp at hm ⊢; omega); omega
theorem At2.swap {W w : World} {B C : List Nat} (h : At2 W B C w) : At2 W C B w := ⟨h.2.1, h.1, fun b hb hc => h.2.2.1 b hc hb, h.2.2.2⟩
theorem At2.step2 {W w : World} {a1 a2 a3 a4 a5 a6 : Nat} {C : List Nat} (h : At2 W C [a1, a2, a3, a4, a5, a6] w) (k key id : Int) (h0 : 0 ≤ key) :
    Calls Try.prog 13 #[.pointer (some ⟨a1, 0, none⟩), .pointer (some ⟨a4, 0, none⟩), .agg #[.int .i64 k, .int .u64 key, .int .i64 id]] w (fun e w' => e = .returned (.bool true) ∧ At2 W C [a1, a2, a3, a4, a5, a6] w') :=
  (h.swap.step1 k key id h0).mono fun _ _ hp => ⟨hp.1, hp.2.swap⟩
theorem At2.won1 {W w : World} {a1 a2 a3 a4 a5 a6 : Nat} {C : List Nat} (h : At2 W [a1, a2, a3, a4, a5, a6] C w) :
    Calls Try.prog 12 #[.pointer (some ⟨a1, 0, none⟩), .pointer (some ⟨a4, 0, none⟩)] w (fun e w' => e = .returned (.bool true) ∧ At2 W [a1, a2, a3, a4, a5, a6] C w') := by
  obtain ⟨⟨t, r, hS, hB, hW⟩, hC, hd, hU⟩ := h
  simp only [List.cons.injEq, and_true] at hB
  obtain ⟨rfl, rfl, rfl, rfl, rfl, rfl⟩ := hB
  refine (won_any t r w hS).mono ?_
  rintro e w' ⟨rfl, hu⟩
  exact ⟨rfl, ⟨t, r, hS.upd hu, rfl, hW⟩, hC.upd hu (by simp), hd, hU.trans hu⟩
theorem At2.won2 {W w : World} {a1 a2 a3 a4 a5 a6 : Nat} {C : List Nat} (h : At2 W C [a1, a2, a3, a4, a5, a6] w) :
    Calls Try.prog 12 #[.pointer (some ⟨a1, 0, none⟩), .pointer (some ⟨a4, 0, none⟩)] w (fun e w' => e = .returned (.bool true) ∧ At2 W C [a1, a2, a3, a4, a5, a6] w') :=
  (h.swap.won1).mono fun _ _ hp => ⟨hp.1, hp.2.swap⟩

def ApartAt (W : World) (n : Nat) (B C : List Nat) (iv : Value) (wr : World) : Prop := ∃ i : Nat, iv = .int .i64 i ∧ i ≤ n ∧ i ≤ 40 ∧ At2 W B C wr

theorem made2 {W w1 w2 : World} {e1 e2 : Ending} (h1 : MadePost W e1 w1) (h2 : MadePost w1 e2 w2) : ∃ a1 a2 a3 a4 a5 a6 b1 b2 b3 b4 b5 b6, e1 = .returned (.tuple #[.pointer (some ⟨a1, 0, none⟩), .pointer (some ⟨a4, 0, none⟩)]) ∧
    e2 = .returned (.tuple #[.pointer (some ⟨b1, 0, none⟩), .pointer (some ⟨b4, 0, none⟩)]) ∧ At2 W [a1, a2, a3, a4, a5, a6] [b1, b2, b3, b4, b5, b6] w2 := by
  obtain ⟨t, r, rfl, hS, hU, m1, m2, m3, m4, m5, m6⟩ := h1
  obtain ⟨t', r', rfl, hS', hU', n1, n2, n3, n4, n5, n6⟩ := h2
  have hs := hU.size
  have hA : AtB W [t.bt, t.bl, t.bn, r.p, r.hb, r.xb] w1 := ⟨t, r, hS, rfl, by simp; omega⟩
  have hl := hA.lt
  refine ⟨_, _, _, _, _, _, _, _, _, _, _, _, rfl, rfl, hA.upd hU' (by simp), ⟨t', r', hS', rfl, by simp; omega⟩, ?_, hU.trans hU'⟩
  intro b hb hc
  have := hl b hb
  simp at hc; omega

set_option maxHeartbeats 32000000 in
theorem apart_walk (n : Int) (v : Value) (m : Nat) (D : Nat → Nat → Int) (v2 : Value) (m2 : Nat) (D2 : Nat → Nat → Int) (W : World) (_hn : (Lit.int .i64 n).wf = true) (hv : RowsAt W [.i64, .u64, .i64] v m D) (hv2 : RowsAt W [.i64, .u64, .i64] v2 m2 D2) :
    Calls Try.prog 8 #[.int .i64 n, v, v2] W (RetUpd [] W (.bool true)) := by
  obtain ⟨ao, cap, rfl, hmm, hD⟩ := deed_cells hv
  obtain ⟨ao2, cap2, rfl, hmm2, hD2⟩ := deed_cells hv2
  unfold maxLen at hmm hmm2
  have HD := Lib.hid hD
  have HD2 := Lib.hid hD2
  clear hD hv hD2 hv2 _hn
  go_enter Try.func8, Try.ntmps8
  go_wp2_with fail
  refine (made_any _ _).mono ?_
  intro e1 w1 hM1
  obtain ⟨pt, pr, rfl, _⟩ := At.of_made hM1
  have HM1 := Lib.hid hM1
  clear hM1
  go_wp2_with fail
  refine (made_any _ _).mono ?_
  intro e2 w2 hM2
  obtain ⟨a1, a2, a3, a4, a5, a6, b1, b2, b3, b4, b5, b6, he1, rfl, hA⟩ := made2 HM1.out hM2
  simp only [Ending.returned.injEq, Value.tuple.injEq, Array.mk.injEq, List.cons.injEq, Value.pointer.injEq, Option.some.injEq, Addr.mk.injEq, and_true] at he1
  obtain ⟨rfl, rfl⟩ := he1
  have HA := Lib.hid hA
  clear hA hM2 HM1
  go_wp2_with (first
    | (go_at_call 10; refine (awake_any _).mono ?_; rintro e w' ⟨rfl, hB⟩; have HA2 : Hid (At2 W [pt, a2, a3, pr, a5, a6] [b1, b2, b3, b4, b5, b6] w') := ⟨HA.out.1.upd hB (by simp), HA.out.2.1.upd hB (by simp), HA.out.2.2.1, HA.out.2.2.2.trans hB⟩; clear hB))
  go_loopw [11] (fun iv wr => ApartAt W m [pt, a2, a3, pr, a5, a6] [b1, b2, b3, b4, b5, b6] iv wr) (fun iv _ => 40 - (intOf iv).toNat)
  case atStart => exact ⟨0, rfl, by omega, by omega, HA2.out⟩
  case round =>
    clear HA2 HA
    obtain ⟨i, rfl, him, hi80, hA⟩ := hrel
    have HAi := Lib.hid hA
    clear hA
    by_cases hlt : i < m ∧ i < 40
    · obtain ⟨h1, h2⟩ := hlt
      rcases HD.out with h0 | ⟨b, off, rfl, hb1, hc⟩
      · omega
      obtain ⟨c0, c1, c2, k0⟩ := hc i h1
      rw [← HAi.out.2.2.2.cell hb1 (by simp)] at c0 c1 c2
      have HC := Lib.hid hc
      clear hc
      have g1 : decide (i < m) = true := by simp; omega
      have g2 : decide ((i : Int) < 40) = true := by simp; omega
      by_cases hi2 : i < m2
      · rcases HD2.out with h0 | ⟨b', off', rfl, hb2, hc2⟩
        · omega
        obtain ⟨d0, d1, d2, k2⟩ := hc2 i hi2
        have HE := Lib.hid (And.intro d0 (And.intro d1 d2))
        clear d0 d1 d2 hc2
        have g3 : decide (i < m2) = true := by simp; omega
        go_wp2_with (first
          | (go_at_call_of 13 (Value.pointer (some ⟨pt, 0, none⟩)); refine (HAi.out.step1 _ _ _ k0).mono ?_; rintro e w3 ⟨rfl, hA3⟩; have HA3 := Lib.hid hA3; clear hA3; have d0 := (HA3.out.2.2.2.cell hb2 (by simp) _).trans HE.out.1; have d1 := (HA3.out.2.2.2.cell hb2 (by simp) _).trans HE.out.2.1; have d2 := (HA3.out.2.2.2.cell hb2 (by simp) _).trans HE.out.2.2)
          | (go_at_call_of 13 (Value.pointer (some ⟨b1, 0, none⟩)); refine (HA3.out.step2 _ _ _ k2).mono ?_; rintro e w4 ⟨rfl, hA4⟩; have HA4 := Lib.hid hA4; clear hA4)
          | (go_at_call_of 12 (Value.pointer (some ⟨pt, 0, none⟩)); refine (HA4.out.won1).mono ?_; rintro e w5 ⟨rfl, hA5⟩; have HA5 := Lib.hid hA5; clear hA5)
          | (go_at_call_of 12 (Value.pointer (some ⟨b1, 0, none⟩)); refine (HA5.out.won2).mono ?_; rintro e w6 ⟨rfl, hA6⟩; have HA6 := Lib.hid hA6; clear hA6))
        exact ⟨⟨i + 1, by congr 1, by omega, by omega, HA6.out⟩, by simp [intOf]; omega⟩
      · have g3 : decide (i < m2) = false := by simp; omega
        go_wp2_with (first
          | (go_at_call_of 13 (Value.pointer (some ⟨pt, 0, none⟩)); refine (HAi.out.step1 _ _ _ k0).mono ?_; rintro e w3 ⟨rfl, hA3⟩; have HA3 := Lib.hid hA3; clear hA3)
          | (go_at_call_of 12 (Value.pointer (some ⟨pt, 0, none⟩)); refine (HA3.out.won1).mono ?_; rintro e w5 ⟨rfl, hA5⟩; have HA5 := Lib.hid hA5; clear hA5)
          | (go_at_call_of 12 (Value.pointer (some ⟨b1, 0, none⟩)); refine (HA5.out.won2).mono ?_; rintro e w6 ⟨rfl, hA6⟩; have HA6 := Lib.hid hA6; clear hA6))
        exact ⟨⟨i + 1, by congr 1, by omega, by omega, HA6.out⟩, by simp [intOf]; omega⟩
    · by_cases g0 : i < m
      · have g1 : decide (i < m) = true := by simp; omega
        have g2 : decide ((i : Int) < 40) = false := by simp; omega
        go_wp2
        go_ret
        exact ⟨rfl, HAi.out.2.2.2⟩
      · have g1 : decide (i < m) = false := by simp; omega
        go_wp2
        go_ret
        exact ⟨rfl, HAi.out.2.2.2⟩
end Go.Proofs.Ytoalbmcceehccaa
