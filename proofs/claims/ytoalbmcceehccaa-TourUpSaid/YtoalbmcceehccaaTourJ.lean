/-
  The walk of TourPlays. No condition.
-/
import Derived.Test.YtoalbmcceehccaaTourI
import Derived.Test.YtoalbmcceehccaaArgs
namespace Go.Proofs.Ytoalbmcceehccaa
open Go.RowKit

/-- Both, at the places where they were made. -/
def At (W : World) (pt pr : Nat) (wr : World) : Prop :=
  ∃ t r, St wr t r ∧ t.bt = pt ∧ r.p = pr ∧ Upd [] W wr ∧ W.heap.size ≤ t.bl ∧ W.heap.size ≤ t.bn ∧ W.heap.size ≤ r.hb ∧ W.heap.size ≤ r.xb

theorem At.upd {W w w' : World} {pt pr : Nat} (h : At W pt pr w) (hu : Upd [] w w') : At W pt pr w' := by
  obtain ⟨t, r, hS, e1, e2, hU, rest⟩ := h
  exact ⟨t, r, hS.upd hu, e1, e2, hU.trans hu, rest⟩
theorem At.of_made {W w : World} {e : Ending} (h : MadePost W e w) : ∃ pt pr, e = .returned (.tuple #[.pointer (some ⟨pt, 0, none⟩), .pointer (some ⟨pr, 0, none⟩)]) ∧ At W pt pr w := by
  obtain ⟨t, r, rfl, hS, hU, h1, h2, h3, h4, h5, h6⟩ := h
  exact ⟨t.bt, r.p, rfl, t, r, hS, rfl, rfl, hU, h2, h3, h5, h6⟩
theorem At.of_step {W w w' : World} {t : Tr} {r : Rf} {e : Ending} (h : StepPost t r w e w') (hU : Upd [] W w) (h1 : W.heap.size ≤ t.bl) (h2 : W.heap.size ≤ t.bn) (h3 : W.heap.size ≤ r.hb) (h4 : W.heap.size ≤ r.xb) :
    e = .returned (.bool true) ∧ At W t.bt r.p w' := by
  obtain ⟨rfl, hu, t', r', hS, e1, e2, e3, e4, e5, e6, _⟩ := h
  refine ⟨rfl, t', r', hS, e1, e4, hU.then hu (by simp) (by intro i hi hm; simp at hm; omega), by omega, by omega, by omega, by omega⟩
theorem At.updW {W w : World} {pt pr : Nat} (h : At W pt pr w) : Upd [] W w := by obtain ⟨_, _, _, _, _, hU, _⟩ := h; exact hU

theorem At.step {W w : World} {pt pr : Nat} (h : At W pt pr w) (k key id : Int) (h0 : 0 ≤ key) :
    Calls Try.prog 13 #[.pointer (some ⟨pt, 0, none⟩), .pointer (some ⟨pr, 0, none⟩), .agg #[.int .i64 k, .int .u64 key, .int .i64 id]] w (fun e w' => e = .returned (.bool true) ∧ At W pt pr w') := by
  obtain ⟨t, r, hS, rfl, rfl, hU, h1, h2, h3, h4⟩ := h
  exact (step_any t r k key id h0 w hS).mono fun e w' hp => At.of_step hp hU h1 h2 h3 h4
theorem At.won {W w : World} {pt pr : Nat} (h : At W pt pr w) :
    Calls Try.prog 12 #[.pointer (some ⟨pt, 0, none⟩), .pointer (some ⟨pr, 0, none⟩)] w (RetUpd [] w (.bool true)) := by
  obtain ⟨t, r, hS, rfl, rfl, _⟩ := h
  exact won_any t r w hS

/-- How many leaves there are: the same number told by both. -/
theorem At.lens {W w : World} {pt pr : Nat} (h : At W pt pr w) : ∃ (n hb : Nat), n ≤ 16 ∧ 1 ≤ n ∧ pr < w.heap.size ∧ w.cell? ⟨pr, 0, none⟩ = some (.slice (some ⟨hb, 0, none⟩) n n) ∧
    ∀ w', Upd [] w w' → Calls Try.prog 11 #[.pointer (some ⟨pt, 0, none⟩)] w' (RetUpd [] w' (.int .i64 n)) := by
  obtain ⟨t, r, hS, rfl, rfl, _⟩ := h
  refine ⟨r.has.length, r.hb, hS.ra.small, hS.ra.one, hS.ra.top.lt, hS.ra.top.cell (j := 0) rfl, fun w' hu => ?_⟩
  rw [hS.len]
  exact tlen_any t w' (hS.ta.upd hu (by simp) (by simp) (by simp))

theorem deed_cells {w : World} {v : Value} {n : Nat} {D : Nat → Nat → Int} (h : RowsAt w [.i64, .u64, .i64] v n D) : ∃ ao cap, v = .slice ao n cap ∧ n ≤ maxLen ∧ (n = 0 ∨ ∃ b off, ao = some ⟨b, off, none⟩ ∧ b < w.heap.size ∧
    ∀ i, i < n → w.cell? ⟨b, off + i * 3, none⟩ = some (.int .i64 (D i 0)) ∧ w.cell? ⟨b, off + i * 3 + 1, none⟩ = some (.int .u64 (D i 1)) ∧ w.cell? ⟨b, off + i * 3 + 2, none⟩ = some (.int .i64 (D i 2)) ∧ 0 ≤ D i 1) := by
  obtain ⟨ao, cap, hv, hm, h | ⟨b, off, ha, hb, hc⟩⟩ := h
  · exact ⟨ao, cap, hv, hm, .inl h⟩
  · refine ⟨ao, cap, hv, hm, .inr ⟨b, off, ha, hb, fun i hi => ?_⟩⟩
    have c0 := (hc i hi 0 .i64 rfl).1
    have c1 := hc i hi 1 .u64 rfl
    have c2 := (hc i hi 2 .i64 rfl).1
    refine ⟨by simpa using c0, by simpa [Nat.add_assoc] using c1.1, by simpa [Nat.add_assoc] using c2, (wf_u64_bd c1.2).1⟩

def PlaysAt (W : World) (n m : Nat) (pt pr : Nat) (iv : Value) (wr : World) : Prop := ∃ i : Nat, iv = .int .i64 i ∧ i ≤ n ∧ i ≤ m ∧ At W pt pr wr

set_option maxHeartbeats 16000000 in
theorem plays_walk (n : Int) (v : Value) (m : Nat) (D : Nat → Nat → Int) (W : World) (_hn : (Lit.int .i64 n).wf = true) (hv : RowsAt W [.i64, .u64, .i64] v m D) :
    Calls Try.prog 3 #[.int .i64 n, v] W (RetUpd [] W (.bool true)) := by
  obtain ⟨ao, cap, rfl, hmm, hD⟩ := deed_cells hv
  unfold maxLen at hmm
  have HD := Lib.hid hD
  clear hD hv
  go_enter Try.func3, Try.ntmps3
  go_wp2_with (go_at_call 9; refine (made_any _ _).mono ?_; intro e w1 hM; obtain ⟨pt, pr, rfl, hA⟩ := At.of_made hM; have HA := Lib.hid hA; clear hA hM)
  obtain ⟨q, hb, hq, hq1, hlp, hcp, hln⟩ := HA.out.lens
  have HLN := Lib.hid hln
  clear hln
  go_region_held3 (fun w' => Upd [] w1 w' ∧ ∀ (b o : Nat), b < w1.heap.size → b ∉ ([] : List Nat) → w'.cell? ⟨b, o, none⟩ = w1.cell? ⟨b, o, none⟩)
    (first | exact Held.init _ _ | assumption | exact Held.step (by assumption) hB)
    (first
      | (go_at_call 10; refine (awake_any _).mono ?_; rintro e w' ⟨rfl, hB⟩)
      | (go_at_call 11; refine (HLN.out _ (‹Upd [] w1 _ ∧ _›.1)).mono ?_; rintro e w' ⟨rfl, hB⟩)
      | (go_at_call 12; refine ((HA.out.upd (‹Upd [] w1 _ ∧ _›.1)).won).mono ?_; rintro e w' ⟨rfl, hB⟩))
  go_wp2
  go_loopw [7] (fun iv wr => PlaysAt W m 80 pt pr iv wr) (fun iv _ => 80 - (intOf iv).toNat)
  case atStart => exact ⟨0, rfl, by omega, by omega, HA.out.upd (‹Upd [] w1 _ ∧ _›.1)⟩
  case round =>
    obtain ⟨i, rfl, him, hi80, hA⟩ := hrel
    have HAi := Lib.hid hA
    clear hA
    by_cases hlt : i < m ∧ i < 80
    · obtain ⟨h1, h2⟩ := hlt
      rcases HD.out with h0 | ⟨b, off, rfl, hb1, hc⟩
      · omega
      obtain ⟨c0, c1, c2, k0⟩ := hc i h1
      rw [← HAi.out.updW.cell hb1 (by simp)] at c0 c1 c2
      have HC := Lib.hid hc
      clear hc
      have g1 : decide (i < m) = true := by simp; omega
      have g2 : decide ((i : Int) < 80) = true := by simp; omega
      go_wp2_with (first
        | (go_at_call 13; refine (HAi.out.step _ _ _ k0).mono ?_; rintro e w3 ⟨rfl, hA3⟩; have HA3 := Lib.hid hA3; clear hA3)
        | (go_at_call 12; refine (HA3.out.won).mono ?_; rintro e w4 ⟨rfl, hU4⟩; have HA4 := Lib.hid (HA3.out.upd hU4); clear hU4))
      exact ⟨⟨i + 1, by congr 1, by omega, by omega, HA4.out⟩, by simp [intOf]; omega⟩
    · have hw : Hid (i = m ∨ i = 80) := by unfold Hid; omega
      obtain ⟨q2, hb2, hq2, hq12, hlp2, hcp2, hln2⟩ := HAi.out.lens
      have HLN2 := Lib.hid hln2
      clear hln2
      by_cases g0 : i < m
      · have g1 : decide (i < m) = true := by simp; omega
        have g2 : decide ((i : Int) < 80) = false := by simp; omega
        go_wp2
        go_region_held3 (fun w' => Upd [] wr w' ∧ ∀ (b o : Nat), b < wr.heap.size → b ∉ ([] : List Nat) → w'.cell? ⟨b, o, none⟩ = wr.cell? ⟨b, o, none⟩)
          (first | exact Held.init _ _ | assumption | exact Held.step (by assumption) hB)
          (first | (go_at_call 11; refine (HLN2.out _ (‹Upd [] wr _ ∧ _›.1)).mono ?_; rintro e w' ⟨rfl, hB⟩))
        go_wp2
        go_ret
        exact ⟨rfl, HAi.out.updW.trans ((Upd.refl [] wr).drew.trans hB)⟩
      · have g1 : decide (i < m) = false := by simp; omega
        go_wp2
        go_region_held3 (fun w' => Upd [] wr w' ∧ ∀ (b o : Nat), b < wr.heap.size → b ∉ ([] : List Nat) → w'.cell? ⟨b, o, none⟩ = wr.cell? ⟨b, o, none⟩)
          (first | exact Held.init _ _ | assumption | exact Held.step (by assumption) hB)
          (first | (go_at_call 11; refine (HLN2.out _ (‹Upd [] wr _ ∧ _›.1)).mono ?_; rintro e w' ⟨rfl, hB⟩))
        go_wp2
        go_ret
        exact ⟨rfl, HAi.out.updW.trans ((Upd.refl [] wr).drew.trans hB)⟩
end Go.Proofs.Ytoalbmcceehccaa
