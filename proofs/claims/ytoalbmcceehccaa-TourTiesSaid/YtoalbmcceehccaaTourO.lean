/-
  The walk of TourTies: of leaves that all have one item the least wins; without it the next one, till none is left. No condition.
-/
import Derived.Test.YtoalbmcceehccaaTourJ
namespace Go.Proofs.Ytoalbmcceehccaa
open Go.RowKit

/-- A tour alone, in blocks that are new, with good nodes. -/
def TG (W : World) (pt pl pn : Nat) (L : List Leaf) (w : World) : Prop :=
  ∃ t, TourAt w t ∧ t.bt = pt ∧ t.bl = pl ∧ t.bn = pn ∧ t.L = L ∧ Good t.L t.size t.N ∧ t.size = sizeOf2 t.L.length ∧ Upd [] W w ∧ W.heap.size ≤ t.bt ∧ W.heap.size ≤ t.bl ∧ W.heap.size ≤ t.bn

theorem TG.upd {W w w' : World} {pt pl pn : Nat} {L : List Leaf} (h : TG W pt pl pn L w) (hu : Upd [] w w') : TG W pt pl pn L w' := by
  obtain ⟨t, hT, e1, e2, e3, e4, hg, hs, hU, rest⟩ := h
  exact ⟨t, hT.upd hu (by simp) (by simp) (by simp), e1, e2, e3, e4, hg, hs, hU.trans hu, rest⟩
theorem TG.updW {W w : World} {pt pl pn : Nat} {L : List Leaf} (h : TG W pt pl pn L w) : Upd [] W w := by obtain ⟨_, _, _, _, _, _, _, _, hU, _⟩ := h; exact hU
theorem TG.lt {W w : World} {pt pl pn : Nat} {L : List Leaf} (h : TG W pt pl pn L w) : L.length ≤ 16 ∧ 1 ≤ L.length := by
  obtain ⟨t, hT, _, _, _, rfl, _⟩ := h
  exact ⟨Nat.le_trans hT.fits hT.small, hT.one⟩

theorem TG.set {W w : World} {pt pl pn : Nat} {L : List Leaf} (h : TG W pt pl pn L w) (i : Nat) (x : It) (hi : i < L.length) :
    Calls Try.prog 18 #[.pointer (some ⟨pt, 0, none⟩), .int .i64 i, .agg #[.int .u64 x.1, .int .i64 x.2]] w (fun e w' => e = .returned (.bool true) ∧ Upd [pl, pn] w w' ∧ TG W pt pl pn (L.set i (x, true)) w') := by
  obtain ⟨t, hT, rfl, rfl, rfl, rfl, hg, hs, hU, h1, h2, h3⟩ := h
  refine (tset_in t i x w hT hi).mono ?_
  rintro e w' ⟨rfl, hu, hT'⟩
  rw [Int.toNat_natCast] at hT'
  exact ⟨rfl, hu, _, hT', rfl, rfl, rfl, rfl, play_good (x, true) hg (by rw [hs]; exact pow_sizeOf2 _) hT.fits hi, by simp [hs], hU.then hu (by simp) (by intro k hk hm; simp at hm; omega), h1, h2, h3⟩
theorem TG.unset {W w : World} {pt pl pn : Nat} {L : List Leaf} (h : TG W pt pl pn L w) (i : Nat) (hi : i < L.length) :
    Calls Try.prog 19 #[.pointer (some ⟨pt, 0, none⟩), .int .i64 i] w (fun e w' => e = .returned (.bool true) ∧ Upd [pl, pn] w w' ∧ TG W pt pl pn (L.set i zLeaf) w') := by
  obtain ⟨t, hT, rfl, rfl, rfl, rfl, hg, hs, hU, h1, h2, h3⟩ := h
  refine (tunset_in t i w hT hi).mono ?_
  rintro e w' ⟨rfl, hu, hT'⟩
  rw [Int.toNat_natCast] at hT'
  exact ⟨rfl, hu, _, hT', rfl, rfl, rfl, rfl, play_good zLeaf hg (by rw [hs]; exact pow_sizeOf2 _) hT.fits hi, by simp [hs], hU.then hu (by simp) (by intro k hk hm; simp at hm; omega), h1, h2, h3⟩

theorem up_one (m : Nat) (hm : 1 ≤ m) : up m 1 = 1 := by
  induction m using Nat.strongRecOn with
  | ind m ih =>
    by_cases h : m ≤ 1
    · rw [up_le _ _ h]; omega
    · rw [up_half _ _ (by omega) (by omega)]; exact ih (m / 2) (by omega) (by omega)

/-- Leaf j is the first one of those that have an item. -/
def First (L : List Leaf) (j : Nat) : Prop :=
  j < L.length ∧ (L.getD j zLeaf).2 = true ∧ ∀ i, i < L.length → (L.getD i zLeaf).2 = true → ahead (L.getD i zLeaf).1 (L.getD j zLeaf).1 = false ∧ (ahead (L.getD j zLeaf).1 (L.getD i zLeaf).1 = true ∨ j ≤ i)
def Bare (L : List Leaf) : Prop := ∀ i, i < L.length → (L.getD i zLeaf).2 = false

theorem TG.first {W w : World} {pt pl pn : Nat} {L : List Leaf} (h : TG W pt pl pn L w) {j : Nat} (hj : First L j) :
    Calls Try.prog 17 #[.pointer (some ⟨pt, 0, none⟩)] w (RetUpd [] w (.tuple #[.int .i64 j, .agg #[.int .u64 (L.getD j zLeaf).1.1, .int .i64 (L.getD j zLeaf).1.2], .bool true])) := by
  obtain ⟨t, hT, rfl, rfl, rfl, rfl, hg, hs, hU, h1, h2, h3⟩ := h
  have h2 : 1 < 2 * t.size := by have := hT.one; have := hT.fits; omega
  have hw := good_wins hg (by rw [hs]; exact pow_sizeOf2 _) hT.fits _ 1 rfl (Nat.le_refl _) h2
  have hj' : IsWin t.L t.size 1 t.L.length j := .inr ⟨j, rfl, hj.1, up_one _ (by omega), hj.2.1, fun i hi _ hh => hj.2.2 i hi hh⟩
  exact twin_some t w hT j (hw.one hj') (by omega) _ (by unfold leafAt; rw [Int.toNat_natCast])
theorem TG.bare {W w : World} {pt pl pn : Nat} {L : List Leaf} (h : TG W pt pl pn L w) (hb : Bare L) :
    Calls Try.prog 17 #[.pointer (some ⟨pt, 0, none⟩)] w (RetUpd [] w (.tuple #[.int .i64 0, .agg #[.int .u64 0, .int .i64 0], .bool false])) := by
  obtain ⟨t, hT, rfl, rfl, rfl, rfl, hg, hs, hU, h1, h2, h3⟩ := h
  have h2 : 1 < 2 * t.size := by have := hT.one; have := hT.fits; omega
  have hw := good_wins hg (by rw [hs]; exact pow_sizeOf2 _) hT.fits _ 1 rfl (Nat.le_refl _) h2
  have hj' : IsWin t.L t.size 1 t.L.length (-1) := .inl ⟨rfl, fun i hi _ => hb i hi⟩
  exact twin_none t w hT (by rw [hw.one hj']; omega)
theorem TG.bare1 {W w : World} {pt pl pn : Nat} {L : List Leaf} (h : TG W pt pl pn L w) (hb : Bare L) :
    Calls Try.prog 14 #[.pointer (some ⟨pt, 0, none⟩), .int .i64 1] w (RetUpd [] w (.int .i64 (-1))) := by
  obtain ⟨t, hT, rfl, rfl, rfl, rfl, hg, hs, hU, h1, h2, h3⟩ := h
  have h2 : 1 < 2 * t.size := by have := hT.one; have := hT.fits; omega
  have hw := good_wins hg (by rw [hs]; exact pow_sizeOf2 _) hT.fits _ 1 rfl (Nat.le_refl _) h2
  have hj' : IsWin t.L t.size 1 t.L.length (-1) := .inl ⟨rfl, fun i hi _ => hb i hi⟩
  refine tnode_val t 1 (-1) w hT ?_
  unfold nodeF
  rw [if_pos (by omega)]
  exact hw.one hj'

/-! ### Ties -/
/-- The reference's own cell, and the item's variable. -/
def Row2 (pr hb n : Nat) (x : It) (xb : Nat) (w : World) : Prop :=
  pr < w.heap.size ∧ xb < w.heap.size ∧ w.cell? ⟨pr, 0, none⟩ = some (.slice (some ⟨hb, 0, none⟩) n n) ∧ w.cell? ⟨xb, 0, none⟩ = some (.int .u64 x.1) ∧ w.cell? ⟨xb, 1, none⟩ = some (.int .i64 x.2)
/-- The leaves from i on have x; the others none. -/
def Tied (L : List Leaf) (x : It) (n i : Nat) : Prop := L.length = n ∧ (∀ j, i ≤ j → j < n → L.getD j zLeaf = (x, true)) ∧ ∀ j, j < i → L.getD j zLeaf = zLeaf
theorem Tied.first {L : List Leaf} {x : It} {n i : Nat} (h : Tied L x n i) (hi : i < n) : First L i := by
  obtain ⟨h0, h1, h2⟩ := h
  refine ⟨by omega, by rw [h1 i (Nat.le_refl _) hi], fun j hj hh => ?_⟩
  by_cases hji : j < i
  · rw [h2 j hji] at hh; cases hh
  · rw [h1 i (Nat.le_refl _) hi, h1 j (by omega) (by omega)]
    exact ⟨by rw [ahead_no]; omega, .inr (by omega)⟩
theorem Tied.step {L : List Leaf} {x : It} {n i : Nat} (h : Tied L x n i) (hi : i < n) : Tied (L.set i zLeaf) x n (i + 1) := by
  obtain ⟨h0, h1, h2⟩ := h
  refine ⟨by simp [h0], fun j hj hjn => ?_, fun j hj => ?_⟩
  · rw [getD_set_other _ _ _ _ _ (by omega)]; exact h1 j (by omega) hjn
  · by_cases e : j = i
    · subst e; exact getD_set_same _ _ _ _ (by omega)
    · rw [getD_set_other _ _ _ _ _ (fun h => e h.symm)]; exact h2 j (by omega)
theorem Tied.bare {L : List Leaf} {x : It} {n : Nat} (h : Tied L x n n) : Bare L := fun i hi => by rw [h.2.2 i (by have := h.1; omega)]; rfl
/-- While they are set, from the last one down: those from i on. -/
theorem Tied.down {L : List Leaf} {x : It} {n i : Nat} (h : Tied L x n (i + 1)) (hi : i < n) : Tied (L.set i (x, true)) x n i := by
  obtain ⟨h0, h1, h2⟩ := h
  refine ⟨by simp [h0], fun j hj hjn => ?_, fun j hj => ?_⟩
  · by_cases e : j = i
    · subst e; exact getD_set_same _ _ _ _ (by omega)
    · rw [getD_set_other _ _ _ _ _ (fun h => e h.symm)]; exact h1 j (by omega) hjn
  · rw [getD_set_other _ _ _ _ _ (by omega)]; exact h2 j (by omega)

def DownAt (W : World) (pt pl pn pr hb n : Nat) (x : It) (xb : Nat) (iv : Value) (wr : World) : Prop :=
  ∃ (i : Int) (L : List Leaf), iv = .int .i64 i ∧ -1 ≤ i ∧ i < n ∧ TG W pt pl pn L wr ∧ Tied L x n (i + 1).toNat ∧ Row2 pr hb n x xb wr
def TiesAt (W : World) (pt pl pn pr hb n : Nat) (x : It) (xb : Nat) (iv : Value) (wr : World) : Prop :=
  ∃ (i : Nat) (L : List Leaf), iv = .int .i64 i ∧ i ≤ n ∧ TG W pt pl pn L wr ∧ Tied L x n i ∧ Row2 pr hb n x xb wr

theorem Row2.keep {pr hb n xb pl pn : Nat} {x : It} {w w' : World} (h : Row2 pr hb n x xb w) (hu : Upd [pl, pn] w w') (h1 : pr ≠ pl ∧ pr ≠ pn) (h2 : xb ≠ pl ∧ xb ≠ pn) : Row2 pr hb n x xb w' := by
  obtain ⟨a, b, c, d, e⟩ := h
  refine ⟨Nat.lt_of_lt_of_le a hu.size, Nat.lt_of_lt_of_le b hu.size, ?_, ?_, ?_⟩
  · rw [hu.cell a (by simp; exact h1)]; exact c
  · rw [hu.cell b (by simp; exact h2)]; exact d
  · rw [hu.cell b (by simp; exact h2)]; exact e

/-- What made tells of the leaves. -/
def MadeZ (w : World) (e : Ending) (w' : World) : Prop :=
  ∃ pt pl pn pr hb n, e = .returned (.tuple #[.pointer (some ⟨pt, 0, none⟩), .pointer (some ⟨pr, 0, none⟩)]) ∧ TG w pt pl pn (List.replicate n zLeaf) w' ∧ 1 ≤ n ∧ n ≤ 16 ∧ w.heap.size ≤ pr ∧ pr < w'.heap.size ∧ pr ≠ pl ∧ pr ≠ pn ∧
    w'.cell? ⟨pr, 0, none⟩ = some (.slice (some ⟨hb, 0, none⟩) n n)

theorem madez_done {n : Int} {w w1 w2 : World} {bt bl bn cap p hb xb : Nat} (hT : TourAt w1 (newTr bt bl bn cap (leavesOf n))) (hU1 : Upd [] w w1) (a : w.heap.size ≤ bt ∧ w.heap.size ≤ bl ∧ w.heap.size ≤ bn)
    (hR : RTAt w2 (newRf p hb xb (leavesOf n))) (hU2 : Upd [] w1 w2) (b : w1.heap.size ≤ p ∧ w1.heap.size ≤ hb ∧ w1.heap.size ≤ xb) :
    MadeZ w (.returned (.tuple #[.pointer (some ⟨bt, 0, none⟩), .pointer (some ⟨p, 0, none⟩)])) w2 := by
  have h2 := hT.leaves.lt
  have h3 := hT.nodes.lt
  have h4 := hU1.size
  have h5 := leavesOf_bd n
  have hc := hR.top.cell (j := 0) rfl
  have hp := hR.top.lt
  simp only [newTr] at h2 h3
  simp only [newRf, List.length_replicate] at hc hp
  refine ⟨bt, bl, bn, p, hb, leavesOf n, rfl, ⟨newTr bt bl bn cap (leavesOf n), hT.upd hU2 (by simp) (by simp) (by simp), rfl, rfl, rfl, rfl, new_good _ h5.1 h5.2, by simp [newTr], hU1.trans hU2, a⟩, h5.1, h5.2, by omega, hp, by omega, by omega, hc⟩

set_option maxHeartbeats 4000000 in
theorem madez_any (n : Int) (w : World) : Calls Try.prog 9 #[.int .i64 n] w (MadeZ w) := by
  have hq := modI_bd n 5 (by omega) (by omega)
  obtain ⟨q, hqq⟩ : ∃ q, modI n 5 = q := ⟨_, rfl⟩
  rw [hqq] at hq
  have HQ := Lib.hid hqq
  have q0 := hq.1
  clear hqq hq
  by_cases h : 0 < q
  all_goals
    go_enter Try.func9, Try.ntmps9
    go_wp2_with (first
      | (go_at_call_of 21 (Value.int .i64 5); refine (mod_any _ _ (by omega) (by omega) _).mono ?_; rintro e w2 ⟨rfl, rfl⟩; rw [HQ.out])
      | (go_at_call_of 21 (Value.int .i64 19); refine (mod_any _ _ (by omega) (by omega) _).mono ?_; rintro e w2 ⟨rfl, rfl⟩)
      | (go_at_call 20; refine (tnew_any _ _).mono ?_; rintro e w3 ⟨bt, bl, bn, cap, rfl, hT, hU1, a1, a2, a3⟩; have HT := Lib.hid hT; have HU1 := Lib.hid hU1; clear hT hU1)
      | (go_at_call 22; refine (rtnew_any _ _).mono ?_; rintro e w4 ⟨p, hb, xb, rfl, hR, hU2, b1, b2, b3⟩; have HR := Lib.hid hR; have HU2 := Lib.hid hU2; clear hR hU2))
    go_ret2
    exact madez_done HT.out HU1.out ⟨a1, a2, a3⟩ HR.out HU2.out ⟨b1, b2, b3⟩

theorem tied_start (n : Nat) (x : It) : Tied (List.replicate n zLeaf) x n n :=
  ⟨by simp, fun j h1 h2 => by omega, fun j hj => by rw [List.getD_eq_getElem?_getD, List.getElem?_replicate, if_pos hj]; rfl⟩

theorem ties_row {W w1 w2 : World} {pt pl pn pr hb n : Nat} {L : List Leaf} {a b : Int} (hT : TG (W.alloc (.cells #[.int .u64 a, .int .i64 b] 43)) pt pl pn L w1) (hB : Upd [] w1 w2) (hp : pr < w1.heap.size) (hc : w1.cell? ⟨pr, 0, none⟩ = some (.slice (some ⟨hb, 0, none⟩) n n)) : Row2 pr hb n (a, b) W.heap.size w2 := by
  have hU := hT.updW.trans hB
  have hs := hU.size
  simp only [World.size_alloc] at hs
  refine ⟨Nat.lt_of_lt_of_le hp hB.size, by omega, (hB.cell hp (by simp) 0).trans hc, ?_, ?_⟩
  · rw [hU.cell (by simp) (by simp) 0]; simp
  · rw [hU.cell (by simp) (by simp) 1]; simp
theorem ties_box {W w1 : World} {pt pl pn : Nat} {L : List Leaf} {o : Obj} (hT : TG (W.alloc o) pt pl pn L w1) : W.heap.size ≠ pl ∧ W.heap.size ≠ pn := by
  obtain ⟨t, _, rfl, rfl, rfl, _, _, _, _, _, h2, h3⟩ := hT
  simp only [World.size_alloc] at h2 h3
  omega
theorem ties_item {L : List Leaf} {x : It} {n j : Nat} (h : Tied L x n j) (hj : j < n) : (L.getD j zLeaf).1 = x := by rw [h.2.1 j (Nat.le_refl _) hj]

set_option maxHeartbeats 16000000 in
theorem ties_walk (n0 : Int) (xk xi : Int) (W : World) (_hn : (Lit.int .i64 n0).wf = true) (_h1 : (Lit.int .u64 xk).wf = true) (_h2 : (Lit.int .i64 xi).wf = true) :
    Calls Try.prog 6 #[.int .i64 n0, .agg #[.int .u64 xk, .int .i64 xi]] W (RetUpd [] W (.bool true)) := by
  clear _hn _h1 _h2
  go_enter Try.func6, Try.ntmps6
  go_wp2_with (first
    | (go_at_call 9; refine (madez_any _ _).mono ?_; rintro e w1 ⟨pt, pl, pn, pr, hb, n, rfl, hT, hn1, hn2, hp1, hp2, hp3, hp4, hc⟩; have hp1' := hp1; have HT := Lib.hid hT; have HC := Lib.hid hc; clear hT hc)
    | (go_at_call 10; refine (awake_any _).mono ?_; rintro e w2 ⟨rfl, hB⟩; have HT2 := Lib.hid (HT.out.upd hB); have hc2 := (hB.cell hp2 (by simp) 0).trans HC.out; have HB := Lib.hid hB; clear hB))
  have hR2 : Hid (Row2 pr hb n (xk, xi) W.heap.size w2) := ties_row HT.out HB.out hp2 HC.out
  have hbl : Hid (W.heap.size ≠ pl ∧ W.heap.size ≠ pn) := ties_box HT.out
  clear HC hp1 HB hc2
  go_loopw [7] (fun iv wr => DownAt (W.alloc (.cells #[.int .u64 xk, .int .i64 xi] 43)) pt pl pn pr hb n (xk, xi) W.heap.size iv wr) (fun iv _ => (intOf iv + 1).toNat)
  case atStart => exact ⟨(n : Int) - 1, _, rfl, by omega, by omega, HT2.out, by rw [show ((n : Int) - 1 + 1).toNat = n by omega]; exact tied_start n _, hR2.out⟩
  case round =>
    clear HT HT2 hR2
    obtain ⟨i, L, rfl, hi1, hi2, hT, htd, hR⟩ := hrel
    have HT := Lib.hid hT
    have HD := Lib.hid htd
    have HR := Lib.hid hR
    have r1 := hR.2.2.1
    have r2 := hR.2.2.2.1
    have r3 := hR.2.2.2.2
    clear hT htd hR
    by_cases hi : 0 ≤ i
    · obtain ⟨j, rfl⟩ := Int.eq_ofNat_of_zero_le hi
      have g1 : decide ((0 : Int) ≤ (j : Int)) = true := by simp
      have hjn : j < n := by omega
      have HD' : Hid (Tied L (xk, xi) n (j + 1)) := by have := HD.out; rw [show ((j : Int) + 1).toNat = j + 1 by omega] at this; exact this
      clear hi2 hi HD
      go_wp2_with (first
        | (go_at_call 18; refine (HT.out.set j (xk, xi) (by rw [HD'.out.1]; exact hjn)).mono ?_; rintro e w3 ⟨rfl, hU3, hT3⟩; have HU3 := Lib.hid hU3; have HT3 := Lib.hid hT3; clear hU3 hT3))
      exact ⟨⟨(j : Int) - 1, _, rfl, by omega, by omega, HT3.out, by rw [show ((j : Int) - 1 + 1).toNat = j by omega]; exact HD'.out.down hjn, HR.out.keep HU3.out ⟨hp3, hp4⟩ hbl.out⟩, by first | (simp [intOf]; done) | (simp [intOf]; omega)⟩
    · have g1 : decide ((0 : Int) ≤ i) = false := by simp; omega
      have HD0 : Hid (Tied L (xk, xi) n 0) := by have := HD.out; rw [show (i + 1).toNat = 0 by omega] at this; exact this
      go_wp2
      go_loopw [8] (fun iv wr => TiesAt (W.alloc (.cells #[.int .u64 xk, .int .i64 xi] 43)) pt pl pn pr hb n (xk, xi) W.heap.size iv wr) (fun iv _ => n - (intOf iv).toNat)
      case atStart => exact ⟨0, _, rfl, by omega, HT.out, HD0.out, HR.out⟩
      case round =>
        clear HT HD0 HR HD r1 r2 r3
        obtain ⟨j, L2, rfl, hjn, hT, htd, hR⟩ := hrel
        have HT := Lib.hid hT
        have HD := Lib.hid htd
        have HR := Lib.hid hR
        have r0 := hR.1
        have r0' := hR.2.1
        have r1 := hR.2.2.1
        have r2 := hR.2.2.2.1
        have r3 := hR.2.2.2.2
        clear hT htd hR
        by_cases hlt : j < n
        · have hw := ties_item HD.out hlt
          have HW := Lib.hid hw
          clear hw
          go_wp2_with (first
            | (go_at_call 17; refine (HT.out.first (HD.out.first hlt)).mono ?_; rintro e w3 ⟨rfl, hU3⟩; rw [HW.out]; have hk2 := (hU3.cell r0' (by simp) 0).trans r2; have hk3 := (hU3.cell r0' (by simp) 1).trans r3; have ll := Nat.lt_of_lt_of_le r0' hU3.size; have HT3 := Lib.hid ((HT.out.upd hU3).upd ((Upd.refl [] _).alloc (.cells #[.int .u64 xk, .int .i64 xi] 43))); have HU3 := Lib.hid (hU3.alloc (.cells #[.int .u64 xk, .int .i64 xi] 43)); clear hU3)
            | (go_at_call 19; refine (HT3.out.unset j (by rw [HD.out.1]; exact hlt)).mono ?_; rintro e w4 ⟨rfl, hU4, hT4⟩; have HU4 := Lib.hid (HU3.out.nil.trans hU4); have HT4 := Lib.hid hT4; clear hU4 hT4))
          exact ⟨⟨j + 1, _, by congr 1, by omega, HT4.out, HD.out.step hlt, HR.out.keep HU4.out ⟨hp3, hp4⟩ hbl.out⟩, by first | (simp [intOf]; done) | (simp [intOf]; omega)⟩
        · have hjj : Hid (j = n) := by unfold Hid; omega
          have hbr : Hid (Bare L2) := by have := HD.out; rw [hjj.out] at this; exact this.bare
          go_wp2_with (first
            | (go_at_call 17; refine (HT.out.bare hbr.out).mono ?_; rintro e w3 ⟨rfl, hU3⟩; have HT3 := Lib.hid ((HT.out.upd hU3).upd ((Upd.refl [] _).alloc (.cells #[.int .u64 0, .int .i64 0] 43))); clear hU3)
            | (go_at_call 14; refine (HT3.out.bare1 hbr.out).mono ?_; rintro e w4 ⟨rfl, hU4⟩; have HT4 := Lib.hid (HT3.out.upd hU4); clear hU4))
          go_ret
          exact ⟨rfl, ((Upd.refl [] W).alloc _).trans HT4.out.updW⟩
end Go.Proofs.Ytoalbmcceehccaa
