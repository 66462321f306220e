/-
  The walk of TourSorts: who wins is unset, again and again: items come in order. No condition.
-/
import Derived.Test.YtoalbmcceehccaaTourO
namespace Go.Proofs.Ytoalbmcceehccaa
open Go.RowKit

def cntH (L : List Leaf) : Nat := L.countP (fun l => l.2)

theorem TG.exists {W w : World} {pt pl pn : Nat} {L : List Leaf} (h : TG W pt pl pn L w) (hc : 0 < cntH L) : ∃ j, First L j := by
  obtain ⟨t, hT, rfl, rfl, rfl, rfl, hg, hs, hU, h1, h2, h3⟩ := h
  have h2 : 1 < 2 * t.size := by have := hT.one; have := hT.fits; omega
  rcases good_wins hg (by rw [hs]; exact pow_sizeOf2 _) hT.fits _ 1 rfl (Nat.le_refl _) h2 with ⟨_, hb⟩ | ⟨j, _, hj, _, hh, hf⟩
  · exfalso
    unfold cntH at hc
    rw [List.countP_pos_iff] at hc
    obtain ⟨a, ha, hat⟩ := hc
    obtain ⟨i, hi, rfl⟩ := List.mem_iff_getElem.1 ha
    have := hb i hi (up_one _ (by omega))
    rw [List.getD_eq_getElem?_getD, List.getElem?_eq_getElem hi] at this
    simp only [Option.getD_some] at this
    rw [this] at hat; cases hat
  · exact ⟨j, hj, hh, fun i hi hi2 => hf i hi (up_one _ (by omega)) hi2⟩

theorem cntH_bare {L : List Leaf} (h : cntH L = 0) : Bare L := by
  intro i hi
  unfold cntH at h
  rw [List.countP_eq_zero] at h
  have := h L[i] (List.getElem_mem hi)
  rw [List.getD_eq_getElem?_getD, List.getElem?_eq_getElem hi]
  simpa using this

theorem cntH_set (L : List Leaf) (i : Nat) (x : Leaf) (hi : i < L.length) : cntH (L.set i x) + (if (L.getD i zLeaf).2 = true then 1 else 0) = cntH L + (if x.2 = true then 1 else 0) := by
  induction L generalizing i with
  | nil => simp at hi
  | cons a L ih =>
    cases i with
    | zero => simp only [cntH, List.set_cons_zero, List.countP_cons, List.getD_cons_zero]; omega
    | succ i =>
      have := ih i (by simpa using hi)
      simp only [cntH, List.set_cons_succ, List.countP_cons, List.getD_cons_succ] at this ⊢
      omega

/-- The first i leaves have their numbers' items. -/
def Filled (L : List Leaf) (D : Nat → Int) (n i : Nat) : Prop := L.length = max n 1 ∧ cntH L = i ∧ (∀ j, j < i → L.getD j zLeaf = ((D j, (j : Int)), true)) ∧ ∀ j, i ≤ j → L.getD j zLeaf = zLeaf
theorem Filled.step {L : List Leaf} {D : Nat → Int} {n i : Nat} (h : Filled L D n i) (hi : i < n) : Filled (L.set i ((D i, (i : Int)), true)) D n (i + 1) := by
  obtain ⟨h0, h1, h2, h3⟩ := h
  have hil : i < L.length := by omega
  refine ⟨by simp [h0], ?_, fun j hj => ?_, fun j hj => ?_⟩
  · have := cntH_set L i ((D i, (i : Int)), true) hil
    rw [h3 i (Nat.le_refl _)] at this
    simp [zLeaf] at this
    omega
  · by_cases e : j = i
    · subst e; exact getD_set_same _ _ _ _ hil
    · rw [getD_set_other _ _ _ _ _ (fun h => e h.symm)]; exact h2 j (by omega)
  · rw [getD_set_other _ _ _ _ _ (by omega)]; exact h3 j (by omega)

/-- What is left, behind k wins; all of it behind the last one. -/
def Left (L : List Leaf) (D : Nat → Int) (n k : Nat) (last : It) : Prop :=
  L.length = max n 1 ∧ cntH L + k = n ∧ (∀ j, j < L.length → (L.getD j zLeaf).2 = true → j < n ∧ (L.getD j zLeaf).1 = (D j, (j : Int))) ∧
    (0 < k → ∀ j, j < L.length → (L.getD j zLeaf).2 = true → ahead last (L.getD j zLeaf).1 = true)
theorem Filled.left {L : List Leaf} {D : Nat → Int} {n : Nat} (h : Filled L D n n) (x : It) : Left L D n 0 x := by
  obtain ⟨h0, h1, h2, h3⟩ := h
  refine ⟨h0, by omega, fun j _ hh => ?_, fun h => by omega⟩
  by_cases hj : j < n
  · rw [h2 j hj]; exact ⟨hj, rfl⟩
  · rw [h3 j (by omega)] at hh; cases hh
theorem Left.step {L : List Leaf} {D : Nat → Int} {n k : Nat} {last : It} (h : Left L D n k last) {j : Nat} (hj : First L j) : Left (L.set j zLeaf) D n (k + 1) (D j, (j : Int)) := by
  obtain ⟨h0, h1, h2, h3⟩ := h
  obtain ⟨f0, f1, f2⟩ := hj
  have hx := (h2 j f0 f1).2
  refine ⟨by simp [h0], ?_, fun i hi hh => ?_, fun _ i hi hh => ?_⟩
  · have := cntH_set L j zLeaf f0
    rw [f1, show zLeaf.2 = false from rfl] at this
    simp at this
    omega
  all_goals
    rw [List.length_set] at hi
    have hij : j ≠ i := by
      rintro rfl
      rw [getD_set_same _ _ _ _ f0] at hh; cases hh
    rw [getD_set_other _ _ _ _ _ hij] at hh ⊢
  · exact h2 i hi hh
  · have hc := f2 i hi hh
    rw [hx, (h2 i hi hh).2] at hc
    rw [(h2 i hi hh).2]
    rcases hc.2 with hc2 | hc2
    · exact hc2
    · have := hc.1
      rw [ahead_no] at this
      simp only at this
      rw [ahead_iff]; simp only; omega

theorem nums_cells {w : World} {v : Value} {n : Nat} {D : Nat → Nat → Int} (h : RowsAt w [.u64] v n D) : ∃ ao cap, v = .slice ao n cap ∧ n ≤ maxLen ∧ (n = 0 ∨ ∃ b off, ao = some ⟨b, off, none⟩ ∧ b < w.heap.size ∧
    ∀ i, i < n → w.cell? ⟨b, off + i, none⟩ = some (.int .u64 (D i 0))) := by
  obtain ⟨ao, cap, hv, hm, h | ⟨b, off, ha, hb, hc⟩⟩ := h
  · exact ⟨ao, cap, hv, hm, .inl h⟩
  · exact ⟨ao, cap, hv, hm, .inr ⟨b, off, ha, hb, fun i hi => by simpa using (hc i hi 0 .u64 rfl).1⟩⟩

def FillAt2 (W : World) (D : Nat → Int) (pt pl pn n : Nat) (iv : Value) (wr : World) : Prop := ∃ (i : Nat) (L : List Leaf), iv = .int .i64 i ∧ i ≤ n ∧ TG W pt pl pn L wr ∧ Filled L D n i
def LeftAt (W : World) (D : Nat → Int) (pt pl pn n b6 : Nat) (kv : Value) (wr : World) : Prop :=
  ∃ (k : Nat) (L : List Leaf) (last : It), kv = .int .i64 k ∧ k ≤ n ∧ TG W pt pl pn L wr ∧ Left L D n k last ∧ b6 < wr.heap.size ∧ b6 ≠ pl ∧ b6 ≠ pn ∧ W.heap.size ≤ b6 ∧ Blk wr b6 43 [.int .u64 last.1, .int .i64 last.2]

theorem sorts_made {W w1 : World} {n : Nat} {e : Ending} (h : NewPost n W e w1) (hn : n ≤ 16) (D : Nat → Int) : ∃ pt pl pn L, e = .returned (.pointer (some ⟨pt, 0, none⟩)) ∧ TG W pt pl pn L w1 ∧ Filled L D n 0 ∧ pl < w1.heap.size ∧ pn < w1.heap.size := by
  obtain ⟨bt, bl, bn, cap, rfl, hT, hU, h1, h2, h3⟩ := h
  have h5 := leavesOf_bd n
  have hl := hT.leaves.lt
  have hnn := hT.nodes.lt
  refine ⟨bt, bl, bn, List.replicate (leavesOf n) zLeaf, rfl, ⟨newTr bt bl bn cap (leavesOf n), hT, rfl, rfl, rfl, rfl, new_good _ h5.1 h5.2, by simp [newTr], hU, h1, h2, h3⟩, ⟨?_, ?_, fun j hj => by omega, fun j _ => ?_⟩, hl, hnn⟩
  · have := leavesOf_cast n; simp; omega
  · unfold cntH; rw [List.countP_eq_zero]; intro a ha; rw [List.eq_of_mem_replicate ha]; simp [zLeaf]
  · rw [List.getD_eq_getElem?_getD, List.getElem?_replicate]; split <;> rfl

theorem TG.lts {W w : World} {pt pl pn : Nat} {L : List Leaf} (h : TG W pt pl pn L w) : pl < w.heap.size ∧ pn < w.heap.size := by
  obtain ⟨t, hT, rfl, rfl, rfl, rfl, _⟩ := h
  exact ⟨hT.leaves.lt, hT.nodes.lt⟩
theorem TG.apart {W w : World} {pt pl pn : Nat} {L : List Leaf} (h : TG W pt pl pn L w) {b : Nat} (hb : b < W.heap.size) : b ≠ pl ∧ b ≠ pn := by
  obtain ⟨t, hT, rfl, rfl, rfl, rfl, _, _, _, _, h2, h3⟩ := h
  omega
theorem left_start {W w4 : World} {D : Nat → Int} {pt pl pn n i : Nat} {L : List Leaf} (hT : TG W pt pl pn L w4) (hF : Filled L D n i) (hi : i = n) :
    LeftAt W D pt pl pn n w4.heap.size (.int .i64 0) (w4.alloc (.cells #[.int .u64 0, .int .i64 0] 43)) := by
  subst hi
  obtain ⟨h1, h2⟩ := hT.lts
  have h3 := hT.updW.size
  exact ⟨0, L, (0, 0), rfl, by omega, hT.upd ((Upd.refl [] _).alloc _), hF.left _, by simp, by omega, by omega, h3, Blk.new w4 _ [.int .u64 0, .int .i64 0]⟩

theorem sorts_round {W w8 : World} {D : Nat → Int} {pt pl pn n k b6 j : Nat} {L : List Leaf} {last : It} (hT : TG W pt pl pn L w8) (hL : Left L D n (k + 1) (D j, (j : Int))) (hB : Blk w8 b6 43 [.int .u64 last.1, .int .i64 last.2])
    (hk : k < n) (h1 : b6 ≠ pl) (h2 : b6 ≠ pn) (h3 : W.heap.size ≤ b6) : LeftAt W D pt pl pn n b6 (.int .i64 ((k : Int) + 1)) ((w8.setCell ⟨b6, 0, none⟩ (.int .u64 (D j))).setCell ⟨b6, 1, none⟩ (.int .i64 (j : Int))) := by
  have hu : Upd [b6] w8 ((w8.setCell ⟨b6, 0, none⟩ (.int .u64 (D j))).setCell ⟨b6, 1, none⟩ (.int .i64 (j : Int))) := ((Upd.refl _ _).setCell (by simp) _).setCell (by simp) _
  have hl := hB.lt
  refine ⟨k + 1, L, (D j, (j : Int)), by congr 1, by omega, ?_, hL, by simpa using hl, h1, h2, h3, (hB.set 0 _).set 1 _⟩
  obtain ⟨t, hT', e1, e2, e3, e4, hg, hs, hU, g1, g2, g3⟩ := hT
  by_cases hbt : t.bt = b6
  · exfalso
    have hb0 := hB.cell (j := 0) rfl
    have ht0 := hT'.top.cell (j := 0) rfl
    rw [hbt, hb0] at ht0
    simp at ht0
  · exact ⟨t, hT'.upd hu (by simp [hbt]) (by simp; omega) (by simp; omega), e1, e2, e3, e4, hg, hs, hU.then hu (by simp) (by intro i hi hm; simp at hm; omega), g1, g2, g3⟩

set_option maxHeartbeats 32000000 in
theorem sorts_walk (v : Value) (m : Nat) (D : Nat → Nat → Int) (W : World) (hv : RowsAt W [.u64] v m D) :
    Calls Try.prog 7 #[v] W (RetUpd [] W (.bool true)) := by
  obtain ⟨ao, cap, rfl, hmm, hD⟩ := nums_cells hv
  unfold maxLen at hmm
  have HD := Lib.hid hD
  clear hD hv
  obtain ⟨n, hn⟩ : ∃ n : Nat, min m 16 = n := ⟨_, rfl⟩
  have hnm : n ≤ m := by omega
  have hn16 : n ≤ 16 := by omega
  have HC : Hid ((n : Int) = min (m : Int) 16) := by unfold Hid; omega
  clear hn
  go_enter Try.func7, Try.ntmps7
  go_wp2_with fail
  rw [← HC.out]
  refine (tnew_any _ _).mono ?_
  intro e1 w1 hM
  obtain ⟨pt, pl, pn, L0, rfl, hT, hF, hpl, hpn⟩ := sorts_made hM hn16 (fun i => D i 0)
  have HT := Lib.hid hT
  have HF := Lib.hid hF
  clear hT hF hM
  go_wp2_with (first
    | (go_at_call 10; refine (awake_any _).mono ?_; rintro e w2 ⟨rfl, hB⟩; have HT2 := Lib.hid (HT.out.upd hB); clear hB))
  go_loopw [5] (fun iv wr => FillAt2 W (fun i => D i 0) pt pl pn n iv wr) (fun iv _ => n - (intOf iv).toNat)
  case atStart => exact ⟨0, L0, rfl, by omega, HT2.out, HF.out⟩
  case round =>
    clear HT HF HT2
    obtain ⟨i, L, rfl, hi, hT, hF⟩ := hrel
    have HT := Lib.hid hT
    have HF := Lib.hid hF
    clear hT hF
    by_cases hlt : i < n
    · rcases HD.out with h0 | ⟨b, off, rfl, hb1, hc⟩
      · omega
      have c0 := hc i (by omega)
      rw [← HT.out.updW.cell hb1 (by simp)] at c0
      have him : i < m := by omega
      have HC2 := Lib.hid hc
      clear hc
      go_wp2_with (first
        | (go_at_call 18; refine (HT.out.set i (D i 0, (i : Int)) (by have := HF.out.1; omega)).mono ?_; rintro e w3 ⟨rfl, hU3, hT3⟩; have HT3 := Lib.hid hT3; clear hU3 hT3))
      exact ⟨⟨i + 1, _, by congr 1, by omega, HT3.out, HF.out.step hlt⟩, by first | (simp [intOf]; done) | (simp [intOf]; omega)⟩
    · have hin : Hid (i = n) := by unfold Hid; omega
      obtain ⟨w4, rfl⟩ : ∃ w4 : World, w4 = wr := ⟨_, rfl⟩
      obtain ⟨hp1, hp2⟩ := HT.out.lts
      have hw4 := HT.out.updW.size
      go_wp2
      have hst := left_start HT.out HF.out hin.out
      have HST := Lib.hid hst
      clear hst
      go_loopw [7] (fun kv wr => LeftAt W (fun i => D i 0) pt pl pn n w4.heap.size kv wr) (fun kv _ => n - (intOf kv).toNat)
      case atStart => exact HST.out
      case round =>
        clear HST
        obtain ⟨k, L2, last, rfl, hk, hT, hL, hb1, hb2, hb3, hb4, hB⟩ := hrel
        have HT2 := Lib.hid hT
        have HL2 := Lib.hid hL
        have HB2 := Lib.hid hB
        have q0 := hB.cell (j := 0) rfl
        have q1 := hB.cell (j := 1) rfl
        clear hT hL hB
        by_cases hkn : k < n
        · obtain ⟨j, hj⟩ := HT2.out.exists (by have := HL2.out.2.1; omega)
          have HJ := Lib.hid hj
          have hj0 := HL2.out.2.2.1 j hj.1 hj.2.1
          have hjn := hj0.1
          have hjl := hj.1
          have HX := Lib.hid hj0.2
          clear hj hj0
          rcases HD.out with h0 | ⟨b, off, rfl, hbb, hc⟩
          · omega
          have c0 := hc j (by omega)
          rw [← HT2.out.updW.cell hbb (by simp)] at c0
          have hjm : j < m := by omega
          have HC2 := Lib.hid hc
          clear hc
          have hbW : b < wr.heap.size := Nat.lt_of_lt_of_le hbb HT2.out.updW.size
          obtain ⟨hbp1, hbp2⟩ := HT2.out.apart hbb
          go_wp2_with (first
            | (go_at_call 17; refine (HT2.out.first HJ.out).mono ?_; rintro e w5 ⟨rfl, hU5⟩; rw [HX.out]; have HU5 := Lib.hid hU5; clear hU5))
          obtain ⟨W6, hW6⟩ : ∃ W6 : World, W6 = w5.alloc (.cells #[.int .u64 (D j 0), .int .i64 (j : Int)] 43) := ⟨_, rfl⟩
          have h5s := HU5.out.size
          have hU6 : Upd [] wr W6 := by rw [hW6]; exact HU5.out.alloc _
          have HU6 := Lib.hid hU6
          have l5 : w5.heap.size < W6.heap.size := by rw [hW6]; simp
          have x0 : W6.cell? ⟨w5.heap.size, 0, none⟩ = some (.int .u64 (D j 0)) := by rw [hW6]; simp
          have x1 : W6.cell? ⟨w5.heap.size, 1, none⟩ = some (.int .i64 (j : Int)) := by rw [hW6]; simp
          have y0 := (hU6.cell hb1 (by simp) 0).trans q0
          have y1 := (hU6.cell hb1 (by simp) 1).trans q1
          have z0 := (hU6.cell hbW (by simp) (off + j)).trans c0
          obtain ⟨lp1, lp2⟩ := HT2.out.lts
          have e1 : w5.heap.size ≠ pl := by omega
          have e2 : w5.heap.size ≠ pn := by omega
          have lb6 : w4.heap.size < W6.heap.size := by have := hU6.size; omega
          have lbb : b < W6.heap.size := by have := hU6.size; omega
          have HB6 := Lib.hid (HB2.out.upd hU6 (by simp))
          have HT6 := Lib.hid (HT2.out.upd hU6)
          rw [← hW6]
          have HL3 := Lib.hid (HL2.out.step HJ.out)
          have hjL : j < L2.length := hjl
          have t1 : decide ((j : Int) < 0) = false := by simp
          have t2 : decide (n ≤ j) = false := by simp; omega
          clear q0 q1 c0 hU6 hW6
          by_cases hk0 : 0 < k
          · have t3 : decide ((0 : Int) < (k : Int)) = true := by simp; omega
            have hah : Hid (ahead last (D j 0, (j : Int)) = true) := by have := HL2.out.2.2.2 hk0 j HJ.out.1 HJ.out.2.1; rw [HX.out] at this; exact this
            go_region_held3 (fun w' => Upd [pl, pn] W6 w' ∧ ∀ (b o : Nat), b < W6.heap.size → b ∉ [pl, pn] → w'.cell? ⟨b, o, none⟩ = W6.cell? ⟨b, o, none⟩)
              (first | exact Held.init _ _ | exact Held.step (by assumption) hB.nil | exact Held.step (by assumption) hB8)
              (first
                | (go_at_call 16; refine (rahead_any last (D j 0, (j : Int)) _).mono ?_; rintro e w7 ⟨rfl, hB⟩; rw [hah.out]; have HT7 := Lib.hid (HT6.out.upd ((Upd.refl [] W6).drew.trans hB)))
                | (go_at_call 19; refine (HT7.out.unset j hjL).mono ?_; rintro e w8 ⟨rfl, hB8, hT8⟩; have HT8 := Lib.hid hT8))
            have hU8 := ‹Upd [pl, pn] W6 _ ∧ _›.1
            have HB8 := Lib.hid (HB6.out.upd hU8 (by simp [hb2, hb3]))
            have o0 := HB8.out.cell (j := 0) rfl
            have o1 := HB8.out.cell (j := 1) rfl
            have f0 := HB8.out.free 0
            have f1 := HB8.out.free 1
            have k0 := (hU8.cell l5 (by simp [e1, e2]) 0).trans x0
            have k1 := (hU8.cell l5 (by simp [e1, e2]) 1).trans x1
            have lw8 := hU8.size
            go_wp2
            exact ⟨sorts_round HT8.out HL3.out HB8.out hkn hb2 hb3 hb4, by first | (simp [intOf]; done) | (simp [intOf]; omega)⟩
          · have t3 : decide ((0 : Int) < (k : Int)) = false := by simp; omega
            go_still_tail 34, (by kernel_rfl)
            go_wp2_with (first
              | (go_at_call 19; refine ((HT6.out.upd (by first | exact (Upd.refl [] W6).drew | exact (Upd.refl [] W6).drewN _)).unset j hjL).mono ?_; rintro e w8 ⟨rfl, hB8, hT8⟩; have HT8 := Lib.hid hT8; have hU8 : Upd [pl, pn] W6 w8 := ⟨hB8.os, hB8.tape, hB8.output, hB8.size, hB8.block⟩; have HB8 := Lib.hid (HB6.out.upd hU8 (by simp [hb2, hb3])); have o0 := HB8.out.cell (j := 0) rfl; have o1 := HB8.out.cell (j := 1) rfl; have f0 := HB8.out.free 0; have f1 := HB8.out.free 1; have k0 := (hU8.cell l5 (by simp [e1, e2]) 0).trans x0; have k1 := (hU8.cell l5 (by simp [e1, e2]) 1).trans x1; have lw8 := hU8.size))
            exact ⟨sorts_round HT8.out HL3.out HB8.out hkn hb2 hb3 hb4, by first | (simp [intOf]; done) | (simp [intOf]; omega)⟩
        · have hbr : Hid (Bare L2) := cntH_bare (by have := HL2.out.2.1; omega)
          go_wp2_with (first
            | (go_at_call 17; refine (HT2.out.bare hbr.out).mono ?_; rintro e w3 ⟨rfl, hU3⟩; have HU3 := Lib.hid (hU3.alloc (.cells #[.int .u64 0, .int .i64 0] 43)); clear hU3))
          go_ret
          exact ⟨rfl, HT2.out.updW.trans HU3.out⟩
end Go.Proofs.Ytoalbmcceehccaa
