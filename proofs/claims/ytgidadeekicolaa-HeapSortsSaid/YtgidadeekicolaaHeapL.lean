/-
  The walk of HeapSorts: items pushed in any order are popped in order. No condition.
-/
import Derived.Test.YtgidadeekicolaaHeapK
import Derived.Test.YtgidadeekicolaaArgs
namespace Go.Proofs.Ytgidadeekicolaa
open Go.RowKit

theorem hasI_ins (L : List It) (x : It) : hasI (if hasI L x.2 = true then L else insI x L) x.2 = true := by
  split
  · assumption
  · rw [hasI_iff]; exact ⟨x, (insI_perm x L).mem_iff.2 (by simp), rfl⟩
theorem len_ins (L : List It) (x : It) : (if hasI L x.2 = true then L else insI x L).length = if hasI L x.2 = true then L.length else L.length + 1 := by
  split
  · rfl
  · rw [(insI_perm x L).length_eq]; rfl
theorem agg_cells {w : World} {v : Value} {n : Nat} {D : Nat → Nat → Int} (h : RowsAt w [.u64, .i64] v n D) : ∃ ao cap, v = .slice ao n cap ∧ n ≤ maxLen ∧ (n = 0 ∨ ∃ b off, ao = some ⟨b, off, none⟩ ∧ b < w.heap.size ∧
    ∀ i, i < n → w.cell? ⟨b, off + i * 2, none⟩ = some (.int .u64 (D i 0)) ∧ w.cell? ⟨b, off + i * 2 + 1, none⟩ = some (.int .i64 (D i 1))) := by
  obtain ⟨ao, cap, hv, hm, h | ⟨b, off, ha, hb, hc⟩⟩ := h
  · exact ⟨ao, cap, hv, hm, .inl h⟩
  · exact ⟨ao, cap, hv, hm, .inr ⟨b, off, ha, hb, fun i hi => ⟨by simpa using (hc i hi 0 .u64 rfl).1, by simpa [Nat.add_assoc] using (hc i hi 1 .i64 rfl).1⟩⟩⟩

def PushAt (W : World) (hb c : Nat) (nv iv : Value) (wr : World) : Prop := ∃ (i : Nat) (L : List It) (fp : List Nat), iv = .int .i64 i ∧ nv = .int .i64 L.length ∧ i ≤ c ∧ L.length ≤ i ∧ HG W hb L fp wr
def PopAt (W : World) (hb n b7 : Nat) (sv kv : Value) (wr : World) : Prop :=
  ∃ (k : Nat) (L : List It) (fp : List Nat) (last : It) (is : Bool), kv = .int .i64 k ∧ sv = .bool is ∧ k + L.length = n ∧ HG W hb L fp wr ∧ b7 < wr.heap.size ∧ b7 ∉ fp ∧ W.heap.size ≤ b7 ∧ Blk wr b7 29 [.int .u64 last.1, .int .i64 last.2] ∧ (is = true → ∀ y ∈ L, ahead last y = true)

theorem pop_start {W w4 : World} {hb n : Nat} {L : List It} {fp : List Nat} (h : HG W hb L fp w4) (hn : L.length = n) : PopAt W hb n w4.heap.size (.bool false) (.int .i64 0) (w4.alloc (.cells #[.int .u64 0, .int .i64 0] 29)) := by
  have h3 := h.2.2.size
  exact ⟨0, L, fp, (0, 0), false, rfl, rfl, by omega, h.upd ((Upd.refl [] _).alloc _), by simp, fun e => by have := h.1.lt _ e; omega, h3, Blk.new w4 _ [.int .u64 0, .int .i64 0], fun h => by cases h⟩

theorem pop_round {W w8 : World} {hb n k b7 : Nat} {x last : It} {L : List It} {fp : List Nat} (h : HG W hb L fp w8) (hk : k + 1 + L.length = n) (hB : Blk w8 b7 29 [.int .u64 last.1, .int .i64 last.2]) (hs : Srt (x :: L)) (h1 : b7 ∉ fp) (h3 : W.heap.size ≤ b7) :
    PopAt W hb n b7 (.bool true) (.int .i64 ((k : Int) + 1)) ((w8.setCell ⟨b7, 0, none⟩ (.int .u64 x.1)).setCell ⟨b7, 1, none⟩ (.int .i64 x.2)) := by
  have hu : Upd [b7] w8 ((w8.setCell ⟨b7, 0, none⟩ (.int .u64 x.1)).setCell ⟨b7, 1, none⟩ (.int .i64 x.2)) := ((Upd.refl _ _).setCell (by simp) _).setCell (by simp) _
  have hl := hB.lt
  exact ⟨k + 1, L, fp, x, true, by congr 1, rfl, hk, h.updS hu (fun b hb => by simp; exact fun e => h1 (e ▸ hb)) (fun b hm => by simp at hm; subst hm; exact h3), by simpa using hl, h1, h3, (hB.set 0 _).set 1 _, fun _ y hy => (List.pairwise_cons.1 hs).1 y hy⟩

set_option maxRecDepth 100000 in
set_option maxHeartbeats 32000000 in
theorem hsorts_walk (v : Value) (m : Nat) (D : Nat → Nat → Int) (W : World) (hv : RowsAt W [.u64, .i64] v m D) :
    Calls Try.prog 3 #[v] W (RetUpd [] W (.bool true)) := by
  obtain ⟨ao, cap, rfl, hmm, hD⟩ := agg_cells hv
  unfold maxLen at hmm
  have HD := Lib.hid hD
  clear hD hv
  obtain ⟨c, hc⟩ : ∃ c : Nat, min m 80 = c := ⟨_, rfl⟩
  have hcm : c ≤ m := by omega
  have hc80 : c ≤ 80 := by omega
  have HC : Hid (min m 80 = c) := hc
  clear hc
  go_enter Try.func3, Try.ntmps3
  go_wp2_with fail
  refine (HG.new W).mono ?_
  rintro e1 w1 ⟨hb, fp0, rfl, hG, -⟩
  have HG0 := Lib.hid hG
  clear hG
  go_wp2_with fail
  refine (awake4_any w1).mono ?_
  rintro e w2 ⟨rfl, hU⟩
  have HG2 := Lib.hid (HG0.out.upd hU)
  clear hU HG0
  go_wp2
  go_loopw [4, 5] (fun nv iv wr => PushAt W hb c nv iv wr) (fun _ iv _ => c - (intOf iv).toNat)
  case atStart => exact ⟨0, [], fp0, rfl, rfl, by omega, by simp, HG2.out⟩
  case round =>
    clear HG2
    obtain ⟨i, L, fp, rfl, rfl, hi, hLi, hG⟩ := hrel
    have HGr := Lib.hid hG
    clear hG
    by_cases hlt : i < c
    · rcases HD.out with h0 | ⟨b, off, rfl, hb1, hcc⟩
      · omega
      obtain ⟨c0, c1⟩ := hcc i (by omega)
      rw [← HGr.out.2.2.cell hb1 (by simp)] at c0 c1
      have him : i < m := by omega
      have t1 : decide (i < m) = true := by simp; omega
      have t2 : decide ((i : Int) < 80) = true := by simp; omega
      have b1 : (i : Int) < (m : Int) := by omega
      have hbw : b < wr.heap.size := Nat.lt_of_lt_of_le hb1 HGr.out.2.2.size
      have HB1 := Lib.hid hb1
      have HCC := Lib.hid hcc
      obtain ⟨x, hx⟩ : ∃ x : It, x = (D i 0, D i 1) := ⟨_, rfl⟩
      have hx0 : D i 0 = x.1 := by rw [hx]
      have hx1 : D i 1 = x.2 := by rw [hx]
      rw [hx0] at c0
      rw [hx1] at c1
      have HC0 := Lib.hid c0
      have HC1 := Lib.hid c1
      clear hcc hb1 hx hx0 hx1
      go_wp2_with fail
      refine (HGr.out.has x.2).mono ?_
      rintro e w3 ⟨rfl, hG3, hU3⟩
      have HG3 := Lib.hid hG3
      have d0 := (hU3.cell hbw (by simp) (off + i * 2)).trans c0
      have d1 := (hU3.cell hbw (by simp) (off + i * 2 + 1)).trans c1
      have hbw3 := Nat.lt_of_lt_of_le hbw hU3.size
      have HU3 := Lib.hid hU3
      clear hG3 hU3 c0 c1
      go_wp2_with fail
      refine (HG3.out.push x (by omega)).mono ?_
      rintro e w4 ⟨rfl, fp', hG4, -, hU4⟩
      have HG4 := Lib.hid hG4
      have e0 : w4.cell? ⟨b, off + i * 2, none⟩ = some (.int .u64 x.1) := by rw [HG4.out.2.2.cell HB1.out (by simp), ← HGr.out.2.2.cell HB1.out (by simp)]; exact HC0.out
      have e1 : w4.cell? ⟨b, off + i * 2 + 1, none⟩ = some (.int .i64 x.2) := by rw [HG4.out.2.2.cell HB1.out (by simp), ← HGr.out.2.2.cell HB1.out (by simp)]; exact HC1.out
      have hbw4 : b < w4.heap.size := Nat.lt_of_lt_of_le HB1.out HG4.out.2.2.size
      clear hG4 hU4 d0 d1
      obtain ⟨hd, hhd⟩ : ∃ hd, hasI L x.2 = hd := ⟨_, rfl⟩
      have HHD := Lib.hid hhd
      have hlen : Hid ((if hasI L x.2 = true then L else insI x L).length = if hd = true then L.length else L.length + 1) := by unfold Hid; rw [len_ins, hhd]
      rw [hhd]
      clear hhd
      cases hd
      all_goals
        go_wp2_with fail
        refine (HG4.out.has x.2).mono ?_
        rintro e w5 ⟨rfl, hG5, hU5⟩
        rw [hasI_ins]
        have HG5 := Lib.hid hG5
        clear hG5 hU5
        go_wp2
        have hl2 := hlen.out
        simp at hl2
        exact ⟨⟨i + 1, _, fp', by congr 1, by congr 1; omega, by omega, by omega, HG5.out⟩, by first | (simp [intOf]; done) | (simp [intOf]; omega)⟩
    · have t1 : Hid (decide (i < m) = true ∧ decide ((i : Int) < 80) = false ∨ decide (i < m) = false) := by
        have := HC.out
        unfold Hid
        by_cases h : i < m
        · left; exact ⟨by simp; omega, by simp; omega⟩
        · right; simp; omega
      have hL80 : L.length ≤ 80 := by omega
      rcases t1.out with ⟨t2, t3⟩ | t2
      all_goals
        go_wp2_with fail
        refine HGr.out.len.mono ?_
        rintro e w4 ⟨rfl, hG4, -⟩
        have HG4 := Lib.hid hG4
        clear hG4
        go_wp2
        have hst := pop_start HG4.out rfl
        have HST := Lib.hid hst
        clear hst
        obtain ⟨n, hn⟩ : ∃ n, L.length = n := ⟨_, rfl⟩
        rw [hn] at HST hL80 ⊢
        clear HG4 HGr hn hLi
        go_loopw [8, 9] (fun sv kv wr => PopAt W hb n w4.heap.size sv kv wr) (fun _ kv _ => n - (intOf kv).toNat)
        case atStart => exact HST.out
        case round =>
          clear HST
          obtain ⟨k, L2, fp2, last, is, rfl, rfl, hk, hG, hb1, hb2, hb3, hB, hah⟩ := hrel
          have HGr := Lib.hid hG
          have HB := Lib.hid hB
          have HAH := Lib.hid hah
          have q0 := hB.cell (j := 0) rfl
          have q1 := hB.cell (j := 1) rfl
          clear hG hB hah
          cases L2 with
          | nil =>
            have t4 : decide (k < n) = false := by simp at hk; simp; omega
            go_wp2_with fail
            refine HGr.out.pop.mono ?_
            rintro e w5 ⟨rfl, fp3, hG5, -⟩
            have HG5 := Lib.hid hG5
            clear hG5
            unfold firstV itV
            go_wp2_with fail
            refine (HG5.out.upd ((Upd.refl [] w5).alloc _)).len.mono ?_
            rintro e w6 ⟨rfl, hG6, -⟩
            have HG6 := Lib.hid hG6
            clear hG6
            go_wp2
            go_ret
            exact ⟨rfl, HG6.out.2.2⟩
          | cons x L3 =>
            have t4 : decide (k < n) = true := by simp at hk; simp; omega
            have hsr := HGr.out.1.srt
            have hnd := HGr.out.1.nd
            have HSR := Lib.hid hsr
            have hno : Hid (hasI L3 x.2 = false) := by
              unfold Hid
              rw [hasI_no]
              intro y hy e
              unfold NdI at hnd
              rw [List.map_cons, List.nodup_cons] at hnd
              exact hnd.1 (by rw [← e]; exact List.mem_map_of_mem hy)
            clear hsr hnd
            go_wp2_with fail
            refine HGr.out.pop.mono ?_
            rintro e w5 ⟨rfl, fp3, hG5, hfp, hU5⟩
            have HG5 := Lib.hid hG5
            have HB5 := Lib.hid (HB.out.upd hU5 hb2)
            have hb5 : w4.heap.size ∉ fp3 := fun e => by
              rcases hfp _ e with h | h
              · exact hb2 h
              · omega
            have lb5 := Nat.lt_of_lt_of_le hb1 hU5.size
            have p0 := (hU5.cell hb1 hb2 0).trans q0
            have p1 := (hU5.cell hb1 hb2 1).trans q1
            clear hG5 hU5 hfp q0 q1
            unfold firstV itV
            rw [List.tail_cons] at HG5
            cases is with
            | false =>
              go_wp2_with fail
              refine ((HG5.out.upd ((Upd.refl [] w5).alloc _)).has x.2).mono ?_
              rintro e w7 ⟨rfl, hG7, hU7⟩
              rw [hno.out]
              have HG7 := Lib.hid hG7
              have hU57 := ((Upd.refl [] w5).alloc (.cells #[.int .u64 x.1, .int .i64 x.2] 29)).trans hU7
              have HB7 := Lib.hid (HB5.out.upd hU57 (by simp))
              have o0 := HB7.out.cell (j := 0) rfl
              have o1 := HB7.out.cell (j := 1) rfl
              have f0 := HB7.out.free 0
              have f1 := HB7.out.free 1
              have lw7 := hU57.size
              have hx7 := (Blk.new w5 29 [.int .u64 x.1, .int .i64 x.2]).upd hU7 (by simp)
              have r0 := hx7.cell (j := 0) rfl
              have r1 := hx7.cell (j := 1) rfl
              clear hG7 hU7 hU57 hx7
              go_wp2
              exact ⟨pop_round HG7.out (by simp at hk; omega) HB7.out HSR.out hb5 hb3, by first | (simp [intOf]; done) | (simp [intOf]; simp at hk; omega)⟩
            | true =>
              have hal : Hid (ahead last x = true) := HAH.out rfl x (by simp)
              go_wp2_with fail
              refine (rahead_any last x _).mono ?_
              rintro e w6 ⟨rfl, hU6⟩
              rw [hal.out]
              have hU56 := ((Upd.refl [] w5).alloc (.cells #[.int .u64 x.1, .int .i64 x.2] 29)).trans hU6
              have HU56 := Lib.hid hU56
              have HX6 := Lib.hid ((Blk.new w5 29 [.int .u64 x.1, .int .i64 x.2]).upd hU6 (by simp))
              have s0 := HX6.out.cell (j := 0) rfl
              have s1 := HX6.out.cell (j := 1) rfl
              have ls := HX6.out.lt
              clear hU6 hU56
              go_wp2_with fail
              refine ((HG5.out.upd HU56.out).has x.2).mono ?_
              rintro e w7 ⟨rfl, hG7, hU7⟩
              rw [hno.out]
              have HG7 := Lib.hid hG7
              have hU57 := HU56.out.trans hU7
              have HB7 := Lib.hid (HB5.out.upd hU57 (by simp))
              have o0 := HB7.out.cell (j := 0) rfl
              have o1 := HB7.out.cell (j := 1) rfl
              have f0 := HB7.out.free 0
              have f1 := HB7.out.free 1
              have lw7 := hU57.size
              have hx7 := HX6.out.upd hU7 (by simp)
              have r0 := hx7.cell (j := 0) rfl
              have r1 := hx7.cell (j := 1) rfl
              clear hG7 hU7 hU57 hx7
              go_wp2
              exact ⟨pop_round HG7.out (by simp at hk; omega) HB7.out HSR.out hb5 hb3, by first | (simp [intOf]; done) | (simp [intOf]; simp at hk; omega)⟩
end Go.Proofs.Ytgidadeekicolaa
