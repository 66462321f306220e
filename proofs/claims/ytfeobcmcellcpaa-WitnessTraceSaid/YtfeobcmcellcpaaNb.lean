/-
  The walk of the document's 'of': the points of a call. No condition.
-/
import Derived.Test.YtfeobcmcellcpaaMm
set_option linter.unusedVariables false
set_option linter.unusedSimpArgs false
namespace Go.Proofs.Ytfeobcmcellcpaa
open Go.RowKit

theorem underlyingPts_ : Try.prog.underlying 28 = some (.slice 49) := by kernel_rfl
theorem infoPt_ : (Try.prog.info? 49).map (fun i => (i.zero, i.size, i.bytes)) = some (some (.agg #[.int .i64 0, .int .i64 0, .int .i64 0, .int .i64 0, .slice none 0 0, .int .i64 0, .int .u64 0]), 7, 72) := by kernel_rfl
def ofL (l : List Pt) (d : Dn) : List Pt := l.filter (fun x => ofP x d)
theorem ofL_step {l : List Pt} {d : Dn} {i : Nat} {x : Pt} (hx : l[i]? = some x) : ofL (l.take (i + 1)) d = ofL (l.take i) d ++ (if ofP x d = true then [x] else []) := by
  unfold ofL
  rw [List.take_add_one, hx, List.filter_append]
  congr 1
  by_cases h : ofP x d = true <;> simp [h]
theorem ofL_le (l : List Pt) (d : Dn) (i : Nat) : (ofL (l.take i) d).length ≤ i := by
  unfold ofL; exact Nat.le_trans (List.length_filter_le _ _) (by rw [List.length_take]; omega)
theorem ptVs_one {x : Pt} {lo : Option Addr} {k c : Nat} (h : x.lv = .slice lo k c) : ∀ u ∈ ptVs x, u.oneCell' = true := by
  intro u hu
  simp only [ptVs, List.mem_cons, List.not_mem_nil, or_false, h] at hu
  rcases hu with rfl | rfl | rfl | rfl | rfl | rfl | rfl <;> rfl
def DofAt (w : World) (l : List Pt) (d : Dn) (ov iv : Value) (wr : World) : Prop := ∃ (i k : Nat) (ao : Option Addr) (cap : Nat), iv = .int .i64 i ∧ ov = .slice ao k cap ∧ i ≤ l.length ∧ k = (ofL (l.take i) d).length ∧ RowO wr 49 7 ao k cap ((ofL (l.take i) d).flatMap ptVs) ∧ (∀ c ∈ blkO ao, w.heap.size ≤ c) ∧ Upd [] w wr
def DofTo (w : World) (l : List Pt) (d : Dn) (e : Ending) (w' : World) : Prop := ∃ ao cap, e = .returned (.slice ao (ofL l d).length cap) ∧ PtsAt' w' (.slice ao (ofL l d).length cap) (ofL l d) ∧ Upd [] w w'

set_option maxRecDepth 100000 in
set_option maxHeartbeats 8000000 in
theorem dof_any {w : World} {v : Value} {l : List Pt} (d : Dn) (hl : PtsAt' w v l) (hlen : l.length ≤ 1954687338268) : Calls Try.prog 34 #[v, dnV d] w (DofTo w l d) := by
  have HL := Lib.hid hl
  obtain ⟨-, al, cl, rfl, -⟩ := pts_at hl
  obtain ⟨n, hn⟩ : ∃ n, l.length = n := ⟨_, rfl⟩
  have HN := Lib.hid hn
  rw [hn] at hlen ⊢
  have bn : n ≤ 1954687338268 := hlen
  unfold dnV
  obtain ⟨w1, hw1⟩ : ∃ y, w.alloc (.cells #[.int .i64 d.who, .int .i64 d.place, .int .i64 d.c.op, .int .i64 d.c.flow, .int .i64 d.c.a, .int .i64 d.c.b, .int .i64 d.r.e, d.lv, .int .i64 d.r.n, .int .u64 d.r.v, .int .i64 d.frm, .int .i64 d.til] 67) = y := ⟨_, rfl⟩
  have u1 : Upd [] w w1 := by rw [← hw1]; exact (Upd.refl [] w).alloc _
  have b1 : Blk w1 w.heap.size 67 [.int .i64 d.who, .int .i64 d.place, .int .i64 d.c.op, .int .i64 d.c.flow, .int .i64 d.c.a, .int .i64 d.c.b, .int .i64 d.r.e, d.lv, .int .i64 d.r.n, .int .u64 d.r.v, .int .i64 d.frm, .int .i64 d.til] := by rw [← hw1]; exact Blk.new w 67 [.int .i64 d.who, .int .i64 d.place, .int .i64 d.c.op, .int .i64 d.c.flow, .int .i64 d.c.a, .int .i64 d.c.b, .int .i64 d.r.e, d.lv, .int .i64 d.r.n, .int .u64 d.r.v, .int .i64 d.frm, .int .i64 d.til]
  have HU1 := Lib.hid u1
  obtain ⟨bd, hbd⟩ : ∃ y, w.heap.size = y := ⟨_, rfl⟩
  rw [hbd] at b1
  have HB1 := Lib.hid b1
  clear u1 b1 hl hn hlen
  go_enter Try.func34, Try.ntmps34
  go_wp2_with fail
  clear hw1 hbd
  go_loopw [5, 6] (fun ov iv wr => DofAt w1 l d ov iv wr) (fun _ iv _ => n - (intOf iv).toNat)
  case atStart => exact ⟨0, 0, none, 0, rfl, rfl, Nat.zero_le _, rfl, RowO.nil _ _ _, fun c hc => (by cases hc), Upd.refl _ _⟩
  case round =>
    obtain ⟨i, k, ao, cap, rfl, rfl, hi, hk, hrow, hnew, hU⟩ := hrel
    rw [HN.out] at hi
    have hki : k ≤ i := by rw [hk]; exact ofL_le l d i
    have HU := Lib.hid (HU1.out.trans hU)
    have HUX := Lib.hid hU
    have HROW := Lib.hid hrow
    have HNEW := Lib.hid hnew
    have HK := Lib.hid hk
    have hb := HB1.out.upd hU (by simp)
    have y0 := hb.cell (j := 0) rfl
    have y1 := hb.cell (j := 1) rfl
    have ly := hb.lt
    clear hU hrow hnew hk hb
    by_cases hlt : i < n
    · have t1 : decide (i < n) = true := by simp [hlt]
      have b1 : (i : Int) < (n : Int) := by omega
      obtain ⟨x, hx⟩ : ∃ x, l[i]? = some x := ⟨_, List.getElem?_eq_getElem (by rw [HN.out]; exact hlt)⟩
      obtain ⟨-, _, _, e1, hat⟩ := pts_at (HL.out.upd HU.out)
      rw [HN.out] at e1
      cases e1
      obtain ⟨gx, ox, rfl, lx, hpt, x0, x1, x2, x3, x4, x5, x6⟩ := hat i x hx
      obtain ⟨lo, lc, hlv, -⟩ := hpt
      rw [hlv] at x4
      have hst := ofL_step (d := d) hx
      have HLV := Lib.hid hlv
      have fin : i + 1 ≤ 9223372036854775807 := by omega
      clear hat hlv hx
      have hdec : ofP x d = (decide (x.who = d.who) && decide (x.place = d.place)) := rfl
      by_cases h1 : x.who = d.who
      · have t2 : (x.who == d.who) = true := by simp [h1]
        by_cases h2 : x.place = d.place
        · have t3 : (x.place == d.place) = true := by simp [h2]
          have HST : Hid (ofL (l.take (i + 1)) d = ofL (l.take i) d ++ [x]) := by unfold Hid; rw [hst, hdec]; simp [h1, h2]
          clear h1 h2 hst hdec
          go_wp2_with fail
          go_quiet (fail)
          obtain ⟨wk, hwk⟩ : ∃ v, wr.drewN nq = v := ⟨_, rfl⟩
          have uk : Upd [] wr wk := by rw [← hwk]; exact (Upd.refl [] wr).drewN _
          have g0 := (uk.cell lx (by simp) (ox + i * 7)).trans x0
          have g1 := (uk.cell lx (by simp) (ox + i * 7 + 1)).trans x1
          have g2 := (uk.cell lx (by simp) (ox + i * 7 + 2)).trans x2
          have g3 := (uk.cell lx (by simp) (ox + i * 7 + 3)).trans x3
          have g4 := (uk.cell lx (by simp) (ox + i * 7 + 4)).trans x4
          have g5 := (uk.cell lx (by simp) (ox + i * 7 + 5)).trans x5
          have g6 := (uk.cell lx (by simp) (ox + i * 7 + 6)).trans x6
          have lg := Nat.lt_of_lt_of_le lx uk.size
          rw [hwk]
          obtain ⟨i0, hi0, hz0, hz1, hz2⟩ := info_parts infoPt_
          obtain ⟨v3, hv3⟩ : ∃ y, wk.alloc (.cells #[.int .i64 x.step, .int .i64 x.who, .int .i64 x.place, .int .i64 x.r.e, .slice lo x.r.L.length lc, .int .i64 x.r.n, .int .u64 x.r.v] 49) = y := ⟨_, rfl⟩
          have hvs : ptVs x = [.int .i64 x.step, .int .i64 x.who, .int .i64 x.place, .int .i64 x.r.e, .slice lo x.r.L.length lc, .int .i64 x.r.n, .int .u64 x.r.v] := by unfold ptVs; rw [HLV.out]
          have q3 : Upd [] wk v3 := by rw [← hv3]; exact (Upd.refl [] wk).alloc _
          have HSRC : Hid (Src v3 7 (some ⟨wk.heap.size, 0, none⟩) 1 (ptVs x)) := by
            unfold Hid; rw [← hv3]
            have := one_src wk 49 (ptVs x) (ptVs_one HLV.out) 7 rfl
            rw [hvs] at this ⊢
            exact this
          have HQ : Hid (Upd [] wr v3) := uk.trans q3
          have HRW := Lib.hid (HROW.out.upd HQ.out (by simp))
          have HBD : Hid (k + 1 ≤ maxLen ∧ (k + 1) * 72 ≤ 140737488355328) := ⟨by unfold maxLen; omega, by omega⟩
          clear uk q3 hvs hwk x0 x1 x2 x3 x4 x5 x6 lx y0 y1 ly
          go_wp2_with (at_builtin; (refine wpList_app2 _ (by rfl) _ _ _ (by rfl) 49 i0 _ 7 72 underlyingPts_ hi0 hz0 hz1 hz2 rfl (by omega) ao k cap ((ofL (l.take i) d).flatMap ptVs) (by rfl) HRW.out (some ⟨wk.heap.size, 0, none⟩) 1 1 (ptVs x) (by rfl) HSRC.out HBD.out.1 HBD.out.2 ?_); (intro ao3 cap3 w7 hA3; have HA3 := Lib.hid hA3; clear hA3))
          have hs1 := HUX.out.size
          have hs2 := HQ.out.size
          exact ⟨⟨i + 1, k + 1, ao3, cap3, by congr 1, rfl, by rw [HN.out]; omega, by rw [HST.out, List.length_append, ← HK.out]; rfl, by rw [HST.out, List.flatMap_append]; simpa using HA3.out.row, fun y hy => by rcases HA3.out.at_ y hy with h | h; (exact HNEW.out y h); omega, (HUX.out.trans HQ.out).then HA3.out.upd (fun _ _ h => h) (fun a ha hm => by have := HNEW.out a hm; omega)⟩, by first | (simp [intOf]; done) | (simp [intOf]; omega)⟩
        · have t3 : (x.place == d.place) = false := by simp [h2]
          have HST : Hid (ofL (l.take (i + 1)) d = ofL (l.take i) d) := by unfold Hid; rw [hst, hdec]; simp [h2]
          clear h1 h2 hst hdec
          go_wp2_with fail
          go_quiet (fail)
          go_wp2_with fail
          exact ⟨⟨i + 1, k, ao, cap, by congr 1, rfl, by rw [HN.out]; omega, by rw [HST.out]; exact HK.out, by rw [HST.out]; exact HROW.out.upd ((Upd.refl [] wr).drewN _) (by simp), HNEW.out, HUX.out.trans ((Upd.refl [] wr).drewN _)⟩, by first | (simp [intOf]; done) | (simp [intOf]; omega)⟩
      · have t2 : (x.who == d.who) = false := by simp [h1]
        have HST : Hid (ofL (l.take (i + 1)) d = ofL (l.take i) d) := by unfold Hid; rw [hst, hdec]; simp [h1]
        clear h1 hst hdec
        go_wp2_with fail
        go_quiet (fail)
        go_wp2_with fail
        exact ⟨⟨i + 1, k, ao, cap, by congr 1, rfl, by rw [HN.out]; omega, by rw [HST.out]; exact HK.out, by rw [HST.out]; exact HROW.out.upd ((Upd.refl [] wr).drewN _) (by simp), HNEW.out, HUX.out.trans ((Upd.refl [] wr).drewN _)⟩, by first | (simp [intOf]; done) | (simp [intOf]; omega)⟩
    · have t1 : decide (i < n) = false := by simp; omega
      have HTK : Hid (l.take i = l) := List.take_of_length_le (by rw [HN.out]; omega)
      have hrow := HROW.out
      rw [HTK.out] at hrow
      have hk := HK.out
      rw [HTK.out] at hk
      have HR2 := Lib.hid hrow
      have HK2 := Lib.hid hk
      clear hrow hk
      go_wp2_with fail
      go_ret
      refine ⟨ao, cap, by rw [← HK2.out]; rfl, ⟨by rw [← HK2.out]; exact HR2.out.sl, fun x hx => (HL.out.upd HU.out).2 x ((List.mem_filter.mp hx).1)⟩, HU.out⟩
end Go.Proofs.Ytfeobcmcellcpaa
