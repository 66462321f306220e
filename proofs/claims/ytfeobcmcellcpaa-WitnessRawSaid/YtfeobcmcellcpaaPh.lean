/-
  The walk of the document's Whole: of each worker, how many of its calls have points. No condition.
-/
import Derived.Test.YtfeobcmcellcpaaMn
import Derived.Test.YtfeobcmcellcpaaNb
set_option linter.unusedVariables false
set_option linter.unusedSimpArgs false
namespace Go.Proofs.Ytfeobcmcellcpaa
open Go.RowKit

theorem ofL_pos (l : List Pt) (d : Dn) : decide (0 < (ofL l d).length) = l.any (fun x => ofP x d) := by
  unfold ofL
  induction l with
  | nil => rfl
  | cons x r ih =>
    rw [List.filter_cons, List.any_cons]
    cases h : ofP x d with
    | true => simp
    | false => simpa using ih

set_option maxRecDepth 100000 in
set_option maxHeartbeats 8000000 in
theorem dwhole_any {w : World} {pv v : Value} {p : Pl} {l : List Pt} (hp : PlanAt w pv p) (hl : PtsAt' w v l) (hlen : p.L.length ≤ 8796093022208) (hlen2 : l.length ≤ 1954687338268) : Calls Try.prog 12 #[pv, v] w (WhoTo w p.L l) := by
  have HL := Lib.hid hl
  obtain ⟨lv, rfl, hL⟩ := hp
  have HLS := Lib.hid hL
  obtain ⟨-, ao, cap, rfl, -⟩ := lists_at hL
  obtain ⟨-, al, cl, rfl, -⟩ := pts_at hl
  obtain ⟨n, hn⟩ : ∃ n, p.L.length = n := ⟨_, rfl⟩
  have HN := Lib.hid hn
  rw [hn] at hlen ⊢
  have bn : n ≤ 8796093022208 := hlen
  have HBN := Lib.hid bn
  obtain ⟨wp, hwp⟩ : ∃ y, w.alloc (.cells #[.int .i64 p.c.sh, .int .i64 p.c.sl, .int .i64 p.c.wo, .int .i64 p.c.wd, .int .u64 p.c.unit, .slice ao n cap] 27) = y := ⟨_, rfl⟩
  have hup : Upd [] w wp := by rw [← hwp]; exact (Upd.refl [] w).alloc _
  have hbp : Blk wp w.heap.size 27 [.int .i64 p.c.sh, .int .i64 p.c.sl, .int .i64 p.c.wo, .int .i64 p.c.wd, .int .u64 p.c.unit, .slice ao n cap] := by rw [← hwp]; exact Blk.new w 27 [.int .i64 p.c.sh, .int .i64 p.c.sl, .int .i64 p.c.wo, .int .i64 p.c.wd, .int .u64 p.c.unit, .slice ao n cap]
  have HUP := Lib.hid hup
  obtain ⟨bp, hbp0⟩ : ∃ y, w.heap.size = y := ⟨_, rfl⟩
  rw [hbp0] at hbp
  have HBP := Lib.hid hbp
  have HL2 := Lib.hid hlen2
  clear hl hL hn hlen hlen2 hup hbp
  go_enter Try.func12, Try.ntmps12
  go_wp2_with fail
  clear hwp
  go_loopw [5, 6] (fun ov iv wr => WhoAt wp p.L l ov iv wr) (fun _ iv _ => n - (intOf iv).toNat)
  case atStart => exact ⟨0, none, 0, rfl, rfl, Nat.zero_le _, by rw [List.take_zero]; exact RowO.nil _ _ _, fun c hc => (by cases hc), Upd.refl _ _⟩
  case round =>
    obtain ⟨i, ao5, cap5, rfl, rfl, hi, hrow, hnew, hU⟩ := hrel
    rw [HN.out] at hi
    have HU := Lib.hid (HUP.out.trans hU)
    have HUX := Lib.hid hU
    have HROW := Lib.hid hrow
    have HNEW := Lib.hid hnew
    have z5 := (HBP.out.upd HUX.out (by simp)).cell (j := 5) rfl
    have lz := (HBP.out.upd HUX.out (by simp)).lt
    clear hU hrow hnew
    by_cases hlt : i < n
    · have t1 : decide (i < n) = true := by simp [hlt]
      have b1 : (i : Int) < (n : Int) := by omega
      obtain ⟨x, hx⟩ : ∃ x, p.L[i]? = some x := ⟨_, List.getElem?_eq_getElem (by rw [HN.out]; exact hlt)⟩
      obtain ⟨-, _, _, e1, hat⟩ := lists_at (HLS.out.upd HU.out)
      rw [HN.out] at e1
      cases e1
      obtain ⟨gb, go, rfl, lg, y0, hm, lo, lc, hlv, -⟩ := hat i x hx
      rw [hlv] at y0
      have HAT := Lib.hid (wholeL_at l hx)
      obtain ⟨m, hmm⟩ : ∃ m, x.L.length = m := ⟨_, rfl⟩
      rw [hmm] at y0 hm HAT
      have bm : m ≤ 9223372036854775807 := hm
      have HMX := Lib.hid hmm
      have fin : i + 1 ≤ 9223372036854775807 := by omega
      have HY0 : Hid ((∀ v, Upd [] wr v → v.cell? ⟨gb, go + i, none⟩ = some (.slice lo m lc)) ∧ (∀ v, Upd [] wr v → gb < v.heap.size)) := ⟨fun v hv => (hv.cell lg (by simp) _).trans y0, fun v hv => Nat.lt_of_lt_of_le lg hv.size⟩
      clear hat hlv hx hm hmm lg
      go_wp2_with fail
      obtain ⟨wb, ewb⟩ : ∃ y : World, y = wr := ⟨_, rfl⟩
      subst ewb
      clear z5 lz y0
      go_loopw [7, 8] (fun nv kv wr => PlcAt wb l i m nv kv wr) (fun _ kv _ => m - (intOf kv).toNat)
      case atStart => exact ⟨0, rfl, Nat.zero_le _, rfl, Upd.refl _ _⟩
      case round =>
        obtain ⟨k, rfl, hk, rfl, hU2⟩ := hrel
        have HU2 := Lib.hid hU2
        have HU2W := Lib.hid (HU.out.trans hU2)
        have hle := wholeN_le l i k
        have hst := wholeN_step l i k
        obtain ⟨c, hc⟩ : ∃ c, wholeN l i k = c := ⟨_, rfl⟩
        rw [hc] at hle hst ⊢
        have HC := Lib.hid hc
        have HST := Lib.hid hst
        have z5 := (HBP.out.upd (HUX.out.trans HU2.out) (by simp)).cell (j := 5) rfl
        have lz := (HBP.out.upd (HUX.out.trans HU2.out) (by simp)).lt
        have y0 := HY0.out.1 _ HU2.out
        have lg := HY0.out.2 _ HU2.out
        clear hU2 hst hc
        by_cases hltk : k < m
        · have t2 : decide (k < m) = true := by simp [hltk]
          have b2 : (k : Int) < (m : Int) := by omega
          have fin2 : k + 1 ≤ 9223372036854775807 := by omega
          have fin3 : c + 1 ≤ 9223372036854775807 := by omega
          have HCF : Hid (Calls Try.prog 34 #[.slice al l.length cl, .agg #[.int .i64 i, .int .i64 k, .int .i64 0, .int .i64 0, .int .i64 0, .int .i64 0, .int .i64 0, .slice none 0 0, .int .i64 0, .int .u64 0, .int .i64 0, .int .i64 0]] wr (DofTo wr l (dnAt (i : Int) (k : Int)))) := dof_any (dnAt i k) (HL.out.upd HU2W.out) HL2.out
          obtain ⟨sm, hsm⟩ : ∃ y, l.any (fun x => ofP x (dnAt (i : Int) (k : Int))) = y := ⟨_, rfl⟩
          have HSM := Lib.hid hsm
          clear hsm
          go_wp2_with fail
          refine HCF.out.mono ?_
          rintro e w3 ⟨ao9, cap9, rfl, -, hu3⟩
          have HU3 := Lib.hid (HU2.out.trans hu3)
          have hpos := (ofL_pos l (dnAt (i : Int) (k : Int))).trans HSM.out
          obtain ⟨m9, hm9⟩ : ∃ y, (ofL l (dnAt (i : Int) (k : Int))).length = y := ⟨_, rfl⟩
          rw [hm9] at hpos ⊢
          clear hu3 hm9
          cases sm with
          | true =>
            have HS2 : Hid (wholeN l i (k + 1) = c + 1) := by unfold Hid; rw [HST.out, HSM.out]; rfl
            go_wp2_with fail
            exact ⟨⟨k + 1, by congr 1, by omega, by rw [HS2.out]; congr 1, HU3.out⟩, by first | (simp [intOf]; done) | (simp [intOf]; omega)⟩
          | false =>
            have HS2 : Hid (wholeN l i (k + 1) = c) := by unfold Hid; rw [HST.out, HSM.out]; rfl
            go_wp2_with fail
            exact ⟨⟨k + 1, by congr 1, by omega, by rw [HS2.out], HU3.out⟩, by first | (simp [intOf]; done) | (simp [intOf]; omega)⟩
        · have t2 : decide (k < m) = false := by simp; omega
          have HKM : Hid (k = m) := by unfold Hid; omega
          have HTS : Hid ((wholeL p.L l).take (i + 1) = (wholeL p.L l).take i ++ [(c : Int)]) := by
            unfold Hid
            have := HAT.out
            rw [← HKM.out, HC.out] at this
            rw [List.take_add_one, this]; rfl
          obtain ⟨i0, hi0, hz0, hz1, hz2⟩ := info_parts infoInt_
          obtain ⟨v3, hv3⟩ : ∃ y, wr.alloc (.cells #[.int .i64 c] 3) = y := ⟨_, rfl⟩
          have q3 : Upd [] wr v3 := by rw [← hv3]; exact (Upd.refl [] wr).alloc _
          have HQ : Hid (Upd [] wb v3) := HU2.out.trans q3
          have HSRC : Hid (Src v3 1 (some ⟨wr.heap.size, 0, none⟩) 1 (iVs (c : Int))) := by unfold Hid; rw [← hv3]; exact one_src wr 3 (iVs (c : Int)) (iVs_one _) 1 rfl
          have HRW := Lib.hid (HROW.out.upd HQ.out (by simp))
          have HBD : Hid (i + 1 ≤ maxLen ∧ (i + 1) * 8 ≤ 140737488355328) := ⟨by unfold maxLen; omega, by omega⟩
          clear q3
          go_wp2_with (at_builtin; (refine wpList_app2 _ (by rfl) _ _ _ (by rfl) 3 i0 _ 1 8 underlyingInts_ hi0 hz0 hz1 hz2 rfl (by omega) ao5 i cap5 (((wholeL p.L l).take i).flatMap iVs) (by rfl) HRW.out (some ⟨wr.heap.size, 0, none⟩) 1 1 (iVs (c : Int)) (by rfl) HSRC.out HBD.out.1 HBD.out.2 ?_); (intro ao3 cap3 w7 hA3; have HA3 := Lib.hid hA3; clear hA3))
          have hs1 := HUX.out.size
          have hs2 := HQ.out.size
          exact ⟨⟨i + 1, ao3, cap3, by congr 1, rfl, by rw [HN.out]; omega, by rw [HTS.out, List.flatMap_append]; simpa using HA3.out.row, fun y hy => by rcases HA3.out.at_ y hy with h | h; (exact HNEW.out y h); omega, (HUX.out.trans HQ.out).then HA3.out.upd (fun _ _ h => h) (fun a ha hm => by have := HNEW.out a hm; omega)⟩, by first | (simp [intOf]; done) | (simp [intOf]; omega)⟩
    · have t1 : decide (i < n) = false := by simp; omega
      have hin : i = n := by omega
      subst hin
      have HTK : Hid ((wholeL p.L l).take i = wholeL p.L l) := List.take_of_length_le (by rw [wholeL_len, HN.out]; exact Nat.le_refl _)
      go_wp2
      go_ret
      refine ⟨ao5, cap5, by rw [HN.out]; rfl, ?_, fun c hc => Nat.le_trans HUP.out.size (HNEW.out c hc), HU.out⟩
      have := HROW.out
      rw [HTK.out] at this
      rw [HN.out]; exact this
end Go.Proofs.Ytfeobcmcellcpaa
