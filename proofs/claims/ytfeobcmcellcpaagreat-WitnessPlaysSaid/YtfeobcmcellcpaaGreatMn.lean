/-
  The walks of the library's search for a point, and of the program's Whole. No condition.
-/
import Derived.Test.YtfeobcmcellcpaaGreatMm
set_option linter.unusedVariables false
set_option linter.unusedSimpArgs false
namespace Go.Proofs.YtfeobcmcellcpaaGreat
open Go.RowKit

theorem Blk.twelve {w : World} {b : Nat} {d : Dn} (h : Blk w b 115 (dnVs d)) : w.cell? ⟨b, 0, none⟩ = some (.int .i64 d.who) ∧ w.cell? ⟨b, 1, none⟩ = some (.int .i64 d.place) ∧ w.cell? ⟨b, 2, none⟩ = some (.int .i64 d.c.op) ∧ w.cell? ⟨b, 3, none⟩ = some (.int .i64 d.c.flow) ∧ w.cell? ⟨b, 4, none⟩ = some (.int .i64 d.c.a) ∧ w.cell? ⟨b, 5, none⟩ = some (.int .i64 d.c.b) ∧ w.cell? ⟨b, 6, none⟩ = some (.int .i64 d.r.e) ∧ w.cell? ⟨b, 7, none⟩ = some d.lv ∧ w.cell? ⟨b, 8, none⟩ = some (.int .i64 d.r.n) ∧ w.cell? ⟨b, 9, none⟩ = some (.int .u64 d.r.v) ∧ w.cell? ⟨b, 10, none⟩ = some (.int .i64 d.frm) ∧ w.cell? ⟨b, 11, none⟩ = some (.int .i64 d.til) ∧ b < w.heap.size :=
  ⟨h.cell (j := 0) rfl, h.cell (j := 1) rfl, h.cell (j := 2) rfl, h.cell (j := 3) rfl, h.cell (j := 4) rfl, h.cell (j := 5) rfl, h.cell (j := 6) rfl, h.cell (j := 7) rfl, h.cell (j := 8) rfl, h.cell (j := 9) rfl, h.cell (j := 10) rfl, h.cell (j := 11) rfl, h.lt⟩

set_option maxHeartbeats 4000000 in
theorem wwholef_any {w : World} {b : Nat} (x : Pt) (d : Dn) (hb : Blk w b 115 (dnVs d)) : Calls Tryz.prog 103 #[ptV x, .pointer (some ⟨b, 0, none⟩)] w (RetUpd [] w (.bool (ofP x d))) := by
  have HO : Hid (∀ w', Calls Tryz.prog 98 #[.agg #[.int .i64 x.step, .int .i64 x.who, .int .i64 x.place, .int .i64 x.r.e, x.lv, .int .i64 x.r.n, .int .u64 x.r.v], .agg #[.int .i64 d.who, .int .i64 d.place, .int .i64 d.c.op, .int .i64 d.c.flow, .int .i64 d.c.a, .int .i64 d.c.b, .int .i64 d.r.e, d.lv, .int .i64 d.r.n, .int .u64 d.r.v, .int .i64 d.frm, .int .i64 d.til]] w' (RetUpd [] w' (.bool (ofP x d)))) := fun w' => wof_any x d w'
  obtain ⟨y0, y1, y2, y3, y4, y5, y6, y7, y8, y9, y10, y11, ly⟩ := hb.twelve
  unfold ptV
  clear hb
  go_enter Tryz.func103, Tryz.ntmps103
  go_wp2_with fail
  refine (HO.out _).mono ?_
  rintro e w3 ⟨rfl, hU⟩
  go_wp2
  go_ret
  exact ⟨rfl, ((Upd.refl [] w).alloc _).trans hU⟩
def IdxTo (w : World) (l : List Pt) (d : Dn) (e : Ending) (w' : World) : Prop := ∃ k : Int, e = .returned (.int .i64 k) ∧ decide (0 ≤ k) = l.any (fun x => ofP x d) ∧ Upd [] w w'
def IdxAt (w : World) (l : List Pt) (d : Dn) (iv : Value) (wr : World) : Prop := ∃ i : Nat, iv = .int .i64 i ∧ i ≤ l.length ∧ (∀ (j : Nat) (x : Pt), j < i → l[j]? = some x → ofP x d = false) ∧ Upd [] w wr

set_option maxHeartbeats 4000000 in
theorem idxf_any {w : World} {b : Nat} {v : Value} {l : List Pt} (d : Dn) (hl : PtsAt' w v l) (hb : Blk w b 115 (dnVs d)) : Calls Tryz.prog 125 #[v, .func (.func 103) #[] #[.pointer (some ⟨b, 0, none⟩)]] w (IdxTo w l d) := by
  have HL := Lib.hid hl
  have HB := Lib.hid hb
  obtain ⟨hm, ao, cap, rfl, -⟩ := pts_at hl
  obtain ⟨n, hn⟩ : ∃ n, l.length = n := ⟨_, rfl⟩
  have HN := Lib.hid hn
  rw [hn] at hm ⊢
  have bn : n ≤ 9223372036854775807 := hm
  clear hl hb hn hm
  go_enter Tryz.func125, Tryz.ntmps125
  go_wp2
  go_loopw [8] (fun iv wr => IdxAt w l d iv wr) (fun iv _ => n - (intOf iv).toNat)
  case atStart => exact ⟨0, rfl, Nat.zero_le _, fun j x hj => by omega, Upd.refl _ _⟩
  case round =>
    obtain ⟨i, rfl, hi, hall, hU⟩ := hrel
    rw [HN.out] at hi
    have HU := Lib.hid hU
    have HALL := Lib.hid hall
    clear hU hall
    by_cases hlt : i < n
    · have t1 : decide (i < n) = true := by simp [hlt]
      have b1 : (i : Int) < (n : Int) := by omega
      obtain ⟨x, hx⟩ : ∃ x, l[i]? = some x := ⟨_, List.getElem?_eq_getElem (by rw [HN.out]; exact hlt)⟩
      obtain ⟨-, _, _, e1, hat⟩ := pts_at (HL.out.upd HU.out)
      cases e1
      obtain ⟨gx, ox, rfl, lx, hpt, x0, x1, x2, x3, x4, x5, x6⟩ := hat i x hx
      have HC : Hid (Calls Tryz.prog 103 #[.agg #[.int .i64 x.step, .int .i64 x.who, .int .i64 x.place, .int .i64 x.r.e, x.lv, .int .i64 x.r.n, .int .u64 x.r.v], .pointer (some ⟨b, 0, none⟩)] wr (RetUpd [] wr (.bool (ofP x d)))) := wwholef_any x d (HB.out.upd HU.out (by simp))
      have HX := Lib.hid hx
      have fin : i + 1 ≤ 9223372036854775807 := by omega
      clear hat hpt hx
      go_wp2_with fail
      refine HC.out.mono ?_
      rintro e w3 ⟨rfl, hu3⟩
      have HU3 := Lib.hid (HU.out.trans hu3)
      clear hu3
      cases hof : ofP x d with
      | true =>
        go_wp2
        go_ret
        refine ⟨i, rfl, ?_, HU3.out⟩
        have : l.any (fun x => ofP x d) = true := List.any_eq_true.2 ⟨x, List.mem_of_getElem? HX.out, hof⟩
        rw [this]; simp
      | false =>
        go_wp2_with fail
        exact ⟨⟨i + 1, by congr 1, by rw [HN.out]; omega, fun j y hj hy => by
          by_cases e : j = i
          · subst e; rw [HX.out] at hy; cases hy; exact hof
          · exact HALL.out j y (by omega) hy, HU3.out⟩, by first | (simp [intOf]; done) | (simp [intOf]; omega)⟩
    · have t1 : decide (i < n) = false := by simp; omega
      go_wp2
      go_ret
      refine ⟨-1, rfl, ?_, HU.out⟩
      have : l.any (fun x => ofP x d) = false := by
        cases ha : l.any (fun x => ofP x d) with
        | false => rfl
        | true =>
          obtain ⟨x, hx, hf⟩ := List.any_eq_true.1 ha
          obtain ⟨j, hj, e⟩ := List.getElem_of_mem hx
          rw [HALL.out j x (by rw [HN.out] at hj; omega) (by rw [List.getElem?_eq_getElem hj, e])] at hf
          cases hf
      rw [this]; rfl

set_option maxHeartbeats 1000000 in
theorem contf_any {w : World} {b : Nat} {v : Value} {l : List Pt} (d : Dn) (hl : PtsAt' w v l) (hb : Blk w b 115 (dnVs d)) : Calls Tryz.prog 102 #[v, .func (.func 103) #[] #[.pointer (some ⟨b, 0, none⟩)]] w (RetUpd [] w (.bool (l.any (fun x => ofP x d)))) := by
  have HI := Lib.hid (idxf_any d hl hb)
  obtain ⟨-, ao, cap, rfl, -⟩ := pts_at hl
  obtain ⟨r, hr⟩ : ∃ y, l.any (fun x => ofP x d) = y := ⟨_, rfl⟩
  have HR := Lib.hid hr
  rw [hr]
  clear hl hb hr
  go_enter Tryz.func102, Tryz.ntmps102
  go_wp2_with fail
  refine HI.out.mono ?_
  rintro e w3 ⟨k, rfl, hk, hU⟩
  have t1 : decide (0 ≤ k) = r := hk.trans HR.out
  clear hk
  go_wp2
  go_ret
  exact ⟨rfl, hU⟩
def dnAt (i k : Int) : Dn := ⟨i, k, ⟨0, 0, 0, 0⟩, ⟨0, [], 0, 0⟩, .slice none 0 0, 0, 0⟩
def wholeN (l : List Pt) (i n : Nat) : Nat := (List.range n).countP (fun k : Nat => l.any (fun x => ofP x (dnAt (i : Int) (k : Int))))
def wholeL (L : List Li) (l : List Pt) : List Int := (List.range L.length).map (fun i => ((wholeN l i (((L[i]?).map (fun x => x.L.length)).getD 0) : Nat) : Int))
def iVs (x : Int) : List Value := [.int .i64 x]
theorem iVs_len (x : Int) : (iVs x).length = 1 := rfl
theorem iVs_one (x : Int) : ∀ u ∈ iVs x, u.oneCell' = true := by
  intro u hu; simp only [iVs, List.mem_cons, List.not_mem_nil, or_false] at hu; rw [hu]; rfl
theorem underlyingInts_ : Tryz.prog.underlying 25 = some (.slice 3) := by kernel_rfl
theorem infoInt_ : (Tryz.prog.info? 3).map (fun i => (i.zero, i.size, i.bytes)) = some (some (.int .i64 0), 1, 8) := by kernel_rfl
def WhoAt (w : World) (L : List Li) (l : List Pt) (ov iv : Value) (wr : World) : Prop := ∃ (i : Nat) (ao : Option Addr) (cap : Nat), iv = .int .i64 i ∧ ov = .slice ao i cap ∧ i ≤ L.length ∧ RowO wr 3 1 ao i cap (((wholeL L l).take i).flatMap iVs) ∧ (∀ c ∈ blkO ao, w.heap.size ≤ c) ∧ Upd [] w wr
def PlcAt (w : World) (l : List Pt) (i n : Nat) (nv kv : Value) (wr : World) : Prop := ∃ k : Nat, kv = .int .i64 k ∧ k ≤ n ∧ nv = .int .i64 (wholeN l i k : Nat) ∧ Upd [] w wr
theorem wholeN_step (l : List Pt) (i k : Nat) : wholeN l i (k + 1) = wholeN l i k + (if l.any (fun x => ofP x (dnAt (i : Int) (k : Int))) = true then 1 else 0) := by
  unfold wholeN; rw [List.range_succ, List.countP_append]; simp [List.countP_cons]
theorem wholeN_le (l : List Pt) (i n : Nat) : wholeN l i n ≤ n := by
  unfold wholeN; exact Nat.le_trans List.countP_le_length (by simp)
theorem wholeL_len (L : List Li) (l : List Pt) : (wholeL L l).length = L.length := by unfold wholeL; simp
theorem wholeL_at {L : List Li} (l : List Pt) {i : Nat} {x : Li} (hx : L[i]? = some x) : (wholeL L l)[i]? = some ((wholeN l i x.L.length : Nat) : Int) := by
  have hi := (List.getElem?_eq_some_iff.1 hx).1
  unfold wholeL; rw [List.getElem?_map, List.getElem?_range hi]; simp [hx]
def WhoTo (w : World) (L : List Li) (l : List Pt) (e : Ending) (w' : World) : Prop := ∃ ao cap, e = .returned (.slice ao L.length cap) ∧ RowO w' 3 1 ao L.length cap ((wholeL L l).flatMap iVs) ∧ (∀ c ∈ blkO ao, w.heap.size ≤ c) ∧ Upd [] w w'

set_option maxRecDepth 100000 in
set_option maxHeartbeats 8000000 in
theorem wwhole_any {w : World} {pv v : Value} {p : Pl} {l : List Pt} (hp : PlanAt w pv p) (hl : PtsAt' w v l) (hlen : p.L.length ≤ 8796093022208) : Calls Tryz.prog 63 #[pv, v] w (WhoTo w p.L l) := by
  have HL := Lib.hid hl
  obtain ⟨lv, rfl, hL⟩ := hp
  have HLS := Lib.hid hL
  obtain ⟨-, ao, cap, rfl, -⟩ := lists_at hL
  obtain ⟨-, al, cl, rfl, -⟩ := pts_at hl
  obtain ⟨n, hn⟩ : ∃ n, p.L.length = n := ⟨_, rfl⟩
  have HN := Lib.hid hn
  rw [hn] at hlen ⊢
  have bn : n ≤ 8796093022208 := hlen
  have HBN := Lib.hid bn
  obtain ⟨wp, hwp⟩ : ∃ y, w.alloc (.cells #[.int .i64 p.c.sh, .int .i64 p.c.sl, .int .i64 p.c.wo, .int .i64 p.c.wd, .int .u64 p.c.unit, .slice ao n cap] 29) = y := ⟨_, rfl⟩
  have hup : Upd [] w wp := by rw [← hwp]; exact (Upd.refl [] w).alloc _
  have hbp : Blk wp w.heap.size 29 [.int .i64 p.c.sh, .int .i64 p.c.sl, .int .i64 p.c.wo, .int .i64 p.c.wd, .int .u64 p.c.unit, .slice ao n cap] := by rw [← hwp]; exact Blk.new w 29 [.int .i64 p.c.sh, .int .i64 p.c.sl, .int .i64 p.c.wo, .int .i64 p.c.wd, .int .u64 p.c.unit, .slice ao n cap]
  have HUP := Lib.hid hup
  have x5 := hbp.cell (j := 5) rfl
  have lx := hbp.lt
  have hmf : ∀ (fn : Fn) (first cap : Array Value) (w : World), (Instr.makeFunc fn first cap).run Tryz.prog w = .ok (.func fn first cap) w := fun _ _ _ _ => rfl
  clear hl hL hn hlen hup hbp
  go_enter Tryz.func63, Tryz.ntmps63
  go_wp2_with fail
  clear hwp x5 lx
  go_loopw [5, 14] (fun ov iv wr => WhoAt wp p.L l ov iv wr) (fun _ iv _ => n - (intOf iv).toNat)
  case atStart => exact ⟨0, none, 0, rfl, rfl, Nat.zero_le _, by rw [List.take_zero]; exact RowO.nil _ _ _, fun c hc => (by cases hc), Upd.refl _ _⟩
  case round =>
    obtain ⟨i, ao5, cap5, rfl, rfl, hi, hrow, hnew, hU⟩ := hrel
    rw [HN.out] at hi
    have HU := Lib.hid (HUP.out.trans hU)
    have HUX := Lib.hid hU
    have HROW := Lib.hid hrow
    have HNEW := Lib.hid hnew
    clear hU hrow hnew
    by_cases hlt : i < n
    · have t1 : decide (i < n) = true := by simp [hlt]
      have b1 : (i : Int) < (n : Int) := by omega
      obtain ⟨x, hx⟩ : ∃ x, p.L[i]? = some x := ⟨_, List.getElem?_eq_getElem (by rw [HN.out]; exact hlt)⟩
      obtain ⟨-, _, _, e1, hat⟩ := lists_at (HLS.out.upd HU.out)
      rw [HN.out] at e1
      cases e1
      obtain ⟨gb, go, rfl, lg, y0, hm, lo, lc, hlv, -⟩ := hat i x hx
      rw [hlv] at y0
      have HAT := Lib.hid (wholeL_at l hx)
      obtain ⟨m, hmm⟩ : ∃ m, x.L.length = m := ⟨_, rfl⟩
      rw [hmm] at y0 hm HAT
      have bm : m ≤ 9223372036854775807 := hm
      have HMX := Lib.hid hmm
      have fin : i + 1 ≤ 9223372036854775807 := by omega
      clear hat hlv hx hm hmm
      go_wp2_with fail
      obtain ⟨wb, ewb⟩ : ∃ y : World, y = wr := ⟨_, rfl⟩
      subst ewb
      go_loopw [8, 21] (fun nv kv wr => PlcAt wb l i m nv kv wr) (fun _ kv _ => m - (intOf kv).toNat)
      case atStart => exact ⟨0, rfl, Nat.zero_le _, rfl, Upd.refl _ _⟩
      case round =>
        obtain ⟨k, rfl, hk, rfl, hU2⟩ := hrel
        have HU2 := Lib.hid hU2
        have HU2W := Lib.hid (HU.out.trans hU2)
        have hle := wholeN_le l i k
        have hst := wholeN_step l i k
        obtain ⟨c, hc⟩ : ∃ c, wholeN l i k = c := ⟨_, rfl⟩
        rw [hc] at hle hst ⊢
        have HC := Lib.hid hc
        have HST := Lib.hid hst
        clear hU2 hst hc
        by_cases hltk : k < m
        · have t2 : decide (k < m) = true := by simp [hltk]
          have b2 : (k : Int) < (m : Int) := by omega
          have fin2 : k + 1 ≤ 9223372036854775807 := by omega
          have fin3 : c + 1 ≤ 9223372036854775807 := by omega
          have HCF : Hid (Calls Tryz.prog 102 #[.slice al l.length cl, .func (.func 103) #[] #[.pointer (some ⟨wr.heap.size, 0, none⟩)]] (wr.alloc (.cells #[.int .i64 i, .int .i64 k, .int .i64 0, .int .i64 0, .int .i64 0, .int .i64 0, .int .i64 0, .slice none 0 0, .int .i64 0, .int .u64 0, .int .i64 0, .int .i64 0] 115)) (RetUpd [] (wr.alloc (.cells #[.int .i64 i, .int .i64 k, .int .i64 0, .int .i64 0, .int .i64 0, .int .i64 0, .int .i64 0, .slice none 0 0, .int .i64 0, .int .u64 0, .int .i64 0, .int .i64 0] 115)) (.bool (l.any (fun x => ofP x (dnAt (i : Int) (k : Int))))))) :=
            contf_any (dnAt i k) (HL.out.upd (HU2W.out.trans ((Upd.refl [] wr).alloc _))) (Blk.new wr 115 [.int .i64 i, .int .i64 k, .int .i64 0, .int .i64 0, .int .i64 0, .int .i64 0, .int .i64 0, .slice none 0 0, .int .i64 0, .int .u64 0, .int .i64 0, .int .i64 0])
          obtain ⟨sm, hsm⟩ : ∃ y, l.any (fun x => ofP x (dnAt (i : Int) (k : Int))) = y := ⟨_, rfl⟩
          rw [hsm] at HCF
          have HSM := Lib.hid hsm
          clear hsm
          go_wp2_with fail
          refine HCF.out.mono ?_
          rintro e w3 ⟨rfl, hu3⟩
          have HU3 := Lib.hid (HU2.out.trans (((Upd.refl [] wr).alloc _).trans hu3))
          clear hu3
          cases sm with
          | true =>
            have HS2 : Hid (wholeN l i (k + 1) = c + 1) := by unfold Hid; rw [HST.out, HSM.out]; rfl
            go_wp2_with fail
            exact ⟨⟨k + 1, by congr 1, by omega, by rw [HS2.out]; congr 1, HU3.out⟩, by first | (simp [intOf]; done) | (simp [intOf]; omega)⟩
          | false =>
            have HS2 : Hid (wholeN l i (k + 1) = c) := by unfold Hid; rw [HST.out, HSM.out]; rfl
            go_wp2_with fail
            exact ⟨⟨k + 1, by congr 1, by omega, by rw [HS2.out], HU3.out⟩, by first | (simp [intOf]; done) | (simp [intOf]; omega)⟩
        · have t2 : decide (k < m) = false := by simp; omega
          have HKM : Hid (k = m) := by unfold Hid; omega
          have HTS : Hid ((wholeL p.L l).take (i + 1) = (wholeL p.L l).take i ++ [(c : Int)]) := by
            unfold Hid
            have := HAT.out
            rw [← HKM.out, HC.out] at this
            rw [List.take_add_one, this]; rfl
          obtain ⟨i0, hi0, hz0, hz1, hz2⟩ := info_parts infoInt_
          obtain ⟨v3, hv3⟩ : ∃ y, wr.alloc (.cells #[.int .i64 c] 3) = y := ⟨_, rfl⟩
          have q3 : Upd [] wr v3 := by rw [← hv3]; exact (Upd.refl [] wr).alloc _
          have HQ : Hid (Upd [] wb v3) := HU2.out.trans q3
          have HSRC : Hid (Src v3 1 (some ⟨wr.heap.size, 0, none⟩) 1 (iVs (c : Int))) := by unfold Hid; rw [← hv3]; exact one_src wr 3 (iVs (c : Int)) (iVs_one _) 1 rfl
          have HRW := Lib.hid (HROW.out.upd HQ.out (by simp))
          have HBD : Hid (i + 1 ≤ maxLen ∧ (i + 1) * 8 ≤ 140737488355328) := ⟨by unfold maxLen; omega, by omega⟩
          clear q3
          go_wp2_with (at_builtin; (refine wpList_app2 _ (by rfl) _ _ _ (by rfl) 3 i0 _ 1 8 underlyingInts_ hi0 hz0 hz1 hz2 rfl (by omega) ao5 i cap5 (((wholeL p.L l).take i).flatMap iVs) (by rfl) HRW.out (some ⟨wr.heap.size, 0, none⟩) 1 1 (iVs (c : Int)) (by rfl) HSRC.out HBD.out.1 HBD.out.2 ?_); (intro ao3 cap3 w7 hA3; have HA3 := Lib.hid hA3; clear hA3))
          have hs1 := HUX.out.size
          have hs2 := HQ.out.size
          exact ⟨⟨i + 1, ao3, cap3, by congr 1, rfl, by rw [HN.out]; omega, by rw [HTS.out, List.flatMap_append]; simpa using HA3.out.row, fun y hy => by rcases HA3.out.at_ y hy with h | h; (exact HNEW.out y h); omega, (HUX.out.trans HQ.out).then HA3.out.upd (fun _ _ h => h) (fun a ha hm => by have := HNEW.out a hm; omega)⟩, by first | (simp [intOf]; done) | (simp [intOf]; omega)⟩
    · have t1 : decide (i < n) = false := by simp; omega
      have hin : i = n := by omega
      subst hin
      have HTK : Hid ((wholeL p.L l).take i = wholeL p.L l) := List.take_of_length_le (by rw [wholeL_len, HN.out]; exact Nat.le_refl _)
      go_wp2
      go_ret
      refine ⟨ao5, cap5, by rw [HN.out]; rfl, ?_, fun c hc => Nat.le_trans HUP.out.size (HNEW.out c hc), HU.out⟩
      have := HROW.out
      rw [HTK.out] at this
      rw [HN.out]; exact this
end Go.Proofs.YtfeobcmcellcpaaGreat
