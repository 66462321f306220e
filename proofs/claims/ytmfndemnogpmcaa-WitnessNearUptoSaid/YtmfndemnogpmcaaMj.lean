/-
  The walks of whether a point is of a call, in it; how many calls a point stands to so. No condition.
-/
import Derived.Test.YtmfndemnogpmcaaMe
set_option linter.unusedVariables false
set_option linter.unusedSimpArgs false
namespace Go.Proofs.Ytmfndemnogpmcaa
open Go.RowKit

def ofP (x : Pt) (d : Dn) : Bool := decide (x.who = d.who) && decide (x.place = d.place)
def inP (x : Pt) (d : Dn) : Bool := ofP x d && decide (d.frm ≤ x.step) && (decide (d.til = -1) || decide (x.step ≤ d.til))

/-- A row of calls of a history, one by one. -/
theorem dns_at {w : World} {v : Value} {l : List Dn} (h : DnsAt w v l) : l.length ≤ maxLen ∧ ∃ ao cap, v = .slice ao l.length cap ∧ ∀ i x, l[i]? = some x → ∃ b off, ao = some ⟨b, off, none⟩ ∧ b < w.heap.size ∧ DneAt w x ∧ w.cell? ⟨b, off + i * 12, none⟩ = some (.int .i64 x.who) ∧ w.cell? ⟨b, off + i * 12 + 1, none⟩ = some (.int .i64 x.place) ∧ w.cell? ⟨b, off + i * 12 + 2, none⟩ = some (.int .i64 x.c.op) ∧ w.cell? ⟨b, off + i * 12 + 3, none⟩ = some (.int .i64 x.c.flow) ∧ w.cell? ⟨b, off + i * 12 + 4, none⟩ = some (.int .i64 x.c.a) ∧ w.cell? ⟨b, off + i * 12 + 5, none⟩ = some (.int .i64 x.c.b) ∧ w.cell? ⟨b, off + i * 12 + 6, none⟩ = some (.int .i64 x.r.e) ∧ w.cell? ⟨b, off + i * 12 + 7, none⟩ = some x.lv ∧ w.cell? ⟨b, off + i * 12 + 8, none⟩ = some (.int .i64 x.r.n) ∧ w.cell? ⟨b, off + i * 12 + 9, none⟩ = some (.int .u64 x.r.v) ∧ w.cell? ⟨b, off + i * 12 + 10, none⟩ = some (.int .i64 x.frm) ∧ w.cell? ⟨b, off + i * 12 + 11, none⟩ = some (.int .i64 x.til) := by
  obtain ⟨hs, hin⟩ := h
  obtain ⟨-, h2, ao, cap, rfl, h3⟩ := hs.get dnVs 12 dnVs_len (by omega)
  refine ⟨h2, ao, cap, rfl, fun i x hx => ?_⟩
  have hil := (List.getElem?_eq_some_iff.1 hx).1
  rcases h3 with h3 | ⟨b, off, rfl, hb, hc⟩
  · omega
  · exact ⟨b, off, rfl, hb, hin x (List.mem_of_getElem? hx), hc i x hx 0 _ rfl, hc i x hx 1 _ rfl, hc i x hx 2 _ rfl, hc i x hx 3 _ rfl, hc i x hx 4 _ rfl, hc i x hx 5 _ rfl, hc i x hx 6 _ rfl, hc i x hx 7 _ rfl, hc i x hx 8 _ rfl, hc i x hx 9 _ rfl, hc i x hx 10 _ rfl, hc i x hx 11 _ rfl⟩

set_option maxHeartbeats 1000000 in
theorem wof_any (x : Pt) (d : Dn) (w : World) : Calls Try.prog 36 #[ptV x, dnV d] w (RetUpd [] w (.bool (ofP x d))) := by
  unfold ptV dnV ofP
  by_cases h1 : x.who = d.who
  · have t1 : (x.who == d.who) = true := by simp [h1]
    have e1 : decide (x.who = d.who) = true := by simp [h1]
    by_cases h2 : x.place = d.place
    · have t2 : (x.place == d.place) = true := by simp [h2]
      have e2 : decide (x.place = d.place) = true := by simp [h2]
      rw [e1, e2]
      clear h1 h2 e1 e2
      go_enter Try.func36, Try.ntmps36
      go_wp2
      go_ret
      exact ⟨rfl, ((Upd.refl [] w).alloc _).alloc _⟩
    · have t2 : (x.place == d.place) = false := by simp [h2]
      have e2 : decide (x.place = d.place) = false := by simp [h2]
      rw [e1, e2]
      clear h1 h2 e1 e2
      go_enter Try.func36, Try.ntmps36
      go_wp2
      go_ret
      exact ⟨rfl, ((Upd.refl [] w).alloc _).alloc _⟩
  · have t1 : (x.who == d.who) = false := by simp [h1]
    have e1 : decide (x.who = d.who) = false := by simp [h1]
    rw [e1]
    clear h1 e1
    go_enter Try.func36, Try.ntmps36
    go_wp2
    go_ret
    exact ⟨rfl, ((Upd.refl [] w).alloc _).alloc _⟩
theorem two_new (w : World) (t1 t2 : TypeId) (c1 c2 : List Value) : Blk ((w.alloc (.cells c1.toArray t1)).alloc (.cells c2.toArray t2)) w.heap.size t1 c1 ∧ Blk ((w.alloc (.cells c1.toArray t1)).alloc (.cells c2.toArray t2)) (w.heap.size + 1) t2 c2 ∧ Upd [] w ((w.alloc (.cells c1.toArray t1)).alloc (.cells c2.toArray t2)) := by
  refine ⟨(Blk.new w t1 c1).alloc _, ?_, ((Upd.refl [] w).alloc _).alloc _⟩
  have := Blk.new (w.alloc (.cells c1.toArray t1)) t2 c2
  rw [show (w.alloc (.cells c1.toArray t1)).heap.size = w.heap.size + 1 by simp] at this
  exact this

set_option maxHeartbeats 2000000 in
theorem win_any (x : Pt) (d : Dn) (w : World) : Calls Try.prog 39 #[ptV x, dnV d] w (RetUpd [] w (.bool (inP x d))) := by
  have HO : Hid (∀ w', Calls Try.prog 36 #[.agg #[.int .i64 x.step, .int .i64 x.who, .int .i64 x.place, .int .i64 x.r.e, x.lv, .int .i64 x.r.n, .int .u64 x.r.v], .agg #[.int .i64 d.who, .int .i64 d.place, .int .i64 d.c.op, .int .i64 d.c.flow, .int .i64 d.c.a, .int .i64 d.c.b, .int .i64 d.r.e, d.lv, .int .i64 d.r.n, .int .u64 d.r.v, .int .i64 d.frm, .int .i64 d.til]] w' (RetUpd [] w' (.bool (ofP x d)))) := fun w' => wof_any x d w'
  unfold ptV dnV inP
  obtain ⟨o, ho⟩ : ∃ y, ofP x d = y := ⟨_, rfl⟩
  obtain ⟨A, tA⟩ : ∃ y, decide (d.frm ≤ x.step) = y := ⟨_, rfl⟩
  obtain ⟨B, hB⟩ : ∃ y, decide (d.til = -1) = y := ⟨_, rfl⟩
  obtain ⟨C, tC⟩ : ∃ y, decide (x.step ≤ d.til) = y := ⟨_, rfl⟩
  have tB : (d.til == -1) = B := by rw [← hB, Bool.eq_iff_iff]; simp
  rw [ho] at HO
  rw [ho, tA, hB, tC]
  clear ho hB
  go_enter Try.func39, Try.ntmps39
  go_wp2_with fail
  refine (HO.out _).mono ?_
  rintro e w3 ⟨rfl, hU⟩
  have h2 := two_new w 76 60 [.int .i64 x.step, .int .i64 x.who, .int .i64 x.place, .int .i64 x.r.e, x.lv, .int .i64 x.r.n, .int .u64 x.r.v] [.int .i64 d.who, .int .i64 d.place, .int .i64 d.c.op, .int .i64 d.c.flow, .int .i64 d.c.a, .int .i64 d.c.b, .int .i64 d.r.e, d.lv, .int .i64 d.r.n, .int .u64 d.r.v, .int .i64 d.frm, .int .i64 d.til]
  have b1 := h2.1.upd hU (by simp)
  have b2 := h2.2.1.upd hU (by simp)
  have x0 := b1.cell (j := 0) rfl
  have y4 := b2.cell (j := 10) rfl
  have y5 := b2.cell (j := 11) rfl
  have l1 := b1.lt
  have l2 := b2.lt
  have HU3 := Lib.hid (h2.2.2.trans hU)
  clear b1 b2 hU h2
  cases o with
  | false => go_wp2; go_ret; exact ⟨rfl, HU3.out⟩
  | true =>
    cases A with
    | false => go_wp2; go_ret; exact ⟨rfl, HU3.out⟩
    | true =>
      cases B with
      | true => go_wp2; go_ret; exact ⟨rfl, HU3.out⟩
      | false =>
        cases C with
        | true => go_wp2; go_ret; exact ⟨rfl, HU3.out⟩
        | false => go_wp2; go_ret; exact ⟨rfl, HU3.out⟩
def CntAt (w : World) (h : List Dn) (how : Dn → Bool) (cv iv : Value) (wr : World) : Prop := ∃ i : Nat, iv = .int .i64 i ∧ i ≤ h.length ∧ cv = .int .i64 ((h.take i).countP how : Nat) ∧ Upd [] w wr
theorem cnt_step {h : List Dn} {how : Dn → Bool} {i : Nat} {d : Dn} (hd : h[i]? = some d) : (h.take (i + 1)).countP how = (h.take i).countP how + (if how d = true then 1 else 0) := by
  rw [List.take_add_one, hd, List.countP_append]; simp [List.countP_cons]

set_option maxRecDepth 100000 in
set_option maxHeartbeats 4000000 in
theorem wcount_of {w : World} {hv : Value} {x : Pt} {h : List Dn} (hh : DnsAt w hv h) (hx : ∃ lo lc, x.lv = .slice lo x.r.L.length lc) :
    Calls Try.prog 38 #[ptV x, hv, .func (.func 36) #[] #[]] w (RetUpd [] w (.int .i64 (h.countP (ofP x) : Nat))) := by
  have wcc := wof_any
  have HH := Lib.hid hh
  obtain ⟨hm, ao, cap, rfl, -⟩ := dns_at hh
  obtain ⟨lo, lc, hlv⟩ := hx
  have HFF : Hid (∀ d : Dn, ∀ w', Calls Try.prog 36 #[.agg #[.int .i64 x.step, .int .i64 x.who, .int .i64 x.place, .int .i64 x.r.e, .slice lo x.r.L.length lc, .int .i64 x.r.n, .int .u64 x.r.v], dnV d] w' (RetUpd [] w' (.bool (ofP x d)))) := fun d w' => by
    have := wcc x d w'
    unfold ptV at this
    rw [hlv] at this
    exact this
  obtain ⟨n, hn⟩ : ∃ n, h.length = n := ⟨_, rfl⟩
  have HN := Lib.hid hn
  rw [hn] at hm ⊢
  have bn : n ≤ 9223372036854775807 := hm
  unfold ptV
  rw [hlv]
  clear hh hlv hn hm wcc
  obtain ⟨w1, hw1⟩ : ∃ y, (w.alloc (.cells #[.int .i64 x.step, .int .i64 x.who, .int .i64 x.place, .int .i64 x.r.e, .slice lo x.r.L.length lc, .int .i64 x.r.n, .int .u64 x.r.v] 33)) = y := ⟨_, rfl⟩
  have u1 : Upd [] w w1 := by rw [← hw1]; exact (Upd.refl [] w).alloc _
  have b1 : Blk w1 w.heap.size 33 [.int .i64 x.step, .int .i64 x.who, .int .i64 x.place, .int .i64 x.r.e, .slice lo x.r.L.length lc, .int .i64 x.r.n, .int .u64 x.r.v] := by rw [← hw1]; exact Blk.new w 33 [.int .i64 x.step, .int .i64 x.who, .int .i64 x.place, .int .i64 x.r.e, .slice lo x.r.L.length lc, .int .i64 x.r.n, .int .u64 x.r.v]
  have HU1 := Lib.hid u1
  obtain ⟨bx, hbx⟩ : ∃ y, w.heap.size = y := ⟨_, rfl⟩
  rw [hbx] at b1
  have HB1 := Lib.hid b1
  clear u1 b1
  go_enter Try.func38, Try.ntmps38
  go_wp2_with fail
  try rw [hbx]
  clear hw1 hbx
  go_loopw [7, 12] (fun cv iv wr => CntAt w1 h (ofP x) cv iv wr) (fun _ iv _ => n - (intOf iv).toNat)
  case atStart => exact ⟨0, rfl, Nat.zero_le _, rfl, Upd.refl _ _⟩
  case round =>
    obtain ⟨i, rfl, hi, rfl, hU⟩ := hrel
    rw [HN.out] at hi
    have HU := Lib.hid hU
    obtain ⟨cc, hcc⟩ : ∃ y, (h.take i).countP (ofP x) = y := ⟨_, rfl⟩
    have hci : cc ≤ i := by rw [← hcc]; exact Nat.le_trans List.countP_le_length (by rw [List.length_take]; omega)
    rw [hcc]
    clear hU
    by_cases hlt : i < n
    · have t1 : decide (i < n) = true := by simp [hlt]
      have bi : (i : Int) < (n : Int) := by omega
      obtain ⟨d, hd⟩ : ∃ d, h[i]? = some d := ⟨_, List.getElem?_eq_getElem (by rw [HN.out]; exact hlt)⟩
      obtain ⟨-, _, _, e1, hat⟩ := dns_at (HH.out.upd (HU1.out.trans HU.out))
      cases e1
      obtain ⟨g, o, rfl, lg, hdn, y0, y1, y2, y3, y4, y5, y6, y7, y8, y9, y10, y11⟩ := hat i d hd
      obtain ⟨do_, dc, hdlv, -⟩ := hdn
      rw [hdlv] at y7
      have hst := cnt_step (how := ofP x) hd
      rw [hcc] at hst
      have HC : Hid (∀ w', Calls Try.prog 36 #[.agg #[.int .i64 x.step, .int .i64 x.who, .int .i64 x.place, .int .i64 x.r.e, .slice lo x.r.L.length lc, .int .i64 x.r.n, .int .u64 x.r.v], .agg #[.int .i64 d.who, .int .i64 d.place, .int .i64 d.c.op, .int .i64 d.c.flow, .int .i64 d.c.a, .int .i64 d.c.b, .int .i64 d.r.e, .slice do_ d.r.L.length dc, .int .i64 d.r.n, .int .u64 d.r.v, .int .i64 d.frm, .int .i64 d.til]] w' (RetUpd [] w' (.bool (ofP x d)))) := fun w' => by
        have := HFF.out d w'
        unfold dnV at this
        rw [hdlv] at this
        exact this
      have HST := Lib.hid hst
      have hb := HB1.out.upd HU.out (by simp)
      have x0 := hb.cell (j := 0) rfl
      have x1 := hb.cell (j := 1) rfl
      have x2 := hb.cell (j := 2) rfl
      have x3 := hb.cell (j := 3) rfl
      have x4 := hb.cell (j := 4) rfl
      have x5 := hb.cell (j := 5) rfl
      have x6 := hb.cell (j := 6) rfl
      have lx := hb.lt
      have fin : i + 1 ≤ 9223372036854775807 := by omega
      have finc : cc + 1 ≤ 9223372036854775807 := by omega
      clear hat hdlv hst hb hd hcc
      go_wp2_with fail
      refine (HC.out _).mono ?_
      rintro e w3 ⟨rfl, hU3⟩
      have HU3 : Hid (Upd [] w1 w3) := (HU.out.trans ((Upd.refl [] wr).alloc _)).trans hU3
      clear hU3
      cases hw : ofP x d with
      | true =>
        have HS2 : Hid ((h.take (i + 1)).countP (ofP x) = cc + 1) := by unfold Hid; rw [HST.out, hw]; rfl
        go_wp2_with fail
        exact ⟨⟨i + 1, by congr 1, by rw [HN.out]; omega, by rw [HS2.out]; congr 1, HU3.out⟩, by first | (simp [intOf]; done) | (simp [intOf]; omega)⟩
      | false =>
        have HS2 : Hid ((h.take (i + 1)).countP (ofP x) = cc) := by unfold Hid; rw [HST.out, hw]; rfl
        go_wp2_with fail
        exact ⟨⟨i + 1, by congr 1, by rw [HN.out]; omega, by rw [HS2.out], HU3.out⟩, by first | (simp [intOf]; done) | (simp [intOf]; omega)⟩
    · have t1 : decide (i < n) = false := by simp; omega
      have HT : Hid (h.countP (ofP x) = cc) := by unfold Hid; rw [← hcc, List.take_of_length_le (by rw [HN.out]; omega)]
      clear hcc
      go_wp2
      go_ret
      exact ⟨by rw [HT.out]; rfl, HU1.out.trans HU.out⟩

set_option maxRecDepth 100000 in
set_option maxHeartbeats 4000000 in
theorem wcount_in {w : World} {hv : Value} {x : Pt} {h : List Dn} (hh : DnsAt w hv h) (hx : ∃ lo lc, x.lv = .slice lo x.r.L.length lc) :
    Calls Try.prog 38 #[ptV x, hv, .func (.func 39) #[] #[]] w (RetUpd [] w (.int .i64 (h.countP (inP x) : Nat))) := by
  have wcc := win_any
  have HH := Lib.hid hh
  obtain ⟨hm, ao, cap, rfl, -⟩ := dns_at hh
  obtain ⟨lo, lc, hlv⟩ := hx
  have HFF : Hid (∀ d : Dn, ∀ w', Calls Try.prog 39 #[.agg #[.int .i64 x.step, .int .i64 x.who, .int .i64 x.place, .int .i64 x.r.e, .slice lo x.r.L.length lc, .int .i64 x.r.n, .int .u64 x.r.v], dnV d] w' (RetUpd [] w' (.bool (inP x d)))) := fun d w' => by
    have := wcc x d w'
    unfold ptV at this
    rw [hlv] at this
    exact this
  obtain ⟨n, hn⟩ : ∃ n, h.length = n := ⟨_, rfl⟩
  have HN := Lib.hid hn
  rw [hn] at hm ⊢
  have bn : n ≤ 9223372036854775807 := hm
  unfold ptV
  rw [hlv]
  clear hh hlv hn hm wcc
  obtain ⟨w1, hw1⟩ : ∃ y, (w.alloc (.cells #[.int .i64 x.step, .int .i64 x.who, .int .i64 x.place, .int .i64 x.r.e, .slice lo x.r.L.length lc, .int .i64 x.r.n, .int .u64 x.r.v] 33)) = y := ⟨_, rfl⟩
  have u1 : Upd [] w w1 := by rw [← hw1]; exact (Upd.refl [] w).alloc _
  have b1 : Blk w1 w.heap.size 33 [.int .i64 x.step, .int .i64 x.who, .int .i64 x.place, .int .i64 x.r.e, .slice lo x.r.L.length lc, .int .i64 x.r.n, .int .u64 x.r.v] := by rw [← hw1]; exact Blk.new w 33 [.int .i64 x.step, .int .i64 x.who, .int .i64 x.place, .int .i64 x.r.e, .slice lo x.r.L.length lc, .int .i64 x.r.n, .int .u64 x.r.v]
  have HU1 := Lib.hid u1
  obtain ⟨bx, hbx⟩ : ∃ y, w.heap.size = y := ⟨_, rfl⟩
  rw [hbx] at b1
  have HB1 := Lib.hid b1
  clear u1 b1
  go_enter Try.func38, Try.ntmps38
  go_wp2_with fail
  try rw [hbx]
  clear hw1 hbx
  go_loopw [7, 12] (fun cv iv wr => CntAt w1 h (inP x) cv iv wr) (fun _ iv _ => n - (intOf iv).toNat)
  case atStart => exact ⟨0, rfl, Nat.zero_le _, rfl, Upd.refl _ _⟩
  case round =>
    obtain ⟨i, rfl, hi, rfl, hU⟩ := hrel
    rw [HN.out] at hi
    have HU := Lib.hid hU
    obtain ⟨cc, hcc⟩ : ∃ y, (h.take i).countP (inP x) = y := ⟨_, rfl⟩
    have hci : cc ≤ i := by rw [← hcc]; exact Nat.le_trans List.countP_le_length (by rw [List.length_take]; omega)
    rw [hcc]
    clear hU
    by_cases hlt : i < n
    · have t1 : decide (i < n) = true := by simp [hlt]
      have bi : (i : Int) < (n : Int) := by omega
      obtain ⟨d, hd⟩ : ∃ d, h[i]? = some d := ⟨_, List.getElem?_eq_getElem (by rw [HN.out]; exact hlt)⟩
      obtain ⟨-, _, _, e1, hat⟩ := dns_at (HH.out.upd (HU1.out.trans HU.out))
      cases e1
      obtain ⟨g, o, rfl, lg, hdn, y0, y1, y2, y3, y4, y5, y6, y7, y8, y9, y10, y11⟩ := hat i d hd
      obtain ⟨do_, dc, hdlv, -⟩ := hdn
      rw [hdlv] at y7
      have hst := cnt_step (how := inP x) hd
      rw [hcc] at hst
      have HC : Hid (∀ w', Calls Try.prog 39 #[.agg #[.int .i64 x.step, .int .i64 x.who, .int .i64 x.place, .int .i64 x.r.e, .slice lo x.r.L.length lc, .int .i64 x.r.n, .int .u64 x.r.v], .agg #[.int .i64 d.who, .int .i64 d.place, .int .i64 d.c.op, .int .i64 d.c.flow, .int .i64 d.c.a, .int .i64 d.c.b, .int .i64 d.r.e, .slice do_ d.r.L.length dc, .int .i64 d.r.n, .int .u64 d.r.v, .int .i64 d.frm, .int .i64 d.til]] w' (RetUpd [] w' (.bool (inP x d)))) := fun w' => by
        have := HFF.out d w'
        unfold dnV at this
        rw [hdlv] at this
        exact this
      have HST := Lib.hid hst
      have hb := HB1.out.upd HU.out (by simp)
      have x0 := hb.cell (j := 0) rfl
      have x1 := hb.cell (j := 1) rfl
      have x2 := hb.cell (j := 2) rfl
      have x3 := hb.cell (j := 3) rfl
      have x4 := hb.cell (j := 4) rfl
      have x5 := hb.cell (j := 5) rfl
      have x6 := hb.cell (j := 6) rfl
      have lx := hb.lt
      have fin : i + 1 ≤ 9223372036854775807 := by omega
      have finc : cc + 1 ≤ 9223372036854775807 := by omega
      clear hat hdlv hst hb hd hcc
      go_wp2_with fail
      refine (HC.out _).mono ?_
      rintro e w3 ⟨rfl, hU3⟩
      have HU3 : Hid (Upd [] w1 w3) := (HU.out.trans ((Upd.refl [] wr).alloc _)).trans hU3
      clear hU3
      cases hw : inP x d with
      | true =>
        have HS2 : Hid ((h.take (i + 1)).countP (inP x) = cc + 1) := by unfold Hid; rw [HST.out, hw]; rfl
        go_wp2_with fail
        exact ⟨⟨i + 1, by congr 1, by rw [HN.out]; omega, by rw [HS2.out]; congr 1, HU3.out⟩, by first | (simp [intOf]; done) | (simp [intOf]; omega)⟩
      | false =>
        have HS2 : Hid ((h.take (i + 1)).countP (inP x) = cc) := by unfold Hid; rw [HST.out, hw]; rfl
        go_wp2_with fail
        exact ⟨⟨i + 1, by congr 1, by rw [HN.out]; omega, by rw [HS2.out], HU3.out⟩, by first | (simp [intOf]; done) | (simp [intOf]; omega)⟩
    · have t1 : decide (i < n) = false := by simp; omega
      have HT : Hid (h.countP (inP x) = cc) := by unfold Hid; rw [← hcc, List.take_of_length_le (by rw [HN.out]; omega)]
      clear hcc
      go_wp2
      go_ret
      exact ⟨by rw [HT.out]; rfl, HU1.out.trans HU.out⟩
end Go.Proofs.Ytmfndemnogpmcaa
