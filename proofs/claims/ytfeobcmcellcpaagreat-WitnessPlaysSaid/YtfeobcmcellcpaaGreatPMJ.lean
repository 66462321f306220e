/-
  Texts of this claim, joined: Mj, Mk, Ml. No condition.
-/
import Derived.Test.YtfeobcmcellcpaaGreatPME
set_option linter.unusedVariables false
set_option linter.unusedSimpArgs false
/-! Mj -/
namespace Go.Proofs.YtfeobcmcellcpaaGreat
open Go.RowKit

def ofP (x : Pt) (d : Dn) : Bool := decide (x.who = d.who) && decide (x.place = d.place)
def inP (x : Pt) (d : Dn) : Bool := ofP x d && decide (d.frm ≤ x.step) && (decide (d.til = -1) || decide (x.step ≤ d.til))

/-- A row of calls of a history, one by one. -/
theorem dns_at {w : World} {v : Value} {l : List Dn} (h : DnsAt w v l) : l.length ≤ maxLen ∧ ∃ ao cap, v = .slice ao l.length cap ∧ ∀ i x, l[i]? = some x → ∃ b off, ao = some ⟨b, off, none⟩ ∧ b < w.heap.size ∧ DneAt w x ∧ w.cell? ⟨b, off + i * 12, none⟩ = some (.int .i64 x.who) ∧ w.cell? ⟨b, off + i * 12 + 1, none⟩ = some (.int .i64 x.place) ∧ w.cell? ⟨b, off + i * 12 + 2, none⟩ = some (.int .i64 x.c.op) ∧ w.cell? ⟨b, off + i * 12 + 3, none⟩ = some (.int .i64 x.c.flow) ∧ w.cell? ⟨b, off + i * 12 + 4, none⟩ = some (.int .i64 x.c.a) ∧ w.cell? ⟨b, off + i * 12 + 5, none⟩ = some (.int .i64 x.c.b) ∧ w.cell? ⟨b, off + i * 12 + 6, none⟩ = some (.int .i64 x.r.e) ∧ w.cell? ⟨b, off + i * 12 + 7, none⟩ = some x.lv ∧ w.cell? ⟨b, off + i * 12 + 8, none⟩ = some (.int .i64 x.r.n) ∧ w.cell? ⟨b, off + i * 12 + 9, none⟩ = some (.int .u64 x.r.v) ∧ w.cell? ⟨b, off + i * 12 + 10, none⟩ = some (.int .i64 x.frm) ∧ w.cell? ⟨b, off + i * 12 + 11, none⟩ = some (.int .i64 x.til) := by
  obtain ⟨hs, hin⟩ := h
  obtain ⟨-, h2, ao, cap, rfl, h3⟩ := hs.get dnVs 12 dnVs_len (by omega)
  refine ⟨h2, ao, cap, rfl, fun i x hx => ?_⟩
  have hil := (List.getElem?_eq_some_iff.1 hx).1
  rcases h3 with h3 | ⟨b, off, rfl, hb, hc⟩
  · omega
  · exact ⟨b, off, rfl, hb, hin x (List.mem_of_getElem? hx), hc i x hx 0 _ rfl, hc i x hx 1 _ rfl, hc i x hx 2 _ rfl, hc i x hx 3 _ rfl, hc i x hx 4 _ rfl, hc i x hx 5 _ rfl, hc i x hx 6 _ rfl, hc i x hx 7 _ rfl, hc i x hx 8 _ rfl, hc i x hx 9 _ rfl, hc i x hx 10 _ rfl, hc i x hx 11 _ rfl⟩

set_option maxHeartbeats 1000000 in
theorem wof_any (x : Pt) (d : Dn) (w : World) : Calls Tryz.prog 98 #[ptV x, dnV d] w (RetUpd [] w (.bool (ofP x d))) := by
  unfold ptV dnV ofP
  by_cases h1 : x.who = d.who
  · have t1 : (x.who == d.who) = true := by simp [h1]
    have e1 : decide (x.who = d.who) = true := by simp [h1]
    by_cases h2 : x.place = d.place
    · have t2 : (x.place == d.place) = true := by simp [h2]
      have e2 : decide (x.place = d.place) = true := by simp [h2]
      rw [e1, e2]
      clear h1 h2 e1 e2
      go_enter Tryz.func98, Tryz.ntmps98
      go_wp2
      go_ret
      exact ⟨rfl, ((Upd.refl [] w).alloc _).alloc _⟩
    · have t2 : (x.place == d.place) = false := by simp [h2]
      have e2 : decide (x.place = d.place) = false := by simp [h2]
      rw [e1, e2]
      clear h1 h2 e1 e2
      go_enter Tryz.func98, Tryz.ntmps98
      go_wp2
      go_ret
      exact ⟨rfl, ((Upd.refl [] w).alloc _).alloc _⟩
  · have t1 : (x.who == d.who) = false := by simp [h1]
    have e1 : decide (x.who = d.who) = false := by simp [h1]
    rw [e1]
    clear h1 e1
    go_enter Tryz.func98, Tryz.ntmps98
    go_wp2
    go_ret
    exact ⟨rfl, ((Upd.refl [] w).alloc _).alloc _⟩
theorem two_new (w : World) (t1 t2 : TypeId) (c1 c2 : List Value) : Blk ((w.alloc (.cells c1.toArray t1)).alloc (.cells c2.toArray t2)) w.heap.size t1 c1 ∧ Blk ((w.alloc (.cells c1.toArray t1)).alloc (.cells c2.toArray t2)) (w.heap.size + 1) t2 c2 ∧ Upd [] w ((w.alloc (.cells c1.toArray t1)).alloc (.cells c2.toArray t2)) := by
  refine ⟨(Blk.new w t1 c1).alloc _, ?_, ((Upd.refl [] w).alloc _).alloc _⟩
  have := Blk.new (w.alloc (.cells c1.toArray t1)) t2 c2
  rw [show (w.alloc (.cells c1.toArray t1)).heap.size = w.heap.size + 1 by simp] at this
  exact this

set_option maxHeartbeats 2000000 in
theorem win_any (x : Pt) (d : Dn) (w : World) : Calls Tryz.prog 99 #[ptV x, dnV d] w (RetUpd [] w (.bool (inP x d))) := by
  have HO : Hid (∀ w', Calls Tryz.prog 98 #[.agg #[.int .i64 x.step, .int .i64 x.who, .int .i64 x.place, .int .i64 x.r.e, x.lv, .int .i64 x.r.n, .int .u64 x.r.v], .agg #[.int .i64 d.who, .int .i64 d.place, .int .i64 d.c.op, .int .i64 d.c.flow, .int .i64 d.c.a, .int .i64 d.c.b, .int .i64 d.r.e, d.lv, .int .i64 d.r.n, .int .u64 d.r.v, .int .i64 d.frm, .int .i64 d.til]] w' (RetUpd [] w' (.bool (ofP x d)))) := fun w' => wof_any x d w'
  unfold ptV dnV inP
  obtain ⟨o, ho⟩ : ∃ y, ofP x d = y := ⟨_, rfl⟩
  obtain ⟨A, tA⟩ : ∃ y, decide (d.frm ≤ x.step) = y := ⟨_, rfl⟩
  obtain ⟨B, hB⟩ : ∃ y, decide (d.til = -1) = y := ⟨_, rfl⟩
  obtain ⟨C, tC⟩ : ∃ y, decide (x.step ≤ d.til) = y := ⟨_, rfl⟩
  have tB : (d.til == -1) = B := by rw [← hB, Bool.eq_iff_iff]; simp
  rw [ho] at HO
  rw [ho, tA, hB, tC]
  clear ho hB
  go_enter Tryz.func99, Tryz.ntmps99
  go_wp2_with fail
  refine (HO.out _).mono ?_
  rintro e w3 ⟨rfl, hU⟩
  have h2 := two_new w 152 115 [.int .i64 x.step, .int .i64 x.who, .int .i64 x.place, .int .i64 x.r.e, x.lv, .int .i64 x.r.n, .int .u64 x.r.v] [.int .i64 d.who, .int .i64 d.place, .int .i64 d.c.op, .int .i64 d.c.flow, .int .i64 d.c.a, .int .i64 d.c.b, .int .i64 d.r.e, d.lv, .int .i64 d.r.n, .int .u64 d.r.v, .int .i64 d.frm, .int .i64 d.til]
  have b1 := h2.1.upd hU (by simp)
  have b2 := h2.2.1.upd hU (by simp)
  have x0 := b1.cell (j := 0) rfl
  have y4 := b2.cell (j := 10) rfl
  have y5 := b2.cell (j := 11) rfl
  have l1 := b1.lt
  have l2 := b2.lt
  have HU3 := Lib.hid (h2.2.2.trans hU)
  clear b1 b2 hU h2
  cases o with
  | false => go_wp2; go_ret; exact ⟨rfl, HU3.out⟩
  | true =>
    cases A with
    | false => go_wp2; go_ret; exact ⟨rfl, HU3.out⟩
    | true =>
      cases B with
      | true => go_wp2; go_ret; exact ⟨rfl, HU3.out⟩
      | false =>
        cases C with
        | true => go_wp2; go_ret; exact ⟨rfl, HU3.out⟩
        | false => go_wp2; go_ret; exact ⟨rfl, HU3.out⟩
def CntAt (w : World) (h : List Dn) (how : Dn → Bool) (cv iv : Value) (wr : World) : Prop := ∃ i : Nat, iv = .int .i64 i ∧ i ≤ h.length ∧ cv = .int .i64 ((h.take i).countP how : Nat) ∧ Upd [] w wr
theorem cnt_step {h : List Dn} {how : Dn → Bool} {i : Nat} {d : Dn} (hd : h[i]? = some d) : (h.take (i + 1)).countP how = (h.take i).countP how + (if how d = true then 1 else 0) := by
  rw [List.take_add_one, hd, List.countP_append]; simp [List.countP_cons]

set_option maxRecDepth 100000 in
set_option maxHeartbeats 4000000 in
theorem wcount_of {w : World} {hv : Value} {x : Pt} {h : List Dn} (hh : DnsAt w hv h) (hx : ∃ lo lc, x.lv = .slice lo x.r.L.length lc) :
    Calls Tryz.prog 97 #[ptV x, hv, .func (.func 98) #[] #[]] w (RetUpd [] w (.int .i64 (h.countP (ofP x) : Nat))) := by
  have wcc := wof_any
  have HH := Lib.hid hh
  obtain ⟨hm, ao, cap, rfl, -⟩ := dns_at hh
  obtain ⟨lo, lc, hlv⟩ := hx
  have HFF : Hid (∀ d : Dn, ∀ w', Calls Tryz.prog 98 #[.agg #[.int .i64 x.step, .int .i64 x.who, .int .i64 x.place, .int .i64 x.r.e, .slice lo x.r.L.length lc, .int .i64 x.r.n, .int .u64 x.r.v], dnV d] w' (RetUpd [] w' (.bool (ofP x d)))) := fun d w' => by
    have := wcc x d w'
    unfold ptV at this
    rw [hlv] at this
    exact this
  obtain ⟨n, hn⟩ : ∃ n, h.length = n := ⟨_, rfl⟩
  have HN := Lib.hid hn
  rw [hn] at hm ⊢
  have bn : n ≤ 9223372036854775807 := hm
  unfold ptV
  rw [hlv]
  clear hh hlv hn hm wcc
  obtain ⟨w1, hw1⟩ : ∃ y, (w.alloc (.cells #[.int .i64 x.step, .int .i64 x.who, .int .i64 x.place, .int .i64 x.r.e, .slice lo x.r.L.length lc, .int .i64 x.r.n, .int .u64 x.r.v] 59)) = y := ⟨_, rfl⟩
  have u1 : Upd [] w w1 := by rw [← hw1]; exact (Upd.refl [] w).alloc _
  have b1 : Blk w1 w.heap.size 59 [.int .i64 x.step, .int .i64 x.who, .int .i64 x.place, .int .i64 x.r.e, .slice lo x.r.L.length lc, .int .i64 x.r.n, .int .u64 x.r.v] := by rw [← hw1]; exact Blk.new w 59 [.int .i64 x.step, .int .i64 x.who, .int .i64 x.place, .int .i64 x.r.e, .slice lo x.r.L.length lc, .int .i64 x.r.n, .int .u64 x.r.v]
  have HU1 := Lib.hid u1
  obtain ⟨bx, hbx⟩ : ∃ y, w.heap.size = y := ⟨_, rfl⟩
  rw [hbx] at b1
  have HB1 := Lib.hid b1
  clear u1 b1
  go_enter Tryz.func97, Tryz.ntmps97
  go_wp2_with fail
  try rw [hbx]
  clear hw1 hbx
  go_loopw [7, 12] (fun cv iv wr => CntAt w1 h (ofP x) cv iv wr) (fun _ iv _ => n - (intOf iv).toNat)
  case atStart => exact ⟨0, rfl, Nat.zero_le _, rfl, Upd.refl _ _⟩
  case round =>
    obtain ⟨i, rfl, hi, rfl, hU⟩ := hrel
    rw [HN.out] at hi
    have HU := Lib.hid hU
    obtain ⟨cc, hcc⟩ : ∃ y, (h.take i).countP (ofP x) = y := ⟨_, rfl⟩
    have hci : cc ≤ i := by rw [← hcc]; exact Nat.le_trans List.countP_le_length (by rw [List.length_take]; omega)
    rw [hcc]
    clear hU
    by_cases hlt : i < n
    · have t1 : decide (i < n) = true := by simp [hlt]
      have bi : (i : Int) < (n : Int) := by omega
      obtain ⟨d, hd⟩ : ∃ d, h[i]? = some d := ⟨_, List.getElem?_eq_getElem (by rw [HN.out]; exact hlt)⟩
      obtain ⟨-, _, _, e1, hat⟩ := dns_at (HH.out.upd (HU1.out.trans HU.out))
      cases e1
      obtain ⟨g, o, rfl, lg, hdn, y0, y1, y2, y3, y4, y5, y6, y7, y8, y9, y10, y11⟩ := hat i d hd
      obtain ⟨do_, dc, hdlv, -⟩ := hdn
      rw [hdlv] at y7
      have hst := cnt_step (how := ofP x) hd
      rw [hcc] at hst
      have HC : Hid (∀ w', Calls Tryz.prog 98 #[.agg #[.int .i64 x.step, .int .i64 x.who, .int .i64 x.place, .int .i64 x.r.e, .slice lo x.r.L.length lc, .int .i64 x.r.n, .int .u64 x.r.v], .agg #[.int .i64 d.who, .int .i64 d.place, .int .i64 d.c.op, .int .i64 d.c.flow, .int .i64 d.c.a, .int .i64 d.c.b, .int .i64 d.r.e, .slice do_ d.r.L.length dc, .int .i64 d.r.n, .int .u64 d.r.v, .int .i64 d.frm, .int .i64 d.til]] w' (RetUpd [] w' (.bool (ofP x d)))) := fun w' => by
        have := HFF.out d w'
        unfold dnV at this
        rw [hdlv] at this
        exact this
      have HST := Lib.hid hst
      have hb := HB1.out.upd HU.out (by simp)
      have x0 := hb.cell (j := 0) rfl
      have x1 := hb.cell (j := 1) rfl
      have x2 := hb.cell (j := 2) rfl
      have x3 := hb.cell (j := 3) rfl
      have x4 := hb.cell (j := 4) rfl
      have x5 := hb.cell (j := 5) rfl
      have x6 := hb.cell (j := 6) rfl
      have lx := hb.lt
      have fin : i + 1 ≤ 9223372036854775807 := by omega
      have finc : cc + 1 ≤ 9223372036854775807 := by omega
      clear hat hdlv hst hb hd hcc
      go_wp2_with fail
      refine (HC.out _).mono ?_
      rintro e w3 ⟨rfl, hU3⟩
      have HU3 : Hid (Upd [] w1 w3) := (HU.out.trans ((Upd.refl [] wr).alloc _)).trans hU3
      clear hU3
      cases hw : ofP x d with
      | true =>
        have HS2 : Hid ((h.take (i + 1)).countP (ofP x) = cc + 1) := by unfold Hid; rw [HST.out, hw]; rfl
        go_wp2_with fail
        exact ⟨⟨i + 1, by congr 1, by rw [HN.out]; omega, by rw [HS2.out]; congr 1, HU3.out⟩, by first | (simp [intOf]; done) | (simp [intOf]; omega)⟩
      | false =>
        have HS2 : Hid ((h.take (i + 1)).countP (ofP x) = cc) := by unfold Hid; rw [HST.out, hw]; rfl
        go_wp2_with fail
        exact ⟨⟨i + 1, by congr 1, by rw [HN.out]; omega, by rw [HS2.out], HU3.out⟩, by first | (simp [intOf]; done) | (simp [intOf]; omega)⟩
    · have t1 : decide (i < n) = false := by simp; omega
      have HT : Hid (h.countP (ofP x) = cc) := by unfold Hid; rw [← hcc, List.take_of_length_le (by rw [HN.out]; omega)]
      clear hcc
      go_wp2
      go_ret
      exact ⟨by rw [HT.out]; rfl, HU1.out.trans HU.out⟩

set_option maxRecDepth 100000 in
set_option maxHeartbeats 4000000 in
theorem wcount_in {w : World} {hv : Value} {x : Pt} {h : List Dn} (hh : DnsAt w hv h) (hx : ∃ lo lc, x.lv = .slice lo x.r.L.length lc) :
    Calls Tryz.prog 97 #[ptV x, hv, .func (.func 99) #[] #[]] w (RetUpd [] w (.int .i64 (h.countP (inP x) : Nat))) := by
  have wcc := win_any
  have HH := Lib.hid hh
  obtain ⟨hm, ao, cap, rfl, -⟩ := dns_at hh
  obtain ⟨lo, lc, hlv⟩ := hx
  have HFF : Hid (∀ d : Dn, ∀ w', Calls Tryz.prog 99 #[.agg #[.int .i64 x.step, .int .i64 x.who, .int .i64 x.place, .int .i64 x.r.e, .slice lo x.r.L.length lc, .int .i64 x.r.n, .int .u64 x.r.v], dnV d] w' (RetUpd [] w' (.bool (inP x d)))) := fun d w' => by
    have := wcc x d w'
    unfold ptV at this
    rw [hlv] at this
    exact this
  obtain ⟨n, hn⟩ : ∃ n, h.length = n := ⟨_, rfl⟩
  have HN := Lib.hid hn
  rw [hn] at hm ⊢
  have bn : n ≤ 9223372036854775807 := hm
  unfold ptV
  rw [hlv]
  clear hh hlv hn hm wcc
  obtain ⟨w1, hw1⟩ : ∃ y, (w.alloc (.cells #[.int .i64 x.step, .int .i64 x.who, .int .i64 x.place, .int .i64 x.r.e, .slice lo x.r.L.length lc, .int .i64 x.r.n, .int .u64 x.r.v] 59)) = y := ⟨_, rfl⟩
  have u1 : Upd [] w w1 := by rw [← hw1]; exact (Upd.refl [] w).alloc _
  have b1 : Blk w1 w.heap.size 59 [.int .i64 x.step, .int .i64 x.who, .int .i64 x.place, .int .i64 x.r.e, .slice lo x.r.L.length lc, .int .i64 x.r.n, .int .u64 x.r.v] := by rw [← hw1]; exact Blk.new w 59 [.int .i64 x.step, .int .i64 x.who, .int .i64 x.place, .int .i64 x.r.e, .slice lo x.r.L.length lc, .int .i64 x.r.n, .int .u64 x.r.v]
  have HU1 := Lib.hid u1
  obtain ⟨bx, hbx⟩ : ∃ y, w.heap.size = y := ⟨_, rfl⟩
  rw [hbx] at b1
  have HB1 := Lib.hid b1
  clear u1 b1
  go_enter Tryz.func97, Tryz.ntmps97
  go_wp2_with fail
  try rw [hbx]
  clear hw1 hbx
  go_loopw [7, 12] (fun cv iv wr => CntAt w1 h (inP x) cv iv wr) (fun _ iv _ => n - (intOf iv).toNat)
  case atStart => exact ⟨0, rfl, Nat.zero_le _, rfl, Upd.refl _ _⟩
  case round =>
    obtain ⟨i, rfl, hi, rfl, hU⟩ := hrel
    rw [HN.out] at hi
    have HU := Lib.hid hU
    obtain ⟨cc, hcc⟩ : ∃ y, (h.take i).countP (inP x) = y := ⟨_, rfl⟩
    have hci : cc ≤ i := by rw [← hcc]; exact Nat.le_trans List.countP_le_length (by rw [List.length_take]; omega)
    rw [hcc]
    clear hU
    by_cases hlt : i < n
    · have t1 : decide (i < n) = true := by simp [hlt]
      have bi : (i : Int) < (n : Int) := by omega
      obtain ⟨d, hd⟩ : ∃ d, h[i]? = some d := ⟨_, List.getElem?_eq_getElem (by rw [HN.out]; exact hlt)⟩
      obtain ⟨-, _, _, e1, hat⟩ := dns_at (HH.out.upd (HU1.out.trans HU.out))
      cases e1
      obtain ⟨g, o, rfl, lg, hdn, y0, y1, y2, y3, y4, y5, y6, y7, y8, y9, y10, y11⟩ := hat i d hd
      obtain ⟨do_, dc, hdlv, -⟩ := hdn
      rw [hdlv] at y7
      have hst := cnt_step (how := inP x) hd
      rw [hcc] at hst
      have HC : Hid (∀ w', Calls Tryz.prog 99 #[.agg #[.int .i64 x.step, .int .i64 x.who, .int .i64 x.place, .int .i64 x.r.e, .slice lo x.r.L.length lc, .int .i64 x.r.n, .int .u64 x.r.v], .agg #[.int .i64 d.who, .int .i64 d.place, .int .i64 d.c.op, .int .i64 d.c.flow, .int .i64 d.c.a, .int .i64 d.c.b, .int .i64 d.r.e, .slice do_ d.r.L.length dc, .int .i64 d.r.n, .int .u64 d.r.v, .int .i64 d.frm, .int .i64 d.til]] w' (RetUpd [] w' (.bool (inP x d)))) := fun w' => by
        have := HFF.out d w'
        unfold dnV at this
        rw [hdlv] at this
        exact this
      have HST := Lib.hid hst
      have hb := HB1.out.upd HU.out (by simp)
      have x0 := hb.cell (j := 0) rfl
      have x1 := hb.cell (j := 1) rfl
      have x2 := hb.cell (j := 2) rfl
      have x3 := hb.cell (j := 3) rfl
      have x4 := hb.cell (j := 4) rfl
      have x5 := hb.cell (j := 5) rfl
      have x6 := hb.cell (j := 6) rfl
      have lx := hb.lt
      have fin : i + 1 ≤ 9223372036854775807 := by omega
      have finc : cc + 1 ≤ 9223372036854775807 := by omega
      clear hat hdlv hst hb hd hcc
      go_wp2_with fail
      refine (HC.out _).mono ?_
      rintro e w3 ⟨rfl, hU3⟩
      have HU3 : Hid (Upd [] w1 w3) := (HU.out.trans ((Upd.refl [] wr).alloc _)).trans hU3
      clear hU3
      cases hw : inP x d with
      | true =>
        have HS2 : Hid ((h.take (i + 1)).countP (inP x) = cc + 1) := by unfold Hid; rw [HST.out, hw]; rfl
        go_wp2_with fail
        exact ⟨⟨i + 1, by congr 1, by rw [HN.out]; omega, by rw [HS2.out]; congr 1, HU3.out⟩, by first | (simp [intOf]; done) | (simp [intOf]; omega)⟩
      | false =>
        have HS2 : Hid ((h.take (i + 1)).countP (inP x) = cc) := by unfold Hid; rw [HST.out, hw]; rfl
        go_wp2_with fail
        exact ⟨⟨i + 1, by congr 1, by rw [HN.out]; omega, by rw [HS2.out], HU3.out⟩, by first | (simp [intOf]; done) | (simp [intOf]; omega)⟩
    · have t1 : decide (i < n) = false := by simp; omega
      have HT : Hid (h.countP (inP x) = cc) := by unfold Hid; rw [← hcc, List.take_of_length_le (by rw [HN.out]; omega)]
      clear hcc
      go_wp2
      go_ret
      exact ⟨by rw [HT.out]; rfl, HU1.out.trans HU.out⟩
end Go.Proofs.YtfeobcmcellcpaaGreat

/-! Mk -/
namespace Go.Proofs.YtfeobcmcellcpaaGreat
open Go.RowKit

/-- A Ret; where its packets lie. -/
structure Re where
  r : Rt
  lv : Value
def reVs (x : Re) : List Value := [.int .i64 x.r.e, x.lv, .int .i64 x.r.n, .int .u64 x.r.v]
theorem reVs_len (x : Re) : (reVs x).length = 4 := rfl
def RsAt (w : World) (v : Value) (l : List Re) : Prop := SlAt w 4 v l.length (l.flatMap reVs) ∧ ∀ x ∈ l, SlAt w 3 x.lv x.r.L.length (x.r.L.flatMap pkVs)
theorem RsAt.upd {w w' : World} {v : Value} {l : List Re} (h : RsAt w v l) (hu : Upd [] w w') : RsAt w' v l := ⟨h.1.upd hu, fun x hx => (h.2 x hx).upd hu⟩
theorem rs_at {w : World} {v : Value} {l : List Re} (h : RsAt w v l) : l.length ≤ maxLen ∧ ∃ ao cap, v = .slice ao l.length cap ∧ ∀ i x, l[i]? = some x → ∃ b off lo lc, ao = some ⟨b, off, none⟩ ∧ b < w.heap.size ∧ x.lv = .slice lo x.r.L.length lc ∧ SlAt w 3 x.lv x.r.L.length (x.r.L.flatMap pkVs) ∧ w.cell? ⟨b, off + i * 4, none⟩ = some (.int .i64 x.r.e) ∧ w.cell? ⟨b, off + i * 4 + 1, none⟩ = some x.lv ∧ w.cell? ⟨b, off + i * 4 + 2, none⟩ = some (.int .i64 x.r.n) ∧ w.cell? ⟨b, off + i * 4 + 3, none⟩ = some (.int .u64 x.r.v) := by
  obtain ⟨hs, hin⟩ := h
  obtain ⟨-, h2, ao, cap, rfl, h3⟩ := hs.get reVs 4 reVs_len (by omega)
  refine ⟨h2, ao, cap, rfl, fun i x hx => ?_⟩
  have hil := (List.getElem?_eq_some_iff.1 hx).1
  rcases h3 with h3 | ⟨b, off, rfl, hb, hc⟩
  · omega
  · have hsl := hin x (List.mem_of_getElem? hx)
    have hsl2 := hsl
    obtain ⟨lo, lc, e, -⟩ := hsl2
    exact ⟨b, off, lo, lc, rfl, hb, e, hsl, hc i x hx 0 _ rfl, hc i x hx 1 _ rfl, hc i x hx 2 _ rfl, hc i x hx 3 _ rfl⟩
def eqRt : List Rt → List Rt → Bool
  | [], [] => true
  | p :: L, q :: M => rtSame p q && eqRt L M
  | _, _ => false
theorem eqRt_at : ∀ {L M : List Rt} {i : Nat} {p q : Rt}, L.length = M.length → L[i]? = some p → M[i]? = some q → rtSame p q = false → eqRt L M = false
  | [], _, _, _, _, _, h, _, _ => by simp at h
  | p' :: L, [], i, p, q, hl, h1, h2, h3 => by simp at hl
  | p' :: L, q' :: M, 0, p, q, hl, h1, h2, h3 => by
    simp only [List.getElem?_cons_zero, Option.some.injEq] at h1 h2
    subst h1 h2
    simp [eqRt, h3]
  | p' :: L, q' :: M, i + 1, p, q, hl, h1, h2, h3 => by
    simp only [List.getElem?_cons_succ] at h1 h2
    simp [eqRt, eqRt_at (by simpa using hl) h1 h2 h3]
theorem eqRt_all : ∀ {L M : List Rt}, L.length = M.length → (∀ (i : Nat) (p q : Rt), L[i]? = some p → M[i]? = some q → rtSame p q = true) → eqRt L M = true
  | [], [], _, _ => rfl
  | [], _ :: _, h, _ => by simp at h
  | _ :: _, [], h, _ => by simp at h
  | p :: L, q :: M, hl, h => by
    simp [eqRt, h 0 p q rfl rfl, eqRt_all (by simpa using hl) (fun i a b ha hb => h (i + 1) a b ha hb)]
theorem eqRt_len : ∀ {L M : List Rt}, L.length ≠ M.length → eqRt L M = false
  | [], [], h => absurd rfl h
  | [], _ :: _, _ => rfl
  | _ :: _, [], _ => rfl
  | p :: L, q :: M, h => by simp [eqRt, eqRt_len (L := L) (M := M) (by simpa using h)]
def RtSameAt (w : World) (L M : List Re) (iv : Value) (wr : World) : Prop := ∃ i : Nat, iv = .int .i64 i ∧ i ≤ L.length ∧ (∀ j p q, j < i → L[j]? = some p → M[j]? = some q → rtSame p.r q.r = true) ∧ Upd [] w wr
theorem RtSameAt.next {w w' : World} {L M : List Re} {i : Nat} {p q : Re} (hi : i < L.length) (h : ∀ j p q, j < i → L[j]? = some p → M[j]? = some q → rtSame p.r q.r = true) (h1 : L[i]? = some p) (h2 : M[i]? = some q) (he : rtSame p.r q.r = true) (hU : Upd [] w w') : RtSameAt w L M (.int .i64 ((i + 1 : Nat) : Int)) w' :=
  ⟨i + 1, rfl, hi, fun j a b hj ha hb => by
    by_cases e : j = i
    · subst e; rw [h1] at ha; rw [h2] at hb; cases ha; cases hb; exact he
    · exact h j a b (by omega) ha hb, hU⟩
theorem map_get {L : List Re} {i : Nat} {p : Rt} (h : (L.map (·.r))[i]? = some p) : ∃ x, L[i]? = some x ∧ x.r = p := by
  rw [List.getElem?_map] at h
  cases hx : L[i]? with
  | none => rw [hx] at h; cases h
  | some x => rw [hx] at h; simp at h; exact ⟨x, rfl, h⟩

set_option maxHeartbeats 4000000 in
theorem rteq_any {L M : List Re} {v1 v2 : Value} {w : World} (h1 : RsAt w v1 L) (h2 : RsAt w v2 M) :
    Calls Tryz.prog 100 #[v1, v2, .func (.func 60) #[] #[]] w (RetUpd [] w (.bool (eqRt (L.map (·.r)) (M.map (·.r))))) := by
  have H1 := Lib.hid h1
  have H2 := Lib.hid h2
  obtain ⟨hb1, a1, c1, rfl, -⟩ := rs_at h1
  obtain ⟨hb2, a2, c2, rfl, -⟩ := rs_at h2
  obtain ⟨n, hn⟩ : ∃ n, L.length = n := ⟨_, rfl⟩
  obtain ⟨m, hm⟩ : ∃ m, M.length = m := ⟨_, rfl⟩
  have HL1 := Lib.hid hn
  have HL2 := Lib.hid hm
  rw [hn] at hb1 ⊢
  rw [hm] at hb2 ⊢
  have bn : n ≤ 9223372036854775807 := hb1
  obtain ⟨R, hR⟩ : ∃ y, eqRt (L.map (·.r)) (M.map (·.r)) = y := ⟨_, rfl⟩
  have HR := Lib.hid hR
  rw [hR]
  clear h1 h2 hb1 hb2 hn hm hR
  by_cases hnm : n = m
  · subst hnm
    have t0 : ((n : Int) == (n : Int)) = true := by simp
    go_enter Tryz.func100, Tryz.ntmps100
    go_wp2
    go_loopw [17] (fun iv wr => RtSameAt w L M iv wr) (fun iv _ => n - (intOf iv).toNat)
    case atStart => exact ⟨0, rfl, by omega, fun j p q hj => by omega, Upd.refl _ _⟩
    case round =>
      obtain ⟨i, rfl, hi, hall, hU⟩ := hrel
      rw [HL1.out] at hi
      have HU := Lib.hid hU
      have HALL := Lib.hid hall
      clear hU hall
      by_cases hlt : i < n
      · have t1 : decide (i < n) = true := by simp [hlt]
        have b1 : (i : Int) < (n : Int) := by omega
        obtain ⟨x, hx⟩ : ∃ x, L[i]? = some x := ⟨_, List.getElem?_eq_getElem (by rw [HL1.out]; exact hlt)⟩
        obtain ⟨y, hy⟩ : ∃ y, M[i]? = some y := ⟨_, List.getElem?_eq_getElem (by rw [HL2.out]; exact hlt)⟩
        obtain ⟨-, _, _, e1, k1⟩ := rs_at (H1.out.upd HU.out)
        cases e1
        obtain ⟨-, _, _, e2, k2⟩ := rs_at (H2.out.upd HU.out)
        cases e2
        obtain ⟨g1, o1, lo1, lc1, rfl, l1, hv1, hs1, x0, x1, x2, x3⟩ := k1 i x hx
        obtain ⟨g2, o2, lo2, lc2, rfl, l2, hv2, hs2, y0, y1, y2, y3⟩ := k2 i y hy
        rw [hv1] at x1 hs1
        rw [hv2] at y1 hs2
        obtain ⟨sm, hsm⟩ : ∃ s, rtSame x.r y.r = s := ⟨_, rfl⟩
        have HC : Hid (∀ w', Upd [] wr w' → Calls Tryz.prog 60 #[.agg #[.int .i64 x.r.e, .slice lo1 x.r.L.length lc1, .int .i64 x.r.n, .int .u64 x.r.v], .agg #[.int .i64 y.r.e, .slice lo2 y.r.L.length lc2, .int .i64 y.r.n, .int .u64 y.r.v]] w' (RetUpd [] w' (.bool sm))) := fun w' hu => by
          rw [← hsm]; exact wsame_any ⟨_, rfl, hs1.upd hu⟩ ⟨_, rfl, hs2.upd hu⟩
        have HX := Lib.hid hx
        have HY := Lib.hid hy
        have HSM := Lib.hid hsm
        have fin : i + 1 ≤ 9223372036854775807 := by omega
        clear k1 k2 hs1 hs2 hv1 hv2 hx hy hsm
        go_wp2_with fail
        refine (HC.out _ (by first | exact ((Upd.refl [] wr).alloc _).alloc _ | exact (((Upd.refl [] wr).alloc _).setCell (.inr (by simp)) _).alloc _)).mono ?_
        rintro e w3 ⟨rfl, hU3⟩
        have HU3 : Hid (Upd [] w w3) := HU.out.trans ((((Upd.refl [] wr).alloc _).alloc _).trans hU3)
        clear hU3
        cases sm with
        | true =>
          go_wp2_with fail
          exact ⟨RtSameAt.next (by rw [HL1.out]; exact hlt) HALL.out HX.out HY.out HSM.out HU3.out, by first | (simp [intOf]; done) | (simp [intOf]; omega)⟩
        | false =>
          have hf : eqRt (L.map (·.r)) (M.map (·.r)) = false := eqRt_at (i := i) (p := x.r) (q := y.r) (by rw [List.length_map, List.length_map, HL1.out, HL2.out]) (by rw [List.getElem?_map, HX.out]; rfl) (by rw [List.getElem?_map, HY.out]; rfl) HSM.out
          go_wp2
          go_ret
          exact ⟨by rw [HR.out.symm.trans hf]; rfl, HU3.out⟩
      · have t1 : decide (i < n) = false := by simp; omega
        have hT : eqRt (L.map (·.r)) (M.map (·.r)) = true := eqRt_all (by rw [List.length_map, List.length_map, HL1.out, HL2.out]) (fun j p q hp hq => by
          obtain ⟨x, hx, rfl⟩ := map_get hp
          obtain ⟨y, hy, rfl⟩ := map_get hq
          exact HALL.out j x y (by have := (List.getElem?_eq_some_iff.1 hx).1; rw [HL1.out] at this; omega) hx hy)
        go_wp2
        go_ret
        exact ⟨by rw [HR.out.symm.trans hT]; rfl, HU.out⟩
  · have t0 : ((n : Int) == (m : Int)) = false := by simp; omega
    have hf : eqRt (L.map (·.r)) (M.map (·.r)) = false := eqRt_len (by rw [List.length_map, List.length_map, HL1.out, HL2.out]; exact hnm)
    rw [HR.out.symm.trans hf]
    go_enter Tryz.func100, Tryz.ntmps100
    go_wp2
    go_ret
    exact ⟨rfl, Upd.refl _ _⟩
end Go.Proofs.YtfeobcmcellcpaaGreat

/-! Ml -/
namespace Go.Proofs.YtfeobcmcellcpaaGreat
open Go.RowKit

/-- In which block a slice lies. -/
def lvB : Value → List Nat
  | .slice (some a) (_ + 1) _ => [a.block]
  | _ => []
theorem SlAt.lvB_lt {w : World} {size n : Nat} {v : Value} {xs : List Value} (h : SlAt w size v n xs) : ∀ c ∈ lvB v, c < w.heap.size := by
  intro c hc
  obtain ⟨ao, cap, rfl, h1, h2, h3⟩ := h
  rcases h3 with rfl | ⟨b, off, rfl, hb, -⟩
  · cases ao <;> simp [lvB] at hc
  · cases n with
    | zero => simp [lvB] at hc
    | succ n => simp [lvB] at hc; omega
theorem SlAt.updS {S : List Nat} {w w' : World} {size n : Nat} {v : Value} {xs : List Value} (h : SlAt w size v n xs) (hu : Upd S w w') (hs : ∀ c ∈ lvB v, c ∉ S) : SlAt w' size v n xs := by
  obtain ⟨ao, cap, rfl, h1, h2, h3⟩ := h
  refine ⟨ao, cap, rfl, h1, h2, ?_⟩
  rcases h3 with h3 | ⟨b, off, rfl, hb, hc⟩
  · exact .inl h3
  · cases n with
    | zero => exact .inl rfl
    | succ n => exact .inr ⟨b, off, rfl, Nat.lt_of_lt_of_le hb hu.size, fun j u hj => by rw [hu.cell hb (hs b (by simp [lvB]))]; exact hc j u hj⟩

/-- A row of Rets that has been built. -/
structure ReRow (w wr : World) (ao : Option Addr) (n cap : Nat) (E : List Re) : Prop where
  row : RowO wr 57 4 ao n cap (E.flatMap reVs)
  len : E.length = n
  new : ∀ c ∈ blkO ao, w.heap.size ≤ c
  sl : ∀ e ∈ E, SlAt wr 3 e.lv e.r.L.length (e.r.L.flatMap pkVs) ∧ ∀ c ∈ lvB e.lv, c ∉ blkO ao ∧ c < wr.heap.size
theorem ReRow.nil (w wr : World) : ReRow w wr none 0 0 [] := ⟨RowO.nil _ _ _, rfl, fun c hc => (by cases hc), fun e he => (by cases he)⟩
theorem ReRow.upd {w wr w' : World} {ao : Option Addr} {n cap : Nat} {E : List Re} (h : ReRow w wr ao n cap E) (hu : Upd [] wr w') : ReRow w w' ao n cap E :=
  ⟨h.row.upd hu (by simp), h.len, h.new, fun e he => ⟨(h.sl e he).1.upd hu, fun c hc => ⟨((h.sl e he).2 c hc).1, Nat.lt_of_lt_of_le ((h.sl e he).2 c hc).2 hu.size⟩⟩⟩
theorem ReRow.push {w wr w' : World} {ao ao' : Option Addr} {n cap cap' : Nat} {E : List Re} {e : Re} (h : ReRow w wr ao n cap E) (hU : Upd [] w wr) (hA : Apped wr 57 4 ao (n + 1) (E.flatMap reVs ++ reVs e) ao' cap' w') (he : SlAt wr 3 e.lv e.r.L.length (e.r.L.flatMap pkVs)) (hb : ∀ c ∈ lvB e.lv, c ∉ blkO ao ∧ c < wr.heap.size) :
    ReRow w w' ao' (n + 1) cap' (E ++ [e]) ∧ Upd [] w w' := by
  have hsz := hU.size
  have hkeep : ∀ v : Value, (∀ c ∈ lvB v, c ∉ blkO ao ∧ c < wr.heap.size) → ∀ c ∈ lvB v, c ∉ blkO ao' ∧ c < w'.heap.size := fun v hv c hc => by
    have := hv c hc
    have hs := hA.upd.size
    refine ⟨fun h2 => ?_, by omega⟩
    rcases hA.at_ c h2 with h3 | h3
    · exact this.1 h3
    · omega
  refine ⟨⟨by rw [List.flatMap_append]; simpa using hA.row, by rw [List.length_append, h.len]; rfl, fun c hc => ?_, fun x hx => ?_⟩, hU.then hA.upd (fun _ _ h => h) (fun i hi hm => by have := h.new i hm; omega)⟩
  · rcases hA.at_ c hc with h3 | h3
    · exact h.new c h3
    · omega
  · rcases List.mem_append.1 hx with hx | hx
    · have k := h.sl x hx
      exact ⟨k.1.updS hA.upd (fun c hc => (k.2 c hc).1), hkeep _ k.2⟩
    · simp only [List.mem_cons, List.not_mem_nil, or_false] at hx
      subst hx
      exact ⟨he.updS hA.upd (fun c hc => (hb c hc).1), hkeep _ hb⟩
theorem ReRow.at_ {w wr : World} {ao : Option Addr} {n cap : Nat} {E : List Re} (h : ReRow w wr ao n cap E) : RsAt wr (.slice ao n cap) E := ⟨by rw [h.len]; exact h.row.sl, fun e he => (h.sl e he).1⟩
theorem underlyingRets : Tryz.prog.underlying 153 = some (.slice 57) := by kernel_rfl
theorem infoRet : (Tryz.prog.info? 57).map (fun i => (i.zero, i.size, i.bytes)) = some (some (.agg #[.int .i64 0, .slice none 0 0, .int .i64 0, .int .u64 0]), 4, 48) := by kernel_rfl
theorem reVs_one {x : Re} {lo : Option Addr} {k c : Nat} (h : x.lv = .slice lo k c) : ∀ u ∈ reVs x, u.oneCell' = true := by
  intro u hu
  simp only [reVs, List.mem_cons, List.not_mem_nil, or_false, h] at hu
  rcases hu with rfl | rfl | rfl | rfl <;> rfl
def partsL (d : Dn) : List Rt := if d.c.op ≠ 5 ∨ (d.r.e ≠ 0 ∧ d.r.e ≠ 10) then [d.r] else d.r.L.map (fun p => (⟨0, [p], 0, 0⟩ : Rt)) ++ (if d.r.e = 10 then [rtE 10] else [])
def PartsTo (w : World) (d : Dn) (e : Ending) (w' : World) : Prop := ∃ v E, e = .returned v ∧ RsAt w' v E ∧ E.map (·.r) = partsL d ∧ Upd [] w w'
def PartAt (w : World) (L : List Pk) (lv iv : Value) (wr : World) : Prop := ∃ (i : Nat) (ao : Option Addr) (cap : Nat) (E : List Re), iv = .int .i64 i ∧ lv = .slice ao i cap ∧ i ≤ L.length ∧ ReRow w wr ao i cap E ∧ E.map (·.r) = (L.take i).map (fun p => (⟨0, [p], 0, 0⟩ : Rt)) ∧ Upd [] w wr

set_option maxHeartbeats 4000000 in
theorem wparts_any {w : World} (d : Dn) (hd : DneAt w d) (hlen : d.r.L.length ≤ 1099511627776) : Calls Tryz.prog 101 #[dnV d] w (PartsTo w d) := by
  have HD := Lib.hid hd
  obtain ⟨lo, lc, hlv, -⟩ := hd
  have hd2 := HD.out
  unfold DneAt at hd2
  rw [hlv] at hd2
  have HSL := Lib.hid hd2
  unfold dnV
  rw [hlv]
  obtain ⟨n, hn⟩ : ∃ n, d.r.L.length = n := ⟨_, rfl⟩
  have HN := Lib.hid hn
  have HLEN := Lib.hid hlen
  obtain ⟨w1, hw1⟩ : ∃ y, (w.alloc (.cells #[.int .i64 d.who, .int .i64 d.place, .int .i64 d.c.op, .int .i64 d.c.flow, .int .i64 d.c.a, .int .i64 d.c.b, .int .i64 d.r.e, .slice lo n lc, .int .i64 d.r.n, .int .u64 d.r.v, .int .i64 d.frm, .int .i64 d.til] 115)) = y := ⟨_, rfl⟩
  have u1 : Upd [] w w1 := by rw [← hw1]; exact (Upd.refl [] w).alloc _
  have b1 : Blk w1 w.heap.size 115 [.int .i64 d.who, .int .i64 d.place, .int .i64 d.c.op, .int .i64 d.c.flow, .int .i64 d.c.a, .int .i64 d.c.b, .int .i64 d.r.e, .slice lo n lc, .int .i64 d.r.n, .int .u64 d.r.v, .int .i64 d.frm, .int .i64 d.til] := by rw [← hw1]; exact Blk.new w 115 [.int .i64 d.who, .int .i64 d.place, .int .i64 d.c.op, .int .i64 d.c.flow, .int .i64 d.c.a, .int .i64 d.c.b, .int .i64 d.r.e, .slice lo n lc, .int .i64 d.r.n, .int .u64 d.r.v, .int .i64 d.frm, .int .i64 d.til]
  rw [hn]
  have HU1 := Lib.hid u1
  have HB1 := Lib.hid b1
  have x2 := b1.cell (j := 2) rfl
  have x6 := b1.cell (j := 6) rfl
  have x7 := b1.cell (j := 7) rfl
  have x8 := b1.cell (j := 8) rfl
  have x9 := b1.cell (j := 9) rfl
  have lx := b1.lt
  clear hd2 hlv u1 b1 hlen hn
  go_enter Tryz.func101, Tryz.ntmps101
  by_cases h1 : d.c.op = 5
  · have t1 : (d.c.op != 5) = false := by simp [h1]
    by_cases h2 : d.r.e = 0 ∨ d.r.e = 10
    · have HOP : Hid (partsL d = d.r.L.map (fun p => (⟨0, [p], 0, 0⟩ : Rt)) ++ (if d.r.e = 10 then [rtE 10] else [])) := by unfold Hid partsL; rw [if_neg (by omega)]
      by_cases h3 : d.r.e = 0
      · have t2 : (d.r.e != 0) = false := by simp [h3]
        have t4 : (d.r.e == 10) = false := by simp [h3]
        have HPL : Hid (partsL d = d.r.L.map (fun p => (⟨0, [p], 0, 0⟩ : Rt))) := by unfold Hid; rw [HOP.out, if_neg (by omega), List.append_nil]
        clear h1 h2 h3 HOP
        go_wp2_with fail
        clear x2 x6 x7 x8 x9 lx
        go_loopw [3, 29] (fun lv iv wr => PartAt w1 d.r.L lv iv wr) (fun _ iv _ => n - (intOf iv).toNat)
        case atStart => exact ⟨0, none, 0, [], rfl, rfl, Nat.zero_le _, ReRow.nil _ _, rfl, Upd.refl _ _⟩
        case round =>
          obtain ⟨i, ao, cap, E, rfl, rfl, hi, hrr, hmap, hU⟩ := hrel
          rw [HN.out] at hi
          have HU := Lib.hid hU
          have HRR := Lib.hid hrr
          have HMAP := Lib.hid hmap
          clear hU hrr hmap
          by_cases hlt : i < n
          · have t5 : decide (i < n) = true := by simp [hlt]
            have bi : (i : Int) < (n : Int) := by omega
            have hsl := HSL.out.upd (HU1.out.trans HU.out)
            rw [HN.out] at hsl
            obtain ⟨-, -, _, _, e1, k1⟩ := pk_at hsl
            cases e1
            obtain ⟨g, o, p, rfl, lg, hp, y0, y1, y2⟩ := k1 i hlt
            have hst : (d.r.L.take (i + 1)) = d.r.L.take i ++ [p] := by rw [List.take_add_one, hp]; rfl
            have HST := Lib.hid hst
            clear k1 hsl hp hst
            obtain ⟨i0, hi0, hz0, hz1, hz2⟩ := info_parts infoRet
            obtain ⟨v1, hv1⟩ : ∃ y, wr.alloc (.cells #[.int .i64 p.flow, .int .i64 p.len, .int .i64 p.mark] 54) = y := ⟨_, rfl⟩
            obtain ⟨v2, hv2⟩ : ∃ y, v1.alloc (.cells #[.int .i64 p.flow, .int .i64 p.len, .int .i64 p.mark] 54) = y := ⟨_, rfl⟩
            obtain ⟨v3, hv3⟩ : ∃ y, v2.alloc (.cells #[.int .i64 0, .slice (some ⟨v1.heap.size, 0, none⟩) 1 1, .int .i64 0, .int .u64 0] 57) = y := ⟨_, rfl⟩
            have q1 : Upd [] wr v1 := by rw [← hv1]; exact (Upd.refl [] wr).alloc _
            have q2 : Upd [] v1 v2 := by rw [← hv2]; exact (Upd.refl [] v1).alloc _
            have q3 : Upd [] v2 v3 := by rw [← hv3]; exact (Upd.refl [] v2).alloc _
            have b1 : Blk v1 wr.heap.size 54 [.int .i64 p.flow, .int .i64 p.len, .int .i64 p.mark] := by rw [← hv1]; exact Blk.new wr 54 [.int .i64 p.flow, .int .i64 p.len, .int .i64 p.mark]
            have b2 : Blk v2 v1.heap.size 54 [.int .i64 p.flow, .int .i64 p.len, .int .i64 p.mark] := by rw [← hv2]; exact Blk.new v1 54 [.int .i64 p.flow, .int .i64 p.len, .int .i64 p.mark]
            have HQ : Hid (Upd [] wr v3) := q1.trans (q2.trans q3)
            have HSRC : Hid (Src v3 4 (some ⟨v2.heap.size, 0, none⟩) 1 (reVs ⟨⟨0, [p], 0, 0⟩, .slice (some ⟨v1.heap.size, 0, none⟩) 1 1⟩)) := by
              unfold Hid; rw [← hv3]; exact one_src v2 57 (reVs ⟨⟨0, [p], 0, 0⟩, .slice (some ⟨v1.heap.size, 0, none⟩) 1 1⟩) (reVs_one rfl) 4 rfl
            have HE : Hid (SlAt v3 3 (.slice (some ⟨v1.heap.size, 0, none⟩) 1 1) 1 (pkVs p)) := ⟨_, _, rfl, by unfold maxLen; omega, rfl, .inr ⟨v1.heap.size, 0, rfl, by have := b2.lt; have := q3.size; omega, fun j u hj => by rw [Nat.zero_add]; exact (b2.upd q3 (by simp)).cell hj⟩⟩
            have HLT : Hid (wr.heap.size ≤ v1.heap.size ∧ v1.heap.size < v3.heap.size) := ⟨q1.size, by have := b2.lt; have := q3.size; omega⟩
            have HROW := Lib.hid (HRR.out.row.upd HQ.out (by simp))
            have HBD : Hid (i + 1 ≤ maxLen ∧ (i + 1) * 48 ≤ 140737488355328) := ⟨by unfold maxLen; have := HLEN.out; have := HN.out; omega, by have := HLEN.out; have := HN.out; omega⟩
            have z0 := b1.cell (j := 0) rfl
            have z1 := b1.cell (j := 1) rfl
            have z2 := b1.cell (j := 2) rfl
            have lz := b1.lt
            have fin : i + 1 ≤ 9223372036854775807 := by have := HLEN.out; have := HN.out; omega
            clear q1 q2 q3 b1 b2
            go_wp2_with (at_builtin; (refine wpList_app2 _ (by rfl) _ _ _ (by rfl) 57 i0 _ 4 48 underlyingRets hi0 hz0 hz1 hz2 rfl (by omega) ao i cap (E.flatMap reVs) (by rfl) HROW.out (some ⟨v2.heap.size, 0, none⟩) 1 1 (reVs ⟨⟨0, [p], 0, 0⟩, .slice (some ⟨v1.heap.size, 0, none⟩) 1 1⟩) (by rfl) HSRC.out HBD.out.1 HBD.out.2 ?_); (intro ao3 cap3 w3 hA3; have HA3 := Lib.hid hA3; clear hA3))
            have hp2 := ReRow.push (e := ⟨⟨0, [p], 0, 0⟩, .slice (some ⟨v1.heap.size, 0, none⟩) 1 1⟩) (HRR.out.upd HQ.out) (HU.out.trans HQ.out) HA3.out HE.out (fun c hc => by
              have := HLT.out
              simp only [lvB, List.mem_cons, List.not_mem_nil, or_false] at hc
              subst hc
              exact ⟨fun h => by have := HRR.out.row.lt _ h; omega, this.2⟩)
            exact ⟨⟨i + 1, ao3, cap3, _, by congr 1, rfl, by rw [HN.out]; omega, hp2.1, by rw [List.map_append, HMAP.out, HST.out, List.map_append]; rfl, hp2.2⟩, by first | (simp [intOf]; done) | (simp [intOf]; omega)⟩
          · have t5 : decide (i < n) = false := by simp; omega
            have HTK : Hid (E.map (·.r) = partsL d) := by unfold Hid; rw [HPL.out, HMAP.out, List.take_of_length_le (by rw [HN.out]; omega)]
            have hb1 := HB1.out.upd HU.out (by simp)
            have x6 := hb1.cell (j := 6) rfl
            have lx := hb1.lt
            clear hb1
            go_wp2_with fail
            go_ret
            exact ⟨_, E, rfl, HRR.out.at_, HTK.out, HU1.out.trans HU.out⟩
      · have h10 : d.r.e = 10 := by omega
        have t2 : (d.r.e != 0) = true := by simp [h3]
        have t3 : (d.r.e != 10) = false := by simp [h10]
        have t4 : (d.r.e == 10) = true := by simp [h10]
        have HPL : Hid (partsL d = d.r.L.map (fun p => (⟨0, [p], 0, 0⟩ : Rt)) ++ [rtE 10]) := by unfold Hid; rw [HOP.out, if_pos h10]
        clear h1 h2 h3 HOP h10
        go_wp2_with fail
        clear x2 x6 x7 x8 x9 lx
        go_loopw [3, 29] (fun lv iv wr => PartAt w1 d.r.L lv iv wr) (fun _ iv _ => n - (intOf iv).toNat)
        case atStart => exact ⟨0, none, 0, [], rfl, rfl, Nat.zero_le _, ReRow.nil _ _, rfl, Upd.refl _ _⟩
        case round =>
          obtain ⟨i, ao, cap, E, rfl, rfl, hi, hrr, hmap, hU⟩ := hrel
          rw [HN.out] at hi
          have HU := Lib.hid hU
          have HRR := Lib.hid hrr
          have HMAP := Lib.hid hmap
          clear hU hrr hmap
          by_cases hlt : i < n
          · have t5 : decide (i < n) = true := by simp [hlt]
            have bi : (i : Int) < (n : Int) := by omega
            have hsl := HSL.out.upd (HU1.out.trans HU.out)
            rw [HN.out] at hsl
            obtain ⟨-, -, _, _, e1, k1⟩ := pk_at hsl
            cases e1
            obtain ⟨g, o, p, rfl, lg, hp, y0, y1, y2⟩ := k1 i hlt
            have hst : (d.r.L.take (i + 1)) = d.r.L.take i ++ [p] := by rw [List.take_add_one, hp]; rfl
            have HST := Lib.hid hst
            clear k1 hsl hp hst
            obtain ⟨i0, hi0, hz0, hz1, hz2⟩ := info_parts infoRet
            obtain ⟨v1, hv1⟩ : ∃ y, wr.alloc (.cells #[.int .i64 p.flow, .int .i64 p.len, .int .i64 p.mark] 54) = y := ⟨_, rfl⟩
            obtain ⟨v2, hv2⟩ : ∃ y, v1.alloc (.cells #[.int .i64 p.flow, .int .i64 p.len, .int .i64 p.mark] 54) = y := ⟨_, rfl⟩
            obtain ⟨v3, hv3⟩ : ∃ y, v2.alloc (.cells #[.int .i64 0, .slice (some ⟨v1.heap.size, 0, none⟩) 1 1, .int .i64 0, .int .u64 0] 57) = y := ⟨_, rfl⟩
            have q1 : Upd [] wr v1 := by rw [← hv1]; exact (Upd.refl [] wr).alloc _
            have q2 : Upd [] v1 v2 := by rw [← hv2]; exact (Upd.refl [] v1).alloc _
            have q3 : Upd [] v2 v3 := by rw [← hv3]; exact (Upd.refl [] v2).alloc _
            have b1 : Blk v1 wr.heap.size 54 [.int .i64 p.flow, .int .i64 p.len, .int .i64 p.mark] := by rw [← hv1]; exact Blk.new wr 54 [.int .i64 p.flow, .int .i64 p.len, .int .i64 p.mark]
            have b2 : Blk v2 v1.heap.size 54 [.int .i64 p.flow, .int .i64 p.len, .int .i64 p.mark] := by rw [← hv2]; exact Blk.new v1 54 [.int .i64 p.flow, .int .i64 p.len, .int .i64 p.mark]
            have HQ : Hid (Upd [] wr v3) := q1.trans (q2.trans q3)
            have HSRC : Hid (Src v3 4 (some ⟨v2.heap.size, 0, none⟩) 1 (reVs ⟨⟨0, [p], 0, 0⟩, .slice (some ⟨v1.heap.size, 0, none⟩) 1 1⟩)) := by
              unfold Hid; rw [← hv3]; exact one_src v2 57 (reVs ⟨⟨0, [p], 0, 0⟩, .slice (some ⟨v1.heap.size, 0, none⟩) 1 1⟩) (reVs_one rfl) 4 rfl
            have HE : Hid (SlAt v3 3 (.slice (some ⟨v1.heap.size, 0, none⟩) 1 1) 1 (pkVs p)) := ⟨_, _, rfl, by unfold maxLen; omega, rfl, .inr ⟨v1.heap.size, 0, rfl, by have := b2.lt; have := q3.size; omega, fun j u hj => by rw [Nat.zero_add]; exact (b2.upd q3 (by simp)).cell hj⟩⟩
            have HLT : Hid (wr.heap.size ≤ v1.heap.size ∧ v1.heap.size < v3.heap.size) := ⟨q1.size, by have := b2.lt; have := q3.size; omega⟩
            have HROW := Lib.hid (HRR.out.row.upd HQ.out (by simp))
            have HBD : Hid (i + 1 ≤ maxLen ∧ (i + 1) * 48 ≤ 140737488355328) := ⟨by unfold maxLen; have := HLEN.out; have := HN.out; omega, by have := HLEN.out; have := HN.out; omega⟩
            have z0 := b1.cell (j := 0) rfl
            have z1 := b1.cell (j := 1) rfl
            have z2 := b1.cell (j := 2) rfl
            have lz := b1.lt
            have fin : i + 1 ≤ 9223372036854775807 := by have := HLEN.out; have := HN.out; omega
            clear q1 q2 q3 b1 b2
            go_wp2_with (at_builtin; (refine wpList_app2 _ (by rfl) _ _ _ (by rfl) 57 i0 _ 4 48 underlyingRets hi0 hz0 hz1 hz2 rfl (by omega) ao i cap (E.flatMap reVs) (by rfl) HROW.out (some ⟨v2.heap.size, 0, none⟩) 1 1 (reVs ⟨⟨0, [p], 0, 0⟩, .slice (some ⟨v1.heap.size, 0, none⟩) 1 1⟩) (by rfl) HSRC.out HBD.out.1 HBD.out.2 ?_); (intro ao3 cap3 w3 hA3; have HA3 := Lib.hid hA3; clear hA3))
            have hp2 := ReRow.push (e := ⟨⟨0, [p], 0, 0⟩, .slice (some ⟨v1.heap.size, 0, none⟩) 1 1⟩) (HRR.out.upd HQ.out) (HU.out.trans HQ.out) HA3.out HE.out (fun c hc => by
              have := HLT.out
              simp only [lvB, List.mem_cons, List.not_mem_nil, or_false] at hc
              subst hc
              exact ⟨fun h => by have := HRR.out.row.lt _ h; omega, this.2⟩)
            exact ⟨⟨i + 1, ao3, cap3, _, by congr 1, rfl, by rw [HN.out]; omega, hp2.1, by rw [List.map_append, HMAP.out, HST.out, List.map_append]; rfl, hp2.2⟩, by first | (simp [intOf]; done) | (simp [intOf]; omega)⟩
          · have t5 : decide (i < n) = false := by simp; omega
            have HTK : Hid (E.map (·.r) = d.r.L.map (fun p => (⟨0, [p], 0, 0⟩ : Rt))) := by unfold Hid; rw [HMAP.out, List.take_of_length_le (by rw [HN.out]; omega)]
            have hb1 := HB1.out.upd HU.out (by simp)
            have x6 := hb1.cell (j := 6) rfl
            have lx := hb1.lt
            obtain ⟨i0, hi0, hz0, hz1, hz2⟩ := info_parts infoRet
            have HROW := Lib.hid (HRR.out.row.upd ((Upd.refl [] wr).alloc (.cells #[.int .i64 10, .slice none 0 0, .int .i64 0, .int .u64 0] 57)) (by simp))
            have HSRC : Hid (Src (wr.alloc (.cells #[.int .i64 10, .slice none 0 0, .int .i64 0, .int .u64 0] 57)) 4 (some ⟨wr.heap.size, 0, none⟩) 1 (reVs ⟨rtE 10, .slice none 0 0⟩)) := one_src wr 57 (reVs ⟨rtE 10, .slice none 0 0⟩) (reVs_one rfl) 4 rfl
            have HBD : Hid (i + 1 ≤ maxLen ∧ (i + 1) * 48 ≤ 140737488355328) := ⟨by unfold maxLen; have := HLEN.out; have := HN.out; omega, by have := HLEN.out; have := HN.out; omega⟩
            clear hb1
            go_wp2_with (at_builtin; (refine wpList_app2 _ (by rfl) _ _ _ (by rfl) 57 i0 _ 4 48 underlyingRets hi0 hz0 hz1 hz2 rfl (by omega) ao i cap (E.flatMap reVs) (by rfl) HROW.out (some ⟨wr.heap.size, 0, none⟩) 1 1 (reVs ⟨rtE 10, .slice none 0 0⟩) (by rfl) HSRC.out HBD.out.1 HBD.out.2 ?_); (intro ao3 cap3 w3 hA3; have HA3 := Lib.hid hA3; clear hA3))
            go_ret
            have hp := ReRow.push (e := ⟨rtE 10, .slice none 0 0⟩) (HRR.out.upd ((Upd.refl [] wr).alloc (.cells #[.int .i64 10, .slice none 0 0, .int .i64 0, .int .u64 0] 57))) (HU.out.trans ((Upd.refl [] wr).alloc _)) HA3.out (SlAt.nil _ _) (fun c hc => by cases hc)
            exact ⟨_, _, rfl, hp.1.at_, by rw [List.map_append, HTK.out, HPL.out]; rfl, HU1.out.trans hp.2⟩
    · have t2 : (d.r.e != 0) = true := by simp; omega
      have t3 : (d.r.e != 10) = true := by simp; omega
      have HPL : Hid (partsL d = [d.r]) := by unfold Hid partsL; rw [if_pos (.inr (by omega))]
      clear h1 h2
      go_wp2_with fail
      go_ret
      exact ⟨_, [⟨d.r, .slice lo n lc⟩], rfl, ⟨⟨some ⟨w1.heap.size, 0, none⟩, 1, rfl, by simp [maxLen], rfl, .inr ⟨w1.heap.size, 0, rfl, by simp, fun j u hj => by rw [Nat.zero_add]; exact (Blk.new w1 57 [.int .i64 d.r.e, .slice lo n lc, .int .i64 d.r.n, .int .u64 d.r.v]).cell (by simpa [reVs] using hj)⟩⟩, fun x hx => by simp only [List.mem_cons, List.not_mem_nil, or_false] at hx; subst hx; have := (HSL.out.upd HU1.out).upd ((Upd.refl [] w1).alloc (.cells #[.int .i64 d.r.e, .slice lo n lc, .int .i64 d.r.n, .int .u64 d.r.v] 57)); rw [HN.out] at this; simp only [HN.out]; exact this⟩, by rw [HPL.out]; rfl, HU1.out.trans ((Upd.refl [] w1).alloc _)⟩
  · have t1 : (d.c.op != 5) = true := by simp [h1]
    have HPL : Hid (partsL d = [d.r]) := by unfold Hid partsL; rw [if_pos (.inl h1)]
    clear h1
    go_wp2_with fail
    go_ret
    exact ⟨_, [⟨d.r, .slice lo n lc⟩], rfl, ⟨⟨some ⟨w1.heap.size, 0, none⟩, 1, rfl, by simp [maxLen], rfl, .inr ⟨w1.heap.size, 0, rfl, by simp, fun j u hj => by rw [Nat.zero_add]; exact (Blk.new w1 57 [.int .i64 d.r.e, .slice lo n lc, .int .i64 d.r.n, .int .u64 d.r.v]).cell (by simpa [reVs] using hj)⟩⟩, fun x hx => by simp only [List.mem_cons, List.not_mem_nil, or_false] at hx; subst hx; have := (HSL.out.upd HU1.out).upd ((Upd.refl [] w1).alloc (.cells #[.int .i64 d.r.e, .slice lo n lc, .int .i64 d.r.n, .int .u64 d.r.v] 57)); rw [HN.out] at this; simp only [HN.out]; exact this⟩, by rw [HPL.out]; rfl, HU1.out.trans ((Upd.refl [] w1).alloc _)⟩
end Go.Proofs.YtfeobcmcellcpaaGreat
