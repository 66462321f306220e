/-
  The walk of the document's Within: it answers what the program's does. No condition.
-/
import Derived.Test.YtmfndemnogpmcaaNc
set_option linter.unusedVariables false
set_option linter.unusedSimpArgs false
namespace Go.Proofs.Ytmfndemnogpmcaa
open Go.RowKit

theorem in_of {x : Pt} {d : Dn} (h : inP x d = true) : ofP x d = true := by unfold inP at h; simp only [Bool.and_eq_true] at h; exact h.1.1
theorem cnt_in : ∀ {h : List Dn} {x : Pt}, (∀ d ∈ h, ofP x d = true → inP x d = true) → h.countP (inP x) = h.countP (ofP x) := by
  intro h x hh
  refine List.countP_congr (fun d hd => ⟨fun hi => in_of hi, fun ho => hh d hd ho⟩)
theorem cnt_no : ∀ {h : List Dn} {x : Pt} {d : Dn}, d ∈ h → ofP x d = true → inP x d = false → h.countP (inP x) + 1 ≤ h.countP (ofP x) := by
  intro h
  induction h with
  | nil => intro x d hd; cases hd
  | cons y r ih =>
    intro x d hd h1 h2
    have hle : r.countP (inP x) ≤ r.countP (ofP x) := List.countP_mono_left (fun a _ ha => in_of ha)
    simp only [List.countP_cons]
    rcases List.mem_cons.1 hd with rfl | hd
    · rw [h1, h2]; simp; omega
    · have := ih hd h1 h2
      by_cases hy : inP x y = true
      · rw [hy, in_of hy]; simp; omega
      · by_cases ho : ofP x y = true
        · simp [hy, ho]; omega
        · simp [hy, ho]; omega
theorem okPt_no {h : List Dn} {x : Pt} {d : Dn} (hd : d ∈ h) (h1 : ofP x d = true) (h2 : inP x d = false) : okPt h x = false := by
  have := cnt_no hd h1 h2
  unfold okPt
  by_cases e : h.countP (ofP x) = 1
  · have : h.countP (inP x) ≠ 1 := by omega
    simp [this]
  · simp [e]
theorem okPt_all {h : List Dn} {x : Pt} (hh : ∀ (j : Nat) (d : Dn), h[j]? = some d → ofP x d = true → inP x d = true) : okPt h x = (h.countP (ofP x) == 1) := by
  have : h.countP (inP x) = h.countP (ofP x) := cnt_in (fun d hd ho => by
    obtain ⟨j, hj, e⟩ := List.getElem_of_mem hd
    exact hh j d (by rw [List.getElem?_eq_getElem hj, e]) ho)
  unfold okPt
  rw [this, Bool.and_self]
def CntOf (w : World) (h : List Dn) (x : Pt) (nv kv : Value) (wr : World) : Prop := ∃ k c : Nat, kv = .int .i64 k ∧ nv = .int .i64 c ∧ k ≤ h.length ∧ c = (h.take k).countP (ofP x) ∧ (∀ (j : Nat) (d : Dn), j < k → h[j]? = some d → ofP x d = true → inP x d = true) ∧ Upd [] w wr
theorem cntOf_step {h : List Dn} {k : Nat} {d : Dn} (x : Pt) (hd : h[k]? = some d) : (h.take (k + 1)).countP (ofP x) = (h.take k).countP (ofP x) + (if ofP x d = true then 1 else 0) := by
  rw [List.take_add_one, hd, List.countP_append]
  simp [List.countP_cons]
theorem CntOf.no {w w' : World} {h : List Dn} {x : Pt} {k c : Nat} {d : Dn} (hc : c = (h.take k).countP (ofP x)) (hall : ∀ (j : Nat) (d : Dn), j < k → h[j]? = some d → ofP x d = true → inP x d = true) (hd : h[k]? = some d) (hf : ofP x d = false) (hU : Upd [] w w') : CntOf w h x (.int .i64 c) (.int .i64 ((k + 1 : Nat) : Int)) w' :=
  ⟨k + 1, c, rfl, rfl, (List.getElem?_eq_some_iff.1 hd).1, by rw [cntOf_step x hd, hf, ← hc]; rfl, fun j y hj hy ho => by
    by_cases e : j = k
    · subst e; rw [hd] at hy; cases hy; rw [hf] at ho; cases ho
    · exact hall j y (by omega) hy ho, hU⟩
theorem CntOf.yes {w w' : World} {h : List Dn} {x : Pt} {k c : Nat} {d : Dn} (hc : c = (h.take k).countP (ofP x)) (hall : ∀ (j : Nat) (d : Dn), j < k → h[j]? = some d → ofP x d = true → inP x d = true) (hd : h[k]? = some d) (hf : ofP x d = true) (hi : inP x d = true) (hU : Upd [] w w') : CntOf w h x (.int .i64 ((c + 1 : Nat) : Int)) (.int .i64 ((k + 1 : Nat) : Int)) w' :=
  ⟨k + 1, c + 1, rfl, rfl, (List.getElem?_eq_some_iff.1 hd).1, by rw [cntOf_step x hd, hf, ← hc]; rfl, fun j y hj hy ho => by
    by_cases e : j = k
    · subst e; rw [hd] at hy; cases hy; exact hi
    · exact hall j y (by omega) hy ho, hU⟩

set_option maxRecDepth 100000 in
set_option maxHeartbeats 16000000 in
theorem dwithin_any {w : World} {v hv : Value} {l : List Pt} {h : List Dn} (hl : PtsAt' w v l) (hh : DnsAt w hv h) (hlen : l.length ≤ 1099511627776) (hds : ∀ d ∈ h, d.r.L.length ≤ 1099511627776) : Calls Try.prog 21 #[v, hv] w (RetUpd [] w (.bool (withinP l h))) := by
  have HL := Lib.hid hl
  have HH := Lib.hid hh
  obtain ⟨-, ao, cap, rfl, -⟩ := pts_at hl
  obtain ⟨hhm, aoh, caph, rfl, -⟩ := dns_at hh
  obtain ⟨n, hn⟩ : ∃ n, l.length = n := ⟨_, rfl⟩
  obtain ⟨m, hm⟩ : ∃ m, h.length = m := ⟨_, rfl⟩
  have HN := Lib.hid hn
  have HM := Lib.hid hm
  have HLEN := Lib.hid hlen
  have HDS := Lib.hid hds
  rw [hn] at hlen ⊢
  rw [hm] at hhm ⊢
  have bn : n ≤ 1099511627776 := hlen
  have bm : m ≤ 9223372036854775807 := hhm
  obtain ⟨R, hR⟩ : ∃ y, withinP l h = y := ⟨_, rfl⟩
  have HR := Lib.hid hR
  rw [hR]
  clear hl hh hn hm hlen hhm hds hR
  go_enter Try.func21, Try.ntmps21
  go_wp2_with fail
  go_loopw [5] (fun iv wr => AllAt w l (okPt h) iv wr) (fun iv _ => n - (intOf iv).toNat)
  case atStart => exact ⟨0, rfl, Nat.zero_le _, fun j x hj => by omega, Upd.refl _ _⟩
  case round =>
    obtain ⟨i, rfl, hi, hall, hU⟩ := hrel
    rw [HN.out] at hi
    have HU := Lib.hid hU
    have HALL := Lib.hid hall
    clear hU hall
    by_cases hlt : i < n
    · have t1 : decide (i < n) = true := by simp [hlt]
      have b1 : (i : Int) < (n : Int) := by omega
      obtain ⟨x, hx⟩ : ∃ x, l[i]? = some x := ⟨_, List.getElem?_eq_getElem (by rw [HN.out]; exact hlt)⟩
      have HX := Lib.hid hx
      have fin : i + 1 ≤ 9223372036854775807 := by omega
      clear hx
      obtain ⟨wb, ewb⟩ : ∃ y : World, y = wr := ⟨_, rfl⟩
      subst ewb
      go_wp2_with fail
      go_loopw [6, 7] (fun nv kv wr => CntOf wb h x nv kv wr) (fun _ kv _ => m - (intOf kv).toNat)
      case atStart => exact ⟨0, 0, rfl, rfl, Nat.zero_le _, by simp, fun j d hj => by omega, Upd.refl _ _⟩
      case round =>
        obtain ⟨k, c, rfl, rfl, hk, hc, halk, hUk⟩ := hrel
        rw [HM.out] at hk
        have hck : c ≤ k := by rw [hc]; exact Nat.le_trans List.countP_le_length (by rw [List.length_take]; omega)
        have HC := Lib.hid hc
        have HALK := Lib.hid halk
        have HUK := Lib.hid hUk
        have HU2 := Lib.hid (HU.out.trans hUk)
        clear hc halk hUk
        by_cases hltk : k < m
        · have t2 : decide (k < m) = true := by simp [hltk]
          have b2 : (k : Int) < (m : Int) := by omega
          obtain ⟨d, hd⟩ : ∃ d, h[k]? = some d := ⟨_, List.getElem?_eq_getElem (by rw [HM.out]; exact hltk)⟩
          have HD := Lib.hid hd
          obtain ⟨-, _, _, e1, hat⟩ := dns_at (HH.out.upd HU2.out)
          cases e1
          obtain ⟨g, o, rfl, lg, hdn, y0, y1, y2, y3, y4, y5, y6, y7, y8, y9, y10, y11⟩ := hat k d hd
          obtain ⟨-, _, _, e2, hap⟩ := pts_at (HL.out.upd HU2.out)
          cases e2
          obtain ⟨gx, ox, rfl, lx, hpt, x0, x1, x2, x3, x4, x5, x6⟩ := hap i x HX.out
          have fin2 : k + 1 ≤ 9223372036854775807 := by omega
          have fin3 : c + 1 ≤ 9223372036854775807 := by omega
          clear hat hap hdn hpt hd y2 y3 y4 y5 y6 y7 y8 y9 x3 x4 x5 x6
          by_cases h1 : d.who = x.who
          · have t3 : (d.who == x.who) = true := by simp [h1]
            by_cases h2 : d.place = x.place
            · have t4 : (d.place == x.place) = true := by simp [h2]
              have HOF : Hid (ofP x d = true) := by unfold Hid ofP; simp [h1, h2]
              by_cases h3 : x.step < d.frm
              · have t5 : decide (x.step < d.frm) = true := by simp [h3]
                have HIN : Hid (inP x d = false) := by unfold Hid inP; rw [show decide (d.frm ≤ x.step) = false by simp; omega]; simp
                clear h1 h2 h3
                go_wp2_with fail
                go_quiet (fail)
                obtain ⟨wq, hwq⟩ : ∃ y, wr.drewN nq = y := ⟨_, rfl⟩
                have uq : Upd [] wr wq := by rw [← hwq]; exact (Upd.refl [] wr).drewN _
                have HUQ := Lib.hid uq
                have x0 := (uq.cell lx (by simp) (ox + i * 7)).trans x0
                have y10 := (uq.cell lg (by simp) (o + k * 12 + 10)).trans y10
                have y11 := (uq.cell lg (by simp) (o + k * 12 + 11)).trans y11
                have lx := Nat.lt_of_lt_of_le lx uq.size
                have lg := Nat.lt_of_lt_of_le lg uq.size
                rw [hwq]
                clear uq hwq x1 x2 y0 y1
                go_wp2_with fail
                go_quiet (fail)
                go_wp2_with fail
                have hf : R = false := by rw [← HR.out]; unfold withinP; rw [all_no HX.out (okPt_no (List.mem_of_getElem? HD.out) HOF.out HIN.out)]; rfl
                subst hf
                go_ret
                exact ⟨rfl, HU.out.trans (HUK.out.trans (HUQ.out.trans ((Upd.refl [] wq).drewN _)))⟩
              · have t5 : decide (x.step < d.frm) = false := by simp; omega
                by_cases h4 : d.til = -1
                · have t6 : (d.til != -1) = false := by simp [h4]
                  have HIN : Hid (inP x d = true) := by unfold Hid inP; rw [HOF.out, show decide (d.frm ≤ x.step) = true by simp; omega, h4]; simp
                  clear h1 h2 h3 h4
                  go_wp2_with fail
                  go_quiet (fail)
                  obtain ⟨wq, hwq⟩ : ∃ y, wr.drewN nq = y := ⟨_, rfl⟩
                  have uq : Upd [] wr wq := by rw [← hwq]; exact (Upd.refl [] wr).drewN _
                  have HUQ := Lib.hid uq
                  have x0 := (uq.cell lx (by simp) (ox + i * 7)).trans x0
                  have y10 := (uq.cell lg (by simp) (o + k * 12 + 10)).trans y10
                  have y11 := (uq.cell lg (by simp) (o + k * 12 + 11)).trans y11
                  have lx := Nat.lt_of_lt_of_le lx uq.size
                  have lg := Nat.lt_of_lt_of_le lg uq.size
                  rw [hwq]
                  clear uq hwq x1 x2 y0 y1
                  go_wp2_with fail
                  go_quiet (fail)
                  go_wp2_with fail
                  exact ⟨CntOf.yes HC.out HALK.out HD.out HOF.out HIN.out (HUK.out.trans (HUQ.out.trans ((Upd.refl [] wq).drewN _))), by first | (simp [intOf]; done) | (simp [intOf]; omega)⟩
                · have t6 : (d.til != -1) = true := by simp [h4]
                  by_cases h5 : d.til < x.step
                  · have t7 : decide (d.til < x.step) = true := by simp [h5]
                    have HIN : Hid (inP x d = false) := by unfold Hid inP; rw [show decide (d.til = -1) = false by simp [h4], show decide (x.step ≤ d.til) = false by simp; omega]; simp
                    clear h1 h2 h3 h4 h5
                    go_wp2_with fail
                    go_quiet (fail)
                    obtain ⟨wq, hwq⟩ : ∃ y, wr.drewN nq = y := ⟨_, rfl⟩
                    have uq : Upd [] wr wq := by rw [← hwq]; exact (Upd.refl [] wr).drewN _
                    have HUQ := Lib.hid uq
                    have x0 := (uq.cell lx (by simp) (ox + i * 7)).trans x0
                    have y10 := (uq.cell lg (by simp) (o + k * 12 + 10)).trans y10
                    have y11 := (uq.cell lg (by simp) (o + k * 12 + 11)).trans y11
                    have lx := Nat.lt_of_lt_of_le lx uq.size
                    have lg := Nat.lt_of_lt_of_le lg uq.size
                    rw [hwq]
                    clear uq hwq x1 x2 y0 y1
                    go_wp2_with fail
                    go_quiet (fail)
                    go_wp2_with fail
                    have hf : R = false := by rw [← HR.out]; unfold withinP; rw [all_no HX.out (okPt_no (List.mem_of_getElem? HD.out) HOF.out HIN.out)]; rfl
                    subst hf
                    go_ret
                    exact ⟨rfl, HU.out.trans (HUK.out.trans (HUQ.out.trans ((Upd.refl [] wq).drewN _)))⟩
                  · have t7 : decide (d.til < x.step) = false := by simp; omega
                    have HIN : Hid (inP x d = true) := by unfold Hid inP; rw [HOF.out, show decide (d.frm ≤ x.step) = true by simp; omega, show decide (x.step ≤ d.til) = true by simp; omega]; simp
                    clear h1 h2 h3 h4 h5
                    go_wp2_with fail
                    go_quiet (fail)
                    obtain ⟨wq, hwq⟩ : ∃ y, wr.drewN nq = y := ⟨_, rfl⟩
                    have uq : Upd [] wr wq := by rw [← hwq]; exact (Upd.refl [] wr).drewN _
                    have HUQ := Lib.hid uq
                    have x0 := (uq.cell lx (by simp) (ox + i * 7)).trans x0
                    have y10 := (uq.cell lg (by simp) (o + k * 12 + 10)).trans y10
                    have y11 := (uq.cell lg (by simp) (o + k * 12 + 11)).trans y11
                    have lx := Nat.lt_of_lt_of_le lx uq.size
                    have lg := Nat.lt_of_lt_of_le lg uq.size
                    rw [hwq]
                    clear uq hwq x1 x2 y0 y1
                    go_wp2_with fail
                    go_quiet (fail)
                    go_wp2_with fail
                    exact ⟨CntOf.yes HC.out HALK.out HD.out HOF.out HIN.out (HUK.out.trans (HUQ.out.trans ((Upd.refl [] wq).drewN _))), by first | (simp [intOf]; done) | (simp [intOf]; omega)⟩
            · have t4 : (d.place == x.place) = false := by simp [h2]
              have HOF : Hid (ofP x d = false) := by unfold Hid ofP; simp [Ne.symm h2]
              clear h2
              clear h1
              go_wp2_with fail
              go_quiet (fail)
              go_wp2_with fail
              exact ⟨CntOf.no HC.out HALK.out HD.out HOF.out (HUK.out.trans ((Upd.refl [] wr).drewN _)), by first | (simp [intOf]; done) | (simp [intOf]; omega)⟩
          · have t3 : (d.who == x.who) = false := by simp [h1]
            have HOF : Hid (ofP x d = false) := by unfold Hid ofP; simp [Ne.symm h1]
            clear h1
            go_wp2_with fail
            go_quiet (fail)
            go_wp2_with fail
            exact ⟨CntOf.no HC.out HALK.out HD.out HOF.out (HUK.out.trans ((Upd.refl [] wr).drewN _)), by first | (simp [intOf]; done) | (simp [intOf]; omega)⟩
        · have t2 : decide (k < m) = false := by simp; omega
          have HCA : Hid (c = h.countP (ofP x)) := by unfold Hid; rw [HC.out, List.take_of_length_le (by rw [HM.out]; omega)]
          have HOK : Hid (okPt h x = (c == 1)) := by unfold Hid; rw [HCA.out]; exact okPt_all (fun j d hd ho => HALK.out j d (by have := (List.getElem?_eq_some_iff.1 hd).1; rw [HM.out] at this; omega) hd ho)
          by_cases h1 : c = 1
          · have t3 : (c != 1) = false := by simp [h1]
            have t4 : ((c : Int) != 1) = false := by simp [h1]
            have HO2 : Hid (okPt h x = true) := by unfold Hid; rw [HOK.out, h1]; rfl
            clear h1
            go_wp2_with fail
            exact ⟨AllAt.next (by rw [HN.out]; exact hlt) HALL.out HX.out HO2.out HU2.out, by first | (simp [intOf]; done) | (simp [intOf]; omega)⟩
          · have t3 : (c != 1) = true := by simp [h1]
            have t4 : ((c : Int) != 1) = true := by simp; omega
            have hf : R = false := by rw [← HR.out]; unfold withinP; rw [all_no HX.out (by rw [HOK.out]; simp [h1])]; rfl
            subst hf
            clear h1
            go_wp2
            go_ret
            exact ⟨rfl, HU2.out⟩
    · have t1 : decide (i < n) = false := by simp; omega
      have HA1 : Hid (l.all (okPt h) = true) := all_yes (fun j x hx => HALL.out j x (by have := (List.getElem?_eq_some_iff.1 hx).1; rw [HN.out] at this; omega) hx)
      clear HALL hlt hi
      obtain ⟨wb, ewb⟩ : ∃ y : World, y = wr := ⟨_, rfl⟩
      subst ewb
      go_wp2_with fail
      go_loopw [8] (fun iv wr => AllAt wb h (okDn l) iv wr) (fun iv _ => m - (intOf iv).toNat)
      case atStart => exact ⟨0, rfl, Nat.zero_le _, fun j x hj => by omega, Upd.refl _ _⟩
      case round =>
        obtain ⟨k, rfl, hk, hall, hU2⟩ := hrel
        rw [HM.out] at hk
        have HU2 := Lib.hid (HU.out.trans hU2)
        have HUB := Lib.hid hU2
        have HALL := Lib.hid hall
        clear hU2 hall
        by_cases hltk : k < m
        · have t2 : decide (k < m) = true := by simp [hltk]
          have b2 : (k : Int) < (m : Int) := by omega
          obtain ⟨d, hd⟩ : ∃ d, h[k]? = some d := ⟨_, List.getElem?_eq_getElem (by rw [HM.out]; exact hltk)⟩
          have HD := Lib.hid hd
          obtain ⟨-, _, _, e1, hat⟩ := dns_at (HH.out.upd HU2.out)
          cases e1
          obtain ⟨g, o, rfl, lg, hdn, y0, y1, y2, y3, y4, y5, y6, y7, y8, y9, y10, y11⟩ := hat k d hd
          have hdw := HH.out.2 d (List.mem_of_getElem? hd)
          have HDW := Lib.hid hdw
          obtain ⟨do_, dc, hdlv, -⟩ := hdw
          rw [hdlv] at y7
          have fin2 : k + 1 ≤ 9223372036854775807 := by omega
          have HOFC : Hid (∀ w', Upd [] wr w' → Calls Try.prog 37 #[.slice ao n cap, .agg #[.int .i64 d.who, .int .i64 d.place, .int .i64 d.c.op, .int .i64 d.c.flow, .int .i64 d.c.a, .int .i64 d.c.b, .int .i64 d.r.e, .slice do_ d.r.L.length dc, .int .i64 d.r.n, .int .u64 d.r.v, .int .i64 d.frm, .int .i64 d.til]] w' (DofTo w' l d)) := fun w' hu => by
            have := dof_any d (HL.out.upd (HU2.out.trans hu)) HLEN.out
            unfold dnV at this
            rw [hdlv, HN.out] at this
            exact this
          have HTOC : Hid (∀ (tv : Value) w', Upd [] wr w' → PtsAt' w' tv (ofL l d) → Calls Try.prog 42 #[tv, .agg #[.int .i64 d.who, .int .i64 d.place, .int .i64 d.c.op, .int .i64 d.c.flow, .int .i64 d.c.a, .int .i64 d.c.b, .int .i64 d.r.e, .slice do_ d.r.L.length dc, .int .i64 d.r.n, .int .u64 d.r.v, .int .i64 d.frm, .int .i64 d.til]] w' (RetUpd [] w' (.bool (eqRt (toldR l d) (partsL d))))) := fun tv w' hu hp => by
            have := dtold_any d hp (HDW.out.upd (HU2.out.trans hu)) (HDS.out d (List.mem_of_getElem? hd))
            unfold dnV at this
            rw [hdlv] at this
            exact this
          clear hat hdn hdlv hd
          by_cases ht : d.til = -1
          · have t3 : (d.til != -1) = false := by simp [ht]
            have HOKD : Hid (okDn l d = true) := by unfold Hid okDn; simp [ht]
            clear ht
            go_wp2_with fail
            go_quiet (fail)
            go_wp2_with fail
            exact ⟨AllAt.next (by rw [HM.out]; exact hltk) HALL.out HD.out HOKD.out (HUB.out.trans ((Upd.refl [] wr).drewN _)), by first | (simp [intOf]; done) | (simp [intOf]; omega)⟩
          · have t3 : (d.til != -1) = true := by simp [ht]
            have HOKD : Hid (okDn l d = eqRt (toldR l d) (partsL d)) := by unfold Hid okDn; simp [ht]
            obtain ⟨sm, hsm⟩ : ∃ y, eqRt (toldR l d) (partsL d) = y := ⟨_, rfl⟩
            rw [hsm] at HTOC
            have HSM := Lib.hid hsm
            clear ht hsm
            go_wp2_with fail
            go_region_held3 (fun w' => Upd [] wr w' ∧ ∀ (b o : Nat), b < wr.heap.size → b ∉ ([] : List Nat) → w'.cell? ⟨b, o, none⟩ = wr.cell? ⟨b, o, none⟩)
              (first | exact Held.init _ _ | exact Held.step (by assumption) hB) (first | (go_at_call 37; refine (HOFC.out _ (Upd.refl [] wr).drew).mono ?_; rintro e w' ⟨ao5, cap5, rfl, hP5, hB⟩; have HP5 := Lib.hid hP5; have HB5 := Lib.hid hB; clear hP5) | (go_at_call 42; refine (HTOC.out _ _ ((Upd.refl [] wr).drew.trans HB5.out) HP5.out).mono ?_; rintro e w' ⟨rfl, hB⟩))
            all_goals
              have HU4 := Lib.hid ((Upd.refl [] wr).drew.trans (HB5.out.trans hB))
              clear hB
              cases sm with
              | true =>
                go_wp2_with fail
                exact ⟨AllAt.next (by rw [HM.out]; exact hltk) HALL.out HD.out (HOKD.out.trans HSM.out) (HUB.out.trans HU4.out), by first | (simp [intOf]; done) | (simp [intOf]; omega)⟩
              | false =>
                have hf : R = false := by rw [← HR.out]; unfold withinP; rw [all_no HD.out (HOKD.out.trans HSM.out), Bool.and_false]
                subst hf
                go_wp2
                go_ret
                exact ⟨rfl, HU2.out.trans HU4.out⟩
        · have t2 : decide (k < m) = false := by simp; omega
          have hT : R = true := by rw [← HR.out]; unfold withinP; rw [HA1.out, all_yes (fun j x hx => HALL.out j x (by have := (List.getElem?_eq_some_iff.1 hx).1; rw [HM.out] at this; omega) hx)]; rfl
          subst hT
          go_wp2
          go_ret
          exact ⟨rfl, HU2.out⟩
end Go.Proofs.Ytmfndemnogpmcaa
