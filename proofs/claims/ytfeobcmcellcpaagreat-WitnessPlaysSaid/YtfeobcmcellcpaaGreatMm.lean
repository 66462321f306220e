/-
  The walk of the program's Within. No condition.
-/
import Derived.Test.YtfeobcmcellcpaaGreatPMJ
import Derived.Test.YtfeobcmcellcpaaGreatMi
set_option linter.unusedVariables false
set_option linter.unusedSimpArgs false
namespace Go.Proofs.YtfeobcmcellcpaaGreat
open Go.RowKit

def okPt (h : List Dn) (x : Pt) : Bool := (h.countP (ofP x) == 1) && (h.countP (inP x) == 1)
def toldR (l : List Pt) (d : Dn) : List Rt := (l.filter (fun x => ofP x d)).map (·.r)
def okDn (l : List Pt) (d : Dn) : Bool := decide (d.til = -1) || eqRt (toldR l d) (partsL d)
def withinP (l : List Pt) (h : List Dn) : Bool := l.all (okPt h) && h.all (okDn l)
theorem all_no {α : Type} {l : List α} {f : α → Bool} {i : Nat} {x : α} (hx : l[i]? = some x) (h : f x = false) : l.all f = false := by
  cases ha : l.all f with
  | false => rfl
  | true => rw [List.all_eq_true] at ha; have := ha x (List.mem_of_getElem? hx); rw [h] at this; cases this
theorem all_yes {α : Type} {l : List α} {f : α → Bool} (h : ∀ (i : Nat) (x : α), l[i]? = some x → f x = true) : l.all f = true := by
  rw [List.all_eq_true]
  intro x hx
  obtain ⟨i, hi, e⟩ := List.getElem_of_mem hx
  exact h i x (by rw [List.getElem?_eq_getElem hi, e])
def AllAt {α : Type} (w : World) (l : List α) (f : α → Bool) (iv : Value) (wr : World) : Prop := ∃ i : Nat, iv = .int .i64 i ∧ i ≤ l.length ∧ (∀ (j : Nat) (x : α), j < i → l[j]? = some x → f x = true) ∧ Upd [] w wr
theorem AllAt.next {α : Type} {w w' : World} {l : List α} {f : α → Bool} {i : Nat} {x : α} (hi : i < l.length) (h : ∀ (j : Nat) (x : α), j < i → l[j]? = some x → f x = true) (hx : l[i]? = some x) (hf : f x = true) (hU : Upd [] w w') : AllAt w l f (.int .i64 ((i + 1 : Nat) : Int)) w' :=
  ⟨i + 1, rfl, hi, fun j y hj hy => by
    by_cases e : j = i
    · subst e; rw [hx] at hy; cases hy; exact hf
    · exact h j y (by omega) hy, hU⟩
def ToldAt (w : World) (l : List Pt) (d : Dn) (tv iv : Value) (wr : World) : Prop := ∃ (i k : Nat) (ao : Option Addr) (cap : Nat) (E : List Re), iv = .int .i64 i ∧ tv = .slice ao k cap ∧ i ≤ l.length ∧ k ≤ i ∧ ReRow w wr ao k cap E ∧ E.map (·.r) = toldR (l.take i) d ∧ Upd [] w wr
theorem told_step {l : List Pt} {d : Dn} {i : Nat} {x : Pt} (hx : l[i]? = some x) : toldR (l.take (i + 1)) d = toldR (l.take i) d ++ (if ofP x d = true then [x.r] else []) := by
  unfold toldR
  rw [List.take_add_one, hx, List.filter_append, List.map_append]
  congr 1
  by_cases h : ofP x d = true <;> simp [h]

set_option maxRecDepth 100000 in
set_option maxHeartbeats 8000000 in
theorem wwithin_any {w : World} {v hv : Value} {l : List Pt} {h : List Dn} (hl : PtsAt' w v l) (hh : DnsAt w hv h) (hlen : l.length ≤ 1099511627776) (hds : ∀ d ∈ h, d.r.L.length ≤ 1099511627776) : Calls Tryz.prog 62 #[v, hv] w (RetUpd [] w (.bool (withinP l h))) := by
  have HL := Lib.hid hl
  have HH := Lib.hid hh
  obtain ⟨-, ao, cap, rfl, -⟩ := pts_at hl
  obtain ⟨hhm, aoh, caph, rfl, -⟩ := dns_at hh
  obtain ⟨n, hn⟩ : ∃ n, l.length = n := ⟨_, rfl⟩
  obtain ⟨m, hm⟩ : ∃ m, h.length = m := ⟨_, rfl⟩
  have HN := Lib.hid hn
  have HM := Lib.hid hm
  have HLEN := Lib.hid hlen
  have HDS := Lib.hid hds
  rw [hn] at hlen ⊢
  rw [hm] at hhm ⊢
  have bn : n ≤ 1099511627776 := hlen
  have bm : m ≤ 9223372036854775807 := hhm
  obtain ⟨R, hR⟩ : ∃ y, withinP l h = y := ⟨_, rfl⟩
  have HR := Lib.hid hR
  rw [hR]
  clear hl hh hn hm hlen hhm hds hR
  go_enter Tryz.func62, Tryz.ntmps62
  go_wp2_with fail
  go_loopw [14] (fun iv wr => AllAt w l (okPt h) iv wr) (fun iv _ => n - (intOf iv).toNat)
  case atStart => exact ⟨0, rfl, Nat.zero_le _, fun j x hj => by omega, Upd.refl _ _⟩
  case round =>
    obtain ⟨i, rfl, hi, hall, hU⟩ := hrel
    rw [HN.out] at hi
    have HU := Lib.hid hU
    have HALL := Lib.hid hall
    clear hU hall
    by_cases hlt : i < n
    · have t1 : decide (i < n) = true := by simp [hlt]
      have b1 : (i : Int) < (n : Int) := by omega
      obtain ⟨x, hx⟩ : ∃ x, l[i]? = some x := ⟨_, List.getElem?_eq_getElem (by rw [HN.out]; exact hlt)⟩
      obtain ⟨-, _, _, e1, hat⟩ := pts_at (HL.out.upd HU.out)
      cases e1
      obtain ⟨gx, ox, rfl, lx, hpt, x0, x1, x2, x3, x4, x5, x6⟩ := hat i x hx
      obtain ⟨lo, lc, hlv, -⟩ := hpt
      rw [hlv] at x4
      obtain ⟨c1, hc1⟩ : ∃ y, h.countP (ofP x) = y := ⟨_, rfl⟩
      obtain ⟨c2, hc2⟩ : ∃ y, h.countP (inP x) = y := ⟨_, rfl⟩
      have HC1 : Hid (∀ w', Upd [] w w' → Calls Tryz.prog 97 #[.agg #[.int .i64 x.step, .int .i64 x.who, .int .i64 x.place, .int .i64 x.r.e, .slice lo x.r.L.length lc, .int .i64 x.r.n, .int .u64 x.r.v], .slice aoh m caph, .func (.func 98) #[] #[]] w' (RetUpd [] w' (.int .i64 (c1 : Nat)))) := fun w' hu => by
        have := wcount_of (x := x) (HH.out.upd hu) ⟨lo, lc, hlv⟩
        unfold ptV at this
        rw [hlv, hc1, HM.out] at this
        exact this
      have HC2 : Hid (∀ w', Upd [] w w' → Calls Tryz.prog 97 #[.agg #[.int .i64 x.step, .int .i64 x.who, .int .i64 x.place, .int .i64 x.r.e, .slice lo x.r.L.length lc, .int .i64 x.r.n, .int .u64 x.r.v], .slice aoh m caph, .func (.func 99) #[] #[]] w' (RetUpd [] w' (.int .i64 (c2 : Nat)))) := fun w' hu => by
        have := wcount_in (x := x) (HH.out.upd hu) ⟨lo, lc, hlv⟩
        unfold ptV at this
        rw [hlv, hc2, HM.out] at this
        exact this
      have hok : okPt h x = ((c1 == 1) && (c2 == 1)) := by unfold okPt; rw [hc1, hc2]
      have HOK := Lib.hid hok
      have HX := Lib.hid hx
      have fin : i + 1 ≤ 9223372036854775807 := by omega
      obtain ⟨wx, hwx⟩ : ∃ y, wr.alloc (.cells #[.int .i64 x.step, .int .i64 x.who, .int .i64 x.place, .int .i64 x.r.e, .slice lo x.r.L.length lc, .int .i64 x.r.n, .int .u64 x.r.v] 59) = y := ⟨_, rfl⟩
      have hux : Upd [] wr wx := by rw [← hwx]; exact (Upd.refl [] wr).alloc _
      have hbx : Blk wx wr.heap.size 59 [.int .i64 x.step, .int .i64 x.who, .int .i64 x.place, .int .i64 x.r.e, .slice lo x.r.L.length lc, .int .i64 x.r.n, .int .u64 x.r.v] := by rw [← hwx]; exact Blk.new wr 59 [.int .i64 x.step, .int .i64 x.who, .int .i64 x.place, .int .i64 x.r.e, .slice lo x.r.L.length lc, .int .i64 x.r.n, .int .u64 x.r.v]
      have HUX : Hid (Upd [] w wx) := HU.out.trans hux
      have HBX := Lib.hid hbx
      have y0 := hbx.cell (j := 0) rfl
      have y1 := hbx.cell (j := 1) rfl
      have y2 := hbx.cell (j := 2) rfl
      have y3 := hbx.cell (j := 3) rfl
      have y4 := hbx.cell (j := 4) rfl
      have y5 := hbx.cell (j := 5) rfl
      have y6 := hbx.cell (j := 6) rfl
      have ly := hbx.lt
      clear hat hlv hc1 hc2 hok hx hux hbx
      go_wp2_with fail
      refine (HC1.out _ HUX.out).mono ?_
      rintro e w3 ⟨rfl, hu3⟩
      have HU3 := Lib.hid (HUX.out.trans hu3)
      have hb3 := HBX.out.upd hu3 (by simp)
      have y0 := hb3.cell (j := 0) rfl
      have y1 := hb3.cell (j := 1) rfl
      have y2 := hb3.cell (j := 2) rfl
      have y3 := hb3.cell (j := 3) rfl
      have y4 := hb3.cell (j := 4) rfl
      have y5 := hb3.cell (j := 5) rfl
      have y6 := hb3.cell (j := 6) rfl
      have ly := hb3.lt
      clear hu3 hb3 hwx
      by_cases g1 : c1 = 1
      · subst g1
        go_wp2_with fail
        refine (HC2.out _ HU3.out).mono ?_
        rintro e w4 ⟨rfl, hu4⟩
        have HU4 := Lib.hid (HU3.out.trans hu4)
        clear hu4
        by_cases g2 : c2 = 1
        · subst g2
          go_wp2_with fail
          exact ⟨AllAt.next (by rw [HN.out]; exact hlt) HALL.out HX.out (by rw [HOK.out]; rfl) HU4.out, by first | (simp [intOf]; done) | (simp [intOf]; omega)⟩
        · have t2 : (c2 != 1) = true := by simp [g2]
          have t3 : ((c2 : Int) != 1) = true := by simp; omega
          have hf : R = false := by rw [← HR.out]; unfold withinP; rw [all_no HX.out (by rw [HOK.out]; simp [g2])]; rfl
          subst hf
          go_wp2
          go_ret
          exact ⟨rfl, HU4.out⟩
      · have t2 : (c1 != 1) = true := by simp [g1]
        have t3 : ((c1 : Int) != 1) = true := by simp; omega
        have hf : R = false := by rw [← HR.out]; unfold withinP; rw [all_no HX.out (by rw [HOK.out]; simp [g1])]; rfl
        subst hf
        go_wp2
        go_ret
        exact ⟨rfl, HU3.out⟩
    · have t1 : decide (i < n) = false := by simp; omega
      have HA1 : Hid (l.all (okPt h) = true) := all_yes (fun j x hx => HALL.out j x (by have := (List.getElem?_eq_some_iff.1 hx).1; rw [HN.out] at this; omega) hx)
      clear HALL hlt hi
      obtain ⟨wb, ewb⟩ : ∃ y : World, y = wr := ⟨_, rfl⟩
      subst ewb
      go_wp2_with fail
      go_loopw [31] (fun iv wr => AllAt wb h (okDn l) iv wr) (fun iv _ => m - (intOf iv).toNat)
      case atStart => exact ⟨0, rfl, Nat.zero_le _, fun j x hj => by omega, Upd.refl _ _⟩
      case round =>
        obtain ⟨k, rfl, hk, hall, hU2⟩ := hrel
        rw [HM.out] at hk
        have HU2 := Lib.hid (HU.out.trans hU2)
        have HUB := Lib.hid hU2
        have HALL := Lib.hid hall
        clear hU2 hall
        by_cases hltk : k < m
        · have t2 : decide (k < m) = true := by simp [hltk]
          have b2 : (k : Int) < (m : Int) := by omega
          obtain ⟨d, hd⟩ : ∃ d, h[k]? = some d := ⟨_, List.getElem?_eq_getElem (by rw [HM.out]; exact hltk)⟩
          obtain ⟨-, _, _, e1, hat⟩ := dns_at (HH.out.upd HU2.out)
          cases e1
          obtain ⟨g, o, rfl, lg, hdn, y0, y1, y2, y3, y4, y5, y6, y7, y8, y9, y10, y11⟩ := hat k d hd
          have hdw := HH.out.2 d (List.mem_of_getElem? hd)
          have HDW := Lib.hid hdw
          obtain ⟨do_, dc, hdlv, -⟩ := hdw
          rw [hdlv] at y7
          have HPT : Hid (∀ w', Upd [] w w' → Calls Tryz.prog 101 #[.agg #[.int .i64 d.who, .int .i64 d.place, .int .i64 d.c.op, .int .i64 d.c.flow, .int .i64 d.c.a, .int .i64 d.c.b, .int .i64 d.r.e, .slice do_ d.r.L.length dc, .int .i64 d.r.n, .int .u64 d.r.v, .int .i64 d.frm, .int .i64 d.til]] w' (PartsTo w' d)) := fun w' hu => by
            have := wparts_any d (HDW.out.upd hu) (HDS.out d (List.mem_of_getElem? hd))
            unfold dnV at this
            rw [hdlv] at this
            exact this
          have HOF : Hid (∀ (x : Pt) w', Calls Tryz.prog 98 #[ptV x, .agg #[.int .i64 d.who, .int .i64 d.place, .int .i64 d.c.op, .int .i64 d.c.flow, .int .i64 d.c.a, .int .i64 d.c.b, .int .i64 d.r.e, .slice do_ d.r.L.length dc, .int .i64 d.r.n, .int .u64 d.r.v, .int .i64 d.frm, .int .i64 d.til]] w' (RetUpd [] w' (.bool (ofP x d)))) := fun x w' => by
            have := wof_any x d w'
            unfold dnV at this
            rw [hdlv] at this
            exact this
          have HD := Lib.hid hd
          have fin2 : k + 1 ≤ 9223372036854775807 := by omega
          obtain ⟨wd, hwd⟩ : ∃ y, wr.alloc (.cells #[.int .i64 d.who, .int .i64 d.place, .int .i64 d.c.op, .int .i64 d.c.flow, .int .i64 d.c.a, .int .i64 d.c.b, .int .i64 d.r.e, .slice do_ d.r.L.length dc, .int .i64 d.r.n, .int .u64 d.r.v, .int .i64 d.frm, .int .i64 d.til] 115) = y := ⟨_, rfl⟩
          have hud : Upd [] wr wd := by rw [← hwd]; exact (Upd.refl [] wr).alloc _
          have hbd : Blk wd wr.heap.size 115 [.int .i64 d.who, .int .i64 d.place, .int .i64 d.c.op, .int .i64 d.c.flow, .int .i64 d.c.a, .int .i64 d.c.b, .int .i64 d.r.e, .slice do_ d.r.L.length dc, .int .i64 d.r.n, .int .u64 d.r.v, .int .i64 d.frm, .int .i64 d.til] := by rw [← hwd]; exact Blk.new wr 115 [.int .i64 d.who, .int .i64 d.place, .int .i64 d.c.op, .int .i64 d.c.flow, .int .i64 d.c.a, .int .i64 d.c.b, .int .i64 d.r.e, .slice do_ d.r.L.length dc, .int .i64 d.r.n, .int .u64 d.r.v, .int .i64 d.frm, .int .i64 d.til]
          have HUD : Hid (Upd [] w wd) := HU2.out.trans hud
          have HUBD : Hid (Upd [] wb wd) := HUB.out.trans hud
          have HBD := Lib.hid hbd
          have u11 := hbd.cell (j := 11) rfl
          have lu := hbd.lt
          clear hat hdn hdlv hd hud hbd
          by_cases ht : d.til = -1
          · have t3 : (d.til == -1) = true := by simp [ht]
            have HOKD : Hid (okDn l d = true) := by unfold Hid okDn; simp [ht]
            clear ht
            go_wp2_with fail
            exact ⟨AllAt.next (by rw [HM.out]; exact hltk) HALL.out HD.out HOKD.out HUBD.out, by first | (simp [intOf]; done) | (simp [intOf]; omega)⟩
          · have t3 : (d.til == -1) = false := by simp [ht]
            have HOKD : Hid (okDn l d = eqRt (toldR l d) (partsL d)) := by unfold Hid okDn; simp [ht]
            clear ht
            go_wp2_with fail
            obtain ⟨bd, hbd2⟩ : ∃ y, wr.heap.size = y := ⟨_, rfl⟩
            have HBD2 := HBD.out
            rw [hbd2] at HBD2
            have HBD := Lib.hid HBD2
            rw [hbd2]
            clear u11 lu hwd hbd2 HBD2
            go_loopw [9, 40] (fun tv iv wr => ToldAt wd l d tv iv wr) (fun _ iv _ => n - (intOf iv).toNat)
            case atStart => exact ⟨0, 0, none, 0, [], rfl, rfl, Nat.zero_le _, Nat.le_refl _, ReRow.nil _ _, rfl, Upd.refl _ _⟩
            case round =>
              obtain ⟨q, kk, ao9, cap9, E, rfl, rfl, hq, hkq, hrr, hmap, hU3⟩ := hrel
              rw [HN.out] at hq
              have HU3 := Lib.hid (HUD.out.trans hU3)
              have HU3D := Lib.hid hU3
              have HRR := Lib.hid hrr
              have HMAP := Lib.hid hmap
              have HB9 := Lib.hid (HBD.out.upd hU3 (by simp))
              clear hU3 hrr hmap
              by_cases hltq : q < n
              · have t4 : decide (q < n) = true := by simp [hltq]
                have b4 : (q : Int) < (n : Int) := by omega
                obtain ⟨x, hx⟩ : ∃ x, l[q]? = some x := ⟨_, List.getElem?_eq_getElem (by rw [HN.out]; exact hltq)⟩
                obtain ⟨-, _, _, e1, hat⟩ := pts_at (HL.out.upd HU3.out)
                cases e1
                obtain ⟨gx, ox, rfl, lx, hpt, x0, x1, x2, x3, x4, x5, x6⟩ := hat q x hx
                have hptw := (HL.out.upd HU.out).2 x (List.mem_of_getElem? hx)
                obtain ⟨lo, lc, hlv, -⟩ := hpt
                rw [hlv] at x4
                have HC : Hid (∀ w', Calls Tryz.prog 98 #[.agg #[.int .i64 x.step, .int .i64 x.who, .int .i64 x.place, .int .i64 x.r.e, .slice lo x.r.L.length lc, .int .i64 x.r.n, .int .u64 x.r.v], .agg #[.int .i64 d.who, .int .i64 d.place, .int .i64 d.c.op, .int .i64 d.c.flow, .int .i64 d.c.a, .int .i64 d.c.b, .int .i64 d.r.e, .slice do_ d.r.L.length dc, .int .i64 d.r.n, .int .u64 d.r.v, .int .i64 d.frm, .int .i64 d.til]] w' (RetUpd [] w' (.bool (ofP x d)))) := fun w' => by
                  have := HOF.out x w'
                  unfold ptV at this
                  rw [hlv] at this
                  exact this
                have hst := told_step (d := d) hx
                have HPTW := Lib.hid hptw
                have HLV := Lib.hid hlv
                obtain ⟨wx, hwx⟩ : ∃ y, wr.alloc (.cells #[.int .i64 x.step, .int .i64 x.who, .int .i64 x.place, .int .i64 x.r.e, .slice lo x.r.L.length lc, .int .i64 x.r.n, .int .u64 x.r.v] 59) = y := ⟨_, rfl⟩
                have hux : Upd [] wr wx := by rw [← hwx]; exact (Upd.refl [] wr).alloc _
                have hbx : Blk wx wr.heap.size 59 [.int .i64 x.step, .int .i64 x.who, .int .i64 x.place, .int .i64 x.r.e, .slice lo x.r.L.length lc, .int .i64 x.r.n, .int .u64 x.r.v] := by rw [← hwx]; exact Blk.new wr 59 [.int .i64 x.step, .int .i64 x.who, .int .i64 x.place, .int .i64 x.r.e, .slice lo x.r.L.length lc, .int .i64 x.r.n, .int .u64 x.r.v]
                have HUX := Lib.hid hux
                have HBX := Lib.hid hbx
                have hb9 := HB9.out.upd hux (by simp)
                have y0 := hbx.cell (j := 0) rfl
                have y1 := hbx.cell (j := 1) rfl
                have y2 := hbx.cell (j := 2) rfl
                have y3 := hbx.cell (j := 3) rfl
                have y4 := hbx.cell (j := 4) rfl
                have y5 := hbx.cell (j := 5) rfl
                have y6 := hbx.cell (j := 6) rfl
                have ly := hbx.lt
                have z0 := hb9.cell (j := 0) rfl
                have z1 := hb9.cell (j := 1) rfl
                have z2 := hb9.cell (j := 2) rfl
                have z3 := hb9.cell (j := 3) rfl
                have z4 := hb9.cell (j := 4) rfl
                have z5 := hb9.cell (j := 5) rfl
                have z6 := hb9.cell (j := 6) rfl
                have z7 := hb9.cell (j := 7) rfl
                have z8 := hb9.cell (j := 8) rfl
                have z9 := hb9.cell (j := 9) rfl
                have z10 := hb9.cell (j := 10) rfl
                have z11 := hb9.cell (j := 11) rfl
                have lz := hb9.lt
                have fin3 : q + 1 ≤ 9223372036854775807 := by omega
                clear hat hlv hptw hx hux hbx hb9
                go_wp2_with fail
                refine (HC.out _).mono ?_
                rintro e w5 ⟨rfl, hu5⟩
                have HU5 := Lib.hid (HUX.out.trans hu5)
                have hb5 := HBX.out.upd hu5 (by simp)
                have y3 := hb5.cell (j := 3) rfl
                have y4 := hb5.cell (j := 4) rfl
                have y5 := hb5.cell (j := 5) rfl
                have y6 := hb5.cell (j := 6) rfl
                have ly := hb5.lt
                clear hu5 hb5 hwx y0 y1 y2 z0 z1 z2 z3 z4 z5 z6 z7 z8 z9 z10 z11 lz
                cases hof : ofP x d with
                | false =>
                  have HST : Hid (toldR (l.take (q + 1)) d = toldR (l.take q) d) := by unfold Hid; rw [hst, hof]; simp
                  go_wp2_with fail
                  exact ⟨⟨q + 1, kk, ao9, cap9, E, by congr 1, rfl, by rw [HN.out]; omega, by omega, HRR.out.upd HU5.out, by rw [HMAP.out, HST.out], HU3D.out.trans HU5.out⟩, by first | (simp [intOf]; done) | (simp [intOf]; omega)⟩
                | true =>
                  have HST : Hid (toldR (l.take (q + 1)) d = toldR (l.take q) d ++ [x.r]) := by unfold Hid; rw [hst, hof]; simp
                  obtain ⟨i0, hi0, hz0, hz1, hz2⟩ := info_parts infoRet
                  obtain ⟨v3, hv3⟩ : ∃ y, w5.alloc (.cells #[.int .i64 x.r.e, .slice lo x.r.L.length lc, .int .i64 x.r.n, .int .u64 x.r.v] 57) = y := ⟨_, rfl⟩
                  have q3 : Upd [] w5 v3 := by rw [← hv3]; exact (Upd.refl [] w5).alloc _
                  have HQ : Hid (Upd [] wr v3) := HU5.out.trans q3
                  have HSRC : Hid (Src v3 4 (some ⟨w5.heap.size, 0, none⟩) 1 (reVs ⟨x.r, .slice lo x.r.L.length lc⟩)) := by
                    unfold Hid; rw [← hv3]; exact one_src w5 57 (reVs ⟨x.r, .slice lo x.r.L.length lc⟩) (reVs_one rfl) 4 rfl
                  have HROW := Lib.hid (HRR.out.row.upd HQ.out (by simp))
                  have HBB : Hid (kk + 1 ≤ maxLen ∧ (kk + 1) * 48 ≤ 140737488355328) := ⟨by unfold maxLen; omega, by omega⟩
                  clear q3 hst
                  go_wp2_with (at_builtin; (refine wpList_app2 _ (by rfl) _ _ _ (by rfl) 57 i0 _ 4 48 underlyingRets hi0 hz0 hz1 hz2 rfl (by omega) ao9 kk cap9 (E.flatMap reVs) (by rfl) HROW.out (some ⟨w5.heap.size, 0, none⟩) 1 1 (reVs ⟨x.r, .slice lo x.r.L.length lc⟩) (by rfl) HSRC.out HBB.out.1 HBB.out.2 ?_); (intro ao3 cap3 w7 hA3; have HA3 := Lib.hid hA3; clear hA3))
                  have hsx : SlAt wb 3 (.slice lo x.r.L.length lc) x.r.L.length (x.r.L.flatMap pkVs) := by have := HPTW.out; unfold PtAt at this; rw [HLV.out] at this; exact this
                  have hp2 := ReRow.push (e := ⟨x.r, .slice lo x.r.L.length lc⟩) (HRR.out.upd HQ.out) (HU3D.out.trans HQ.out) HA3.out (((hsx.upd HUBD.out).upd HU3D.out).upd HQ.out) (fun c hc => by
                    have hlt : c < wb.heap.size := hsx.lvB_lt c hc
                    have s1 := HUBD.out.size
                    have s2 := HU3D.out.size
                    have s3 := HQ.out.size
                    exact ⟨fun h => by have := HRR.out.new c h; omega, by omega⟩)
                  exact ⟨⟨q + 1, kk + 1, ao3, cap3, _, by congr 1, rfl, by rw [HN.out]; omega, by omega, hp2.1, by rw [List.map_append, HMAP.out, HST.out]; rfl, hp2.2⟩, by first | (simp [intOf]; done) | (simp [intOf]; omega)⟩
              · have t4 : decide (q < n) = false := by simp; omega
                have HT : Hid (E.map (·.r) = toldR l d) := by unfold Hid; rw [HMAP.out, List.take_of_length_le (by rw [HN.out]; omega)]
                have z0 := HB9.out.cell (j := 0) rfl
                have z1 := HB9.out.cell (j := 1) rfl
                have z2 := HB9.out.cell (j := 2) rfl
                have z3 := HB9.out.cell (j := 3) rfl
                have z4 := HB9.out.cell (j := 4) rfl
                have z5 := HB9.out.cell (j := 5) rfl
                have z6 := HB9.out.cell (j := 6) rfl
                have z7 := HB9.out.cell (j := 7) rfl
                have z8 := HB9.out.cell (j := 8) rfl
                have z9 := HB9.out.cell (j := 9) rfl
                have z10 := HB9.out.cell (j := 10) rfl
                have z11 := HB9.out.cell (j := 11) rfl
                have lz := HB9.out.lt
                go_wp2_with fail
                refine (HPT.out _ HU3.out).mono ?_
                rintro e w5 ⟨v5, E5, rfl, hr5, hm5, hu5⟩
                have HR5 := Lib.hid hr5
                have HM5 := Lib.hid hm5
                have HU5 := Lib.hid hu5
                obtain ⟨-, a5, c5, rfl, -⟩ := rs_at hr5
                obtain ⟨sm, hsm⟩ : ∃ y, eqRt (toldR l d) (partsL d) = y := ⟨_, rfl⟩
                have HEQ : Hid (Calls Tryz.prog 100 #[.slice ao9 kk cap9, .slice a5 E5.length c5, .func (.func 60) #[] #[]] w5 (RetUpd [] w5 (.bool sm))) := by
                  have := rteq_any (HRR.out.at_.upd hu5) hr5
                  rw [HT.out, hm5, hsm] at this
                  exact this
                have HSM := Lib.hid hsm
                clear hr5 hm5 hu5 hsm z0 z1 z2 z3 z4 z5 z6 z7 z8 z9 z10 z11 lz
                go_wp2_with fail
                refine HEQ.out.mono ?_
                rintro e w6 ⟨rfl, hu6⟩
                have HU6 := Lib.hid (HU5.out.trans hu6)
                clear hu6
                cases sm with
                | true =>
                  go_wp2_with fail
                  exact ⟨AllAt.next (by rw [HM.out]; exact hltk) HALL.out HD.out (HOKD.out.trans HSM.out) (HUBD.out.trans (HU3D.out.trans HU6.out)), by first | (simp [intOf]; done) | (simp [intOf]; omega)⟩
                | false =>
                  have hf : R = false := by rw [← HR.out]; unfold withinP; rw [all_no HD.out (HOKD.out.trans HSM.out), Bool.and_false]
                  subst hf
                  go_wp2
                  go_ret
                  exact ⟨rfl, HU3.out.trans HU6.out⟩
        · have t2 : decide (k < m) = false := by simp; omega
          have hT : R = true := by rw [← HR.out]; unfold withinP; rw [HA1.out, all_yes (fun j x hx => HALL.out j x (by have := (List.getElem?_eq_some_iff.1 hx).1; rw [HM.out] at this; omega) hx)]; rfl
          subst hT
          go_wp2
          go_ret
          exact ⟨rfl, HU2.out⟩
end Go.Proofs.YtfeobcmcellcpaaGreat
