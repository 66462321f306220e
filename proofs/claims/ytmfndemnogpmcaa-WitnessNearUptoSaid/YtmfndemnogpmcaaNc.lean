/-
  The walk of the document's 'told': are these the points of a call that has ended? No condition.
-/
import Derived.Test.YtmfndemnogpmcaaNb
set_option linter.unusedVariables false
set_option linter.unusedSimpArgs false
namespace Go.Proofs.Ytmfndemnogpmcaa
open Go.RowKit

theorem pts_ret {w : World} {l : List Pt} {x : Pt} {lo : Option Addr} {lc : Nat} {v : Value} (hl : PtsAt' w v l) (hx : x ∈ l) (h : x.lv = .slice lo x.r.L.length lc) : RtAt w (.agg #[.int .i64 x.r.e, .slice lo x.r.L.length lc, .int .i64 x.r.n, .int .u64 x.r.v]) x.r :=
  ⟨_, rfl, by have := hl.2 x hx; unfold PtAt at this; rw [h] at this; exact this⟩
theorem dne_ret {w : World} {d : Dn} {lo : Option Addr} {lc : Nat} (hd : DneAt w d) (h : d.lv = .slice lo d.r.L.length lc) : RtAt w (.agg #[.int .i64 d.r.e, .slice lo d.r.L.length lc, .int .i64 d.r.n, .int .u64 d.r.v]) d.r :=
  ⟨_, rfl, by unfold DneAt at hd; rw [h] at hd; exact hd⟩
theorem eqRt_one {x d : Rt} : eqRt [x] [d] = rtSame x d := by simp [eqRt]
def ToldDAt (w : World) (L M : List Rt) (iv : Value) (wr : World) : Prop := ∃ i : Nat, iv = .int .i64 i ∧ i ≤ L.length ∧ (∀ j p q, j < i → L[j]? = some p → M[j]? = some q → rtSame p q = true) ∧ Upd [] w wr
theorem ToldDAt.next {w w' : World} {L M : List Rt} {i : Nat} {p q : Rt} (hi : i < L.length) (h : ∀ j p q, j < i → L[j]? = some p → M[j]? = some q → rtSame p q = true) (h1 : L[i]? = some p) (h2 : M[i]? = some q) (he : rtSame p q = true) (hU : Upd [] w w') : ToldDAt w L M (.int .i64 ((i + 1 : Nat) : Int)) w' :=
  ⟨i + 1, rfl, hi, fun j a b hj ha hb => by
    by_cases e : j = i
    · subst e; rw [h1] at ha; rw [h2] at hb; cases ha; cases hb; exact he
    · exact h j a b (by omega) ha hb, hU⟩
theorem want_new (wr : World) (p : Pk) (t1 t2 : TypeId) : ∃ w3, (wr.alloc (.cells #[.int .i64 0, .slice (some ⟨wr.heap.size + 1, 0, none⟩) 1 1, .int .i64 0, .int .u64 0] t1)).alloc (.cells #[.int .i64 p.flow, .int .i64 p.len, .int .i64 p.mark] t2) = w3 ∧
    Blk w3 wr.heap.size t1 [.int .i64 0, .slice (some ⟨wr.heap.size + 1, 0, none⟩) 1 1, .int .i64 0, .int .u64 0] ∧ RtAt w3 (.agg #[.int .i64 0, .slice (some ⟨wr.heap.size + 1, 0, none⟩) 1 1, .int .i64 0, .int .u64 0]) ⟨0, [p], 0, 0⟩ ∧ Upd [] wr w3 := by
  obtain ⟨h1, h2, h3⟩ := two_new wr t1 t2 [.int .i64 0, .slice (some ⟨wr.heap.size + 1, 0, none⟩) 1 1, .int .i64 0, .int .u64 0] [.int .i64 p.flow, .int .i64 p.len, .int .i64 p.mark]
  exact ⟨_, rfl, h1, ⟨_, rfl, ⟨_, _, rfl, by unfold maxLen; simp, rfl, .inr ⟨wr.heap.size + 1, 0, rfl, h2.lt, fun j u hj => by rw [Nat.zero_add]; exact h2.cell (by simpa [pkVs] using hj)⟩⟩⟩, h3⟩
theorem none_new (wr : World) (t1 : TypeId) : ∃ w3, wr.alloc (.cells #[.int .i64 10, .slice none 0 0, .int .i64 0, .int .u64 0] t1) = w3 ∧
    Blk w3 wr.heap.size t1 [.int .i64 10, .slice none 0 0, .int .i64 0, .int .u64 0] ∧ RtAt w3 (.agg #[.int .i64 10, .slice none 0 0, .int .i64 0, .int .u64 0]) (rtE 10) ∧ Upd [] wr w3 :=
  ⟨_, rfl, Blk.new wr t1 _, ⟨_, rfl, SlAt.nil _ _⟩, (Upd.refl [] wr).alloc _⟩

set_option maxRecDepth 100000 in
set_option maxHeartbeats 4000000 in
theorem dtold_any {w : World} {v : Value} {l : List Pt} (d : Dn) (hl : PtsAt' w v l) (hd : DneAt w d) (hlen : d.r.L.length ≤ 1099511627776) : Calls Try.prog 42 #[v, dnV d] w (RetUpd [] w (.bool (eqRt (l.map (·.r)) (partsL d)))) := by
  have HL := Lib.hid hl
  have HD := Lib.hid hd
  obtain ⟨-, al, cl, rfl, -⟩ := pts_at hl
  obtain ⟨lo, lc, hlv, -⟩ := hd
  have HLV := Lib.hid hlv
  unfold dnV
  rw [hlv]
  obtain ⟨n, hn⟩ : ∃ n, l.length = n := ⟨_, rfl⟩
  have HN := Lib.hid hn
  obtain ⟨k, hk⟩ : ∃ k, d.r.L.length = k := ⟨_, rfl⟩
  have HK := Lib.hid hk
  have HLEN := Lib.hid hlen
  rw [hk] at hlen ⊢
  rw [hn]
  have bk : k ≤ 1099511627776 := hlen
  obtain ⟨w1, hw1⟩ : ∃ y, (w.alloc (.cells #[.int .i64 d.who, .int .i64 d.place, .int .i64 d.c.op, .int .i64 d.c.flow, .int .i64 d.c.a, .int .i64 d.c.b, .int .i64 d.r.e, .slice lo k lc, .int .i64 d.r.n, .int .u64 d.r.v, .int .i64 d.frm, .int .i64 d.til] 60)) = y := ⟨_, rfl⟩
  have u1 : Upd [] w w1 := by rw [← hw1]; exact (Upd.refl [] w).alloc _
  have b1 : Blk w1 w.heap.size 60 [.int .i64 d.who, .int .i64 d.place, .int .i64 d.c.op, .int .i64 d.c.flow, .int .i64 d.c.a, .int .i64 d.c.b, .int .i64 d.r.e, .slice lo k lc, .int .i64 d.r.n, .int .u64 d.r.v, .int .i64 d.frm, .int .i64 d.til] := by rw [← hw1]; exact Blk.new w 60 [.int .i64 d.who, .int .i64 d.place, .int .i64 d.c.op, .int .i64 d.c.flow, .int .i64 d.c.a, .int .i64 d.c.b, .int .i64 d.r.e, .slice lo k lc, .int .i64 d.r.n, .int .u64 d.r.v, .int .i64 d.frm, .int .i64 d.til]
  have HU1 := Lib.hid u1
  obtain ⟨bd, hbd⟩ : ∃ y, w.heap.size = y := ⟨_, rfl⟩
  rw [hbd] at b1
  have HB1 := Lib.hid b1
  have y2 := b1.cell (j := 2) rfl
  have y6 := b1.cell (j := 6) rfl
  have y7 := b1.cell (j := 7) rfl
  have y8 := b1.cell (j := 8) rfl
  have y9 := b1.cell (j := 9) rfl
  have ly := b1.lt
  clear hl hlv u1 b1 hlen hn hk
  go_enter Try.func42, Try.ntmps42
  by_cases h1 : d.c.op = 5
  · have t1 : (d.c.op != 5) = false := by simp [h1]
    by_cases h2 : d.r.e = 0 ∨ d.r.e = 10
    · have HOP : Hid (partsL d = d.r.L.map (fun p => (⟨0, [p], 0, 0⟩ : Rt)) ++ (if d.r.e = 10 then [rtE 10] else [])) := by unfold Hid partsL; rw [if_neg (by omega)]
      by_cases h3 : d.r.e = 0
      · have t2 : (d.r.e != 0) = false := by simp [h3]
        have t4 : (d.r.e == 10) = false := by simp [h3]
        have HPL : Hid (partsL d = d.r.L.map (fun p => (⟨0, [p], 0, 0⟩ : Rt))) := by unfold Hid; rw [HOP.out, if_neg (by omega), List.append_nil]
        clear h1 h2 h3 HOP
        have hpl : (partsL d).length = k := by rw [HPL.out, List.length_map, HK.out]
        by_cases h5 : n = k
        · have t5 : (n != k) = false := by simp [h5]
          have t6 : ((n : Int) != (k : Int)) = false := by simp [h5]
          have HNK := Lib.hid h5
          clear h5
          obtain ⟨sr, hsr⟩ : ∃ y, eqRt (l.map (·.r)) (partsL d) = y := ⟨_, rfl⟩
          have HSR := Lib.hid hsr
          rw [hsr]
          clear hsr
          go_wp2_with fail
          clear y2 y6 y7 y8 y9 ly hw1 hbd
          go_loopw [6] (fun iv wr => ToldDAt w1 (l.map (·.r)) (partsL d) iv wr) (fun iv _ => k - (intOf iv).toNat)
          case atStart => exact ⟨0, rfl, Nat.zero_le _, fun j p q hj => by omega, Upd.refl _ _⟩
          case round =>
            obtain ⟨i, rfl, hi, hall, hU⟩ := hrel
            rw [List.length_map, HN.out] at hi
            have HUX := Lib.hid hU
            have HU2 := Lib.hid (HU1.out.trans hU)
            have HALL := Lib.hid hall
            have hb := HB1.out.upd hU (by simp)
            have y7 := hb.cell (j := 7) rfl
            have ly := hb.lt
            clear hU hall hb
            by_cases hlt : i < k
            · have t7 : decide (i < k) = true := by simp [hlt]
              have b1 : (i : Int) < (k : Int) := by omega
              have tin : i < n := by rw [HNK.out]; exact hlt
              have b2 : (i : Int) < (n : Int) := by omega
              have hsl := HD.out.upd HU2.out
              unfold DneAt at hsl
              rw [HLV.out, HK.out] at hsl
              obtain ⟨-, -, _, _, e1, k1⟩ := pk_at hsl
              cases e1
              obtain ⟨g, o, p, rfl, lg, hp, z0, z1, z2⟩ := k1 i hlt
              have HP := Lib.hid hp
              obtain ⟨q, hq⟩ : ∃ q : Rt, q = ⟨0, [p], 0, 0⟩ := ⟨_, rfl⟩
              have HQ := Lib.hid hq
              have HMQ : Hid ((partsL d)[i]? = some q) := by unfold Hid; rw [HPL.out, List.getElem?_map, hp, hq]; rfl
              clear k1 hp hq hsl
              obtain ⟨x, hx⟩ : ∃ x, l[i]? = some x := ⟨_, List.getElem?_eq_getElem (by rw [HN.out]; exact tin)⟩
              have HMX : Hid ((l.map (·.r))[i]? = some x.r) := by unfold Hid; rw [List.getElem?_map, hx]; rfl
              obtain ⟨-, _, _, e1, hat⟩ := pts_at (HL.out.upd HU2.out)
              rw [HN.out] at e1
              cases e1
              obtain ⟨gx, ox, rfl, lx, hpt, x0, x1, x2, x3, x4, x5, x6⟩ := hat i x hx
              obtain ⟨lo2, lc2, hlv2, -⟩ := hpt
              rw [hlv2] at x4
              obtain ⟨sm, hsm⟩ : ∃ y, rtSame x.r q = y := ⟨_, rfl⟩
              have HSM := Lib.hid hsm
              have HRX : Hid (∀ w', Upd [] wr w' → RtAt w' (.agg #[.int .i64 x.r.e, .slice lo2 x.r.L.length lc2, .int .i64 x.r.n, .int .u64 x.r.v]) x.r) := fun w' hu => pts_ret (HL.out.upd (HU2.out.trans hu)) (List.mem_of_getElem? hx) hlv2
              have fin : i + 1 ≤ 9223372036854775807 := by omega
              clear hat hlv2 hx hsm x0 x1 x2
              go_wp2_with fail
              obtain ⟨w3, hw3, hb4, hr3, hu3⟩ := want_new wr p 31 94
              rw [hw3]
              have HU3 := Lib.hid hu3
              have HW3 := Lib.hid hr3
              have hb3 := HB1.out.upd ((HUX.out).trans hu3) (by simp)
              obtain ⟨bn, hbn⟩ : ∃ y, wr.heap.size = y := ⟨_, rfl⟩
              rw [hbn] at hb4 ⊢
              try rw [hbn] at hr3
              have z0 := hb4.cell (j := 0) rfl
              have z1 := hb4.cell (j := 1) rfl
              have z2 := hb4.cell (j := 2) rfl
              have z3 := hb4.cell (j := 3) rfl
              have lz := hb4.lt
              have g3 := (hu3.cell lx (by simp) (ox + i * 7 + 3)).trans x3
              have g4 := (hu3.cell lx (by simp) (ox + i * 7 + 4)).trans x4
              have g5 := (hu3.cell lx (by simp) (ox + i * 7 + 5)).trans x5
              have g6 := (hu3.cell lx (by simp) (ox + i * 7 + 6)).trans x6
              have lg := Nat.lt_of_lt_of_le lx hu3.size
              have HC : Hid (∀ w', Upd [] w3 w' → Calls Try.prog 27 #[.agg #[.int .i64 x.r.e, .slice lo2 x.r.L.length lc2, .int .i64 x.r.n, .int .u64 x.r.v], (.agg #[.int .i64 0, .slice (some ⟨bn + 1, 0, none⟩) 1 1, .int .i64 0, .int .u64 0])] w' (RetUpd [] w' (.bool sm))) := fun w' hu => by
                have := hret_any (HRX.out _ (hu3.trans hu)) (hr3.upd hu)
                rw [← HSM.out, HQ.out]
                exact this
              clear hu3 hr3 hw3 hb4 hb3 hbn x3 x4 x5 x6 lx y7 ly
              go_region_held3 (fun w' => Upd [] w3 w' ∧ ∀ (b o : Nat), b < w3.heap.size → b ∉ ([] : List Nat) → w'.cell? ⟨b, o, none⟩ = w3.cell? ⟨b, o, none⟩)
                (first | exact Held.init _ _ | exact Held.step (by assumption) hB) (first | (go_at_call 27; refine (HC.out _ (Upd.refl [] w3).drew).mono ?_; rintro e w' ⟨rfl, hB⟩))
              have HU4 := Lib.hid (HU3.out.trans ((Upd.refl [] w3).drew.trans hB))
              clear hB HC
              cases sm with
              | true =>
                go_wp2_with fail
                exact ⟨ToldDAt.next (by rw [List.length_map, HN.out]; exact tin) HALL.out HMX.out HMQ.out HSM.out (HUX.out.trans HU4.out), by first | (simp [intOf]; done) | (simp [intOf]; omega)⟩
              | false =>
                have hf : sr = false := by rw [← HSR.out]; exact eqRt_at (by rw [List.length_map, HN.out, HNK.out, hpl]) HMX.out HMQ.out HSM.out
                subst hf
                go_wp2
                go_ret
                exact ⟨rfl, HU2.out.trans HU4.out⟩
            · have t7 : decide (i < k) = false := by simp; omega
              have hT : sr = true := by rw [← HSR.out]; exact eqRt_all (by rw [List.length_map, HN.out, HNK.out, hpl]) (fun j p q hp hq => HALL.out j p q (by have := (List.getElem?_eq_some_iff.1 hq).1; rw [hpl] at this; omega) hp hq)
              subst hT
              go_wp2
              go_ret
              exact ⟨rfl, HU2.out⟩
        · have t5 : (n != k) = true := by simp [h5]
          have t6 : ((n : Int) != (k : Int)) = true := by simp; omega
          have hf : eqRt (l.map (·.r)) (partsL d) = false := eqRt_len (by rw [hpl, List.length_map, HN.out]; exact h5)
          rw [hf]
          clear h5 hf
          go_wp2
          go_ret
          exact ⟨rfl, HU1.out⟩
      · have h10 : d.r.e = 10 := by omega
        have t2 : (d.r.e != 0) = true := by simp [h3]
        have t3 : (d.r.e != 10) = false := by simp [h10]
        have t4 : (d.r.e == 10) = true := by simp [h10]
        have HPL : Hid (partsL d = d.r.L.map (fun p => (⟨0, [p], 0, 0⟩ : Rt)) ++ [rtE 10]) := by unfold Hid; rw [HOP.out, if_pos h10]
        clear h1 h2 h3 HOP h10
        have hpl : (partsL d).length = k + 1 := by rw [HPL.out, List.length_append, List.length_map, HK.out]; rfl
        have bk1 : k + 1 ≤ 9223372036854775807 := by omega
        by_cases h5 : n = k + 1
        · have t5 : (n != k + 1) = false := by simp [h5]
          have t6 : ((n : Int) != (k : Int) + 1) = false := by simp [h5]
          have t6b : ((n : Int) != ((k + 1 : Nat) : Int)) = false := by simp [h5]
          have HNK := Lib.hid h5
          clear h5
          obtain ⟨sr, hsr⟩ : ∃ y, eqRt (l.map (·.r)) (partsL d) = y := ⟨_, rfl⟩
          have HSR := Lib.hid hsr
          rw [hsr]
          clear hsr
          go_wp2_with fail
          clear y2 y6 y7 y8 y9 ly hw1 hbd
          go_loopw [6] (fun iv wr => ToldDAt w1 (l.map (·.r)) (partsL d) iv wr) (fun iv _ => (k + 1) - (intOf iv).toNat)
          case atStart => exact ⟨0, rfl, Nat.zero_le _, fun j p q hj => by omega, Upd.refl _ _⟩
          case round =>
            obtain ⟨i, rfl, hi, hall, hU⟩ := hrel
            rw [List.length_map, HN.out] at hi
            have HUX := Lib.hid hU
            have HU2 := Lib.hid (HU1.out.trans hU)
            have HALL := Lib.hid hall
            have hb := HB1.out.upd hU (by simp)
            have y7 := hb.cell (j := 7) rfl
            have ly := hb.lt
            clear hU hall hb
            by_cases hl2 : i < k + 1
            · have s1 : decide (i < k + 1) = true := by simp; omega
              have s2 : decide ((i : Int) < (k : Int) + 1) = true := by simp; omega
              have s3 : (i : Int) < (k : Int) + 1 := by omega
              by_cases hlt : i < k
              · have t7 : decide (i < k) = true := by simp [hlt]
                have b1 : (i : Int) < (k : Int) := by omega
                have tin : i < n := by rw [HNK.out]; omega
                have b2 : (i : Int) < (n : Int) := by omega
                have hsl := HD.out.upd HU2.out
                unfold DneAt at hsl
                rw [HLV.out, HK.out] at hsl
                obtain ⟨-, -, _, _, e1, k1⟩ := pk_at hsl
                cases e1
                obtain ⟨g, o, p, rfl, lg, hp, z0, z1, z2⟩ := k1 i hlt
                have HP := Lib.hid hp
                obtain ⟨q, hq⟩ : ∃ q : Rt, q = ⟨0, [p], 0, 0⟩ := ⟨_, rfl⟩
                have HQ := Lib.hid hq
                have HMQ : Hid ((partsL d)[i]? = some q) := by unfold Hid; rw [HPL.out, List.getElem?_append_left (by rw [List.length_map, HK.out]; exact hlt), List.getElem?_map, hp, hq]; rfl
                clear k1 hp hq hsl
                obtain ⟨x, hx⟩ : ∃ x, l[i]? = some x := ⟨_, List.getElem?_eq_getElem (by rw [HN.out]; exact tin)⟩
                have HMX : Hid ((l.map (·.r))[i]? = some x.r) := by unfold Hid; rw [List.getElem?_map, hx]; rfl
                obtain ⟨-, _, _, e1, hat⟩ := pts_at (HL.out.upd HU2.out)
                rw [HN.out] at e1
                cases e1
                obtain ⟨gx, ox, rfl, lx, hpt, x0, x1, x2, x3, x4, x5, x6⟩ := hat i x hx
                obtain ⟨lo2, lc2, hlv2, -⟩ := hpt
                rw [hlv2] at x4
                obtain ⟨sm, hsm⟩ : ∃ y, rtSame x.r q = y := ⟨_, rfl⟩
                have HSM := Lib.hid hsm
                have HRX : Hid (∀ w', Upd [] wr w' → RtAt w' (.agg #[.int .i64 x.r.e, .slice lo2 x.r.L.length lc2, .int .i64 x.r.n, .int .u64 x.r.v]) x.r) := fun w' hu => pts_ret (HL.out.upd (HU2.out.trans hu)) (List.mem_of_getElem? hx) hlv2
                have fin : i + 1 ≤ 9223372036854775807 := by omega
                clear hat hlv2 hx hsm x0 x1 x2
                go_wp2_with fail
                obtain ⟨w3, hw3, hb4, hr3, hu3⟩ := want_new wr p 31 94
                rw [hw3]
                have HU3 := Lib.hid hu3
                have HW3 := Lib.hid hr3
                have hb3 := HB1.out.upd ((HUX.out).trans hu3) (by simp)
                obtain ⟨bn, hbn⟩ : ∃ y, wr.heap.size = y := ⟨_, rfl⟩
                rw [hbn] at hb4 ⊢
                try rw [hbn] at hr3
                have z0 := hb4.cell (j := 0) rfl
                have z1 := hb4.cell (j := 1) rfl
                have z2 := hb4.cell (j := 2) rfl
                have z3 := hb4.cell (j := 3) rfl
                have lz := hb4.lt
                have g3 := (hu3.cell lx (by simp) (ox + i * 7 + 3)).trans x3
                have g4 := (hu3.cell lx (by simp) (ox + i * 7 + 4)).trans x4
                have g5 := (hu3.cell lx (by simp) (ox + i * 7 + 5)).trans x5
                have g6 := (hu3.cell lx (by simp) (ox + i * 7 + 6)).trans x6
                have lg := Nat.lt_of_lt_of_le lx hu3.size
                have HC : Hid (∀ w', Upd [] w3 w' → Calls Try.prog 27 #[.agg #[.int .i64 x.r.e, .slice lo2 x.r.L.length lc2, .int .i64 x.r.n, .int .u64 x.r.v], (.agg #[.int .i64 0, .slice (some ⟨bn + 1, 0, none⟩) 1 1, .int .i64 0, .int .u64 0])] w' (RetUpd [] w' (.bool sm))) := fun w' hu => by
                  have := hret_any (HRX.out _ (hu3.trans hu)) (hr3.upd hu)
                  rw [← HSM.out, HQ.out]
                  exact this
                clear hu3 hr3 hw3 hb4 hb3 hbn x3 x4 x5 x6 lx y7 ly
                go_region_held3 (fun w' => Upd [] w3 w' ∧ ∀ (b o : Nat), b < w3.heap.size → b ∉ ([] : List Nat) → w'.cell? ⟨b, o, none⟩ = w3.cell? ⟨b, o, none⟩)
                  (first | exact Held.init _ _ | exact Held.step (by assumption) hB) (first | (go_at_call 27; refine (HC.out _ (Upd.refl [] w3).drew).mono ?_; rintro e w' ⟨rfl, hB⟩))
                have HU4 := Lib.hid (HU3.out.trans ((Upd.refl [] w3).drew.trans hB))
                clear hB HC
                cases sm with
                | true =>
                  go_wp2_with fail
                  exact ⟨ToldDAt.next (by rw [List.length_map, HN.out]; exact tin) HALL.out HMX.out HMQ.out HSM.out (HUX.out.trans HU4.out), by first | (simp [intOf]; done) | (simp [intOf]; omega)⟩
                | false =>
                  have hf : sr = false := by rw [← HSR.out]; exact eqRt_at (by rw [List.length_map, HN.out, HNK.out, hpl]) HMX.out HMQ.out HSM.out
                  subst hf
                  go_wp2
                  go_ret
                  exact ⟨rfl, HU2.out.trans HU4.out⟩
              · have t7 : decide (i < k) = false := by simp; omega
                have tin : i < n := by rw [HNK.out]; exact hl2
                have b2 : (i : Int) < (n : Int) := by omega
                obtain ⟨q, hq⟩ : ∃ q : Rt, q = rtE 10 := ⟨_, rfl⟩
                have HQ := Lib.hid hq
                have HMQ : Hid ((partsL d)[i]? = some q) := by unfold Hid; rw [HPL.out, List.getElem?_append_right (by rw [List.length_map, HK.out]; omega), List.length_map, HK.out, show i - k = 0 by omega, hq]; rfl
                clear hq
                obtain ⟨x, hx⟩ : ∃ x, l[i]? = some x := ⟨_, List.getElem?_eq_getElem (by rw [HN.out]; exact tin)⟩
                have HMX : Hid ((l.map (·.r))[i]? = some x.r) := by unfold Hid; rw [List.getElem?_map, hx]; rfl
                obtain ⟨-, _, _, e1, hat⟩ := pts_at (HL.out.upd HU2.out)
                rw [HN.out] at e1
                cases e1
                obtain ⟨gx, ox, rfl, lx, hpt, x0, x1, x2, x3, x4, x5, x6⟩ := hat i x hx
                obtain ⟨lo2, lc2, hlv2, -⟩ := hpt
                rw [hlv2] at x4
                obtain ⟨sm, hsm⟩ : ∃ y, rtSame x.r q = y := ⟨_, rfl⟩
                have HSM := Lib.hid hsm
                have HRX : Hid (∀ w', Upd [] wr w' → RtAt w' (.agg #[.int .i64 x.r.e, .slice lo2 x.r.L.length lc2, .int .i64 x.r.n, .int .u64 x.r.v]) x.r) := fun w' hu => pts_ret (HL.out.upd (HU2.out.trans hu)) (List.mem_of_getElem? hx) hlv2
                have fin : i + 1 ≤ 9223372036854775807 := by omega
                clear hat hlv2 hx hsm x0 x1 x2
                go_wp2_with fail
                obtain ⟨w3, hw3, hb4, hr3, hu3⟩ := none_new wr 31
                rw [hw3]
                have HU3 := Lib.hid hu3
                have HW3 := Lib.hid hr3
                have hb3 := HB1.out.upd ((HUX.out).trans hu3) (by simp)
                obtain ⟨bn, hbn⟩ : ∃ y, wr.heap.size = y := ⟨_, rfl⟩
                rw [hbn] at hb4 ⊢
                try rw [hbn] at hr3
                have z0 := hb4.cell (j := 0) rfl
                have z1 := hb4.cell (j := 1) rfl
                have z2 := hb4.cell (j := 2) rfl
                have z3 := hb4.cell (j := 3) rfl
                have lz := hb4.lt
                have g3 := (hu3.cell lx (by simp) (ox + i * 7 + 3)).trans x3
                have g4 := (hu3.cell lx (by simp) (ox + i * 7 + 4)).trans x4
                have g5 := (hu3.cell lx (by simp) (ox + i * 7 + 5)).trans x5
                have g6 := (hu3.cell lx (by simp) (ox + i * 7 + 6)).trans x6
                have lg := Nat.lt_of_lt_of_le lx hu3.size
                have HC : Hid (∀ w', Upd [] w3 w' → Calls Try.prog 27 #[.agg #[.int .i64 x.r.e, .slice lo2 x.r.L.length lc2, .int .i64 x.r.n, .int .u64 x.r.v], (.agg #[.int .i64 10, .slice none 0 0, .int .i64 0, .int .u64 0])] w' (RetUpd [] w' (.bool sm))) := fun w' hu => by
                  have := hret_any (HRX.out _ (hu3.trans hu)) (hr3.upd hu)
                  rw [← HSM.out, HQ.out]
                  exact this
                clear hu3 hr3 hw3 hb4 hb3 hbn x3 x4 x5 x6 lx y7 ly
                go_region_held3 (fun w' => Upd [] w3 w' ∧ ∀ (b o : Nat), b < w3.heap.size → b ∉ ([] : List Nat) → w'.cell? ⟨b, o, none⟩ = w3.cell? ⟨b, o, none⟩)
                  (first | exact Held.init _ _ | exact Held.step (by assumption) hB) (first | (go_at_call 27; refine (HC.out _ (Upd.refl [] w3).drew).mono ?_; rintro e w' ⟨rfl, hB⟩))
                have HU4 := Lib.hid (HU3.out.trans ((Upd.refl [] w3).drew.trans hB))
                clear hB HC
                cases sm with
                | true =>
                  go_wp2_with fail
                  exact ⟨ToldDAt.next (by rw [List.length_map, HN.out]; exact tin) HALL.out HMX.out HMQ.out HSM.out (HUX.out.trans HU4.out), by first | (simp [intOf]; done) | (simp [intOf]; omega)⟩
                | false =>
                  have hf : sr = false := by rw [← HSR.out]; exact eqRt_at (by rw [List.length_map, HN.out, HNK.out, hpl]) HMX.out HMQ.out HSM.out
                  subst hf
                  go_wp2
                  go_ret
                  exact ⟨rfl, HU2.out.trans HU4.out⟩
            · have s1 : decide (i < k + 1) = false := by simp; omega
              have s2 : decide ((i : Int) < (k : Int) + 1) = false := by simp; omega
              have hT : sr = true := by rw [← HSR.out]; exact eqRt_all (by rw [List.length_map, HN.out, HNK.out, hpl]) (fun j p q hp hq => HALL.out j p q (by have := (List.getElem?_eq_some_iff.1 hq).1; rw [hpl] at this; omega) hp hq)
              subst hT
              go_wp2
              go_ret
              exact ⟨rfl, HU2.out⟩
        · have t5 : (n != k + 1) = true := by simp [h5]
          have t6 : ((n : Int) != (k : Int) + 1) = true := by simp; omega
          have t6b : ((n : Int) != ((k + 1 : Nat) : Int)) = true := by simp; omega
          have hf : eqRt (l.map (·.r)) (partsL d) = false := eqRt_len (by rw [hpl, List.length_map, HN.out]; exact h5)
          rw [hf]
          clear h5 hf
          go_wp2
          go_ret
          exact ⟨rfl, HU1.out⟩
    · have t2 : (d.r.e != 0) = true := by simp; omega
      have t3 : (d.r.e != 10) = true := by simp; omega
      have HPL : Hid (partsL d = [d.r]) := by unfold Hid partsL; rw [if_pos (.inr (by omega))]
      clear h1 h2
      by_cases h9 : n = 1
      · have t3 : ((n : Int) == 1) = true := by simp [h9]
        have t4 : (n == 1) = true := by simp [h9]
        have t5 : (0 : Int) < (n : Int) := by omega
        have t6 : 0 < n := by omega
        obtain ⟨x, hx⟩ : ∃ x, l[0]? = some x := ⟨_, List.getElem?_eq_getElem (by rw [HN.out]; exact t6)⟩
        have hlx : l = [x] := by
          have := HN.out
          rw [h9] at this
          obtain ⟨y, rfl⟩ := List.length_eq_one_iff.1 this
          simp at hx
          rw [hx]
        obtain ⟨-, _, _, e1, hat⟩ := pts_at (HL.out.upd HU1.out)
        rw [HN.out] at e1
        cases e1
        obtain ⟨gx, ox, rfl, lx, hpt, x0, x1, x2, x3, x4, x5, x6⟩ := hat 0 x hx
        obtain ⟨lo2, lc2, hlv2, -⟩ := hpt
        rw [hlv2] at x4
        obtain ⟨sm, hsm⟩ : ∃ y, eqRt (l.map (·.r)) (partsL d) = y := ⟨_, rfl⟩
        have HC : Hid (∀ w', Upd [] w1 w' → Calls Try.prog 27 #[.agg #[.int .i64 x.r.e, .slice lo2 x.r.L.length lc2, .int .i64 x.r.n, .int .u64 x.r.v], .agg #[.int .i64 d.r.e, .slice lo k lc, .int .i64 d.r.n, .int .u64 d.r.v]] w' (RetUpd [] w' (.bool sm))) := fun w' hu => by
          have hd1 := dne_ret (HD.out.upd (HU1.out.trans hu)) HLV.out
          have := hret_any (pts_ret (HL.out.upd (HU1.out.trans hu)) (List.mem_of_getElem? hx) hlv2) hd1
          rw [← hsm, HPL.out, hlx]
          simp only [List.map_cons, List.map_nil, eqRt_one]
          rw [HK.out] at this
          exact this
        rw [Nat.zero_mul, Nat.add_zero] at x3 x4 x5 x6
        rw [hsm]
        clear hat hlv2 hx hsm x0 x1 x2 h9 hlx
        go_wp2_with fail
        go_region_held3 (fun w' => Upd [] w1 w' ∧ ∀ (b o : Nat), b < w1.heap.size → b ∉ ([] : List Nat) → w'.cell? ⟨b, o, none⟩ = w1.cell? ⟨b, o, none⟩)
          (first | exact Held.init _ _ | exact Held.step (by assumption) hB) (first | (go_at_call 27; refine (HC.out _ (Upd.refl [] w1).drew).mono ?_; rintro e w' ⟨rfl, hB⟩))
        go_wp2
        go_ret
        exact ⟨rfl, HU1.out.trans ((Upd.refl [] w1).drew.trans hB)⟩
      · have t3 : ((n : Int) == 1) = false := by simp; omega
        have t4 : (n == 1) = false := by simp [h9]
        have hf : eqRt (l.map (·.r)) (partsL d) = false := eqRt_len (by rw [HPL.out, List.length_map, HN.out]; exact h9)
        rw [hf]
        clear h9 hf
        go_wp2_with fail
        go_quiet (fail)
        go_wp2
        go_ret
        exact ⟨rfl, HU1.out.trans ((Upd.refl [] w1).drewN _)⟩
  · have t1 : (d.c.op != 5) = true := by simp [h1]
    have HPL : Hid (partsL d = [d.r]) := by unfold Hid partsL; rw [if_pos (.inl h1)]
    clear h1
    by_cases h9 : n = 1
    · have t3 : ((n : Int) == 1) = true := by simp [h9]
      have t4 : (n == 1) = true := by simp [h9]
      have t5 : (0 : Int) < (n : Int) := by omega
      have t6 : 0 < n := by omega
      obtain ⟨x, hx⟩ : ∃ x, l[0]? = some x := ⟨_, List.getElem?_eq_getElem (by rw [HN.out]; exact t6)⟩
      have hlx : l = [x] := by
        have := HN.out
        rw [h9] at this
        obtain ⟨y, rfl⟩ := List.length_eq_one_iff.1 this
        simp at hx
        rw [hx]
      obtain ⟨-, _, _, e1, hat⟩ := pts_at (HL.out.upd HU1.out)
      rw [HN.out] at e1
      cases e1
      obtain ⟨gx, ox, rfl, lx, hpt, x0, x1, x2, x3, x4, x5, x6⟩ := hat 0 x hx
      obtain ⟨lo2, lc2, hlv2, -⟩ := hpt
      rw [hlv2] at x4
      obtain ⟨sm, hsm⟩ : ∃ y, eqRt (l.map (·.r)) (partsL d) = y := ⟨_, rfl⟩
      have HC : Hid (∀ w', Upd [] w1 w' → Calls Try.prog 27 #[.agg #[.int .i64 x.r.e, .slice lo2 x.r.L.length lc2, .int .i64 x.r.n, .int .u64 x.r.v], .agg #[.int .i64 d.r.e, .slice lo k lc, .int .i64 d.r.n, .int .u64 d.r.v]] w' (RetUpd [] w' (.bool sm))) := fun w' hu => by
        have hd1 := dne_ret (HD.out.upd (HU1.out.trans hu)) HLV.out
        have := hret_any (pts_ret (HL.out.upd (HU1.out.trans hu)) (List.mem_of_getElem? hx) hlv2) hd1
        rw [← hsm, HPL.out, hlx]
        simp only [List.map_cons, List.map_nil, eqRt_one]
        rw [HK.out] at this
        exact this
      rw [Nat.zero_mul, Nat.add_zero] at x3 x4 x5 x6
      rw [hsm]
      clear hat hlv2 hx hsm x0 x1 x2 h9 hlx
      go_wp2_with fail
      go_region_held3 (fun w' => Upd [] w1 w' ∧ ∀ (b o : Nat), b < w1.heap.size → b ∉ ([] : List Nat) → w'.cell? ⟨b, o, none⟩ = w1.cell? ⟨b, o, none⟩)
        (first | exact Held.init _ _ | exact Held.step (by assumption) hB) (first | (go_at_call 27; refine (HC.out _ (Upd.refl [] w1).drew).mono ?_; rintro e w' ⟨rfl, hB⟩))
      go_wp2
      go_ret
      exact ⟨rfl, HU1.out.trans ((Upd.refl [] w1).drew.trans hB)⟩
    · have t3 : ((n : Int) == 1) = false := by simp; omega
      have t4 : (n == 1) = false := by simp [h9]
      have hf : eqRt (l.map (·.r)) (partsL d) = false := eqRt_len (by rw [HPL.out, List.length_map, HN.out]; exact h9)
      rw [hf]
      clear h9 hf
      go_wp2_with fail
      go_quiet (fail)
      go_wp2
      go_ret
      exact ⟨rfl, HU1.out.trans ((Upd.refl [] w1).drewN _)⟩
end Go.Proofs.Ytmfndemnogpmcaa
