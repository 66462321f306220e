/-
  The walks of what a point is of: the program's and the document's. No condition.
-/
import Derived.Test.YtmfndemnogpmcaaMe
set_option linter.unusedVariables false
set_option linter.unusedSimpArgs false
namespace Go.Proofs.Ytmfndemnogpmcaa
open Go.RowKit

theorem callP_no1 {L : List Li} {x : Pt} (h : x.who < 0) : callP L x = none := by unfold callP; rw [if_pos (.inl h)]
theorem callP_no2 {L : List Li} {x : Pt} (h : (L.length : Int) ≤ x.who) : callP L x = none := by unfold callP; rw [if_pos (.inr h)]
theorem callP_at {L : List Li} {x : Pt} {i : Nat} {l : Li} (hi : x.who = i) (hl : L[i]? = some l) : callP L x = if x.place < 0 ∨ (l.L.length : Int) ≤ x.place then none else
    match l.L[x.place.toNat]? with
    | none => none
    | some c => if c.op = 5 ∧ x.r.e ≠ 1 then some ⟨4, 0, 0, 0⟩ else some c := by
  have := (List.getElem?_eq_some_iff.1 hl).1
  unfold callP
  rw [if_neg (by omega), hi, Int.toNat_natCast, hl]
  rfl
theorem callP_at2 {L : List Li} {x : Pt} {i j : Nat} {l : Li} {c : Cl} (hi : x.who = i) (hl : L[i]? = some l) (hj : x.place = j) (hc : l.L[j]? = some c) : callP L x = if c.op = 5 ∧ x.r.e ≠ 1 then some ⟨4, 0, 0, 0⟩ else some c := by
  have := (List.getElem?_eq_some_iff.1 hc).1
  rw [callP_at hi hl, if_neg (by omega), hj, Int.toNat_natCast, hc]

/-- A plan's list, at a place. -/
theorem lists_at {w : World} {v : Value} {L : List Li} (h : ListsAt w v L) : L.length ≤ maxLen ∧ ∃ ao cap, v = .slice ao L.length cap ∧ ∀ i l, L[i]? = some l → ∃ b off, ao = some ⟨b, off, none⟩ ∧ b < w.heap.size ∧ w.cell? ⟨b, off + i, none⟩ = some l.v ∧ l.L.length ≤ maxLen ∧ ∃ lo lc, l.v = .slice lo l.L.length lc ∧
    ∀ j c, l.L[j]? = some c → ∃ b2 off2, lo = some ⟨b2, off2, none⟩ ∧ b2 < w.heap.size ∧ w.cell? ⟨b2, off2 + j * 4, none⟩ = some (.int .i64 c.op) ∧ w.cell? ⟨b2, off2 + j * 4 + 1, none⟩ = some (.int .i64 c.flow) ∧ w.cell? ⟨b2, off2 + j * 4 + 2, none⟩ = some (.int .i64 c.a) ∧ w.cell? ⟨b2, off2 + j * 4 + 3, none⟩ = some (.int .i64 c.b) := by
  obtain ⟨hs, hin⟩ := h
  obtain ⟨-, h2, ao, cap, rfl, h3⟩ := hs.get liVs 1 liVs_len (by omega)
  refine ⟨h2, ao, cap, rfl, fun i l hl => ?_⟩
  have hil := (List.getElem?_eq_some_iff.1 hl).1
  rcases h3 with h3 | ⟨b, off, rfl, hb, hc⟩
  · omega
  · have h0 := hc i l hl 0 _ rfl
    rw [Nat.mul_one, Nat.add_zero] at h0
    obtain ⟨-, g2, lo, lc, e, g3⟩ := (hin l (List.mem_of_getElem? hl)).get clVs 4 clVs_len (by omega)
    refine ⟨b, off, rfl, hb, h0, g2, lo, lc, e, fun j c hj => ?_⟩
    have hjl := (List.getElem?_eq_some_iff.1 hj).1
    rcases g3 with g3 | ⟨b2, off2, rfl, hb2, hc2⟩
    · omega
    · exact ⟨b2, off2, rfl, hb2, hc2 j c hj 0 _ rfl, hc2 j c hj 1 _ rfl, hc2 j c hj 2 _ rfl, hc2 j c hj 3 _ rfl⟩
theorem three_new {w w1 w2 w3 : World} {t1 t2 t3 : TypeId} {c1 c2 c3 : List Value} (h1 : w.alloc (.cells c1.toArray t1) = w1) (h2 : w1.alloc (.cells c2.toArray t2) = w2) (h3 : w2.alloc (.cells c3.toArray t3) = w3) :
    Blk w3 w.heap.size t1 c1 ∧ Blk w3 w1.heap.size t2 c2 ∧ Blk w3 w2.heap.size t3 c3 ∧ Upd [] w w3 ∧ w1.heap.size = w.heap.size + 1 ∧ w2.heap.size = w.heap.size + 2 := by
  subst h1 h2 h3
  exact ⟨((Blk.new w t1 c1).alloc _).alloc _, (Blk.new _ t2 c2).alloc _, Blk.new _ t3 c3, (((Upd.refl [] w).alloc _).alloc _).alloc _, by simp, by simp⟩

/-- The four stores into the result's cell. -/
def callW (w : World) (b : Nat) (c : Cl) : World := (((w.setCell ⟨b, 0, none⟩ (.int .i64 c.op)).setCell ⟨b, 1, none⟩ (.int .i64 c.flow)).setCell ⟨b, 2, none⟩ (.int .i64 c.a)).setCell ⟨b, 3, none⟩ (.int .i64 c.b)
theorem callW_upd (w : World) (b : Nat) (c : Cl) : Upd [b] w (callW w b c) := ((((Upd.refl [b] w).setCell (.inl (by simp)) _).setCell (.inl (by simp)) _).setCell (.inl (by simp)) _).setCell (.inl (by simp)) _

set_option maxHeartbeats 4000000 in
theorem wcall_any {w : World} {pv : Value} {p : Pl} {x : Pt} (hp : PlanAt w pv p) : Calls Try.prog 9 #[pv, ptV x] w (RetUpd [] w (callV (callP p.L x))) := by
  obtain ⟨lv, rfl, hL⟩ := hp
  obtain ⟨w1, hw1⟩ : ∃ y, w.alloc (.cells #[.int .i64 p.c.sh, .int .i64 p.c.sl, .int .i64 p.c.wo, .int .i64 p.c.wd, .int .u64 p.c.unit, lv] 27) = y := ⟨_, rfl⟩
  obtain ⟨w2, hw2⟩ : ∃ y, w1.alloc (.cells #[.int .i64 x.step, .int .i64 x.who, .int .i64 x.place, .int .i64 x.r.e, x.lv, .int .i64 x.r.n, .int .u64 x.r.v] 33) = y := ⟨_, rfl⟩
  obtain ⟨w3, hw3⟩ : ∃ y, w2.alloc (.cells #[.int .i64 0, .int .i64 0, .int .i64 0, .int .i64 0] 38) = y := ⟨_, rfl⟩
  obtain ⟨h1, h2, h3, hu, e12⟩ := three_new hw1 hw2 hw3
  have E12 := Lib.hid e12
  clear e12
  unfold ptV
  go_enter Try.func9, Try.ntmps9
  go_wp2_with fail
  obtain ⟨b0, hb0⟩ : ∃ y, w.heap.size = y := ⟨_, rfl⟩
  obtain ⟨b1, hb1⟩ : ∃ y, w1.heap.size = y := ⟨_, rfl⟩
  obtain ⟨b2, hb2⟩ : ∃ y, w2.heap.size = y := ⟨_, rfl⟩
  obtain ⟨e1, e2⟩ := E12.out
  have HB2 : Hid (w.heap.size + 2 = b2) := by unfold Hid; omega
  rw [hb0] at h1
  rw [hb1] at h2
  rw [hb2] at h3
  rw [hb0, hb1, hb2]
  have n01 : b0 ≠ b1 := by omega
  have n02 : b0 ≠ b2 := by omega
  have n12 : b1 ≠ b2 := by omega
  have n10 := n01.symm
  have n20 := n02.symm
  have n21 := n12.symm
  have HU3 := Lib.hid hu
  have hL3 := hL.upd hu
  clear hw1 hw2 hw3 hb0 hb1 hb2 e1 e2 hu hL
  have p5 := h1.cell (j := 5) rfl
  have x1 := h2.cell (j := 1) rfl
  have x2 := h2.cell (j := 2) rfl
  have x3 := h2.cell (j := 3) rfl
  have q0 := h3.cell (j := 0) rfl
  have q1 := h3.cell (j := 1) rfl
  have q2 := h3.cell (j := 2) rfl
  have q3 := h3.cell (j := 3) rfl
  have f0 := h3.free 0
  have f1 := h3.free 1
  have f2 := h3.free 2
  have f3 := h3.free 3
  have l0 := h1.lt
  have l1 := h2.lt
  have l2 := h3.lt
  have H3 := Lib.hid h3
  obtain ⟨hm, ao, cap, rfl, hat⟩ := lists_at hL3
  have HAT := Lib.hid hat
  clear h1 h2 h3 hL3 hat
  obtain ⟨n, hn⟩ : ∃ n, p.L.length = n := ⟨_, rfl⟩
  have HN := Lib.hid hn
  rw [hn] at p5 hm
  have bn : n ≤ 9223372036854775807 := hm
  by_cases c1 : x.who < 0
  · have t1 : decide (x.who < 0) = true := by simp [c1]
    have HNO := Lib.hid (callP_no1 (L := p.L) c1)
    clear hm hn
    go_quiet (fail)
    go_wp2_with fail
    refine bodyPost_ret (v := .tuple #[.agg #[.int .i64 0, .int .i64 0, .int .i64 0, .int .i64 0], .bool false]) (by simp [results, Try.results9, go_sem, q0, q1, q2, q3]) rfl ?_
    exact ⟨by rw [HNO.out]; rfl, HU3.out.then ((Upd.refl [] w3).drewN _ |>.nil |>.trans (callW_upd _ b2 zCl)) (fun _ _ h => h) (fun i hi hm => by have := HB2.out; simp only [List.mem_cons, List.not_mem_nil, or_false] at hm; omega)⟩
  · have t1 : decide (x.who < 0) = false := by simp; omega
    by_cases c2 : (n : Int) ≤ x.who
    · have t2 : decide ((n : Int) ≤ x.who) = true := by simp [c2]
      have HNO := Lib.hid (callP_no2 (L := p.L) (x := x) (by rw [HN.out]; exact c2))
      clear hm hn
      go_quiet (fail)
      go_wp2_with fail
      refine bodyPost_ret (v := .tuple #[.agg #[.int .i64 0, .int .i64 0, .int .i64 0, .int .i64 0], .bool false]) (by simp [results, Try.results9, go_sem, q0, q1, q2, q3]) rfl ?_
      exact ⟨by rw [HNO.out]; rfl, HU3.out.then ((Upd.refl [] w3).drewN _ |>.nil |>.trans (callW_upd _ b2 zCl)) (fun _ _ h => h) (fun i hi hm => by have := HB2.out; simp only [List.mem_cons, List.not_mem_nil, or_false] at hm; omega)⟩
    · have t2 : decide ((n : Int) ≤ x.who) = false := by simp; omega
      obtain ⟨i, hi⟩ : ∃ i : Nat, x.who = i := ⟨x.who.toNat, by omega⟩
      rw [hi] at x1 t1 t2 c1 c2
      have t2' : decide (n ≤ i) = false := by simp; omega
      have t1' : decide ((i : Int) < 0) = false := by simp
      obtain ⟨l, hl⟩ : ∃ l, p.L[i]? = some l := ⟨_, List.getElem?_eq_getElem (by omega)⟩
      have bi : (i : Int) < (n : Int) := by omega
      obtain ⟨lb, loff, rfl, ll, y0, hm2, lo, lc, hlv, hat2⟩ := HAT.out i l hl
      rw [hlv] at y0
      have HAT2 := Lib.hid hat2
      obtain ⟨m, hmm⟩ : ∃ m, l.L.length = m := ⟨_, rfl⟩
      have HM := Lib.hid hmm
      rw [hmm] at y0 hm2
      have bm : m ≤ 9223372036854775807 := hm2
      have HC := Lib.hid (callP_at hi hl)
      have HI := Lib.hid hi
      have HL := Lib.hid hl
      clear hm hn hat2 hlv hmm hl hi hm2 c1 c2
      by_cases c3 : x.place < 0
      · have t3 : decide (x.place < 0) = true := by simp [c3]
        have HNO : Hid (callP p.L x = none) := by unfold Hid; rw [HC.out, if_pos (.inl c3)]
        go_quiet (fail)
        go_wp2_with fail
        refine bodyPost_ret (v := .tuple #[.agg #[.int .i64 0, .int .i64 0, .int .i64 0, .int .i64 0], .bool false]) (by simp [results, Try.results9, go_sem, q0, q1, q2, q3]) rfl ?_
        exact ⟨by rw [HNO.out]; rfl, HU3.out.then ((Upd.refl [] w3).drewN _ |>.nil |>.trans (callW_upd _ b2 zCl)) (fun _ _ h => h) (fun i hi hm => by have := HB2.out; simp only [List.mem_cons, List.not_mem_nil, or_false] at hm; omega)⟩
      · have t3 : decide (x.place < 0) = false := by simp; omega
        by_cases c4 : (m : Int) ≤ x.place
        · have t4 : decide ((m : Int) ≤ x.place) = true := by simp [c4]
          have HNO : Hid (callP p.L x = none) := by unfold Hid; rw [HC.out, if_pos (.inr (by rw [HM.out]; exact c4))]
          go_quiet (fail)
          go_wp2_with fail
          refine bodyPost_ret (v := .tuple #[.agg #[.int .i64 0, .int .i64 0, .int .i64 0, .int .i64 0], .bool false]) (by simp [results, Try.results9, go_sem, q0, q1, q2, q3]) rfl ?_
          exact ⟨by rw [HNO.out]; rfl, HU3.out.then ((Upd.refl [] w3).drewN _ |>.nil |>.trans (callW_upd _ b2 zCl)) (fun _ _ h => h) (fun i hi hm => by have := HB2.out; simp only [List.mem_cons, List.not_mem_nil, or_false] at hm; omega)⟩
        · have t4 : decide ((m : Int) ≤ x.place) = false := by simp; omega
          obtain ⟨j, hj⟩ : ∃ j : Nat, x.place = j := ⟨x.place.toNat, by omega⟩
          rw [hj] at x2 t3 t4 c3 c4
          have t4' : decide (m ≤ j) = false := by simp; omega
          have t3' : decide ((j : Int) < 0) = false := by simp
          obtain ⟨c, hc⟩ : ∃ c, l.L[j]? = some c := ⟨_, List.getElem?_eq_getElem (by have := HM.out; omega)⟩
          have bj : (j : Int) < (m : Int) := by omega
          obtain ⟨cb, coff, rfl, lcb, k0, k1, k2, k3⟩ := HAT2.out j c hc
          have HCC := Lib.hid (callP_at2 HI.out HL.out hj hc)
          clear hj hc c3 c4
          go_quiet (fail)
          obtain ⟨w4, hw4⟩ : ∃ y, w3.drewN nq = y := ⟨_, rfl⟩
          have u4 : Upd [] w3 w4 := by rw [← hw4]; exact (Upd.refl [] w3).drewN _
          rw [hw4]
          clear hw4
          have g0 : w4.cell? ⟨b0, 5, none⟩ = _ := (u4.cell l0 (by simp) 5).trans p5
          have g1 : w4.cell? ⟨b1, 1, none⟩ = _ := (u4.cell l1 (by simp) 1).trans x1
          have g2 : w4.cell? ⟨b1, 2, none⟩ = _ := (u4.cell l1 (by simp) 2).trans x2
          have g3 : w4.cell? ⟨b1, 3, none⟩ = _ := (u4.cell l1 (by simp) 3).trans x3
          have g4 := (u4.cell ll (by simp) (loff + i)).trans y0
          have g5 := (u4.cell lcb (by simp) (coff + j * 4)).trans k0
          have g6 := (u4.cell lcb (by simp) (coff + j * 4 + 1)).trans k1
          have g7 := (u4.cell lcb (by simp) (coff + j * 4 + 2)).trans k2
          have g8 := (u4.cell lcb (by simp) (coff + j * 4 + 3)).trans k3
          have h0 : w4.drew.cell? ⟨b0, 5, none⟩ = _ := g0
          have h1 : w4.drew.cell? ⟨b1, 1, none⟩ = _ := g1
          have h2 : w4.drew.cell? ⟨b1, 2, none⟩ = _ := g2
          have h3 : w4.drew.cell? ⟨b1, 3, none⟩ = _ := g3
          have h4 : w4.drew.cell? ⟨lb, loff + i, none⟩ = _ := g4
          have h5 : w4.drew.cell? ⟨cb, coff + j * 4, none⟩ = _ := g5
          have h6 : w4.drew.cell? ⟨cb, coff + j * 4 + 1, none⟩ = _ := g6
          have h7 : w4.drew.cell? ⟨cb, coff + j * 4 + 2, none⟩ = _ := g7
          have h8 : w4.drew.cell? ⟨cb, coff + j * 4 + 3, none⟩ = _ := g8
          have m0 := Nat.lt_of_lt_of_le l0 u4.size
          have m1 := Nat.lt_of_lt_of_le l1 u4.size
          have m2 := Nat.lt_of_lt_of_le l2 u4.size
          have m3 := Nat.lt_of_lt_of_le ll u4.size
          have m4 := Nat.lt_of_lt_of_le lcb u4.size
          have H4 := Lib.hid (H3.out.upd u4 (by simp))
          have HU4 := Lib.hid u4
          clear p5 x1 x2 x3 y0 k0 k1 k2 k3 q0 q1 q2 q3 f0 f1 f2 f3 l0 l1 l2 ll lcb u4
          go_wp2_with fail
          go_region
          all_goals
            obtain ⟨w5, hw5⟩ : ∃ y, (w4.alloc (.cells #[.int .i64 c.op, .int .i64 c.flow, .int .i64 c.a, .int .i64 c.b] 38)).drew = y := ⟨_, rfl⟩
            have hb5 : Blk w5 w4.heap.size 38 (clVs c) := by rw [← hw5]; exact (Blk.new w4 38 (clVs c)).upd (Upd.refl [] _).drew (by simp)
            have u5 : Upd [] w4 w5 := by rw [← hw5]; exact ((Upd.refl [] w4).alloc _).drew
            rw [hw5]
            obtain ⟨b4, hb4⟩ : ∃ y, w4.heap.size = y := ⟨_, rfl⟩
            rw [hb4] at hb5 m0 m1 m2
            rw [hb4]
            have j0 := (u5.cell (by rw [hb4]; exact m1) (by simp) 3).trans g3
            have q0 := hb5.cell (j := 0) rfl
            have q1 := hb5.cell (j := 1) rfl
            have q2 := hb5.cell (j := 2) rfl
            have q3 := hb5.cell (j := 3) rfl
            have f0 := hb5.free 0
            have f1 := hb5.free 1
            have f2 := hb5.free 2
            have f3 := hb5.free 3
            have H5 := Lib.hid (H4.out.upd u5 (by simp))
            have r0 := H5.out.cell (j := 0) rfl
            have r1 := H5.out.cell (j := 1) rfl
            have r2 := H5.out.cell (j := 2) rfl
            have r3 := H5.out.cell (j := 3) rfl
            have k0 := H5.out.free 0
            have k1 := H5.out.free 1
            have k2 := H5.out.free 2
            have k3 := H5.out.free 3
            have l4 := hb5.lt
            have l2 := H5.out.lt
            have n24 : b2 ≠ b4 := by omega
            have n42 := n24.symm
            have HU5 : Hid (Upd [] w w5) := HU3.out.trans (HU4.out.trans u5)
            have HW4 : Hid (w.heap.size ≤ b4) := by have := HU3.out.size; have := HU4.out.size; unfold Hid; omega
            clear hw5 hb5 u5 hb4 g0 g1 g2 g3 g4 g5 g6 g7 g8 h0 h1 h2 h3 h4 h5 h6 h7 h8 m0 m1 m2 m3 m4
            by_cases o5 : c.op = 5
            · have s1 : (c.op == 5) = true := by simp [o5]
              by_cases e1 : x.r.e = 1
              · have s2 : (x.r.e == 1) = true := by simp [e1]
                have HCC2 : Hid (callP p.L x = some c) := by unfold Hid; rw [HCC.out, if_neg (fun h => h.2 e1)]
                clear o5 e1
                go_wp2_with fail
                refine bodyPost_ret (v := .tuple #[.agg #[.int .i64 (c.op), .int .i64 (c.flow), .int .i64 (c.a), .int .i64 (c.b)], .bool true]) (by simp [results, Try.results9, go_sem, r0, r1, r2, r3]) rfl ?_
                exact ⟨by rw [HCC2.out]; rfl, HU5.out.then (callW_upd w5 b2 c) (fun _ _ h => h) (fun i hi hm => by have := HB2.out; simp only [List.mem_cons, List.not_mem_nil, or_false] at hm; omega)⟩
              · have s2 : (x.r.e == 1) = false := by simp [e1]
                have HCC2 : Hid (callP p.L x = some ⟨4, 0, 0, 0⟩) := by unfold Hid; rw [HCC.out, if_pos ⟨o5, e1⟩]
                clear o5 e1
                go_wp2_with fail
                refine bodyPost_ret (v := .tuple #[.agg #[.int .i64 4, .int .i64 0, .int .i64 0, .int .i64 0], .bool true]) (by simp [results, Try.results9, go_sem, r0, r1, r2, r3]) rfl ?_
                exact ⟨by rw [HCC2.out]; rfl, (HU5.out.then (callW_upd w5 b4 ⟨4, 0, 0, 0⟩) (fun _ _ h => h) (fun i hi hm => by have := HW4.out; simp only [List.mem_cons, List.not_mem_nil, or_false] at hm; omega)).then (callW_upd _ b2 ⟨4, 0, 0, 0⟩) (fun _ _ h => h) (fun i hi hm => by have := HB2.out; simp only [List.mem_cons, List.not_mem_nil, or_false] at hm; omega)⟩
            · have s1 : (c.op == 5) = false := by simp [o5]
              have HCC2 : Hid (callP p.L x = some c) := by unfold Hid; rw [HCC.out, if_neg (fun h => o5 h.1)]
              clear o5
              go_wp2_with fail
              refine bodyPost_ret (v := .tuple #[.agg #[.int .i64 (c.op), .int .i64 (c.flow), .int .i64 (c.a), .int .i64 (c.b)], .bool true]) (by simp [results, Try.results9, go_sem, r0, r1, r2, r3]) rfl ?_
              exact ⟨by rw [HCC2.out]; rfl, HU5.out.then (callW_upd w5 b2 c) (fun _ _ h => h) (fun i hi hm => by have := HB2.out; simp only [List.mem_cons, List.not_mem_nil, or_false] at hm; omega)⟩
end Go.Proofs.Ytmfndemnogpmcaa
