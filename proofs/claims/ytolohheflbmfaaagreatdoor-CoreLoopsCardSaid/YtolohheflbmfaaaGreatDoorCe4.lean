/-
  The walk of core.Done. No condition.
-/
import Derived.Test.YtolohheflbmfaaaGreatDoorCe3
import Derived.Test.YtolohheflbmfaaaGreatDoorCc
set_option linter.unusedVariables false
set_option linter.unusedSimpArgs false
namespace Go.Proofs.YtolohheflbmfaaaGreatDoor
open Go.RowKit
theorem CAt.putT {W w w' : World} {kb qb wd tb ob : Nat} {T O : AL} {s : CS} {fp : List Nat} (h : CAt W w kb qb wd tb ob T O s fp) {o : Int} {t' : Th} (m : MapTo w tb (putM T o (thV t')) w') :
    CAt W w' kb qb wd tb ob (putM T o (thV t')) O { s with th := updI s.th o t' } fp ∧ Upd [tb] w w' := by
  refine ⟨{ h with
    blk := h.blk.upd m.upd (by simp; exact h.d1)
    tm := m.map
    om := h.om.upd m.upd (by simp; exact fun e => h.d3 e.symm)
    th := fun j => ?_
    q := h.q.updS m.upd (fun c hc e => by simp only [List.mem_cons, List.not_mem_nil, or_false] at e; exact h.far tb (by simp) (e ▸ hc)) (fun c hc => by simp only [List.mem_cons, List.not_mem_nil, or_false] at hc; exact h.new c (by simp [hc])) }, m.upd⟩
  rw [lookM_put]; simp only [updI]; split
  · rfl
  · exact h.th j
theorem doneC_true {s : CS} {size o : Int} {key c fin p1 : Nat} {t : Th} (more : Bool) (his : s.is = true) (ho : s.obj = o) (hk : s.key = key) (ht : s.th o = t) (hc : mulT (sizeN size) t.r = c) (hf : addT key c = fin) (hp : t.place + 1 = p1) :
    doneC s size more = { s with is := false, obj := 0, key := 0, th := updI s.th o ⟨t.flow, t.r, fin, p1⟩, most := Max.max s.most fin, served := s.served + 1, M := if more = true then pushM s.M fin t.flow else s.M, L := if more = true then pushL s.M s.L fin t.flow else s.L } := by
  have hd : doneT s size = ⟨t.flow, t.r, fin, p1⟩ := by unfold doneT; rw [ho, ht, hc, hk, hf, hp]
  unfold doneC
  rw [if_pos his, hd, ho]

set_option maxRecDepth 100000 in
set_option maxHeartbeats 16000000 in
theorem KG.done {W w : World} {kb wd n : Nat} {s : CS} {F : List Nat} (h : KG W kb wd s F w) (hci : CI s n) (hn : n < 900) (size : Int) (hs : size < 9223372036854775808) (more : Bool) :
    Calls Tryz.prog 14 #[.pointer (some ⟨kb, 0, none⟩), .int .i64 size, .bool more] w (fun e w' => e = .returned (.bool s.is) ∧ KGTo W kb wd (doneC s size more) F w w') := by
  obtain ⟨qb, tb, ob, T, O, fp, h, rfl⟩ := h
  obtain ⟨c0, c1, c2, c3, c4, c5, c6, c7, c8, c9, c10, lk⟩ := h.cells
  have HH := Lib.hid h
  cases his : s.is with
  | false =>
    have HN : Hid (doneC s size more = s) := by unfold Hid doneC; rw [if_neg (by simp [his])]
    rw [HN.out]
    rw [his] at c8
    clear h hci
    go_enter Tryz.func14, Tryz.ntmps14
    go_wp2_with fail
    go_ret
    exact ⟨rfl, _, ⟨qb, tb, ob, T, O, fp, HH.out.upd ((Upd.refl [] w).alloc _), rfl⟩, Fr.of ((Upd.refl [] w).alloc _)⟩
  | true =>
    rw [his] at c8
    obtain ⟨o, ho⟩ : ∃ o, s.obj = o := ⟨_, rfl⟩
    obtain ⟨key, hkey⟩ : ∃ o, s.key = o := ⟨_, rfl⟩
    obtain ⟨t, ht⟩ : ∃ t, s.th o = t := ⟨_, rfl⟩
    have z8 := h.blk.free 8
    have z9 := h.blk.free 9
    have z10 := h.blk.free 10
    rw [ho] at c9
    rw [hkey] at c10
    have HO := Lib.hid ho
    have HKEY := Lib.hid hkey
    have HT := Lib.hid ht
    obtain ⟨c, hc⟩ : ∃ c, mulT (sizeN size) t.r = c := ⟨_, rfl⟩
    obtain ⟨fin, hfin⟩ : ∃ f, addT key c = f := ⟨_, rfl⟩
    have HC : Hid (∀ w, Calls Tryz.prog 36 #[.int .i64 size, .int .u64 t.r] w (fun e w' => e = .returned (.int .u64 c) ∧ w = w')) := fun w => by rw [← hc]; exact tgcost size hs t.r (by rw [← ht]; exact hci.r64 o) w
    have HA : Hid (∀ w, Calls Tryz.prog 35 #[.int .u64 key, .int .u64 c] w (fun e w' => e = .returned (.int .u64 fin) ∧ w = w')) := fun w => by rw [← hfin]; exact tgadd key c (by rw [← hkey]; exact hci.k64) (by rw [← hc]; exact mulT_lt _ _) w
    obtain ⟨p1, hp1⟩ : ∃ p, t.place + 1 = p := ⟨_, rfl⟩
    obtain ⟨sv, hsv⟩ : ∃ p, s.served + 1 = p := ⟨_, rfl⟩
    obtain ⟨mx, hmx⟩ : ∃ p, Max.max s.most fin = p := ⟨_, rfl⟩
    have hwp : IntKind.u64.wrap ((t.place : Int) + 1) = (p1 : Int) := by
      have := hci.place o; rw [ht] at this; rw [IntKind.wrap_u64]; omega
    have hws : IntKind.i64.wrap ((s.served : Int) + 1) = (sv : Int) := by
      have := hci.srv; rw [IntKind.wrap_i64]; omega
    have hmax : Max.max (s.most : Int) (fin : Int) = (mx : Int) := by omega
    have HDN : Hid (doneC s size more = { s with is := false, obj := 0, key := 0, th := updI s.th o ⟨t.flow, t.r, fin, p1⟩, most := mx, served := sv, M := if more = true then pushM s.M fin t.flow else s.M, L := if more = true then pushL s.M s.L fin t.flow else s.L }) := by
      unfold Hid; rw [← hmx, ← hsv]; exact doneC_true more his ho hkey ht hc hfin hp1
    have HLN : Hid (s.L.length < 1000) := by unfold Hid; have := hci.len; omega
    have HF64 : Hid (fin < 18446744073709551616) := by unfold Hid; rw [← hfin]; exact addT_lt _ _
    clear hp1 hsv hmx hci
    have HC1 := Lib.hid hc
    have HF1 := Lib.hid hfin
    clear hc hfin
    have n1 : w.heap.size ≠ kb := fun e => by have := h.blk.lt; omega
    clear h
    go_enter Tryz.func14, Tryz.ntmps14
    go_wp2_with fail
    obtain ⟨w2, hw2⟩ : ∃ x, (((w.setCell ⟨kb, 8, none⟩ (.bool false)).setCell ⟨kb, 9, none⟩ (.int .i64 0)).setCell ⟨kb, 10, none⟩ (.int .u64 0)).alloc (.cells #[.bool true, .int .i64 o, .int .u64 key] 81) = x := ⟨_, rfl⟩
    rw [hw2]
    have hU2 : Upd [kb] w w2 := by rw [← hw2]; exact ((((Upd.refl [kb] w).setCell (.inl (by simp)) _).setCell (.inl (by simp)) _).setCell (.inl (by simp)) _).alloc _
    have g2 := HH.out.reblk hU2 s.v s.most s.served false 0 0 (by
      rw [← hw2]; exact (((HH.out.blk.set 8 (.bool false)).set 9 (.int .i64 0)).set 10 (.int .u64 0)).alloc _)
    have b2 : Blk w2 w.heap.size 81 [.bool true, .int .i64 o, .int .u64 key] := by
      have := Blk.new (((w.setCell ⟨kb, 8, none⟩ (.bool false)).setCell ⟨kb, 9, none⟩ (.int .i64 0)).setCell ⟨kb, 10, none⟩ (.int .u64 0)) 81 [.bool true, .int .i64 o, .int .u64 key]
      rw [← hw2]
      simpa using this
    have sz2 : w2.heap.size = w.heap.size + 1 := by rw [← hw2]; simp
    have g2d := g2.upd (Upd.refl [] w2).drew
    have g2a := g2.upd ((Upd.refl [] w2).alloc (.cells #[.int .i64 0, .int .u64 0, .int .u64 0, .int .u64 0] 75)).drew
    have l1 := g2d.lookT o
    have l2 := g2a.lookT o
    rw [show ({ s with v := s.v, most := s.most, served := s.served, is := false, obj := 0, key := 0 } : CS).th o = t from HT.out] at l1 l2
    unfold thV at l1 l2
    obtain ⟨-, -, -, -, -, -, d6, -, -, -, -, ld⟩ := g2d.cells
    obtain ⟨-, -, -, -, -, -, d6', -, -, -, -, -⟩ := g2.cells
    obtain ⟨-, -, -, -, -, -, d6a, -, -, -, -, -⟩ := (g2.upd ((Upd.refl [] w2).alloc (.cells #[.int .i64 0, .int .u64 0, .int .u64 0, .int .u64 0] 75))).cells
    have b21a := (b2.alloc (.cells #[.int .i64 0, .int .u64 0, .int .u64 0, .int .u64 0] 75)).cell (j := 1) rfl
    have b20 := b2.cell (j := 0) rfl
    have b21 := b2.cell (j := 1) rfl
    have b22 := b2.cell (j := 2) rfl
    have lb2 := b2.lt
    have G2 := Lib.hid g2
    have B2 := Lib.hid b2
    have HU2 := Lib.hid hU2
    have SZ2 := Lib.hid sz2
    clear hw2 hU2 g2 b2 g2d g2a c0 c1 c2 c3 c4 c5 c6 c7 c8 c9 c10 z8 z9 z10 lk sz2
    go_region
    all_goals
      clear d6 d6' d6a l1 l2 b20 b21 b22 b21a ld
      go_wp2_with fail
      obtain ⟨tb3, htb⟩ : ∃ x, w2.heap.size = x := ⟨_, rfl⟩
      obtain ⟨w3, hw3⟩ : ∃ x, (w2.alloc (.cells #[.int .i64 t.flow, .int .u64 t.r, .int .u64 t.finish, .int .u64 t.place] 75)).drew = x := ⟨_, rfl⟩
      have hU3 : Upd [] w2 w3 := by rw [← hw3]; exact ((Upd.refl [] w2).alloc _).drew
      have t3 : Blk w3 tb3 75 [.int .i64 t.flow, .int .u64 t.r, .int .u64 t.finish, .int .u64 t.place] := by
        rw [← hw3, ← htb]; exact (Blk.new w2 75 [.int .i64 t.flow, .int .u64 t.r, .int .u64 t.finish, .int .u64 t.place]).upd (Upd.refl [] _).drew (by simp)
      rw [hw3, htb]
      rw [htb] at SZ2
      have HTB := Lib.hid htb
      clear hw3 htb
      have b3 := B2.out.upd hU3 (by simp)
      have G3 := Lib.hid (G2.out.upd hU3)
      have HU3 := Lib.hid hU3
      have y0 := b3.cell (j := 0) rfl
      have y1 := b3.cell (j := 1) rfl
      have y2 := b3.cell (j := 2) rfl
      have x0 := t3.cell (j := 0) rfl
      have x1 := t3.cell (j := 1) rfl
      have x2 := t3.cell (j := 2) rfl
      have x3 := t3.cell (j := 3) rfl
      have z2 := t3.free 2
      have z3 := t3.free 3
      have lt3 := t3.lt
      have lb3 := b3.lt
      have B3 := Lib.hid b3
      have T3 := Lib.hid t3
      clear b3 t3 hU3
      refine wp_region_tail 8 (by kernel_rfl) (by kernel_rfl) ?_
      simp only [List.take_succ_cons, List.take_zero, List.drop_succ_cons, List.drop_zero]
      repeat (go_big_quiet_step (first | (exact ((HC.out _).mono (fun _ _ h => ⟨h.1, h.2.symm⟩)) _) | (exact ((HA.out _).mono (fun _ _ h => ⟨h.1, h.2.symm⟩)) _)))
      refine wpQuiet_nil ?_
      go_wp2_with fail
      obtain ⟨w4, hw4⟩ : ∃ x, ((w3.setCell ⟨tb3, 2, none⟩ (.int .u64 fin)).setCell ⟨tb3, 3, none⟩ (.int .u64 p1)).drew = x := ⟨_, rfl⟩
      rw [hw4]
      have hU4 : Upd [tb3] w3 w4 := by rw [← hw4]; exact (((Upd.refl [tb3] w3).setCell (.inl (by simp)) _).setCell (.inl (by simp)) _).drew
      have t4 : Blk w4 tb3 75 [.int .i64 t.flow, .int .u64 t.r, .int .u64 fin, .int .u64 p1] := by rw [← hw4]; exact ((T3.out.set 2 _).set 3 _).upd (Upd.refl [] _).drew (by simp)
      clear hw4 y0 y1 y2 x0 x1 x2 x3 z2 z3 lt3 lb3
      have g4 := G3.out.updS hU4 (fun c hc e => by
        have h1 := G2.out.lt c hc
        rw [HTB.out] at h1
        simp only [List.mem_cons, List.not_mem_nil, or_false] at e
        omega) (fun c hc => by
        simp only [List.mem_cons, List.not_mem_nil, or_false] at hc
        have h1 := G2.out.q.updW.size
        rw [HTB.out] at h1
        omega)
      have b4 := B3.out.upd hU4 (by simp; have := SZ2.out; omega)
      have g4d := g4.upd (Upd.refl [] w4).drew
      obtain ⟨w5, e5, m5⟩ := g4d.tm.put (P := Tryz.prog) underlyingThMap underlyingIntC o (thV ⟨t.flow, t.r, fin, p1⟩)
      obtain ⟨g5, hU5⟩ := g4d.putT m5
      have hnt : tb ∉ ([tb3] : List Nat) := fun e => by
        have h1 := G2.out.tm.lt; rw [HTB.out] at h1; simp only [List.mem_cons, List.not_mem_nil, or_false] at e; omega
      have hnt2 : tb3 ∉ ([tb] : List Nat) := fun e => by
        have h1 := G2.out.tm.lt; rw [HTB.out] at h1; simp only [List.mem_cons, List.not_mem_nil, or_false] at e; omega
      unfold thV at e5
      obtain ⟨-, -, -, -, -, -, d6, -, -, -, -, ld⟩ := g4.cells
      have y1 := b4.cell (j := 1) rfl
      have x0 := t4.cell (j := 0) rfl
      have x1 := t4.cell (j := 1) rfl
      have x2 := t4.cell (j := 2) rfl
      have x3 := t4.cell (j := 3) rfl
      have t5 := (t4.upd (Upd.refl [] w4).drew (by simp)).upd hU5 hnt2
      have HU4 := Lib.hid hU4
      have HU5 := Lib.hid hU5
      have G5 := Lib.hid g5
      have T5 := Lib.hid t5
      clear hU4 hU5 g4 g4d g5 t4 t5 b4 m5 hnt hnt2
      go_region
      go_wp2_with fail
      clear x0 x1 x2 x3 y1 d6 ld e5
      obtain ⟨-, -, -, -, a4, a5, -, -, -, -, -, la⟩ := G5.out.cells
      have z4 := G5.out.blk.free 4
      have z5 := G5.out.blk.free 5
      have x2 := T5.out.cell (j := 2) rfl
      go_region
      all_goals
        obtain ⟨w6, hw6⟩ : ∃ x, ((w5.setCell ⟨kb, 4, none⟩ (.int .u64 mx)).setCell ⟨kb, 5, none⟩ (.int .i64 sv)).drew = x := ⟨_, rfl⟩
        have hU6 : Upd [kb] w5 w6 := by rw [← hw6]; exact (((Upd.refl [kb] w5).setCell (.inl (by simp)) _).setCell (.inl (by simp)) _).drew
        have g6 := G5.out.reblk hU6 s.v mx sv false 0 0 (by rw [← hw6]; exact ((G5.out.blk.set 4 (.int .u64 mx)).set 5 (.int .i64 sv)).upd (Upd.refl [] _).drew (by simp))
        have hkt : tb3 ∉ ([kb] : List Nat) := fun e => by
          have h1 := G2.out.blk.lt; rw [HTB.out] at h1; simp only [List.mem_cons, List.not_mem_nil, or_false] at e; omega
        have t6 := T5.out.upd hU6 hkt
        have hFr : Fr (kb :: tb :: ob :: fp) (kb :: tb :: ob :: fp) w w6 := (((((Fr.refl _ w).thenS HU2.out (by simp)).up HU3.out).thenS HU4.out (fun c hc => by
          simp only [List.mem_cons, List.not_mem_nil, or_false] at hc; have := SZ2.out; omega)).up (Upd.refl [] w4).drew).thenS HU5.out (by simp) |>.thenS hU6 (by simp)
        have HFr := Lib.hid hFr
        have G6 := Lib.hid g6
        have T6 := Lib.hid t6
        clear hU6 g6 t6 hFr hkt x2
        cases more with
        | false =>
          go_wp2_with fail
          try rw [hw6]
          go_ret
          rw [HDN.out]
          exact ⟨rfl, _, ⟨qb, tb, ob, _, O, fp, G6.out, rfl⟩, HFr.out⟩
        | true =>
          go_wp2_with fail
          try rw [hw6]
          clear hw6 a4 a5 z4 z5 la
          obtain ⟨a0, -, -, -, -, -, -, -, -, -, -, la⟩ := G6.out.cells
          unfold mval at a0
          have x0 := T6.out.cell (j := 0) rfl
          have x2 := T6.out.cell (j := 2) rfl
          have HP := Lib.hid ((G6.out.upd (Upd.refl [] w6).drew).q.push fin HF64.out t.flow HLN.out)
          refine wp_region_tail 9 (by kernel_rfl) (by kernel_rfl) ?_
          simp only [List.take_succ_cons, List.take_zero, List.drop_succ_cons, List.drop_zero]
          repeat (go_big_quiet_step (fail))
          refine wpQuiet_nil ?_
          go_wp2_with fail
          refine HP.out.mono ?_
          rintro e w7 ⟨rfl, h7⟩
          obtain ⟨fp7, g7, f7⟩ := (G6.out.upd (Upd.refl [] w6).drew).queue h7
          have G7 := Lib.hid g7
          have F7 := Lib.hid f7
          clear h7 g7 f7 a0 x0 x2 la
          go_wp2_with fail
          go_ret
          rw [HDN.out]
          exact ⟨rfl, _, ⟨qb, tb, ob, _, O, fp7, G7.out, rfl⟩, (HFr.out.up (Upd.refl [] w6).drew).trans F7.out⟩
end Go.Proofs.YtolohheflbmfaaaGreatDoor
