/-
  The walk of core.Pick. No condition.
-/
import Derived.Test.YtolohheflbmfaaaGreatDoorCe2
set_option linter.unusedVariables false
set_option linter.unusedSimpArgs false
namespace Go.Proofs.YtolohheflbmfaaaGreatDoor
open Go.RowKit

theorem QG.keysL {W w : World} {qb wd : Nat} {M : List Sh} {L : List It} {fp : List Nat} (h : QG W qb wd M L fp w) : ∀ x ∈ L, x.1 = (kn x : Int) ∧ kn x < 18446744073709551616 := fun x hx => by
  obtain ⟨i, hi, hm⟩ := h.ok.mem.1 hx
  exact ⟨(h.keys i hi x hm).1, (h.keys i hi x hm).2.1⟩
section
variable {W w : World} {kb qb wd tb ob : Nat} {T O : AL} {s : CS} {fp : List Nat}
theorem CAt.reblk (h : CAt W w kb qb wd tb ob T O s fp) {w' : World} (hu : Upd [kb] w w') (v most served : Nat) (is : Bool) (obj : Int) (key : Nat)
    (hb : Blk w' kb 83 [mval qb 51, mval qb 52, mval qb 53, .int .u64 v, .int .u64 most, .int .i64 served, .map (some tb), .map (some ob), .bool is, .int .i64 obj, .int .u64 key]) :
    CAt W w' kb qb wd tb ob T O { s with v := v, most := most, served := served, is := is, obj := obj, key := key } fp :=
  { h with
    blk := hb
    tm := h.tm.upd hu (by simp; exact fun e => h.d1 e.symm)
    om := h.om.upd hu (by simp; exact fun e => h.d2 e.symm)
    q := h.q.updS hu (fun c hc e => by simp only [List.mem_cons, List.not_mem_nil, or_false] at e; exact h.far kb (by simp) (e ▸ hc)) (fun c hc => by simp only [List.mem_cons, List.not_mem_nil, or_false] at hc; exact h.new c (by simp [hc])) }
theorem CAt.lookT (h : CAt W w kb qb wd tb ob T O s fp) (o : Int) : (Instr.lookup 78 (.map (some tb)) (.int .i64 o) false).run Tryz.prog w = .ok (thV (s.th o)) w := by
  have hl := h.tm.look (P := Tryz.prog) underlyingThMap underlyingIntC zeroThing o false
  rw [h.th o] at hl
  simpa only [Bool.false_eq_true, if_false] using hl
theorem CAt.lookO (h : CAt W w kb qb wd tb ob T O s fp) (f : Int) : (Instr.lookup 79 (.map (some ob)) (.int .i64 f) false).run Tryz.prog w = .ok (.int .i64 (s.ow f)) w := by
  have hl := h.om.look (P := Tryz.prog) underlyingIntMap underlyingInt zeroIntC f false
  rw [h.ow f] at hl
  simpa only [Bool.false_eq_true, if_false] using hl
end
set_option maxRecDepth 100000 in
set_option maxHeartbeats 16000000 in
theorem KG.pick {W w : World} {kb wd : Nat} {s : CS} {F : List Nat} (h : KG W kb wd s F w) :
    Calls Tryz.prog 13 #[.pointer (some ⟨kb, 0, none⟩)] w (fun e w' => e = .returned (pickV s) ∧ KGTo W kb wd (pickC s) F w w') := by
  obtain ⟨qb, tb, ob, T, O, fp, h, rfl⟩ := h
  obtain ⟨c0, c1, c2, c3, c4, c5, c6, c7, c8, c9, c10, lk⟩ := h.cells
  have hkl := h.q.keysL
  have HP : Hid (Calls Tryz.prog 52 #[.pointer (some ⟨qb, 0, none⟩)] w (fun e w' => e = .returned (firstV s.L) ∧ QGTo W qb wd (popM s.M s.L) s.L.tail fp w w')) := h.q.pop
  have HH := Lib.hid h
  unfold mval at c1
  cases hL : s.L with
  | nil =>
    have HN : Hid (pickV s = .tuple #[.int .i64 0, .int .u64 0, .bool false] ∧ pickC s = { s with v := Max.max s.v s.most }) := ⟨by unfold pickV; rw [hL], pickC_nil hL⟩
    rw [hL] at HP
    have HM : Hid (popM s.M [] = s.M ∧ [] = s.L) := ⟨rfl, hL.symm⟩
    rw [HN.out.1, HN.out.2]
    unfold firstV itV zIt at HP
    obtain ⟨k, hk⟩ : ∃ k, Max.max s.v s.most = k := ⟨_, rfl⟩
    have hmax : Max.max (s.v : Int) (s.most : Int) = (k : Int) := by omega
    rw [hk]
    clear h hkl hL hk
    go_enter Tryz.func13, Tryz.ntmps13
    go_wp2_with fail
    refine HP.out.mono ?_
    rintro e w2 ⟨rfl, h2⟩
    obtain ⟨fp2, g1, g2⟩ := HH.out.queue h2
    have g3 := g1.upd ((Upd.refl [] w2).alloc (.cells #[.int .u64 0, .int .i64 0] 54))
    obtain ⟨-, -, -, a3, a4, -, -, -, -, -, -, la⟩ := g3.cells
    have z3 := g3.blk.free 3
    have G3 := Lib.hid g3
    have G2 := Lib.hid (g2.up ((Upd.refl [] w2).alloc (.cells #[.int .u64 0, .int .i64 0] 54)))
    clear h2 g1 g2 g3
    go_wp2_with fail
    obtain ⟨wa, hwa⟩ : ∃ x, w2.alloc (.cells #[.int .u64 0, .int .i64 0] 54) = x := ⟨_, rfl⟩
    rw [hwa] at G3 G2 a3 a4 z3 la ⊢
    clear hwa
    go_region
    go_wp2_with fail
    refine bodyPost_ret (v := .tuple #[.int .i64 0, .int .u64 0, .bool false]) (by simp [results, Tryz.results13, go_sem]) rfl ?_
    have hB := (G3.out.blk.set 3 (.int .u64 k)).upd (Upd.refl [] _).drew (by simp)
    have hU : Upd [kb] wa (wa.setCell ⟨kb, 3, none⟩ (.int .u64 k)).drew := ((Upd.refl [kb] wa).setCell (.inl (by simp)) _).drew
    have h9 := G3.out.reblk hU k s.most s.served s.is s.obj s.key hB
    rw [HM.out.1] at h9
    refine ⟨rfl, _, ⟨qb, tb, ob, T, O, fp2, ?_, rfl⟩, G2.out.thenS hU (by simp)⟩
    have e := HM.out.2
    simp only [List.tail_nil] at h9
    rw [e] at h9
    exact h9
  | cons x l =>
    have hx := hkl x (by rw [hL]; simp)
    obtain ⟨k, hk⟩ : ∃ k, kn x = k := ⟨_, rfl⟩
    obtain ⟨f, hf⟩ : ∃ f, x.2 = f := ⟨_, rfl⟩
    obtain ⟨o, ho⟩ : ∃ o, s.ow f = o := ⟨_, rfl⟩
    obtain ⟨t, ht⟩ : ∃ t, s.th o = t := ⟨_, rfl⟩
    have HN : Hid (pickV s = .tuple #[.int .i64 o, .int .u64 t.place, .bool true] ∧ pickC s = { s with v := k, is := true, obj := o, key := k, M := popM s.M s.L, L := s.L.tail }) :=
      ⟨by unfold pickV; rw [hL]; simp only; rw [hf, ho, ht], by rw [pickC_cons hL, hk, hf, ho]⟩
    rw [HN.out.1, HN.out.2]
    have hv : firstV s.L = .tuple #[.agg #[.int .u64 k, .int .i64 f], .bool true] := by rw [hL]; show itV x true = _; unfold itV; rw [show x.1 = (k : Int) by rw [← hk]; exact hx.1, hf]
    rw [hv] at HP
    have HO := Lib.hid ho
    have HT := Lib.hid ht
    clear h hkl hL hk hx hf ho ht hv
    go_enter Tryz.func13, Tryz.ntmps13
    go_wp2_with fail
    refine HP.out.mono ?_
    rintro e w2 ⟨rfl, h2⟩
    obtain ⟨fp2, g1, g2⟩ := HH.out.queue h2
    have g3 := g1.upd ((Upd.refl [] w2).alloc (.cells #[.int .u64 k, .int .i64 f] 54))
    have G2 := Lib.hid (g2.up ((Upd.refl [] w2).alloc (.cells #[.int .u64 k, .int .i64 f] 54)))
    have n4 : w2.heap.size ≠ kb := fun e => by have := g1.blk.lt; omega
    have b4 : Blk (w2.alloc (.cells #[.int .u64 k, .int .i64 f] 54)) w2.heap.size 54 [.int .u64 k, .int .i64 f] := Blk.new w2 54 _
    obtain ⟨wa, hwa⟩ : ∃ x, w2.alloc (.cells #[.int .u64 k, .int .i64 f] 54) = x := ⟨_, rfl⟩
    rw [hwa] at g3 G2 b4
    have hU : Upd [kb] wa (wa.setCell ⟨kb, 3, none⟩ (.int .u64 k)) := (Upd.refl [kb] wa).setCell (.inl (by simp)) _
    have g5 := g3.reblk hU k s.most s.served s.is s.obj s.key (g3.blk.set 3 (.int .u64 k))
    have b5 := b4.upd hU (by simp; exact n4)
    have z3 := g3.blk.free 3
    have y0 := b4.cell (j := 0) rfl
    obtain ⟨-, -, -, a3, -, -, -, -, -, -, -, la⟩ := g3.cells
    have G3 := Lib.hid g3
    have G5 := Lib.hid g5
    have B5 := Lib.hid b5
    have HWA := Lib.hid hwa
    have N4 := Lib.hid n4
    have HUW := Lib.hid hU
    clear h2 g1 g2 g3 g5 b4 b5 hwa n4 hU
    go_wp2_with (first | rw [HWA.out] | fail)
    obtain ⟨wb, hwb⟩ : ∃ x, wa.setCell ⟨kb, 3, none⟩ (.int .u64 k) = x := ⟨_, rfl⟩
    rw [hwb] at G5 B5 HUW ⊢
    clear a3 z3 y0 la hwb
    have g6 := G5.out.upd (Upd.refl [] wb).drew
    have b6 := B5.out.upd (Upd.refl [] wb).drew (by simp)
    have y0 := b6.cell (j := 0) rfl
    have y1 := b6.cell (j := 1) rfl
    have lo := g6.lookO f
    rw [show ({ s with v := k, M := popM s.M s.L, L := s.L.tail } : CS).ow f = o from HO.out] at lo
    obtain ⟨-, -, -, -, -, -, -, a7, -, -, -, la⟩ := g6.cells
    obtain ⟨-, -, -, -, -, -, -, -, a8, a9, a10, -⟩ := G5.out.cells
    have z8 := G5.out.blk.free 8
    have z9 := G5.out.blk.free 9
    have z10 := G5.out.blk.free 10
    have G6 := Lib.hid g6
    clear g6 b6
    go_region
    go_wp2_with fail
    obtain ⟨wc, hwc⟩ : ∃ x, (((wb.setCell ⟨kb, 8, none⟩ (.bool true)).setCell ⟨kb, 9, none⟩ (.int .i64 o)).setCell ⟨kb, 10, none⟩ (.int .u64 k)).drew = x := ⟨_, rfl⟩
    rw [hwc]
    have hU8 : Upd [kb] wb wc := by rw [← hwc]; exact ((((Upd.refl [kb] wb).setCell (.inl (by simp)) _).setCell (.inl (by simp)) _).setCell (.inl (by simp)) _).drew
    have g8 := G5.out.reblk hU8 k s.most s.served true o k (by rw [← hwc]; exact (((G5.out.blk.set 8 (.bool true)).set 9 (.int .i64 o)).set 10 (.int .u64 k)).upd (Upd.refl [] _).drew (by simp))
    have g9 := g8.upd (Upd.refl [] wc).drew
    have lt := g9.lookT o
    rw [show ({ s with v := k, is := true, obj := o, key := k, M := popM s.M s.L, L := s.L.tail } : CS).th o = t from HT.out] at lt
    unfold thV at lt
    have hfd : (Instr.field 75 (.agg #[.int .i64 t.flow, .int .u64 t.r, .int .u64 t.finish, .int .u64 t.place]) 3).run Tryz.prog wc.drew = .ok (.int .u64 t.place) wc.drew := rfl
    obtain ⟨-, -, -, -, -, -, d6, -, -, d9, -, ld⟩ := g9.cells
    have G8 := Lib.hid g8
    have HU8 := Lib.hid hU8
    clear g8 g9 hwc hU8 y0 y1 lo a7 la a8 a9 a10 z8 z9 z10
    go_region
    go_wp2_with fail
    refine bodyPost_ret (v := .tuple #[.int .i64 o, .int .u64 t.place, .bool true]) (by simp [results, Tryz.results13, go_sem]) rfl ?_
    exact ⟨rfl, _, ⟨qb, tb, ob, T, O, fp2, G8.out.upd (Upd.refl [] wc).drew, rfl⟩, ((G2.out.thenS HUW.out (by simp)).thenS HU8.out (by simp)).up (Upd.refl [] wc).drew⟩
end Go.Proofs.YtolohheflbmfaaaGreatDoor
