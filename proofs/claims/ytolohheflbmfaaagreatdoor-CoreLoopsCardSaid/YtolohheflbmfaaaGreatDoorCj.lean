/-
  The walk of ref16's Done. No condition.
-/
import Derived.Test.YtolohheflbmfaaaGreatDoorCi
set_option linter.unusedVariables false
set_option linter.unusedSimpArgs false
namespace Go.Proofs.YtolohheflbmfaaaGreatDoor
open Go.RowKit
theorem woken_set2 {R : List Wk} {i : Nat} {k : Wk} (hk : R[i]? = some k) (fin place : Nat) :
    ((R.flatMap wkVs).set (i * 6 + 4) (.int .u64 fin)).set (i * 6 + 5) (.int .u64 place) = (R.set i { k with fin := fin, place := place }).flatMap wkVs := by
  have hl := (List.getElem?_eq_some_iff.1 hk).1
  rw [flat_set wkVs 6 wkVs_len R i k { k with fin := fin } hk 4 _ (by omega) rfl,
    flat_set wkVs 6 wkVs_len _ i { k with fin := fin } { k with fin := fin, place := place } (by simp [hl]) 5 _ (by omega) rfl]
  simp
section
variable {W w : World} {kb rb wd : Nat} {aoL aoP : Option Addr} {cL cP : Nat} {R : List Wk} {P : List Int} {at_ key : Nat} {s : CS} {fq : List Nat}
/-- The block anew. -/
theorem RCAt.reblk (h : RCAt W w kb rb wd aoL aoP cL cP R P at_ key s fq) {w' : World} (hu : Upd [kb] w w') (v most served : Nat) (is : Bool) (obj : Int) (key' at2 key2 : Nat)
    (hb : Blk w' kb 91 [.pointer (some ⟨rb, 0, none⟩), .int .u64 v, .int .u64 most, .int .i64 served, .slice aoL R.length cL, .slice aoP P.length cP, .bool is, .int .i64 at2, .int .u64 key2])
    (hpk : is = true → key2 = key' ∧ ∃ k, R[at2]? = some k ∧ k.obj = obj) :
    RCAt W w' kb rb wd aoL aoP cL cP R P at2 key2 { s with v := v, most := most, served := served, is := is, obj := obj, key := key' } fq :=
  { h with
    blk := hb
    rowL := h.rowL.upd hu (fun c hc e => by simp only [List.mem_cons, List.not_mem_nil, or_false] at e; exact h.d1 (e ▸ hc))
    rowP := h.rowP.upd hu (fun c hc e => by simp only [List.mem_cons, List.not_mem_nil, or_false] at e; exact h.d2 (e ▸ hc))
    q := h.q.updS hu (fun c hc e => by simp only [List.mem_cons, List.not_mem_nil, or_false] at e; exact h.far kb (by simp) (e ▸ hc))
    pk := hpk }

set_option maxRecDepth 100000 in
set_option maxHeartbeats 16000000 in
theorem RCAt.done {n : Nat} (h : RCAt W w kb rb wd aoL aoP cL cP R P at_ key s fq) (hci : CI s n) (hn : n < 900) (hRn : R.length ≤ n) (hPn : P.length ≤ 2 * n) (size : Int) (hs : size < 9223372036854775808) (more : Bool) :
    Calls Tryz.prog 21 #[.pointer (some ⟨kb, 0, none⟩), .int .i64 size, .bool more] w (fun e w' => e = .returned (.bool s.is) ∧ RG16To W kb wd (n + 1) (doneC s size more) (rcBlks kb aoL aoP ++ fq) w w') := by
  have HRN : Hid (R.length ≤ n + 1 ∧ P.length ≤ 2 * (n + 1)) := ⟨by omega, by omega⟩
  clear hRn hPn
  have HH := Lib.hid h
  obtain ⟨c0, c1, c2, c3, c4, c5, c6, c7, c8, lb⟩ := h.cells
  cases his : s.is with
  | false =>
    have HN : Hid (doneC s size more = s) := by unfold Hid doneC; rw [if_neg (by simp [his])]
    rw [HN.out]
    rw [his] at c6
    clear h hci
    go_enter Tryz.func21, Tryz.ntmps21
    go_wp2_with fail
    go_ret
    exact ⟨rfl, _, ⟨rb, aoL, aoP, cL, cP, R, P, at_, key, fq, HH.out, rfl, HRN.out⟩, Fr.refl _ _⟩
  | true =>
    rw [his] at c6
    obtain ⟨hkey, k2, hk2, ho2⟩ := h.pk his
    obtain ⟨g, hg, hrow, x0, x1, x2, x3, x4, x5⟩ := h.woken hk2
    subst hg
    have hth : s.th s.obj = wkTh k2 := by
      have h3 := h.th k2.obj
      rw [thW_at h.nd hk2] at h3
      rw [← ho2]; exact h3
    obtain ⟨c, hc⟩ : ∃ c, mulT (sizeN size) k2.r = c := ⟨_, rfl⟩
    obtain ⟨fin, hfin⟩ : ∃ f, addT key c = f := ⟨_, rfl⟩
    have HC : Hid (∀ w, Calls Tryz.prog 42 #[.int .i64 size, .int .u64 k2.r] w (fun e w' => e = .returned (.int .u64 c) ∧ w = w')) := fun w => by rw [← hc]; exact rfcost size hs k2.r (by have := hci.r64 s.obj; rw [hth] at this; exact this) w
    have HA : Hid (∀ w, Calls Tryz.prog 41 #[.int .u64 key, .int .u64 c] w (fun e w' => e = .returned (.int .u64 fin) ∧ w = w')) := fun w => by rw [← hfin]; exact rfadd key c (by rw [hkey]; exact hci.k64) (by rw [← hc]; exact mulT_lt _ _) w
    obtain ⟨p1, hp1⟩ : ∃ p, k2.place + 1 = p := ⟨_, rfl⟩
    obtain ⟨sv, hsv⟩ : ∃ p, s.served + 1 = p := ⟨_, rfl⟩
    obtain ⟨mx, hmx⟩ : ∃ p, Max.max s.most fin = p := ⟨_, rfl⟩
    have hwp : IntKind.u64.wrap ((k2.place : Int) + 1) = (p1 : Int) := by
      have := hci.place s.obj; rw [hth] at this; simp only [wkTh] at this; rw [IntKind.wrap_u64]; omega
    have hws : IntKind.i64.wrap ((s.served : Int) + 1) = (sv : Int) := by
      have := hci.srv; rw [IntKind.wrap_i64]; omega
    have hmax : Max.max (s.most : Int) (fin : Int) = (mx : Int) := by omega
    have HDN : Hid (doneC s size more = { s with is := false, obj := 0, key := 0, th := updI s.th s.obj ⟨k2.flow, k2.r, fin, p1⟩, most := mx, served := sv, M := if more = true then pushM s.M fin k2.flow else s.M, L := if more = true then pushL s.M s.L fin k2.flow else s.L }) := by
      unfold Hid; rw [← hmx, ← hsv]; exact doneC_true more his rfl rfl hth hc (by rw [← hkey]; exact hfin) hp1
    have HLN : Hid (s.L.length < 1000) := by unfold Hid; have := hci.len; omega
    have HF64 : Hid (fin < 18446744073709551616) := by unfold Hid; rw [← hfin]; exact addT_lt _ _
    have HQK := Lib.hid hci.ok
    have HK2 := Lib.hid hk2
    have HO2 := Lib.hid ho2
    have HRW := Lib.hid hrow
    have y4 := hrow.free (at_ * 6 + 4)
    have y5 := hrow.free (at_ * 6 + 5)
    have z2 := h.blk.free 2
    have z3 := h.blk.free 3
    have z6 := h.blk.free 6
    have hal : at_ < R.length := (List.getElem?_eq_some_iff.1 hk2).1
    obtain ⟨n3, hn3⟩ : ∃ x, R.length = x := ⟨_, rfl⟩
    rw [hn3] at c4 hal
    have b3 : (at_ : Int) < (n3 : Int) := by omega
    have hl3 : n3 ≤ 1000 := by rw [← hn3]; exact h.lenL
    clear h hci hkey hk2 ho2 hth hc hfin hp1 hsv hmx hrow hn3
    go_enter Tryz.func21, Tryz.ntmps21
    go_wp2_with fail
    go_region
    go_wp2_with fail
    refine wp_region_tail 15 (by kernel_rfl) (by kernel_rfl) ?_
    simp only [List.take_succ_cons, List.take_zero, List.drop_succ_cons, List.drop_zero]
    repeat (go_big_quiet_step (first | (exact ((HC.out _).mono (fun _ _ h => ⟨h.1, h.2.symm⟩)) _) | (exact ((HA.out _).mono (fun _ _ h => ⟨h.1, h.2.symm⟩)) _)))
    refine wpQuiet_nil ?_
    go_wp2_with fail
    obtain ⟨w2, hw2⟩ : ∃ x, ((w.setCell ⟨g, at_ * 6 + 4, none⟩ (.int .u64 fin)).setCell ⟨g, at_ * 6 + 5, none⟩ (.int .u64 p1)).drew.drew = x := ⟨_, rfl⟩
    rw [hw2]
    have hU2 : Upd (blkO (some ⟨g, 0, none⟩)) w w2 := by rw [← hw2]; exact (((Upd.refl _ w).setCell (.inl (by simp [blkO])) _).setCell (.inl (by simp [blkO])) _).drew.drew
    have g2 := HH.out.setK HK2.out (k' := { k2 with fin := fin, place := p1 }) rfl hU2 (by
      rw [← hw2, ← woken_set2 HK2.out fin p1]
      exact (((HRW.out.set (at_ * 6 + 4) (.int .u64 fin)).set (at_ * 6 + 5) (.int .u64 p1)).drew.drew).o)
    have hkk : (R.set at_ { k2 with fin := fin, place := p1 })[at_]? = some { k2 with fin := fin, place := p1 } := by
      rw [List.getElem?_set, if_pos rfl]; simp [(List.getElem?_eq_some_iff.1 HK2.out).1]
    obtain ⟨g', hg', -, v0, v1, -, -, v4, -⟩ := g2.woken hkk
    cases hg'
    have G2 := Lib.hid g2
    have HU2 := Lib.hid hU2
    obtain ⟨d0, d1, d2, d3, d4, d5, d6, d7, d8, ld⟩ := g2.cells
    have z2 := g2.blk.free 2
    have z3 := g2.blk.free 3
    have z6 := g2.blk.free 6
    clear g2 hU2 hw2 hkk c0 c1 c2 c3 c4 c5 c6 c7 c8 x0 x1 x2 x3 x4 x5 y4 y5
    go_region
    all_goals
      obtain ⟨w3, hw3⟩ : ∃ x, (((w2.setCell ⟨kb, 2, none⟩ (.int .u64 mx)).setCell ⟨kb, 3, none⟩ (.int .i64 sv)).setCell ⟨kb, 6, none⟩ (.bool false)).drew = x := ⟨_, rfl⟩
      have hU3 : Upd [kb] w2 w3 := by rw [← hw3]; exact ((((Upd.refl [kb] w2).setCell (.inl (by simp)) _).setCell (.inl (by simp)) _).setCell (.inl (by simp)) _).drew
      have g3 := G2.out.reblk hU3 s.v mx sv false 0 0 at_ key (by rw [← hw3]; exact (((G2.out.blk.set 2 (.int .u64 mx)).set 3 (.int .i64 sv)).set 6 (.bool false)).upd (Upd.refl [] _).drew (by simp)) (fun h => (by cases h))
      have hFr : Fr (rcBlks kb (some ⟨g, 0, none⟩) aoP ++ fq) (rcBlks kb (some ⟨g, 0, none⟩) aoP ++ fq) w w3 := ⟨fun c hc => .inl hc, (HU2.out.mono (fun c _ hc => by simp [rcBlks, hc])).trans (hU3.mono (fun c _ hc => by simp only [List.mem_cons, List.not_mem_nil, or_false] at hc; simp [rcBlks, hc]))⟩
      rw [HO2.out] at g3
      have HFr := Lib.hid hFr
      have G3 := Lib.hid g3
      clear hU3 g3 hFr
      cases more with
      | false =>
        go_wp2_with fail
        try rw [hw3]
        go_ret
        rw [HDN.out]
        exact ⟨rfl, _, ⟨rb, _, _, _, _, _, _, at_, key, fq, G3.out, rfl, by rw [List.length_set]; exact HRN.out⟩, HFr.out⟩
      | true =>
        go_wp2_with fail
        try rw [hw3]
        clear hw3 d0 d1 d2 d3 d4 d5 d6 d7 d8 z2 z3 z6 v0 v1 v4
        have hkk : (R.set at_ ⟨s.obj, k2.flow, k2.most, k2.r, fin, p1⟩)[at_]? = some ⟨s.obj, k2.flow, k2.most, k2.r, fin, p1⟩ := by
          rw [List.getElem?_set, if_pos rfl]; simp [(List.getElem?_eq_some_iff.1 HK2.out).1]
        obtain ⟨g', hg', -, v0, v1, -, -, v4, -⟩ := G3.out.woken hkk
        cases hg'
        obtain ⟨d0, -, -, -, -, -, -, -, -, ld3⟩ := G3.out.cells
        have HP := Lib.hid ((G3.out.upd (Upd.refl [] w3).drew).q.push (L := s.L) HQK.out fin HF64.out k2.flow HLN.out)
        clear hkk
        refine wp_region_tail 14 (by kernel_rfl) (by kernel_rfl) ?_
        simp only [List.take_succ_cons, List.take_zero, List.drop_succ_cons, List.drop_zero]
        repeat (go_big_quiet_step (fail))
        refine wpQuiet_nil ?_
        go_wp2_with fail
        refine HP.out.mono ?_
        rintro e w7 ⟨rfl, h7⟩
        obtain ⟨fq7, g7, f7⟩ := (G3.out.upd (Upd.refl [] w3).drew).queue (pushL s.M s.L fin k2.flow) h7
        have G7 := Lib.hid g7
        have F7 := Lib.hid f7
        clear h7 g7 f7 d0 v0 v1 v4 ld3
        go_wp2_with fail
        go_ret
        rw [HDN.out]
        exact ⟨rfl, _, ⟨rb, _, _, _, _, _, _, at_, key, fq7, G7.out, rfl, by rw [List.length_set]; exact HRN.out⟩, (HFr.out.up (Upd.refl [] w3).drew).trans F7.out⟩
end
end Go.Proofs.YtolohheflbmfaaaGreatDoor
