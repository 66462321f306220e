/-
  The walk of ref16's Pick. No condition.
-/
import Derived.Test.YtolohheflbmfaaaGreatDoorPCB
set_option linter.unusedVariables false
set_option linter.unusedSimpArgs false
namespace Go.Proofs.YtolohheflbmfaaaGreatDoor
open Go.RowKit
theorem take_two {P : List Int} {j : Nat} {f o : Int} (hf : P[2 * j]? = some f) (ho : P[2 * j + 1]? = some o) : P.take (2 * (j + 1)) = P.take (2 * j) ++ [f, o] := by
  rw [show 2 * (j + 1) = 2 * j + 1 + 1 by omega, List.take_add_one, List.take_add_one, hf, ho]
  simp
theorem lastO_step {P : List Int} {j : Nat} {f o : Int} (id : Int) (hf : P[2 * j]? = some f) (ho : P[2 * j + 1]? = some o) : lastO (P.take (2 * (j + 1))) id 0 = if f = id then o else lastO (P.take (2 * j)) id 0 := by
  rw [take_two hf ho]
  refine lastO_snoc j _ f o id 0 ?_
  have : 2 * j + 1 < P.length := (List.getElem?_eq_some_iff.1 ho).1
  rw [List.length_take]; omega
def RPickAt (P : List Int) (f : Int) (w : World) (ov iv : Value) (wr : World) : Prop := ∃ j : Nat, iv = .int .i64 ((2 * j : Nat) : Int) ∧ ov = .int .i64 (lastO (P.take (2 * j)) f 0) ∧ 2 * j ≤ P.length ∧ Upd [] w wr
section
variable {W w : World} {kb rb wd : Nat} {aoL aoP : Option Addr} {cL cP : Nat} {R : List Wk} {P : List Int} {at_ key : Nat} {s : CS} {fq : List Nat}
set_option maxRecDepth 100000 in
set_option maxHeartbeats 16000000 in
theorem RCAt.pick {n : Nat} (h : RCAt W w kb rb wd aoL aoP cL cP R P at_ key s fq) (hci : CI s n) (hkq : ∀ i, i < s.M.length → ∀ x ∈ (shAt s.M i).2, x.1 = (kn x : Int) ∧ kn x < 18446744073709551616) (hRn : R.length ≤ n) (hPn : P.length ≤ 2 * n) (hn : n < 900) :
    Calls Tryz.prog 19 #[.pointer (some ⟨kb, 0, none⟩)] w (fun e w' => e = .returned (pickV s) ∧ RG16To W kb wd (n + 1) (pickC s) (rcBlks kb aoL aoP ++ fq) w w') := by
  have hR : R.length < 1000 := by omega
  have HRN : Hid (R.length ≤ n ∧ P.length ≤ 2 * n) := ⟨hRn, hPn⟩
  clear hRn hPn
  have HP : Hid (Calls Tryz.prog 40 #[.pointer (some ⟨rb, 0, none⟩)] w (fun e w' => e = .returned (firstV s.L) ∧ RQTo W rb wd (popM s.M s.L) fq w w')) := h.q.pop hci.ok hkq
  have HH := Lib.hid h
  obtain ⟨c0, c1, c2, c3, c4, c5, c6, c7, c8, lb⟩ := h.cells
  have hkl : ∀ x ∈ s.L, x.1 = (kn x : Int) := fun x hx => by
    obtain ⟨i, hi, hm⟩ := hci.ok.mem.1 hx
    exact (hkq i hi x hm).1
  cases hL : s.L with
  | nil =>
    have HN : Hid (pickV s = .tuple #[.int .i64 0, .int .u64 0, .bool false] ∧ pickC s = { s with v := Max.max s.v s.most }) := ⟨by unfold pickV; rw [hL], pickC_nil hL⟩
    rw [hL] at HP
    have HM : Hid (popM s.M [] = s.M ∧ [] = s.L) := ⟨rfl, hL.symm⟩
    rw [HN.out.1, HN.out.2]
    unfold firstV itV zIt at HP
    obtain ⟨k, hk⟩ : ∃ k, Max.max s.v s.most = k := ⟨_, rfl⟩
    have hmax : Max.max (s.v : Int) (s.most : Int) = (k : Int) := by omega
    rw [hk]
    clear h hkl hL hk hci hkq
    go_enter Tryz.func19, Tryz.ntmps19
    go_wp2_with fail
    refine HP.out.mono ?_
    rintro e w2 ⟨rfl, h2⟩
    obtain ⟨fq2, g1, g2⟩ := HH.out.queue ([] : List It) h2
    rw [HM.out.1] at g1
    have g3 := g1.upd ((Upd.refl [] w2).alloc (.cells #[.int .u64 0, .int .i64 0] 54))
    have G2 := Lib.hid (g2.up ((Upd.refl [] w2).alloc (.cells #[.int .u64 0, .int .i64 0] 54)))
    have G3 := Lib.hid g3
    clear h2 g1 g2 g3
    go_wp2_with fail
    obtain ⟨wa, hwa⟩ : ∃ x, w2.alloc (.cells #[.int .u64 0, .int .i64 0] 54) = x := ⟨_, rfl⟩
    rw [hwa] at G3 G2 ⊢
    clear hwa
    obtain ⟨-, a1, a2, -, -, -, -, -, -, la⟩ := G3.out.cells
    have z1 := G3.out.blk.free 1
    go_region
    go_wp2_with fail
    refine bodyPost_ret (v := .tuple #[.int .i64 0, .int .u64 0, .bool false]) (by simp [results, Tryz.results19, go_sem]) rfl ?_
    have hU : Upd [kb] wa (wa.setCell ⟨kb, 1, none⟩ (.int .u64 k)).drew := ((Upd.refl [kb] wa).setCell (.inl (by simp)) _).drew
    have h9 := G3.out.reblk hU k s.most s.served s.is s.obj s.key at_ key ((G3.out.blk.set 1 (.int .u64 k)).upd (Upd.refl [] _).drew (by simp)) G3.out.pk
    refine ⟨rfl, _, ⟨rb, aoL, aoP, cL, cP, R, P, at_, key, fq2, ?_, rfl, by have := HRN.out; omega, by have := HRN.out; omega⟩, G2.out.thenS hU (by simp [rcBlks])⟩
    have e := HM.out.2
    rw [e] at h9
    exact h9
  | cons x l =>
    obtain ⟨k, hk⟩ : ∃ k, kn x = k := ⟨_, rfl⟩
    obtain ⟨f, hf⟩ : ∃ f, x.2 = f := ⟨_, rfl⟩
    obtain ⟨o, ho⟩ : ∃ o, s.ow f = o := ⟨_, rfl⟩
    obtain ⟨t, ht⟩ : ∃ t, s.th o = t := ⟨_, rfl⟩
    have hx := hkl x (by rw [hL]; simp)
    have HN : Hid (pickV s = .tuple #[.int .i64 o, .int .u64 t.place, .bool true] ∧ pickC s = { s with v := k, is := true, obj := o, key := k, M := popM s.M s.L, L := s.L.tail }) :=
      ⟨by unfold pickV; rw [hL]; simp only; rw [hf, ho, ht], by rw [pickC_cons hL, hk, hf, ho]⟩
    rw [HN.out.1, HN.out.2]
    have hv : firstV s.L = .tuple #[.agg #[.int .u64 k, .int .i64 f], .bool true] := by rw [hL]; show itV x true = _; unfold itV; rw [show x.1 = (k : Int) by rw [← hk]; exact hx, hf]
    rw [hv] at HP
    have HO : Hid (lastO P f 0 = o) := by unfold Hid; rw [← h.ow f]; exact ho
    have HT := Lib.hid ht
    have HEV := Lib.hid h.even
    obtain ⟨np, hnp⟩ : ∃ x, P.length = x := ⟨_, rfl⟩
    have hnp2 : np ≤ 2000 := by rw [← hnp]; exact h.lenP
    have HNP := Lib.hid hnp
    clear h hkl hL hk hf ho ht hx hv hci hkq hnp
    go_enter Tryz.func19, Tryz.ntmps19
    go_wp2_with fail
    refine HP.out.mono ?_
    rintro e w2 ⟨rfl, h2⟩
    obtain ⟨fq2, g1, g2⟩ := HH.out.queue s.L.tail h2
    have n4 : w2.heap.size ∉ rcBlks kb aoL aoP ++ fq2 := fun e => absurd (g1.lt _ e) (by omega)
    have g3 := g1.upd ((Upd.refl [] w2).alloc (.cells #[.int .u64 k, .int .i64 f] 54))
    have G2 := Lib.hid (g2.up ((Upd.refl [] w2).alloc (.cells #[.int .u64 k, .int .i64 f] 54)))
    have b4 : Blk (w2.alloc (.cells #[.int .u64 k, .int .i64 f] 54)) w2.heap.size 54 [.int .u64 k, .int .i64 f] := Blk.new w2 54 _
    obtain ⟨ib, hib⟩ : ∃ x, w2.heap.size = x := ⟨_, rfl⟩
    rw [hib] at n4 b4
    have G3 := Lib.hid g3
    have B4 := Lib.hid b4
    have N4 := Lib.hid n4
    clear h2 g1 g2 g3 b4 n4 c0 c1 c2 c3 c4 c5 c6 c7 c8
    go_wp2_with fail
    try rw [hib]
    obtain ⟨wa, hwa⟩ : ∃ x, w2.alloc (.cells #[.int .u64 k, .int .i64 f] 54) = x := ⟨_, rfl⟩
    rw [hwa] at G3 G2 B4 ⊢
    clear hwa hib
    go_loopw [7, 8] (fun ov iv wr => RPickAt P f wa ov iv wr) (fun _ iv _ => P.length - (intOf iv).toNat)
    case atStart => exact ⟨0, rfl, rfl, by omega, Upd.refl _ _⟩
    case round =>
      obtain ⟨j, rfl, rfl, hj, hU⟩ := hrel
      rw [HNP.out] at hj
      have g5 := G3.out.upd hU
      have b5 := B4.out.upd hU (by simp)
      obtain ⟨-, -, -, -, -, c5, -, -, -, lb⟩ := g5.cells
      rw [HNP.out] at c5
      have HU := Lib.hid hU
      have G5 := Lib.hid g5
      have B5 := Lib.hid b5
      by_cases hlt : 2 * j < np
      · have hlt2 : 2 * j + 1 < np := by obtain ⟨p, hp⟩ := HEV.out; rw [HNP.out] at hp; omega
        obtain ⟨pf, hpf⟩ : ∃ k, P[2 * j]? = some k := ⟨_, List.getElem?_eq_getElem (by rw [HNP.out]; omega)⟩
        obtain ⟨po, hpo⟩ : ∃ k, P[2 * j + 1]? = some k := ⟨_, List.getElem?_eq_getElem (by rw [HNP.out]; omega)⟩
        obtain ⟨gP, hgP, hrow⟩ := g5.rowP.row (by rw [HNP.out]; omega)
        have hst := lastO_step f hpf hpo
        obtain ⟨i, hi⟩ : ∃ i, 2 * j = i := ⟨_, rfl⟩
        obtain ⟨acc, hacc⟩ : ∃ i, lastO (P.take (2 * j)) f 0 = i := ⟨_, rfl⟩
        rw [hacc] at hst ⊢
        rw [hi] at hpf hpo hlt hlt2 ⊢
        subst hgP
        have x0 := hrow.cell (j := i) (by rw [List.getElem?_map, hpf]; rfl)
        have x1 := hrow.cell (j := i + 1) (by rw [List.getElem?_map, hpo]; rfl)
        have q1 := b5.cell (j := 1) rfl
        have lgp := hrow.lt
        have lib := b5.lt
        have HST := Lib.hid hst
        have HI := Lib.hid hi
        have t1 : decide (i < np) = true := by simp [hlt]
        have b1 : (i : Int) < (np : Int) := by omega
        have b2 : (i : Int) + 1 < (np : Int) := by omega
        clear hpf hpo hrow hst hi g5 b5 hU hacc hj
        by_cases he : pf = f
        · have t2 : (pf == f) = true := by simp [he]
          have hne : Hid (lastO (P.take (2 * (j + 1))) f 0 = po) := by unfold Hid; rw [HST.out, if_pos he]
          clear he
          go_wp2_with fail
          go_quiet (fail)
          go_wp2_with fail
          exact ⟨⟨j + 1, by have := HI.out; congr 1; omega, by rw [hne.out], by have := HI.out; have := HNP.out; omega, HU.out.drewN nq⟩, by have := HNP.out; simp [intOf]; omega⟩
        · have t2 : (pf == f) = false := by simp [he]
          have hne : Hid (lastO (P.take (2 * (j + 1))) f 0 = acc) := by unfold Hid; rw [HST.out, if_neg he]
          clear he
          go_wp2_with fail
          go_quiet (fail)
          go_wp2_with fail
          exact ⟨⟨j + 1, by have := HI.out; congr 1; omega, by rw [hne.out], by have := HI.out; have := HNP.out; omega, HU.out.drewN nq⟩, by have := HNP.out; simp [intOf]; omega⟩
      · have ej : 2 * j = np := by omega
        have e1 : lastO (P.take (2 * j)) f 0 = o := by rw [ej, ← HNP.out, List.take_length]; exact HO.out
        rw [e1, ej]
        have t1 : decide (np < np) = false := by simp
        have q0 := b5.cell (j := 0) rfl
        have lib := b5.lt
        clear hlt ej e1 hj g5 b5 hU
        go_wp2_with fail
        have HKN : Hid (Calls Tryz.prog 39 #[.pointer (some ⟨kb, 0, none⟩), .int .i64 o] wr.drew (KnownTo W wr.drew kb rb wd aoL aoP cP R P at_ key { s with M := popM s.M s.L, L := s.L.tail } fq2 o)) := ((G5.out.upd (Upd.refl [] wr).drew).known hR o)
        go_region_with (go_at_call 39; refine HKN.out.mono ?_; rintro e w3 ⟨rfl, ao3, cL3, g3, f3⟩; have hB3 := (B5.out.upd (Upd.refl [] wr).drew (by simp)).upd f3.2 N4.out; have q03 := hB3.cell (j := 0) rfl; have k1 := (g3.cells).2.1; have k6 := (g3.cells).2.2.2.2.2.2.1; have k7 := (g3.cells).2.2.2.2.2.2.2.1; have k8 := (g3.cells).2.2.2.2.2.2.2.2.1; have z1 := g3.blk.free 1; have z6 := g3.blk.free 6; have z7 := g3.blk.free 7; have z8 := g3.blk.free 8; have lk3 := g3.blk.lt; have G6 := Lib.hid g3; have F6 := Lib.hid f3; clear g3 f3 hB3)
        all_goals
          go_wp2_with fail
          obtain ⟨kk, hkk, hko⟩ := knownR_at R o
          have hl3 := knownR_len R o
          obtain ⟨R3, hR3⟩ : ∃ x, knownR R o = x := ⟨_, rfl⟩
          obtain ⟨i3, hi3⟩ : ∃ x, idxW R o = x := ⟨_, rfl⟩
          rw [hR3] at G6 hkk hl3
          rw [hi3] at hkk ⊢
          obtain ⟨w4, hw4⟩ : ∃ x, (((w3.setCell ⟨kb, 1, none⟩ (.int .u64 k)).setCell ⟨kb, 8, none⟩ (.int .u64 k)).setCell ⟨kb, 6, none⟩ (.bool true)).setCell ⟨kb, 7, none⟩ (.int .i64 i3) = x := ⟨_, rfl⟩
          rw [hw4]
          have hU4 : Upd [kb] w3 w4 := by rw [← hw4]; exact ((((Upd.refl [kb] w3).setCell (.inl (by simp)) _).setCell (.inl (by simp)) _).setCell (.inl (by simp)) _).setCell (.inl (by simp)) _
          have g7 := G6.out.reblk hU4 k s.most s.served true o k i3 k (by rw [← hw4]; exact (((G6.out.blk.set 1 (.int .u64 k)).set 8 (.int .u64 k)).set 6 (.bool true)).set 7 (.int .i64 i3)) (fun _ => ⟨rfl, kk, hkk, hko⟩)
          have HU4 := Lib.hid hU4
          have G7 := Lib.hid g7
          obtain ⟨g, hg, hrow, -, -, -, -, -, x5⟩ := g7.woken hkk
          subst hg
          obtain ⟨-, -, -, -, d4, -, -, d7, -, ld⟩ := g7.cells
          have hth : t.place = kk.place := by
            have h3 := g7.th o
            have h4 := thW_at g7.nd hkk
            rw [hko] at h4
            rw [h4] at h3
            have h5 : s.th o = wkTh kk := h3
            rw [HT.out] at h5
            rw [h5]; rfl
          have hi3l : i3 < R3.length := (List.getElem?_eq_some_iff.1 hkk).1
          obtain ⟨n3, hn3⟩ : ∃ x, R3.length = x := ⟨_, rfl⟩
          rw [hn3] at d4 hi3l hl3
          have b3 : (i3 : Int) < (n3 : Int) := by omega
          have lg := hrow.lt
          have HL3 : Hid (R3.length ≤ n + 1) := by unfold Hid; have := HRN.out; omega
          have HTH := Lib.hid hth
          clear hw4 hU4 g7 k1 k6 k7 k8 z1 z6 z7 z8 q03 hrow hth hkk hko hl3 hR3 hi3 hn3 c5 q0
          go_quiet (fail)
          go_wp2_with fail
          refine bodyPost_ret (v := .tuple #[.int .i64 o, .int .u64 kk.place, .bool true]) (by simp [results, Tryz.results19, go_sem]) rfl ?_
          refine ⟨by rw [HTH.out], _, ⟨rb, _, aoP, _, cP, R3, P, i3, k, fq2, G7.out.upd ((Upd.refl [] w4).drewN _), rfl, HL3.out, by have := HRN.out; omega⟩, ?_⟩
          have f1 := (G2.out.thenS HU.out.drew (by simp)).trans (F6.out.thenS (HU4.out.then ((Upd.refl [] w4).drewN nq) (fun _ _ e => e) (by simp)) (by simp [rcBlks]))
          exact f1
end
end Go.Proofs.YtolohheflbmfaaaGreatDoor
