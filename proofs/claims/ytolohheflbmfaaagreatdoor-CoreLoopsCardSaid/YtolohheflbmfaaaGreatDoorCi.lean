/-
  The walk of ref16's Wake. No condition.
-/
import Derived.Test.YtolohheflbmfaaaGreatDoorCh
set_option linter.unusedVariables false
set_option linter.unusedSimpArgs false
namespace Go.Proofs.YtolohheflbmfaaaGreatDoor
open Go.RowKit
def finF (o : Int) (a : Nat) (k : Wk) : Nat := if k.obj = o then k.fin else a
def finTo (R : List Wk) (o : Int) (i : Nat) : Nat := (R.take i).foldl (finF o) 0
theorem finTo_zero (R : List Wk) (o : Int) : finTo R o 0 = 0 := rfl
theorem finTo_succ {R : List Wk} {o : Int} {i : Nat} {k : Wk} (hk : R[i]? = some k) : finTo R o (i + 1) = finF o (finTo R o i) k := by
  unfold finTo
  rw [List.take_add_one, hk, List.foldl_append]
  rfl
theorem fin_none {o : Int} : ∀ (R : List Wk) (a : Nat), (∀ k ∈ R, k.obj ≠ o) → R.foldl (finF o) a = a
  | [], _, _ => rfl
  | k :: R, a, h => by
    rw [List.foldl_cons, show finF o a k = a by unfold finF; rw [if_neg (h k (by simp))]]
    exact fin_none R a (fun x hx => h x (by simp [hx]))
theorem fin_all {o : Int} : ∀ (R : List Wk), (R.map (·.obj)).Nodup → R.foldl (finF o) 0 = (thW R o).finish
  | [], _ => rfl
  | k :: R, h => by
    rw [List.map_cons, List.nodup_cons] at h
    rw [List.foldl_cons]
    by_cases e : k.obj = o
    · have hn : ∀ x ∈ R, x.obj ≠ o := fun x hx hxo => h.1 (List.mem_map.2 ⟨x, hx, by rw [hxo, e]⟩)
      rw [fin_none R _ hn]
      simp [finF, thW, findW, e, wkTh]
    · rw [show finF o 0 k = 0 by unfold finF; rw [if_neg e], fin_all R h.2]
      simp [thW, findW, e]
theorem finTo_all {R : List Wk} {o : Int} (h : (R.map (·.obj)).Nodup) : finTo R o R.length = (thW R o).finish := by unfold finTo; rw [List.take_length]; exact fin_all R h
def RWakeAt (R : List Wk) (o : Int) (w : World) (kv iv : Value) (wr : World) : Prop := ∃ i : Nat, iv = .int .i64 i ∧ kv = .int .u64 (finTo R o i) ∧ i ≤ R.length ∧ wr = w

/-- An object's flow, most and r anew. -/
def setW (R : List Wk) (i : Nat) (flow most : Int) (r : Nat) : List Wk := match R[i]? with
  | some k => R.set i { k with flow := flow, most := most, r := r }
  | none => R

/-- A deed on the queue. -/
theorem RCAt.queue {W w : World} {kb rb wd : Nat} {aoL aoP : Option Addr} {cL cP : Nat} {R : List Wk} {P : List Int} {at_ key : Nat} {s : CS} {fq : List Nat} (h : RCAt W w kb rb wd aoL aoP cL cP R P at_ key s fq) {M' : List Sh} (L' : List It) {w' : World} (k : RQTo W rb wd M' fq w w') :
    ∃ fq', RCAt W w' kb rb wd aoL aoP cL cP R P at_ key { s with M := M', L := L' } fq' ∧ Fr (rcBlks kb aoL aoP ++ fq) (rcBlks kb aoL aoP ++ fq') w w' := by
  obtain ⟨fq', k1, k2⟩ := k
  have hl := h.ltB
  refine ⟨fq', { h with
    blk := h.blk.upd k2.2 (h.far kb (by simp))
    rowL := h.rowL.upd k2.2 (fun c hc => h.far c (by simp [hc]))
    rowP := h.rowP.upd k2.2 (fun c hc => h.far c (by simp [hc]))
    q := k1
    far := fun c hc => k2.far (hl c hc) (h.far c hc) }, fun c hc => ?_, k2.2.mono (fun c _ hc => by simp [hc])⟩
  rcases List.mem_append.1 hc with hc | hc
  · exact .inl (by simp [hc])
  · rcases k2.1 c hc with h | h
    · exact .inl (by simp [h])
    · exact .inr h
theorem knownR_at (R : List Wk) (o : Int) : ∃ k, (knownR R o)[idxW R o]? = some k ∧ k.obj = o := by
  unfold knownR
  split
  · rename_i h
    have h' : R.findIdx (fun k => k.obj == o) < R.length := h
    refine ⟨R[R.findIdx (fun k => k.obj == o)]'h', by unfold idxW; exact List.getElem?_eq_getElem h', ?_⟩
    have := List.findIdx_getElem (p := fun k : Wk => k.obj == o) (w := h')
    simpa using this
  · rename_i h
    have e : idxW R o = R.length := Nat.le_antisymm List.findIdx_le_length (by omega)
    exact ⟨zWk o, by rw [e]; simp, rfl⟩
theorem knownR_len (R : List Wk) (o : Int) : R.length ≤ (knownR R o).length ∧ (knownR R o).length ≤ R.length + 1 := by
  unfold knownR; split
  · omega
  · simp
theorem thW_set : ∀ (R : List Wk) (i : Nat) (k k' : Wk), (R.map (·.obj)).Nodup → R[i]? = some k → k'.obj = k.obj → ∀ o, thW (R.set i k') o = updI (thW R) k.obj (wkTh k') o
  | [], i, k, k', _, hk, _, o => by simp at hk
  | a :: R, 0, k, k', _, hk, he, o => by
    simp only [List.getElem?_cons_zero, Option.some.injEq] at hk
    subst hk
    simp only [List.set_cons_zero, thW, findW, List.find?_cons, updI, he]
    by_cases e : o = a.obj
    · subst e; simp
    · have e' : (a.obj == o) = false := by simp; exact fun h => e h.symm
      rw [e', if_neg e]
  | a :: R, i + 1, k, k', hn, hk, he, o => by
    rw [List.map_cons, List.nodup_cons] at hn
    simp only [List.getElem?_cons_succ] at hk
    have ih := thW_set R i k k' hn.2 hk he o
    have hm : k.obj ∈ R.map (·.obj) := List.mem_map.2 ⟨k, List.mem_of_getElem? hk, rfl⟩
    simp only [List.set_cons_succ, thW, findW, List.find?_cons, updI] at ih ⊢
    by_cases e : a.obj = o
    · have e1 : (a.obj == o) = true := by simp [e]
      have e2 : o ≠ k.obj := fun h => hn.1 (by rw [e, h]; exact hm)
      rw [e1, if_neg e2]
    · have e1 : (a.obj == o) = false := by simp [e]
      rw [e1]
      exact ih

/-- One object anew. -/
theorem RCAt.setK {W w w' : World} {kb rb wd : Nat} {aoL aoP : Option Addr} {cL cP : Nat} {R : List Wk} {P : List Int} {at_ key : Nat} {s : CS} {fq : List Nat} (h : RCAt W w kb rb wd aoL aoP cL cP R P at_ key s fq) {i : Nat} {k k' : Wk} (hk : R[i]? = some k) (ho : k'.obj = k.obj)
    (hu : Upd (blkO aoL) w w') (hr : RowO w' 93 6 aoL R.length cL ((R.set i k').flatMap wkVs)) :
    RCAt W w' kb rb wd aoL aoP cL cP (R.set i k') P at_ key { s with th := updI s.th k.obj (wkTh k') } fq :=
  { h with
    blk := by rw [List.length_set]; exact h.blk.upd hu h.d1
    rowL := by rw [List.length_set]; exact hr
    rowP := h.rowP.upd hu (fun c hc hm => h.d3 c hm hc)
    q := h.q.updS hu (fun c hc hm => h.far c (by simp [hm]) hc)
    nd := by
      have : (R.set i k').map (·.obj) = R.map (·.obj) := by
        apply List.ext_getElem?
        intro j
        rw [List.getElem?_map, List.getElem?_map, List.getElem?_set]
        by_cases e : i = j
        · subst e
          rw [if_pos rfl, hk]
          have := (List.getElem?_eq_some_iff.1 hk).1
          simp [this, ho]
        · rw [if_neg e]
      rw [this]; exact h.nd
    th := fun o => by
      rw [thW_set R i k k' h.nd hk ho o]
      simp only [updI]
      split
      · rfl
      · exact h.th o
    pk := fun hi => by
      obtain ⟨h1, k2, h2, h3⟩ := h.pk hi
      refine ⟨h1, ?_⟩
      rw [List.getElem?_set]
      by_cases e : i = at_
      · subst e
        rw [hk] at h2
        cases h2
        have := (List.getElem?_eq_some_iff.1 hk).1
        exact ⟨k', by simp [this], ho.trans h3⟩
      · rw [if_neg e]; exact ⟨k2, h2, h3⟩
    lenL := by rw [List.length_set]; exact h.lenL }
theorem woken_set {R : List Wk} {i : Nat} {k : Wk} (hk : R[i]? = some k) (flow most : Int) (r : Nat) :
    (((R.flatMap wkVs).set (i * 6 + 1) (.int .i64 flow)).set (i * 6 + 2) (.int .i64 most)).set (i * 6 + 3) (.int .u64 r) = (R.set i { k with flow := flow, most := most, r := r }).flatMap wkVs := by
  have hl := (List.getElem?_eq_some_iff.1 hk).1
  rw [flat_set wkVs 6 wkVs_len R i k { k with flow := flow } hk 1 _ (by omega) rfl,
    flat_set wkVs 6 wkVs_len _ i { k with flow := flow } { k with flow := flow, most := most } (by simp [hl]) 2 _ (by omega) rfl,
    flat_set wkVs 6 wkVs_len _ i { k with flow := flow, most := most } { k with flow := flow, most := most, r := r } (by simp [hl]) 3 _ (by omega) rfl]
  simp
theorem thW_at {R : List Wk} {i : Nat} {k : Wk} (hn : (R.map (·.obj)).Nodup) (hk : R[i]? = some k) : thW R k.obj = wkTh k := by
  have h := thW_set R i k k hn hk rfl k.obj
  have e : R.set i k = R := by
    apply List.ext_getElem?
    intro j
    rw [List.getElem?_set]
    by_cases e : i = j
    · subst e
      rw [if_pos rfl, hk]
      simp [(List.getElem?_eq_some_iff.1 hk).1]
    · rw [if_neg e]
  rw [e] at h
  simpa [updI] using h
section
variable {W w : World} {kb rb wd : Nat} {aoL aoP : Option Addr} {cL cP : Nat} {R : List Wk} {P : List Int} {at_ key : Nat} {s : CS} {fq : List Nat}
set_option maxRecDepth 100000 in
set_option maxHeartbeats 16000000 in
theorem RCAt.wake {n : Nat} (h : RCAt W w kb rb wd aoL aoP cL cP R P at_ key s fq) (hci : CI s n) (hn : n < 900) (hRn : R.length ≤ n) (hPn : P.length ≤ 2 * n) (obj flow most : Int) (r : Nat) (hr : r < 18446744073709551616) :
    Calls Tryz.prog 18 #[.pointer (some ⟨kb, 0, none⟩), .int .i64 obj, .agg #[.int .i64 flow, .int .i64 most, .int .u64 r]] w (fun e w' => e = .returned (.bool (wakeB s obj flow)) ∧ RG16To W kb wd (n + 1) (wakeC s obj flow r) (rcBlks kb aoL aoP ++ fq) w w') := by
  have hR : R.length < 1000 := by omega
  have hP : P.length < 1998 := by omega
  have HRN : Hid (R.length ≤ n ∧ P.length ≤ 2 * n) := ⟨hRn, hPn⟩
  clear hRn hPn
  have HH := Lib.hid h
  obtain ⟨c0, c1, c2, c3, c4, c5, c6, c7, c8, lb⟩ := h.cells
  obtain ⟨k, hk⟩ : ∃ k, wakeK s obj = k := ⟨_, rfl⟩
  have hk64 := hci.wakeK obj
  rw [hk] at hk64
  obtain ⟨b, hb⟩ : ∃ b, wakeB s obj flow = b := ⟨_, rfl⟩
  have htk : takeQ s.M k flow = b := by rw [← hb]; unfold wakeB; rw [hk]
  have HP : Hid (∀ w', Upd [] w w' → Calls Tryz.prog 38 #[.pointer (some ⟨rb, 0, none⟩), .agg #[.int .u64 k, .int .i64 flow]] w' (fun e w'' => e = .returned (.bool b) ∧ RQTo W rb wd (pushM s.M k flow) fq w' w'')) := fun w' hu => by
    have := (h.q.upd hu).push hci.ok k hk64 flow (by have := hci.len; omega)
    rw [htk] at this; exact this
  have hfin : (thW R obj).finish = (s.th obj).finish := by rw [h.th obj]
  have hmx : Max.max (s.v : Int) ((thW R obj).finish : Int) = (k : Int) := by
    rw [hfin, ← hk]; unfold wakeK; omega
  have HFA : Hid (finTo R obj R.length = (thW R obj).finish) := finTo_all h.nd
  have HB := Lib.hid hb
  have HK := Lib.hid hk
  obtain ⟨n1, hn1⟩ : ∃ n, R.length = n := ⟨_, rfl⟩
  rw [hn1] at c4 hR HFA
  have HN := Lib.hid hn1
  rw [hb]
  clear h hci hk hb htk hfin hn1
  go_enter Tryz.func18, Tryz.ntmps18
  go_wp2
  go_loopw [7, 8] (fun kv iv wr => RWakeAt R obj (w.alloc (.cells #[.int .i64 flow, .int .i64 most, .int .u64 r] 35)) kv iv wr) (fun _ iv _ => R.length - (intOf iv).toNat)
  case atStart => exact ⟨0, rfl, rfl, by omega, rfl⟩
  case round =>
    obtain ⟨i, rfl, rfl, hi, rfl⟩ := hrel
    rw [HN.out] at hi
    by_cases hlt : i < n1
    · have t1 : decide (i < n1) = true := by simp [hlt]
      have b1 : (i : Int) < (n1 : Int) := by omega
      obtain ⟨k', hk'⟩ : ∃ k, R[i]? = some k := ⟨_, List.getElem?_eq_getElem (by rw [HN.out]; exact hlt)⟩
      have hU1 : Upd [] w (w.alloc (.cells #[.int .i64 flow, .int .i64 most, .int .u64 r] 35)) := (Upd.refl [] w).alloc _
      obtain ⟨g, hg, -, x0, -, -, -, x4, -⟩ := (HH.out.upd hU1).woken hk'
      subst hg
      obtain ⟨y, hy⟩ : ∃ y, k'.obj = y := ⟨_, rfl⟩
      rw [hy] at x0
      have hgt : g < w.heap.size := HH.out.ltB g (by simp [rcBlks, blkO])
      have HY := Lib.hid hy
      have HK' := Lib.hid hk'
      obtain ⟨f, hf⟩ : ∃ f, finTo R obj i = f := ⟨_, rfl⟩
      rw [hf]
      have HFI := Lib.hid hf
      clear hk' hy hf hU1
      by_cases he : y = obj
      · have t2 : (y == obj) = true := by simp [he]
        have hne : Hid (finTo R obj (i + 1) = k'.fin) := by unfold Hid; rw [finTo_succ HK'.out]; unfold finF; rw [if_pos (HY.out.trans he)]
        clear he
        go_wp2
        exact ⟨⟨i + 1, by congr 1, by rw [hne.out], by rw [HN.out]; omega, rfl⟩, by have := HN.out; first | (simp [intOf]; done) | (simp [intOf]; omega)⟩
      · have t2 : (y == obj) = false := by simp [he]
        have hne : Hid (finTo R obj (i + 1) = f) := by unfold Hid; rw [finTo_succ HK'.out]; unfold finF; rw [if_neg (by rw [HY.out]; exact he), HFI.out]
        clear he
        go_wp2
        exact ⟨⟨i + 1, by congr 1, by rw [hne.out], by rw [HN.out]; omega, rfl⟩, by have := HN.out; first | (simp [intOf]; done) | (simp [intOf]; omega)⟩
    · have t1 : decide (i < n1) = false := by simp; omega
      have hin : i = n1 := by omega
      subst hin
      rw [HFA.out]
      go_wp2_with fail
      refine wp_region_tail 13 (by kernel_rfl) (by kernel_rfl) ?_
      simp only [List.take_succ_cons, List.take_zero, List.drop_succ_cons, List.drop_zero]
      repeat (go_big_quiet_step (fail))
      refine wpQuiet_nil ?_
      go_wp2_with fail
      refine (HP.out _ ((Upd.refl [] w).alloc _).drew).mono ?_
      rintro e w2 ⟨rfl, h2⟩
      have hU1 : Upd [] w (w.alloc (.cells #[.int .i64 flow, .int .i64 most, .int .u64 r] 35)).drew := ((Upd.refl [] w).alloc _).drew
      obtain ⟨fq2, g2, f2⟩ := (HH.out.upd hU1).queue (pushL s.M s.L k flow) h2
      have F2 := Lib.hid ((Fr.of hU1).trans f2)
      have hob : w.heap.size ∉ rcBlks kb aoL aoP ++ fq := fun e => absurd (HH.out.lt _ e) (by omega)
      have B2 := Lib.hid (((Blk.new w 35 [.int .i64 flow, .int .i64 most, .int .u64 r]).upd (Upd.refl [] _).drew (by simp)).upd f2.2 hob)
      have HOB := Lib.hid (f2.far (by simp) hob)
      have G2 := Lib.hid g2
      clear h2 g2 f2 hU1 hob
      cases b with
      | false =>
        go_wp2
        go_ret
        obtain ⟨j1, j2, j3⟩ := wakeC_false (r := r) HB.out HK.out
        rw [j1]
        refine ⟨rfl, _, ⟨rb, aoL, aoP, cL, cP, R, P, at_, key, fq2, ?_, rfl, by have := HRN.out; omega, by have := HRN.out; omega⟩, F2.out⟩
        have := G2.out
        rw [j2, j3] at this
        exact this
      | true =>
        go_wp2_with fail
        refine (G2.out.known (by rw [HN.out]; exact hR) obj).mono ?_
        rintro e w3 ⟨rfl, ao3, cL3, g3, f3⟩
        have F3 := Lib.hid (F2.out.trans f3)
        have hB3 := B2.out.upd f3.2 HOB.out
        have HOB3 := Lib.hid (f3.far B2.out.lt HOB.out)
        obtain ⟨k2, hk2, ho2⟩ := knownR_at R obj
        have hl3 := knownR_len R obj
        obtain ⟨R3, hR3⟩ : ∃ x, knownR R obj = x := ⟨_, rfl⟩
        obtain ⟨i3, hi3⟩ : ∃ x, idxW R obj = x := ⟨_, rfl⟩
        rw [hR3] at g3 hk2 hl3
        rw [hi3] at hk2 ⊢
        have hi3l : i3 < R3.length := (List.getElem?_eq_some_iff.1 hk2).1
        obtain ⟨g, hg, hrow, x0, x1, x2, x3, -⟩ := g3.woken hk2
        subst hg
        obtain ⟨-, -, -, -, d4, d5, -, -, -, ld⟩ := g3.cells
        obtain ⟨n3, hn3⟩ : ∃ x, R3.length = x := ⟨_, rfl⟩
        rw [hn3] at d4 hi3l hl3
        rw [HN.out] at hl3
        have y1 := hrow.free (i3 * 6 + 1)
        have y2 := hrow.free (i3 * 6 + 2)
        have y3 := hrow.free (i3 * 6 + 3)
        have q0 := hB3.cell (j := 0) rfl
        have q1 := hB3.cell (j := 1) rfl
        have q2 := hB3.cell (j := 2) rfl
        have b3 : (i3 : Int) < (n3 : Int) := by omega
        have HL3 := Lib.hid hl3
        have HN3 := Lib.hid hn3
        have HK2 := Lib.hid hk2
        have HO2 := Lib.hid ho2
        have HRW := Lib.hid hrow
        have G3 := Lib.hid g3
        have HB3 := Lib.hid hB3
        clear g3 f3 hB3 hk2 ho2 hl3 hR3 hi3 hrow hn3 hi hlt hi3l
        clear c0 c1 c2 c3 c4 c5 c6 c7 c8 hmx
        go_wp2_with fail
        go_region
        all_goals
          go_wp2_with fail
          obtain ⟨w4, hw4⟩ : ∃ x, (((w3.setCell ⟨g, i3 * 6 + 1, none⟩ (.int .i64 flow)).setCell ⟨g, i3 * 6 + 1 + 1, none⟩ (.int .i64 most)).setCell ⟨g, i3 * 6 + 1 + 2, none⟩ (.int .u64 r)).drew = x := ⟨_, rfl⟩
          rw [hw4]
          have hU4 : Upd (blkO (some ⟨g, 0, none⟩)) w3 w4 := by rw [← hw4]; exact ((((Upd.refl _ w3).setCell (.inl (by simp [blkO])) _).setCell (.inl (by simp [blkO])) _).setCell (.inl (by simp [blkO])) _).drew
          have g4 := G3.out.setK HK2.out (k' := { k2 with flow := flow, most := most, r := r }) rfl hU4 (by
            rw [← hw4, ← woken_set HK2.out flow most r]
            exact ((((HRW.out.set (i3 * 6 + 1) (.int .i64 flow)).set (i3 * 6 + 1 + 1) (.int .i64 most)).set (i3 * 6 + 1 + 2) (.int .u64 r)).drew).o)
          have G4 := Lib.hid g4
          have HU4 := Lib.hid hU4
          clear g4 hU4 hw4 x0 x1 x2 x3 y1 y2 y3 q0 q1 q2 d4 d5
          have hU4' := HU4.out
          have hgo : w.heap.size ∉ blkO (some (⟨g, 0, none⟩ : Addr)) := fun e => HOB3.out (by simp only [rcBlks, List.mem_append, List.mem_cons]; exact .inl (.inr (.inl e)))
          have hB4 := HB3.out.upd hU4' hgo
          have q0 := hB4.cell (j := 0) rfl
          obtain ⟨-, -, -, -, -, d5, -, -, -, ld4⟩ := G4.out.cells
          have z5 := G4.out.blk.free 5
          obtain ⟨i0, hi0, hz0, hz1, hz2⟩ := info_parts infoInt5
          have uA : Upd [] w4 (w4.alloc (.cells #[.int .i64 flow, .int .i64 obj] 3)).drew := ((Upd.refl [] w4).alloc _).drew
          have HROW := Lib.hid ((G4.out.upd uA).rowP)
          have HSRC : Hid (Src (w4.alloc (.cells #[.int .i64 flow, .int .i64 obj] 3)).drew 1 (some ⟨w4.heap.size, 0, none⟩) 2 [.int .i64 flow, .int .i64 obj]) :=
            ⟨rfl, by simp [Value.oneCell'], .inr ⟨_, rfl, World.news_of_block (cs := #[.int .i64 flow, .int .i64 obj]) (t := 3) (fr := (0, 0)) (heap_alloc_new w4 _)⟩⟩
          have HG7 : Hid (P.length + 2 ≤ maxLen) := by unfold Hid maxLen; omega
          have HG8 : Hid ((P.length + 2) * 8 ≤ 140737488355328) := by unfold Hid; omega
          have HUA := Lib.hid uA
          clear hU4' hgo hB4 uA
          go_region_law (refine step_app2 _ (by rfl) _ _ _ (by rfl) 3 i0 _ 1 8 underlyingInts5 hi0 hz0 hz1 hz2 rfl Nat.one_pos aoP P.length cP (P.map (Value.int .i64)) (by rfl) HROW.out (some ⟨w4.heap.size, 0, none⟩) 2 2 [.int .i64 flow, .int .i64 obj] (by rfl) HSRC.out HG7.out HG8.out ?_; intro ao5 cap5 w5 hA; have c5 := ((hA.upd.cell (Nat.lt_of_lt_of_le ld4 HUA.out.size) G4.out.d2 5).trans (HUA.out.cell ld4 (by simp) 5)).trans d5; have f5 := ((hA.upd.frozen (Nat.lt_of_lt_of_le ld4 HUA.out.size) G4.out.d2 5).trans (HUA.out.frozen ld4 (by simp) 5)).trans z5; have HA := Lib.hid hA; clear hA)
          all_goals
            go_wp2_with fail
            go_ret
            obtain ⟨h1, h2⟩ := G4.out.growP HUA.out HA.out hP
            have hth : s.th obj = wkTh k2 := by
              have h3 := G3.out.th obj
              rw [← HO2.out, thW_at G3.out.nd HK2.out, HO2.out] at h3
              exact h3
            rw [wakeC_true HB.out HK.out hth]
            rw [HO2.out] at h1
            exact ⟨rfl, _, ⟨rb, _, _, _, _, _, _, at_, key, fq2, h1, rfl, by rw [List.length_set, HN3.out]; have := HRN.out; have := HL3.out; have := HN.out; omega, by rw [List.length_append]; have := HRN.out; simp only [List.length_cons, List.length_nil]; omega⟩, (F3.out.trans ⟨fun c hc => .inl hc, HU4.out.mono (fun c _ hc => by simp [rcBlks, hc])⟩).trans h2⟩
end
end Go.Proofs.YtolohheflbmfaaaGreatDoor
