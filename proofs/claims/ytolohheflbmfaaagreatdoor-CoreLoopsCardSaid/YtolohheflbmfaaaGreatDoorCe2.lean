/-
  The walk of core.Wake. No condition.
-/
import Derived.Test.YtolohheflbmfaaaGreatDoorCe1
set_option linter.unusedVariables false
set_option linter.unusedSimpArgs false
namespace Go.Proofs.YtolohheflbmfaaaGreatDoor
open Go.RowKit
/-! ### Wake -/
/-- What the two stores into the maps leave. -/
theorem wake_maps {W w3 w4 w5 w6 w7 : World} {kb qb wd tb ob : Nat} {T O T4 O6 : AL} {s : CS} {fp : List Nat} {obj flow : Int} {t' : Th} {s1 s2 : Nat} (h : CAt W w3 kb qb wd tb ob T O s fp)
    (m4 : MapTo w3 tb T4 w4) (e4 : HasEnt w4 tb obj s1) (l4 : ∀ u j, lookM (putM T4 obj u) j = if j = obj then some u else lookM T j) (h5 : w5 = storeW w4 tb s1 (thV t'))
    (m6 : MapTo w5 ob O6 w6) (e6 : HasEnt w6 ob flow s2) (l6 : ∀ u j, lookM (putM O6 flow u) j = if j = flow then some u else lookM O j) (h7 : w7 = storeW w6 ob s2 (.int .i64 obj)) :
    CAt W w7 kb qb wd tb ob (putM T4 obj (thV t')) (putM O6 flow (.int .i64 obj)) { s with th := updI s.th obj t', ow := updI s.ow flow obj } fp ∧ Upd [tb, ob] w3 w7 := by
  have t5 := storeW_to e4 m4.map (thV t')
  rw [← h5] at t5
  have t7 := storeW_to e6 m6.map (.int .i64 obj)
  rw [← h7] at t7
  have u35 : Upd [tb] w3 w5 := m4.upd.trans t5.upd
  have u57 : Upd [ob] w5 w7 := m6.upd.trans t7.upd
  have u : Upd [tb, ob] w3 w7 := (u35.mono (fun c _ hc => by simp at hc; simp [hc])).trans (u57.mono (fun c _ hc => by simp at hc; simp [hc]))
  have hft : tb ∉ fp := h.far tb (by simp)
  have hfo : ob ∉ fp := h.far ob (by simp)
  refine ⟨{ h with
    blk := h.blk.upd u (by simp; exact ⟨h.d1, h.d2⟩)
    tm := t5.map.upd u57 (by simp; exact h.d3)
    om := t7.map
    th := fun j => ?_
    ow := fun j => ?_
    q := h.q.updS u (fun c hc e => ?_) (fun c hc => ?_) }, u⟩
  · rw [l4]; simp only [updI]; split
    · rfl
    · exact h.th j
  · rw [l6]; simp only [updI]; split
    · rfl
    · exact h.ow j
  · simp only [List.mem_cons, List.not_mem_nil, or_false] at e
    rcases e with rfl | rfl
    · exact hft hc
    · exact hfo hc
  · simp only [List.mem_cons, List.not_mem_nil, or_false] at hc
    rcases hc with rfl | rfl
    · exact h.new c (by simp)
    · exact h.new c (by simp)

/-- Two blocks that were made ahead of the queue's deed. -/
theorem CAt.queue2 {W w : World} {kb qb wd tb ob : Nat} {T O : AL} {s : CS} {fp : List Nat} (h : CAt W w kb qb wd tb ob T O s fp) {va vb : List Value} {M' : List Sh} {L' : List It} {w2 : World}
    (k : QGTo W qb wd M' L' fp ((w.alloc (.cells va.toArray 35)).alloc (.cells vb.toArray 75)).drew w2) :
    ∃ fp', CAt W w2 kb qb wd tb ob T O { s with M := M', L := L' } fp' ∧ Fr (kb :: tb :: ob :: fp) (kb :: tb :: ob :: fp') w w2 ∧ Blk w2 w.heap.size 35 va ∧ Blk w2 (w.heap.size + 1) 75 vb ∧ w.heap.size ∉ kb :: tb :: ob :: fp' ∧ w.heap.size + 1 ∉ kb :: tb :: ob :: fp' := by
  have hl := h.lt
  have uA : Upd [] w (w.alloc (.cells va.toArray 35)) := (Upd.refl [] w).alloc _
  have uB : Upd [] (w.alloc (.cells va.toArray 35)) ((w.alloc (.cells va.toArray 35)).alloc (.cells vb.toArray 75)).drew := ((Upd.refl [] _).alloc _).drew
  have b1 : Blk ((w.alloc (.cells va.toArray 35)).alloc (.cells vb.toArray 75)).drew w.heap.size 35 va := (Blk.new w 35 va).upd uB (by simp)
  have b2 : Blk ((w.alloc (.cells va.toArray 35)).alloc (.cells vb.toArray 75)) (w.alloc (.cells va.toArray 35)).heap.size 75 vb := Blk.new _ 75 vb
  have b3 : Blk ((w.alloc (.cells va.toArray 35)).alloc (.cells vb.toArray 75)).drew (w.heap.size + 1) 75 vb := by
    rw [show (w.alloc (.cells va.toArray 35)).heap.size = w.heap.size + 1 by simp] at b2
    exact b2.upd (Upd.refl [] _).drew (by simp)
  obtain ⟨fp', k1, k2⟩ := (h.upd (uA.trans uB)).queue k
  have n1 : w.heap.size ∉ kb :: tb :: ob :: fp := fun e => absurd (hl _ e) (by omega)
  have n2 : w.heap.size + 1 ∉ kb :: tb :: ob :: fp := fun e => absurd (hl _ e) (by omega)
  exact ⟨fp', k1, (Fr.of (uA.trans uB)).trans k2, b1.upd k2.2 n1, b3.upd k2.2 n2, k2.far b1.lt n1, k2.far b3.lt n2⟩
theorem Fr.thenS {F F' S : List Nat} {w w2 w3 : World} (h : Fr F F' w w2) (hu : Upd S w2 w3) (hs : ∀ c ∈ S, c ∈ F ∨ w.heap.size ≤ c) : Fr F F' w w3 :=
  ⟨h.1, h.2.then hu (fun _ _ e => e) (fun i hi hm => (hs i hm).elim id (fun e => by omega))⟩
theorem wakeC_true {s : CS} {obj flow : Int} {k r : Nat} {t : Th} (hb : wakeB s obj flow = true) (hk : wakeK s obj = k) (ht : s.th obj = t) :
    wakeC s obj flow r = { s with th := updI s.th obj ⟨flow, r, t.finish, t.place⟩, ow := updI s.ow flow obj, M := pushM s.M k flow, L := pushL s.M s.L k flow } := by
  unfold wakeC; rw [if_pos hb, hk, ht]
theorem wakeC_false {s : CS} {obj flow : Int} {k r : Nat} (hb : wakeB s obj flow = false) (hk : wakeK s obj = k) :
    wakeC s obj flow r = s ∧ pushM s.M k flow = s.M ∧ pushL s.M s.L k flow = s.L := by
  unfold wakeC; rw [if_neg (by simp [hb])]
  have ht : takeQ s.M k flow = false := by rw [← hk]; exact hb
  refine ⟨rfl, ?_, ?_⟩
  · unfold pushM; rw [ht]; simp
  · unfold pushL; rw [ht]; simp
theorem CAt.wakeM {W w3 : World} {kb qb wd tb ob : Nat} {T O : AL} {s : CS} {fp : List Nat} (h : CAt W w3 kb qb wd tb ob T O s fp) (obj flow : Int) (t' : Th) :
    ∃ (w4 w5 w6 w7 : World) (s1 s2 : Nat) (v4 v6 : Value) (T' O' : AL),
      (Instr.mapEntry 78 (.map (some tb)) (.int .i64 obj)).run Tryz.prog w3 = .ok (.tuple #[v4, .int .i64 s1]) w4 ∧
      (Instr.entryStore 78 (.map (some tb)) (.int .i64 s1) (thV t')).run Tryz.prog w4 = .ok () w5 ∧
      (Instr.mapEntry 79 (.map (some ob)) (.int .i64 flow)).run Tryz.prog w5 = .ok (.tuple #[v6, .int .i64 s2]) w6 ∧
      (Instr.entryStore 79 (.map (some ob)) (.int .i64 s2) (.int .i64 obj)).run Tryz.prog w6 = .ok () w7 ∧
      Upd [tb, ob] w3 w4 ∧ Upd [tb, ob] w3 w5 ∧ Upd [tb, ob] w3 w6 ∧ Upd [tb, ob] w3 w7 ∧
      CAt W w7 kb qb wd tb ob T' O' { s with th := updI s.th obj t', ow := updI s.ow flow obj } fp := by
  obtain ⟨s1, w4, v4, T4, e4, m4, n4, l4⟩ := h.tm.entry (P := Tryz.prog) underlyingThMap underlyingIntC zeroThing obj
  have t5 := storeW_to n4 m4.map (thV t')
  have u35 : Upd [tb] w3 _ := m4.upd.trans t5.upd
  obtain ⟨s2, w6, v6, O6, e6, m6, n6, l6⟩ := (h.om.upd u35 (by simp; exact fun e => h.d3 e.symm)).entry (P := Tryz.prog) underlyingIntMap underlyingInt zeroIntC flow
  have t7 := storeW_to n6 m6.map (.int .i64 obj)
  obtain ⟨k1, k2⟩ := wake_maps h m4 n4 l4 rfl m6 n6 l6 rfl (t' := t')
  exact ⟨w4, _, w6, _, s1, s2, v4, v6, _, _, e4, n4.store _, e6, n6.store _, m4.upd.mono (fun c _ hc => by simp at hc; simp [hc]), u35.mono (fun c _ hc => by simp at hc; simp [hc]),
    (u35.mono (fun c _ hc => by simp at hc; simp [hc])).trans (m6.upd.mono (fun c _ hc => by simp at hc; simp [hc])), k2, k1⟩

set_option maxRecDepth 100000 in
set_option maxHeartbeats 16000000 in
theorem KG.wake {W w : World} {kb wd n : Nat} {s : CS} {F : List Nat} (h : KG W kb wd s F w) (hci : CI s n) (hn : n < 900) (obj flow most : Int) (r : Nat) (hr : r < 18446744073709551616) :
    Calls Tryz.prog 12 #[.pointer (some ⟨kb, 0, none⟩), .int .i64 obj, .agg #[.int .i64 flow, .int .i64 most, .int .u64 r]] w (fun e w' => e = .returned (.bool (wakeB s obj flow)) ∧ KGTo W kb wd (wakeC s obj flow r) F w w') := by
  obtain ⟨qb, tb, ob, T, O, fp, h, rfl⟩ := h
  obtain ⟨c0, c1, c2, c3, c4, c5, c6, c7, c8, c9, c10, lk⟩ := h.cells
  have hl := (h.tm.upd ((Upd.refl [] w).alloc (.cells #[.int .i64 flow, .int .i64 most, .int .u64 r] 35)) (by simp)).look (P := Tryz.prog) underlyingThMap underlyingIntC zeroThing obj false
  rw [h.th obj] at hl
  simp only [Bool.false_eq_true, if_false] at hl
  obtain ⟨t, ht⟩ : ∃ t, s.th obj = t := ⟨_, rfl⟩
  rw [ht] at hl
  unfold thV at hl
  have HTT := Lib.hid ht
  have hk := hci.wakeK obj
  have hkk : Proofs.YtolohheflbmfaaaGreatDoor.wakeK s obj = Max.max s.v t.finish := by unfold Proofs.YtolohheflbmfaaaGreatDoor.wakeK; rw [ht]
  obtain ⟨k, hkd⟩ : ∃ k, Proofs.YtolohheflbmfaaaGreatDoor.wakeK s obj = k := ⟨_, rfl⟩
  rw [hkd] at hk hkk
  have hmax : Max.max (s.v : Int) (t.finish : Int) = (k : Int) := by omega
  have HKD := Lib.hid hkd
  obtain ⟨b, hb⟩ : ∃ b, wakeB s obj flow = b := ⟨_, rfl⟩
  have HB := Lib.hid hb
  have htk : takeQ s.M k flow = b := by rw [← hb]; unfold wakeB; rw [hkd]
  have HP : Hid (∀ w', Upd [] w w' → Calls Tryz.prog 51 #[.pointer (some ⟨qb, 0, none⟩), .agg #[.int .u64 k, .int .i64 flow]] w' (fun e w'' => e = .returned (.bool b) ∧ QGTo W qb wd (pushM s.M k flow) (pushL s.M s.L k flow) fp w' w'')) := fun w' hu => by
    have := (h.q.upd hu).push k hk flow (by have := hci.len; omega)
    rw [htk] at this; exact this
  have HTK := Lib.hid htk
  have HH := Lib.hid h
  rw [hb]
  unfold mval at c0
  clear h hci hk hkk hkd hb ht htk
  go_enter Tryz.func12, Tryz.ntmps12
  go_wp2_with fail
  refine wp_region_tail 14 (by kernel_rfl) (by kernel_rfl) ?_
  simp only [List.take_succ_cons, List.take_zero, List.drop_succ_cons, List.drop_zero]
  repeat (go_big_quiet_step (fail))
  refine wpQuiet_nil ?_
  go_wp2_with fail
  refine (HP.out _ (((Upd.refl [] w).alloc _).alloc _).drew).mono ?_
  rintro e w2 ⟨rfl, h2⟩
  obtain ⟨fp2, g1, g2, g3, g4, g5, g6⟩ := CAt.queue2 (va := [.int .i64 flow, .int .i64 most, .int .u64 r]) (vb := [.int .i64 t.flow, .int .u64 t.r, .int .u64 t.finish, .int .u64 t.place]) HH.out h2
  have G1 := Lib.hid g1
  have G2 := Lib.hid g2
  have G4 := Lib.hid g4
  have G6 := Lib.hid (And.intro g5 g6)
  have p0 := g3.cell (j := 0) rfl
  have p2 := g3.cell (j := 2) rfl
  have t0 := g4.cell (j := 0) rfl
  have t1 := g4.cell (j := 1) rfl
  have z0 := g4.free 0
  have z1 := g4.free 1
  have G3 := Lib.hid g3
  clear h2 g1 g2 g3 g4 g5 g6
  cases b with
  | false =>
    go_wp2
    go_ret
    obtain ⟨j1, j2, j3⟩ := wakeC_false (r := r) HB.out HKD.out
    rw [j1]
    refine ⟨rfl, _, ⟨qb, tb, ob, T, O, fp2, ?_, rfl⟩, G2.out⟩
    have := G1.out
    rw [j2, j3] at this
    exact this
  | true =>
    go_wp2_with fail
    go_region
    go_wp2_with fail
    obtain ⟨w3, hw3⟩ : ∃ w3, ((w2.setCell ⟨w.heap.size + 1, 0, none⟩ (.int .i64 flow)).setCell ⟨w.heap.size + 1, 1, none⟩ (.int .u64 r)).drew = w3 := ⟨_, rfl⟩
    rw [hw3]
    have hU3 : Upd [w.heap.size + 1] w2 w3 := by rw [← hw3]; exact (((Upd.refl _ w2).setCell (.inl (by simp)) _).setCell (.inl (by simp)) _).drew
    have hB3 : Blk w3 (w.heap.size + 1) 75 [.int .i64 flow, .int .u64 r, .int .u64 t.finish, .int .u64 t.place] := by rw [← hw3]; exact ((G4.out.set 0 _).set 1 _).upd (Upd.refl [] _).drew (by simp)
    have hC3 := (G1.out.updS hU3 (fun c hc e => by simp only [List.mem_cons, List.not_mem_nil, or_false] at e; exact G6.out.2 (e ▸ hc)) (fun c hc => by simp only [List.mem_cons, List.not_mem_nil, or_false] at hc; have := G1.out.q.updW.size; have := HH.out.q.updW.size; omega)).upd (Upd.refl [] w3).drew
    have hA3 := (G3.out.upd hU3 (by simp)).upd (Upd.refl [] w3).drew (by simp)
    replace hB3 := hB3.upd (Upd.refl [] w3).drew (by simp)
    have hn1 : w.heap.size ∉ [tb, ob] := fun e => by
      have := HH.out.lt; simp only [List.mem_cons, List.not_mem_nil, or_false] at e
      rcases e with e | e
      · have := this tb (by simp); omega
      · have := this ob (by simp); omega
    obtain ⟨w4, w5, w6, w7, s1, s2, v4, v6, T', O', e4, e5, e6, e7, u4, u5, u6, u7, hC7⟩ := hC3.wakeM obj flow ⟨flow, r, t.finish, t.place⟩
    have q0 := hA3.cell (j := 0) rfl
    have q4 := (u4.cell hA3.lt hn1 0).trans q0
    have q5 := (u5.cell hA3.lt hn1 0).trans q0
    have q6 := (u6.cell hA3.lt hn1 0).trans q0
    obtain ⟨-, -, -, -, -, -, r6, r7, -, -, -, -⟩ := hC3.cells
    have b0 := hB3.cell (j := 0) rfl
    have b1 := hB3.cell (j := 1) rfl
    have b2 := hB3.cell (j := 2) rfl
    have b3 := hB3.cell (j := 3) rfl
    have hn2 : w.heap.size + 1 ∉ [tb, ob] := fun e => by
      have := HH.out.lt; simp only [List.mem_cons, List.not_mem_nil, or_false] at e
      rcases e with e | e
      · have := this tb (by simp); omega
      · have := this ob (by simp); omega
    have x0 := (u4.cell hB3.lt hn2 0).trans b0
    have x1 := (u4.cell hB3.lt hn2 1).trans b1
    have x2 := (u4.cell hB3.lt hn2 2).trans b2
    have x3 := (u4.cell hB3.lt hn2 3).trans b3
    clear hn1 hn2
    unfold thV at e5
    have HC7 := Lib.hid hC7
    have HU3 := Lib.hid hU3
    have HU7 := Lib.hid u7
    clear hC7 hU3 u7 u4 u5 u6 hC3 hA3 hB3 hw3
    go_region
    go_wp2
    go_ret
    rw [wakeC_true HB.out HKD.out HTT.out]
    refine ⟨rfl, _, ⟨qb, tb, ob, T', O', fp2, HC7.out, rfl⟩, ((G2.out.thenS HU3.out (fun c hc => ?_)).up (Upd.refl [] w3).drew).thenS HU7.out (fun c hc => ?_)⟩
    · simp only [List.mem_cons, List.not_mem_nil, or_false] at hc; omega
    · simp only [List.mem_cons, List.not_mem_nil, or_false] at hc
      rcases hc with rfl | rfl
      · exact .inl (by simp)
      · exact .inl (by simp)
end Go.Proofs.YtolohheflbmfaaaGreatDoor
