/-
  The document's model: Do, whatever the call. No condition.
-/
import Derived.Test.YtfeobcmcellcpaaGreatPd
set_option linter.unusedVariables false
set_option linter.unusedSimpArgs false
namespace Go.Proofs.YtfeobcmcellcpaaGreat
open Go.RowKit

theorem DTo.into {W w w2 w3 w4 : World} {mb b4 : Nat} {c : Cf} {r : Rt × Ms} {G : List Nat} {e : Ending} (hU : Upd [] w w2) (hG : ∀ x ∈ G, x < w.heap.size) (h : DTo W mb c r G w2 e w3) (hb1 : w.heap.size ≤ b4) (hb2 : b4 < w2.heap.size) (hu : Upd [b4] w3 w4) : DTo W mb c r G w e w4 := by
  obtain ⟨v, G', rfl, hm, hf, ao, cap, rfl, hr, hn⟩ := h
  have hbG : b4 ∉ G' := fun hc => by
    rcases hf.1 b4 hc with h | h
    · have := hG b4 h; omega
    · omega
  have hs := hU.size
  refine ⟨_, G', rfl, hm.updS hu (fun x hx => by simpa using fun e : x = b4 => hbG (e ▸ hx)), ((Fr.of hU).trans hf).thenT hu (fun x hx => by simp only [List.mem_cons, List.not_mem_nil, or_false] at hx; subst hx; exact .inr hb1), ao, cap, rfl, hr.upd hu (fun x hx => by simpa using fun e : x = b4 => by have := (hn x hx).1; omega), fun x hx => ⟨by have := (hn x hx).1; omega, (hn x hx).2⟩⟩
theorem DTo.code {W w w2 w3 w4 : World} {mb b4 : Nat} {c : Cf} {m' : Ms} {G G' : List Nat} (hU : Upd [] w w2) (hG : ∀ x ∈ G, x < w.heap.size) (hm : DG W mb c m' G' w3) (hf : Fr G G' w2 w3) (hb1 : w.heap.size ≤ b4) (hb2 : b4 < w2.heap.size) (e : Int) (hu : Upd [b4] w3 w4) : DTo W mb c (rtE e, m') G w (.returned (.agg #[.int .i64 e, .slice none 0 0, .int .i64 0, .int .u64 0])) w4 :=
  DTo.into (r := (rtE e, m')) hU hG ⟨_, G', rfl, hm, hf, RtN.none_ _ _ _ _ _ _⟩ hb1 hb2 hu

set_option maxRecDepth 100000 in
set_option maxHeartbeats 8000000 in
theorem ddo_1 {W w : World} {mb : Nat} {c : Cf} {m : Ms} {G : List Nat} (h : DG W mb c m G w) (hn : m.n ≤ 4611686018427387904) (k : Cl) (hk : k.op = 1) : Calls Tryz.prog 42 #[.pointer (some ⟨mb, 0, none⟩), clV k] w (DTo W mb c (regM c m k) G w) := by
  have HM := Lib.hid h
  have HGL := Lib.hid h.lt
  have hd := Deed27.new w k
  obtain ⟨w2, hw2⟩ : ∃ y, (w.alloc (.cells #[.int .i64 k.op, .int .i64 k.flow, .int .i64 k.a, .int .i64 k.b] 46)).alloc (.cells #[.int .i64 0, .slice none 0 0, .int .i64 0, .int .u64 0] 57) = y := ⟨_, rfl⟩
  obtain ⟨b3, hb3⟩ : ∃ y, w.heap.size = y := ⟨_, rfl⟩
  rw [hw2, hb3] at hd
  obtain ⟨b4, hb4⟩ : ∃ y, b3 + 1 = y := ⟨_, rfl⟩
  rw [hb4] at hd
  have HD := Lib.hid hd
  have y0 := hd.box.cell (j := 0) rfl
  have y1 := hd.box.cell (j := 1) rfl
  have y2 := hd.box.cell (j := 2) rfl
  have y3 := hd.box.cell (j := 3) rfl
  have ly := hd.box.lt
  have HB : Hid (w.heap.size ≤ b4 ∧ b4 < w2.heap.size) := ⟨by omega, hd.ret.lt⟩
  have hn4 : b4 ∉ G := fun hm => by have := h.lt b4 hm; omega
  have hn3 : b3 ∉ G := fun hm => by have := h.lt b3 hm; omega
  unfold clV
  have t1 : (k.op == 1) = true := by simp [hk]
  have HREG := Lib.hid (dregister_any (h.upd HD.out.upd) k)
  unfold clV at HREG
  clear hd h hk
  go_enter Tryz.func42, Tryz.ntmps42
  go_wp2_with fail
  refine HREG.out.mono ?_
  rintro e w3 ⟨G', rfl, hm, hf⟩
  have HM3 := Lib.hid hm
  have HF3 := Lib.hid hf
  have HR3 := Lib.hid (HD.out.ret.upd hf.2 hn4)
  clear hm hf
  go_wp2_with fail
  refine (dcode_any _ _).mono ?_
  rintro e9 w9 ⟨rfl, hu9⟩
  have hr9 := HR3.out.upd hu9 (by simp)
  have q0 := hr9.cell (j := 0) rfl
  have q1 := hr9.cell (j := 1) rfl
  have q2 := hr9.cell (j := 2) rfl
  have q3 := hr9.cell (j := 3) rfl
  have f0 := hr9.free 0
  have f1 := hr9.free 1
  have f2 := hr9.free 2
  have f3 := hr9.free 3
  have l9 := hr9.lt
  have HU9 := Lib.hid hu9
  clear hr9 hu9
  go_wp2_with fail
  refine bodyPost_ret (v := .agg #[.int .i64 (regE c m.S k), .slice none 0 0, .int .i64 0, .int .u64 0]) (by simp [results, Tryz.results42, go_sem, q0, q1, q2, q3]) rfl ?_
  have e : regM c m k = (rtE (regE c m.S k), (regM c m k).2) := rfl
  rw [e]
  exact DTo.code HD.out.upd HGL.out (HM3.out.upd HU9.out) (HF3.out.up HU9.out) HB.out.1 HB.out.2 _ (((((Upd.refl [b4] w9).setCell (.inl (by simp)) _).setCell (.inl (by simp)) _).setCell (.inl (by simp)) _).setCell (.inl (by simp)) _)

set_option maxRecDepth 100000 in
set_option maxHeartbeats 8000000 in
theorem ddo_2 {W w : World} {mb : Nat} {c : Cf} {m : Ms} {G : List Nat} (h : DG W mb c m G w) (hn : m.n ≤ 4611686018427387904) (k : Cl) (hk : k.op = 2) : Calls Tryz.prog 42 #[.pointer (some ⟨mb, 0, none⟩), clV k] w (DTo W mb c (delM_ m k) G w) := by
  have HM := Lib.hid h
  have HGL := Lib.hid h.lt
  have hd := Deed27.new w k
  obtain ⟨w2, hw2⟩ : ∃ y, (w.alloc (.cells #[.int .i64 k.op, .int .i64 k.flow, .int .i64 k.a, .int .i64 k.b] 46)).alloc (.cells #[.int .i64 0, .slice none 0 0, .int .i64 0, .int .u64 0] 57) = y := ⟨_, rfl⟩
  obtain ⟨b3, hb3⟩ : ∃ y, w.heap.size = y := ⟨_, rfl⟩
  rw [hw2, hb3] at hd
  obtain ⟨b4, hb4⟩ : ∃ y, b3 + 1 = y := ⟨_, rfl⟩
  rw [hb4] at hd
  have HD := Lib.hid hd
  have y0 := hd.box.cell (j := 0) rfl
  have y1 := hd.box.cell (j := 1) rfl
  have y2 := hd.box.cell (j := 2) rfl
  have y3 := hd.box.cell (j := 3) rfl
  have ly := hd.box.lt
  have HB : Hid (w.heap.size ≤ b4 ∧ b4 < w2.heap.size) := ⟨by omega, hd.ret.lt⟩
  have hn4 : b4 ∉ G := fun hm => by have := h.lt b4 hm; omega
  have hn3 : b3 ∉ G := fun hm => by have := h.lt b3 hm; omega
  unfold clV
  have t1 : (k.op == 1) = false := by simp [hk]
  have t2 : (k.op == 2) = true := by simp [hk]
  obtain ⟨sb, GS, h, hok, hGe⟩ := h
  have hraw := h.upd HD.out.upd
  obtain ⟨-, -, -, c5, -, lm⟩ := hraw.cells
  have d5 : w2.drew.cell? ⟨mb, 5, none⟩ = some (.pointer (some ⟨sb, 0, none⟩)) := c5
  have ld : mb < w2.drew.heap.size := lm
  have e1 : w2.drew.cell? ⟨b3, 1, none⟩ = some (.int .i64 k.flow) := y1
  have le : b3 < w2.drew.heap.size := ly
  have HREM := Lib.hid ((hraw.upd (Upd.refl [] w2).drew).s.remove k.flow)
  have HRAW := Lib.hid (hraw.upd (Upd.refl [] w2).drew)
  have HOK0 := Lib.hid hok
  have HGE := Lib.hid hGe
  clear hd h hk hraw hok hGe
  go_enter Tryz.func42, Tryz.ntmps42
  go_upto_region 5 with (fail)
  refine wp_region_tail 6 (by kernel_rfl) (by kernel_rfl) ?_
  simp only [List.take_succ_cons, List.take_zero, List.drop_succ_cons, List.drop_zero]
  iterate 6 go_big_quiet_step (fail)
  refine wpQuiet_nil ?_
  go_wp2_with fail
  refine HREM.out.mono ?_
  rintro e w3 ⟨rfl, hT⟩
  obtain ⟨GS', hr3, hf3⟩ := HRAW.out.sto hT
  have hok3 : MOk c { m with S := delS m.S k.flow } := by
    by_cases hc : delE m.S k.flow = 0
    · obtain ⟨i, f, hfi, hid, hS⟩ := del_ok hc
      exact HOK0.out.erase (i := i) (by rw [hS])
    · rw [del_no hc]; exact HOK0.out
  have HM3 : Hid (DG W mb c { m with S := delS m.S k.flow } (mb :: GS') w3) := ⟨sb, GS', hr3, hok3, rfl⟩
  have HF3 : Hid (Fr G (mb :: GS') w2 w3) := by rw [HGE.out]; exact (Fr.of (Upd.refl [] w2).drew).trans hf3
  have HR3 := Lib.hid (HD.out.ret.upd HF3.out.2 hn4)
  clear hT hr3 hf3 hok3 d5 ld e1 le c5 lm
  go_wp2_with fail
  refine (dcode_any _ _).mono ?_
  rintro e9 w9 ⟨rfl, hu9⟩
  have hr9 := HR3.out.upd hu9 (by simp)
  have q0 := hr9.cell (j := 0) rfl
  have q1 := hr9.cell (j := 1) rfl
  have q2 := hr9.cell (j := 2) rfl
  have q3 := hr9.cell (j := 3) rfl
  have f0 := hr9.free 0
  have f1 := hr9.free 1
  have f2 := hr9.free 2
  have f3 := hr9.free 3
  have l9 := hr9.lt
  have HU9 := Lib.hid hu9
  clear hr9 hu9
  go_wp2_with fail
  refine bodyPost_ret (v := .agg #[.int .i64 (delE m.S k.flow), .slice none 0 0, .int .i64 0, .int .u64 0]) (by simp [results, Tryz.results42, go_sem, q0, q1, q2, q3]) rfl ?_
  have e : delM_ m k = (rtE (delE m.S k.flow), { m with S := delS m.S k.flow }) := rfl
  rw [e]
  exact DTo.code HD.out.upd HGL.out (HM3.out.upd HU9.out) (HF3.out.up HU9.out) HB.out.1 HB.out.2 _ (((((Upd.refl [b4] w9).setCell (.inl (by simp)) _).setCell (.inl (by simp)) _).setCell (.inl (by simp)) _).setCell (.inl (by simp)) _)

set_option maxRecDepth 100000 in
set_option maxHeartbeats 8000000 in
theorem ddo_3 {W w : World} {mb : Nat} {c : Cf} {m : Ms} {G : List Nat} (h : DG W mb c m G w) (hn : m.n ≤ 4611686018427387904) (k : Cl) (hk : k.op = 3) : Calls Tryz.prog 42 #[.pointer (some ⟨mb, 0, none⟩), clV k] w (DTo W mb c (enqM m k) G w) := by
  have HM := Lib.hid h
  have HGL := Lib.hid h.lt
  have hd := Deed27.new w k
  obtain ⟨w2, hw2⟩ : ∃ y, (w.alloc (.cells #[.int .i64 k.op, .int .i64 k.flow, .int .i64 k.a, .int .i64 k.b] 46)).alloc (.cells #[.int .i64 0, .slice none 0 0, .int .i64 0, .int .u64 0] 57) = y := ⟨_, rfl⟩
  obtain ⟨b3, hb3⟩ : ∃ y, w.heap.size = y := ⟨_, rfl⟩
  rw [hw2, hb3] at hd
  obtain ⟨b4, hb4⟩ : ∃ y, b3 + 1 = y := ⟨_, rfl⟩
  rw [hb4] at hd
  have HD := Lib.hid hd
  have y0 := hd.box.cell (j := 0) rfl
  have y1 := hd.box.cell (j := 1) rfl
  have y2 := hd.box.cell (j := 2) rfl
  have y3 := hd.box.cell (j := 3) rfl
  have ly := hd.box.lt
  have HB : Hid (w.heap.size ≤ b4 ∧ b4 < w2.heap.size) := ⟨by omega, hd.ret.lt⟩
  have hn4 : b4 ∉ G := fun hm => by have := h.lt b4 hm; omega
  have hn3 : b3 ∉ G := fun hm => by have := h.lt b3 hm; omega
  unfold clV
  have t1 : (k.op == 1) = false := by simp [hk]
  have t2 : (k.op == 2) = false := by simp [hk]
  have t3 : (k.op == 3) = true := by simp [hk]
  by_cases ha : k.a < 1
  · have HE : Hid (enqM m k = (rtE 3, m)) := by unfold Hid enqM; rw [if_pos (by omega)]
    have t8 : decide (k.a < 1) = true := by simp [ha]
    clear hd h hk ha
    go_enter Tryz.func42, Tryz.ntmps42
    go_wp2_with fail
    refine (dcode_any _ _).mono ?_
    rintro e9 w9 ⟨rfl, hu9⟩
    have hr9 := HD.out.ret.upd hu9 (by simp)
    have q0 := hr9.cell (j := 0) rfl
    have q1 := hr9.cell (j := 1) rfl
    have q2 := hr9.cell (j := 2) rfl
    have q3 := hr9.cell (j := 3) rfl
    have f0 := hr9.free 0
    have f1 := hr9.free 1
    have f2 := hr9.free 2
    have f3 := hr9.free 3
    have l9 := hr9.lt
    have HU9 := Lib.hid hu9
    clear hr9 hu9
    go_wp2_with fail
    refine bodyPost_ret (v := .agg #[.int .i64 3, .slice none 0 0, .int .i64 0, .int .u64 0]) (by simp [results, Tryz.results42, go_sem, q0, q1, q2, q3]) rfl ?_
    rw [HE.out]
    exact DTo.code HD.out.upd HGL.out ((HM.out.upd HD.out.upd).upd HU9.out) (Fr.of HU9.out) HB.out.1 HB.out.2 _ (((((Upd.refl [b4] w9).setCell (.inl (by simp)) _).setCell (.inl (by simp)) _).setCell (.inl (by simp)) _).setCell (.inl (by simp)) _)
  by_cases ha : 65536 < k.a
  · have HE : Hid (enqM m k = (rtE 3, m)) := by unfold Hid enqM; rw [if_pos (by omega)]
    have t8 : decide (k.a < 1) = false := by simp; omega
    have t9 : decide (65536 < k.a) = true := by simp [ha]
    clear hd h hk ha
    go_enter Tryz.func42, Tryz.ntmps42
    go_wp2_with fail
    refine (dcode_any _ _).mono ?_
    rintro e9 w9 ⟨rfl, hu9⟩
    have hr9 := HD.out.ret.upd hu9 (by simp)
    have q0 := hr9.cell (j := 0) rfl
    have q1 := hr9.cell (j := 1) rfl
    have q2 := hr9.cell (j := 2) rfl
    have q3 := hr9.cell (j := 3) rfl
    have f0 := hr9.free 0
    have f1 := hr9.free 1
    have f2 := hr9.free 2
    have f3 := hr9.free 3
    have l9 := hr9.lt
    have HU9 := Lib.hid hu9
    clear hr9 hu9
    go_wp2_with fail
    refine bodyPost_ret (v := .agg #[.int .i64 3, .slice none 0 0, .int .i64 0, .int .u64 0]) (by simp [results, Tryz.results42, go_sem, q0, q1, q2, q3]) rfl ?_
    rw [HE.out]
    exact DTo.code HD.out.upd HGL.out ((HM.out.upd HD.out.upd).upd HU9.out) (Fr.of HU9.out) HB.out.1 HB.out.2 _ (((((Upd.refl [b4] w9).setCell (.inl (by simp)) _).setCell (.inl (by simp)) _).setCell (.inl (by simp)) _).setCell (.inl (by simp)) _)
  have t8 : decide (k.a < 1) = false := by simp; omega
  have t9 : decide (65536 < k.a) = false := by simp; omega
  have HE : Hid (enqM m k = (rtE (arrCode m.S ⟨k.flow, k.a, k.b⟩), { m with S := arrS m.S ⟨k.flow, k.a, k.b⟩ })) := by unfold Hid enqM; rw [if_neg (by omega)]
  obtain ⟨sb, GS, h, hok, hGe⟩ := h
  have hraw := h.upd HD.out.upd
  obtain ⟨-, -, -, c5, -, lm⟩ := hraw.cells
  have d5 : w2.drew.cell? ⟨mb, 5, none⟩ = some (.pointer (some ⟨sb, 0, none⟩)) := c5
  have ld : mb < w2.drew.heap.size := lm
  have e1 : w2.drew.cell? ⟨b3, 1, none⟩ = some (.int .i64 k.flow) := y1
  have e2 : w2.drew.cell? ⟨b3, 2, none⟩ = some (.int .i64 k.a) := y2
  have e3 : w2.drew.cell? ⟨b3, 3, none⟩ = some (.int .i64 k.b) := y3
  have le : b3 < w2.drew.heap.size := ly
  have HARR := Lib.hid ((hraw.upd (Upd.refl [] w2).drew).s.arrive ⟨k.flow, k.a, k.b⟩ (by simp only; omega))
  have HRAW := Lib.hid (hraw.upd (Upd.refl [] w2).drew)
  have HOK0 := Lib.hid hok
  have HGE := Lib.hid hGe
  clear hd h hk hraw hok hGe
  go_enter Tryz.func42, Tryz.ntmps42
  go_upto_region 9 with (fail)
  refine wp_region_tail 11 (by kernel_rfl) (by kernel_rfl) ?_
  simp only [List.take_succ_cons, List.take_zero, List.drop_succ_cons, List.drop_zero]
  iterate 11 go_big_quiet_step (fail)
  refine wpQuiet_nil ?_
  go_wp2_with fail
  refine HARR.out.mono ?_
  rintro e w3 ⟨rfl, hT⟩
  obtain ⟨GS', hr3, hf3⟩ := HRAW.out.sto hT
  have hok3 : MOk c { m with S := arrS m.S ⟨k.flow, k.a, k.b⟩ } := by
    by_cases hc : arrCode m.S ⟨k.flow, k.a, k.b⟩ = 0
    · obtain ⟨i, f, hfi, hid, hfull, hS⟩ := arr_ok hc
      have hid2 : f.id = k.flow := hid
      exact HOK0.out.ids_ (by rw [hS]; exact ids_setF hfi rfl) (by rw [hS]; exact pk_set HOK0.out.pk (fun p hp => by rcases List.mem_append.1 hp with h | h; (exact (HOK0.out.pk f (List.mem_of_getElem? hfi) p h)); (simp only [List.mem_cons, List.not_mem_nil, or_false] at h; rw [h]; exact hid2.symm)))
    · rw [arr_no hc]; exact HOK0.out
  have HM3 : Hid (DG W mb c { m with S := arrS m.S ⟨k.flow, k.a, k.b⟩ } (mb :: GS') w3) := ⟨sb, GS', hr3, hok3, rfl⟩
  have HF3 : Hid (Fr G (mb :: GS') w2 w3) := by rw [HGE.out]; exact (Fr.of (Upd.refl [] w2).drew).trans hf3
  have HR3 := Lib.hid (HD.out.ret.upd HF3.out.2 hn4)
  obtain ⟨cd, hcd⟩ : ∃ y, arrCode m.S ⟨k.flow, k.a, k.b⟩ = y := ⟨_, rfl⟩
  rw [hcd] at HE ⊢
  clear hT hr3 hf3 hok3 d5 ld e1 e2 e3 le c5 lm hcd
  go_wp2_with fail
  refine (dcode_any _ _).mono ?_
  rintro e9 w9 ⟨rfl, hu9⟩
  have hr9 := HR3.out.upd hu9 (by simp)
  have q0 := hr9.cell (j := 0) rfl
  have q1 := hr9.cell (j := 1) rfl
  have q2 := hr9.cell (j := 2) rfl
  have q3 := hr9.cell (j := 3) rfl
  have f0 := hr9.free 0
  have f1 := hr9.free 1
  have f2 := hr9.free 2
  have f3 := hr9.free 3
  have l9 := hr9.lt
  have HU9 := Lib.hid hu9
  clear hr9 hu9
  go_wp2_with fail
  refine bodyPost_ret (v := .agg #[.int .i64 cd, .slice none 0 0, .int .i64 0, .int .u64 0]) (by simp [results, Tryz.results42, go_sem, q0, q1, q2, q3]) rfl ?_
  rw [HE.out]
  exact DTo.code HD.out.upd HGL.out (HM3.out.upd HU9.out) (HF3.out.up HU9.out) HB.out.1 HB.out.2 _ (((((Upd.refl [b4] w9).setCell (.inl (by simp)) _).setCell (.inl (by simp)) _).setCell (.inl (by simp)) _).setCell (.inl (by simp)) _)

set_option maxRecDepth 100000 in
set_option maxHeartbeats 8000000 in
theorem ddo_4 {W w : World} {mb : Nat} {c : Cf} {m : Ms} {G : List Nat} (h : DG W mb c m G w) (hn : m.n ≤ 4611686018427387904) (k : Cl) (hk : k.op = 4) : Calls Tryz.prog 42 #[.pointer (some ⟨mb, 0, none⟩), clV k] w (DTo W mb c (oneM m) G w) := by
  have HM := Lib.hid h
  have HGL := Lib.hid h.lt
  have hd := Deed27.new w k
  obtain ⟨w2, hw2⟩ : ∃ y, (w.alloc (.cells #[.int .i64 k.op, .int .i64 k.flow, .int .i64 k.a, .int .i64 k.b] 46)).alloc (.cells #[.int .i64 0, .slice none 0 0, .int .i64 0, .int .u64 0] 57) = y := ⟨_, rfl⟩
  obtain ⟨b3, hb3⟩ : ∃ y, w.heap.size = y := ⟨_, rfl⟩
  rw [hw2, hb3] at hd
  obtain ⟨b4, hb4⟩ : ∃ y, b3 + 1 = y := ⟨_, rfl⟩
  rw [hb4] at hd
  have HD := Lib.hid hd
  have y0 := hd.box.cell (j := 0) rfl
  have y1 := hd.box.cell (j := 1) rfl
  have y2 := hd.box.cell (j := 2) rfl
  have y3 := hd.box.cell (j := 3) rfl
  have ly := hd.box.lt
  have HB : Hid (w.heap.size ≤ b4 ∧ b4 < w2.heap.size) := ⟨by omega, hd.ret.lt⟩
  have hn4 : b4 ∉ G := fun hm => by have := h.lt b4 hm; omega
  have hn3 : b3 ∉ G := fun hm => by have := h.lt b3 hm; omega
  unfold clV
  have t1 : (k.op == 1) = false := by simp [hk]
  have t2 : (k.op == 2) = false := by simp [hk]
  have t3 : (k.op == 3) = false := by simp [hk]
  have t4 : (k.op == 4) = true := by simp [hk]
  have HONE := Lib.hid (done_any (h.upd HD.out.upd) (by omega))
  obtain ⟨r, hr⟩ : ∃ y, oneM m = y := ⟨_, rfl⟩
  have HRR := Lib.hid hr
  rw [hr] at HONE
  clear hd h hk hr
  go_enter Tryz.func42, Tryz.ntmps42
  go_wp2_with fail
  refine HONE.out.mono ?_
  rintro e w3 hto
  have hto2 := hto
  obtain ⟨v, G', rfl, hm, hf, hrt⟩ := hto2
  have hrt2 := hrt
  obtain ⟨ao, cap, rfl, -, -⟩ := hrt2
  have d7 := HD.out.ret.upd hf.2 hn4
  have q0 := d7.cell (j := 0) rfl
  have q1 := d7.cell (j := 1) rfl
  have q2 := d7.cell (j := 2) rfl
  have q3 := d7.cell (j := 3) rfl
  have f0 := d7.free 0
  have f1 := d7.free 1
  have f2 := d7.free 2
  have f3 := d7.free 3
  have l1 := d7.lt
  have HTO := Lib.hid hto
  clear hto hm hf hrt d7
  go_wp2_with fail
  refine bodyPost_ret (v := .agg #[.int .i64 r.1.e, .slice ao r.1.L.length cap, .int .i64 r.1.n, .int .u64 r.1.v]) (by simp [results, Tryz.results42, go_sem, q0, q1, q2, q3]) rfl ?_
  rw [HRR.out]
  exact DTo.into HD.out.upd HGL.out HTO.out HB.out.1 HB.out.2 (((((Upd.refl [b4] w3).setCell (.inl (by simp)) _).setCell (.inl (by simp)) _).setCell (.inl (by simp)) _).setCell (.inl (by simp)) _)

set_option maxRecDepth 100000 in
set_option maxHeartbeats 8000000 in
theorem ddo_5 {W w : World} {mb : Nat} {c : Cf} {m : Ms} {G : List Nat} (h : DG W mb c m G w) (hn : m.n ≤ 4611686018427387904) (k : Cl) (hk : k.op = 5) : Calls Tryz.prog 42 #[.pointer (some ⟨mb, 0, none⟩), clV k] w (DTo W mb c (batchM m ⟨5, 0, k.a, 0⟩) G w) := by
  have HM := Lib.hid h
  have HGL := Lib.hid h.lt
  have hd := Deed27.new w k
  obtain ⟨w2, hw2⟩ : ∃ y, (w.alloc (.cells #[.int .i64 k.op, .int .i64 k.flow, .int .i64 k.a, .int .i64 k.b] 46)).alloc (.cells #[.int .i64 0, .slice none 0 0, .int .i64 0, .int .u64 0] 57) = y := ⟨_, rfl⟩
  obtain ⟨b3, hb3⟩ : ∃ y, w.heap.size = y := ⟨_, rfl⟩
  rw [hw2, hb3] at hd
  obtain ⟨b4, hb4⟩ : ∃ y, b3 + 1 = y := ⟨_, rfl⟩
  rw [hb4] at hd
  have HD := Lib.hid hd
  have y0 := hd.box.cell (j := 0) rfl
  have y1 := hd.box.cell (j := 1) rfl
  have y2 := hd.box.cell (j := 2) rfl
  have y3 := hd.box.cell (j := 3) rfl
  have ly := hd.box.lt
  have HB : Hid (w.heap.size ≤ b4 ∧ b4 < w2.heap.size) := ⟨by omega, hd.ret.lt⟩
  have hn4 : b4 ∉ G := fun hm => by have := h.lt b4 hm; omega
  have hn3 : b3 ∉ G := fun hm => by have := h.lt b3 hm; omega
  unfold clV
  have t1 : (k.op == 1) = false := by simp [hk]
  have t2 : (k.op == 2) = false := by simp [hk]
  have t3 : (k.op == 3) = false := by simp [hk]
  have t4 : (k.op == 4) = false := by simp [hk]
  have t5 : (k.op == 5) = true := by simp [hk]
  have HONE := Lib.hid (dbatch_any (h.upd HD.out.upd) hn k.a)
  obtain ⟨r, hr⟩ : ∃ y, batchM m ⟨5, 0, k.a, 0⟩ = y := ⟨_, rfl⟩
  have HRR := Lib.hid hr
  rw [hr] at HONE
  clear hd h hk hr
  go_enter Tryz.func42, Tryz.ntmps42
  go_wp2_with fail
  refine HONE.out.mono ?_
  rintro e w3 hto
  have hto2 := hto
  obtain ⟨v, G', rfl, hm, hf, hrt⟩ := hto2
  have hrt2 := hrt
  obtain ⟨ao, cap, rfl, -, -⟩ := hrt2
  have d7 := HD.out.ret.upd hf.2 hn4
  have q0 := d7.cell (j := 0) rfl
  have q1 := d7.cell (j := 1) rfl
  have q2 := d7.cell (j := 2) rfl
  have q3 := d7.cell (j := 3) rfl
  have f0 := d7.free 0
  have f1 := d7.free 1
  have f2 := d7.free 2
  have f3 := d7.free 3
  have l1 := d7.lt
  have HTO := Lib.hid hto
  clear hto hm hf hrt d7
  go_wp2_with fail
  refine bodyPost_ret (v := .agg #[.int .i64 r.1.e, .slice ao r.1.L.length cap, .int .i64 r.1.n, .int .u64 r.1.v]) (by simp [results, Tryz.results42, go_sem, q0, q1, q2, q3]) rfl ?_
  rw [HRR.out]
  exact DTo.into HD.out.upd HGL.out HTO.out HB.out.1 HB.out.2 (((((Upd.refl [b4] w3).setCell (.inl (by simp)) _).setCell (.inl (by simp)) _).setCell (.inl (by simp)) _).setCell (.inl (by simp)) _)

set_option maxRecDepth 100000 in
set_option maxHeartbeats 8000000 in
theorem ddo_6 {W w : World} {mb : Nat} {c : Cf} {m : Ms} {G : List Nat} (h : DG W mb c m G w) (hn : m.n ≤ 4611686018427387904) (k : Cl) (hk : k.op = 6) : Calls Tryz.prog 42 #[.pointer (some ⟨mb, 0, none⟩), clV k] w (DTo W mb c (statM m) G w) := by
  have HM := Lib.hid h
  have HGL := Lib.hid h.lt
  have hd := Deed27.new w k
  obtain ⟨w2, hw2⟩ : ∃ y, (w.alloc (.cells #[.int .i64 k.op, .int .i64 k.flow, .int .i64 k.a, .int .i64 k.b] 46)).alloc (.cells #[.int .i64 0, .slice none 0 0, .int .i64 0, .int .u64 0] 57) = y := ⟨_, rfl⟩
  obtain ⟨b3, hb3⟩ : ∃ y, w.heap.size = y := ⟨_, rfl⟩
  rw [hw2, hb3] at hd
  obtain ⟨b4, hb4⟩ : ∃ y, b3 + 1 = y := ⟨_, rfl⟩
  rw [hb4] at hd
  have HD := Lib.hid hd
  have y0 := hd.box.cell (j := 0) rfl
  have y1 := hd.box.cell (j := 1) rfl
  have y2 := hd.box.cell (j := 2) rfl
  have y3 := hd.box.cell (j := 3) rfl
  have ly := hd.box.lt
  have HB : Hid (w.heap.size ≤ b4 ∧ b4 < w2.heap.size) := ⟨by omega, hd.ret.lt⟩
  have hn4 : b4 ∉ G := fun hm => by have := h.lt b4 hm; omega
  have hn3 : b3 ∉ G := fun hm => by have := h.lt b3 hm; omega
  unfold clV
  have t1 : (k.op == 1) = false := by simp [hk]
  have t2 : (k.op == 2) = false := by simp [hk]
  have t3 : (k.op == 3) = false := by simp [hk]
  have t4 : (k.op == 4) = false := by simp [hk]
  have t5 : (k.op == 5) = false := by simp [hk]
  have t6 : (k.op == 6) = true := by simp [hk]
  obtain ⟨sb, GS, h, hok, hGe⟩ := h
  have hraw := h.upd HD.out.upd
  obtain ⟨-, -, -, c5, c6, lm⟩ := hraw.cells
  obtain ⟨ao, cap, Z, hz, -, -⟩ := hraw.s
  obtain ⟨-, s1, -, ls⟩ := hz.cells
  have d5 : w2.drew.cell? ⟨mb, 5, none⟩ = some (.pointer (some ⟨sb, 0, none⟩)) := c5
  have d6 : w2.drew.cell? ⟨mb, 6, none⟩ = some (.int .i64 m.n) := c6
  have ld : mb < w2.drew.heap.size := lm
  have e1 : w2.drew.cell? ⟨sb, 1, none⟩ = some (.int .u64 m.S.v) := s1
  have le : sb < w2.drew.heap.size := ls
  have q0 := hd.ret.cell (j := 0) rfl
  have q1 := hd.ret.cell (j := 1) rfl
  have q2 := hd.ret.cell (j := 2) rfl
  have q3 := hd.ret.cell (j := 3) rfl
  have f0 := hd.ret.free 0
  have f1 := hd.ret.free 1
  have f2 := hd.ret.free 2
  have f3 := hd.ret.free 3
  have l1 := hd.ret.lt
  clear hd h hk hraw hok hGe hz
  go_enter Tryz.func42, Tryz.ntmps42
  go_upto_region 15 with (fail)
  refine wp_region_tail 12 (by kernel_rfl) (by kernel_rfl) ?_
  simp only [List.take_succ_cons, List.take_zero, List.drop_succ_cons, List.drop_zero]
  iterate 12 go_big_quiet_step (fail)
  refine wpQuiet_nil ?_
  go_wp2_with fail
  refine bodyPost_ret (v := .agg #[.int .i64 0, .slice none 0 0, .int .i64 m.n, .int .u64 m.S.v]) (by simp [results, Tryz.results42, go_sem, q0, q1, q2, q3]) rfl ?_
  exact DTo.keep HM.out (T := [b4]) (HD.out.upd.nil.trans (((((Upd.refl [b4] w2).drew.setCell (.inl (by simp)) _).setCell (.inl (by simp)) _).setCell (.inl (by simp)) _).setCell (.inl (by simp)) _)) (fun x hx => by simp only [List.mem_cons, List.not_mem_nil, or_false] at hx; rw [hx]; exact HB.out.1) _ _ _

set_option maxRecDepth 100000 in
set_option maxHeartbeats 8000000 in
theorem ddo_0 {W w : World} {mb : Nat} {c : Cf} {m : Ms} {G : List Nat} (h : DG W mb c m G w) (hn : m.n ≤ 4611686018427387904) (k : Cl) (hk : ¬ (1 ≤ k.op ∧ k.op ≤ 6)) : Calls Tryz.prog 42 #[.pointer (some ⟨mb, 0, none⟩), clV k] w (DTo W mb c (rtE 2, m) G w) := by
  have HM := Lib.hid h
  have HGL := Lib.hid h.lt
  have hd := Deed27.new w k
  obtain ⟨w2, hw2⟩ : ∃ y, (w.alloc (.cells #[.int .i64 k.op, .int .i64 k.flow, .int .i64 k.a, .int .i64 k.b] 46)).alloc (.cells #[.int .i64 0, .slice none 0 0, .int .i64 0, .int .u64 0] 57) = y := ⟨_, rfl⟩
  obtain ⟨b3, hb3⟩ : ∃ y, w.heap.size = y := ⟨_, rfl⟩
  rw [hw2, hb3] at hd
  obtain ⟨b4, hb4⟩ : ∃ y, b3 + 1 = y := ⟨_, rfl⟩
  rw [hb4] at hd
  have HD := Lib.hid hd
  have y0 := hd.box.cell (j := 0) rfl
  have y1 := hd.box.cell (j := 1) rfl
  have y2 := hd.box.cell (j := 2) rfl
  have y3 := hd.box.cell (j := 3) rfl
  have ly := hd.box.lt
  have HB : Hid (w.heap.size ≤ b4 ∧ b4 < w2.heap.size) := ⟨by omega, hd.ret.lt⟩
  have hn4 : b4 ∉ G := fun hm => by have := h.lt b4 hm; omega
  have hn3 : b3 ∉ G := fun hm => by have := h.lt b3 hm; omega
  unfold clV
  have t1 : (k.op == 1) = false := by simp; omega
  have t2 : (k.op == 2) = false := by simp; omega
  have t3 : (k.op == 3) = false := by simp; omega
  have t4 : (k.op == 4) = false := by simp; omega
  have t5 : (k.op == 5) = false := by simp; omega
  have t6 : (k.op == 6) = false := by simp; omega
  clear hd h hk
  go_enter Tryz.func42, Tryz.ntmps42
  go_wp2_with fail
  refine (dcode_any _ _).mono ?_
  rintro e9 w9 ⟨rfl, hu9⟩
  have hr9 := HD.out.ret.upd hu9 (by simp)
  have q0 := hr9.cell (j := 0) rfl
  have q1 := hr9.cell (j := 1) rfl
  have q2 := hr9.cell (j := 2) rfl
  have q3 := hr9.cell (j := 3) rfl
  have f0 := hr9.free 0
  have f1 := hr9.free 1
  have f2 := hr9.free 2
  have f3 := hr9.free 3
  have l9 := hr9.lt
  have HU9 := Lib.hid hu9
  clear hr9 hu9
  go_wp2_with fail
  refine bodyPost_ret (v := .agg #[.int .i64 2, .slice none 0 0, .int .i64 0, .int .u64 0]) (by simp [results, Tryz.results42, go_sem, q0, q1, q2, q3]) rfl ?_
  exact DTo.code HD.out.upd HGL.out ((HM.out.upd HD.out.upd).upd HU9.out) (Fr.of HU9.out) HB.out.1 HB.out.2 _ (((((Upd.refl [b4] w9).setCell (.inl (by simp)) _).setCell (.inl (by simp)) _).setCell (.inl (by simp)) _).setCell (.inl (by simp)) _)
theorem doM_n (c : Cf) (m : Ms) (k : Cl) : (doM c m k).2.n ≤ m.n + 16 := by
  have h1 := oneM_len m
  have key : ∀ (j : Nat) (m : Ms) (L : List Pk), (batM j m L).2.n ≤ m.n + j := by
    intro j
    induction j with
    | zero => intro m L; exact Nat.le_refl _
    | succ j ih =>
      intro m L
      have h1 := oneM_len m
      show (if (oneM m).1.e = 0 then batM j (oneM m).2 (L ++ (oneM m).1.L) else (⟨(oneM m).1.e, L, 0, 0⟩, (oneM m).2)).2.n ≤ _
      split
      · have := ih (oneM m).2 (L ++ (oneM m).1.L); omega
      · show (oneM m).2.n ≤ _; omega
  unfold doM
  split
  · unfold regM; split <;> simp
  split
  · show m.n ≤ m.n + 16; omega
  split
  · unfold enqM; split <;> simp
  split
  · omega
  split
  · unfold batchM
    split
    · show m.n ≤ m.n + 16; omega
    · have := key k.a.toNat m []; omega
  split
  · show m.n ≤ m.n + 16; omega
  · show m.n ≤ m.n + 16; omega
theorem ddo_any {W w : World} {mb : Nat} {c : Cf} {m : Ms} {G : List Nat} (h : DG W mb c m G w) (hn : m.n ≤ 4611686018427387904) (k : Cl) : Calls Tryz.prog 42 #[.pointer (some ⟨mb, 0, none⟩), clV k] w (DTo W mb c (doM c m k) G w) := by
  by_cases e1 : k.op = 1
  · rw [show doM c m k = regM c m k by unfold doM; rw [if_pos e1]]; exact ddo_1 h hn k e1
  by_cases e2 : k.op = 2
  · rw [show doM c m k = delM_ m k by unfold doM; rw [if_neg e1, if_pos e2]]; exact ddo_2 h hn k e2
  by_cases e3 : k.op = 3
  · rw [show doM c m k = enqM m k by unfold doM; rw [if_neg e1, if_neg e2, if_pos e3]]; exact ddo_3 h hn k e3
  by_cases e4 : k.op = 4
  · rw [show doM c m k = oneM m by unfold doM; rw [if_neg e1, if_neg e2, if_neg e3, if_pos e4]]; exact ddo_4 h hn k e4
  by_cases e5 : k.op = 5
  · rw [show doM c m k = batchM m ⟨5, 0, k.a, 0⟩ by unfold doM; rw [if_neg e1, if_neg e2, if_neg e3, if_neg e4, if_pos e5]; rfl]; exact ddo_5 h hn k e5
  by_cases e6 : k.op = 6
  · rw [show doM c m k = statM m by unfold doM; rw [if_neg e1, if_neg e2, if_neg e3, if_neg e4, if_neg e5, if_pos e6]]; exact ddo_6 h hn k e6
  · rw [show doM c m k = (rtE 2, m) by unfold doM; rw [if_neg e1, if_neg e2, if_neg e3, if_neg e4, if_neg e5, if_neg e6]]; exact ddo_0 h hn k (by omega)
end Go.Proofs.YtfeobcmcellcpaaGreat
