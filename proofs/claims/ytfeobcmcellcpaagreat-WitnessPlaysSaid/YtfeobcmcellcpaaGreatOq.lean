/-
  The program's model: Do, whatever the call. No condition.
-/
import Derived.Test.YtfeobcmcellcpaaGreatPOD
import Derived.Test.YtfeobcmcellcpaaGreatMi
set_option linter.unusedVariables false
set_option linter.unusedSimpArgs false
namespace Go.Proofs.YtfeobcmcellcpaaGreat
open Go.RowKit

def mdX1 (c : Cf) (m : Ms) (k : Cl) : Rt × Ms := regM c m k

set_option maxRecDepth 100000 in
set_option maxHeartbeats 8000000 in
theorem mdo_register {W w : World} {mb : Nat} {c : Cf} {m : Ms} {G : List Nat} (h : MG W mb c m G w) (hn : m.n ≤ 4611686018427387904) (k : Cl) (hk : k.op = 1) : Calls Tryz.prog 61 #[.pointer (some ⟨mb, 0, none⟩), clV k] w (MTo W mb c (mdX1 c m k) G w) := by
  have HF : Hid (∀ w', Upd [] w w' → Calls Tryz.prog 89 #[.pointer (some ⟨mb, 0, none⟩), .agg #[.int .i64 1, .int .i64 k.flow, .int .i64 k.a, .int .i64 k.b]] w' (MTo W mb c (mdX1 c m k) G w')) := fun w' hu => by
    have HX := Lib.hid (h.upd hu)
    have := mregister_any HX.out k
    unfold clV at this
    rw [hk] at this
    exact this
  have HGL := Lib.hid h.lt
  clear h hn
  obtain ⟨w1, hw1⟩ : ∃ y, (w.alloc (.cells #[.int .i64 1, .int .i64 k.flow, .int .i64 k.a, .int .i64 k.b] 46)) = y := ⟨_, rfl⟩
  obtain ⟨w2, hw2⟩ : ∃ y, (w1.alloc (.cells #[.int .i64 0, .slice none 0 0, .int .i64 0, .int .u64 0] 57)) = y := ⟨_, rfl⟩
  have u1 : Upd [] w w1 := by rw [← hw1]; exact (Upd.refl [] w).alloc _
  have u2 : Upd [] w1 w2 := by rw [← hw2]; exact (Upd.refl [] w1).alloc _
  have b1 : Blk w1 w.heap.size 46 [.int .i64 1, .int .i64 k.flow, .int .i64 k.a, .int .i64 k.b] := by rw [← hw1]; exact Blk.new w 46 [.int .i64 1, .int .i64 k.flow, .int .i64 k.a, .int .i64 k.b]
  have b2 : Blk w2 w1.heap.size 57 [.int .i64 0, .slice none 0 0, .int .i64 0, .int .u64 0] := by rw [← hw2]; exact Blk.new w1 57 [.int .i64 0, .slice none 0 0, .int .i64 0, .int .u64 0]
  have b1 := b1.upd u2 (by simp)
  have hs1 : w1.heap.size = w.heap.size + 1 := by rw [← hw1]; simp
  have HS1 := Lib.hid hs1
  have HU2 : Hid (Upd [] w w2) := u1.trans u2
  have HB1 := Lib.hid b1
  have HB2 := Lib.hid b2
  have HWI : Hid (∀ w', Calls Tryz.prog 95 #[.int .i64 1, .int .i64 1, .int .i64 6] w' (fun e w2 => e = .returned (.bool true) ∧ w' = w2)) := fun w' => mwithin_any 1 1 6 w'
  obtain ⟨w3, hw3⟩ : ∃ y, (w2.alloc (.cells #[.nilFunc, .nilFunc, .nilFunc, .nilFunc, .nilFunc, .nilFunc, .nilFunc] 147)) = y := ⟨_, rfl⟩
  have b3 : Blk w3 w2.heap.size 147 [.nilFunc, .nilFunc, .nilFunc, .nilFunc, .nilFunc, .nilFunc, .nilFunc] := by rw [← hw3]; exact Blk.new w2 147 [.nilFunc, .nilFunc, .nilFunc, .nilFunc, .nilFunc, .nilFunc, .nilFunc]
  have u3 : Upd [] w2 w3 := by rw [← hw3]; exact (Upd.refl [] w2).alloc _
  have HU3 := Lib.hid u3
  have HB3 := Lib.hid b3
  have c0 := b3.cell (j := 0) rfl
  have c1 := b3.cell (j := 1) rfl
  have c2 := b3.cell (j := 2) rfl
  have c3 := b3.cell (j := 3) rfl
  have c4 := b3.cell (j := 4) rfl
  have c5 := b3.cell (j := 5) rfl
  have c6 := b3.cell (j := 6) rfl
  have f0 := b3.free 0
  have f1 := b3.free 1
  have f2 := b3.free 2
  have f3 := b3.free 3
  have f4 := b3.free 4
  have f5 := b3.free 5
  have f6 := b3.free 6
  have l3 := b3.lt
  have k0 := (HB1.out.upd u3 (by simp)).cell (j := 0) rfl
  have k1 := (HB1.out.upd u3 (by simp)).cell (j := 1) rfl
  have k2 := (HB1.out.upd u3 (by simp)).cell (j := 2) rfl
  have k3 := (HB1.out.upd u3 (by simp)).cell (j := 3) rfl
  have hs2 : w2.heap.size = w.heap.size + 2 := by rw [← hw2]; simp; exact HS1.out
  have HS2 := Lib.hid hs2
  have hne : w.heap.size ≠ w2.heap.size := by omega
  have hne2 := hne.symm
  clear hs1 hs2 b1 b2 b3 u1 u2 u3
  unfold clV
  rw [hk]
  go_enter Tryz.func61, Tryz.ntmps61
  go_wp2_with fail
  obtain ⟨b0, hb0⟩ : ∃ y, w.heap.size = y := ⟨_, rfl⟩
  obtain ⟨b1, hb1⟩ : ∃ y, w1.heap.size = y := ⟨_, rfl⟩
  obtain ⟨b2, hb2⟩ : ∃ y, w2.heap.size = y := ⟨_, rfl⟩
  obtain ⟨w4, hw4⟩ : ∃ y, ((((((w3.setCell ⟨b2, 0, none⟩ .nilFunc).setCell ⟨b2, 1, none⟩ (.func (.func 89) #[] #[])).setCell ⟨b2, 2, none⟩ (.func (.func 90) #[] #[])).setCell ⟨b2, 3, none⟩ (.func (.func 91) #[] #[])).setCell ⟨b2, 4, none⟩ (.func (.func 92) #[] #[])).setCell ⟨b2, 5, none⟩ (.func (.func 93) #[] #[])).setCell ⟨b2, 6, none⟩ (.func (.func 94) #[] #[]) = y := ⟨_, rfl⟩
  have hu4 : Upd [b2] w3 w4 := by rw [← hw4]; exact (((((((Upd.refl [b2] w3).setCell (.inl (by simp)) _).setCell (.inl (by simp)) _).setCell (.inl (by simp)) _).setCell (.inl (by simp)) _).setCell (.inl (by simp)) _).setCell (.inl (by simp)) _).setCell (.inl (by simp)) _
  have hb4 : Blk w4 b2 147 [.nilFunc, .func (.func 89) #[] #[], .func (.func 90) #[] #[], .func (.func 91) #[] #[], .func (.func 92) #[] #[], .func (.func 93) #[] #[], .func (.func 94) #[] #[]] := by
    rw [← hw4]
    have := HB3.out
    rw [hb2] at this
    exact ((((((this.set 0 .nilFunc).set 1 (.func (.func 89) #[] #[])).set 2 (.func (.func 90) #[] #[])).set 3 (.func (.func 91) #[] #[])).set 4 (.func (.func 92) #[] #[])).set 5 (.func (.func 93) #[] #[])).set 6 (.func (.func 94) #[] #[])
  rw [hb0, hb1, hb2, hw4]
  have hn0 : b0 ∉ [b2] := by rw [← hb0, ← hb2]; simp; exact hne
  have hn1 : b1 ∉ [b2] := by have := HS1.out; have := HS2.out; simp; omega
  have d1 := ((HB1.out.upd HU3.out (by simp)).upd hu4 (by rw [hb0]; exact hn0))
  rw [hb0] at d1
  have d2 := ((HB2.out.upd HU3.out (by simp)).upd hu4 (by rw [hb1]; exact hn1))
  rw [hb1] at d2
  have HU4 : Hid (Upd [] w w4) := (HU2.out.trans HU3.out).then hu4 (fun _ _ h => h) (fun i hi hm => by have := HS2.out; simp only [List.mem_cons, List.not_mem_nil, or_false] at hm; omega)
  have HN : Hid (w.heap.size ≤ b1 ∧ b1 < w4.heap.size) := ⟨by have := HS1.out; omega, d2.lt⟩
  have HD2 := Lib.hid d2
  have g0 := d1.cell (j := 0) rfl
  have g1 := d1.cell (j := 1) rfl
  have g2 := d1.cell (j := 2) rfl
  have g3 := d1.cell (j := 3) rfl
  have a1 := hb4.cell (j := 1) rfl
  have m0 := d1.lt
  have m2 := hb4.lt
  clear hw1 hw2 hw3 hw4 hu4 hb4 hn0 hn1 d1 d2 hb0 hb1 hb2 c0 c1 c2 c3 c4 c5 c6 f0 f1 f2 f3 f4 f5 f6 l3 k0 k1 k2 k3 hne hne2
  refine (HWI.out _).mono ?_
  rintro e w5 ⟨rfl, rfl⟩
  go_wp2_with fail
  refine wp_region_tail 6 (by kernel_rfl) (by kernel_rfl) ?_
  simp only [List.take_succ_cons, List.take_zero, List.drop_succ_cons, List.drop_zero]
  repeat (go_big_quiet_step (fail))
  refine wpQuiet_nil ?_
  go_wp2_with fail
  refine (HF.out _ HU4.out.drew).mono ?_
  rintro e w6 hto
  have hto2 := hto
  obtain ⟨v, G', rfl, hm, hf, hr⟩ := hto2
  have hr2 := hr
  obtain ⟨ao, cap, rfl, -, -⟩ := hr2
  have d6 := HD2.out.upd (Upd.refl [] w4).drew (by simp)
  have hbG : b1 ∉ G := fun hc => by have := HGL.out b1 hc; have := HN.out.1; omega
  have d7 := d6.upd hf.2 hbG
  have q0 := d7.cell (j := 0) rfl
  have q1 := d7.cell (j := 1) rfl
  have q2 := d7.cell (j := 2) rfl
  have q3 := d7.cell (j := 3) rfl
  have f0 := d7.free 0
  have f1 := d7.free 1
  have f2 := d7.free 2
  have f3 := d7.free 3
  have l1 := d7.lt
  have HTO := Lib.hid hto
  clear hto hm hf hr d6 d7 hbG
  go_wp2_with fail
  refine bodyPost_ret (v := .agg #[.int .i64 (mdX1 c m k).1.e, .slice ao (mdX1 c m k).1.L.length cap, .int .i64 (mdX1 c m k).1.n, .int .u64 (mdX1 c m k).1.v]) (by simp [results, Tryz.results61, go_sem, q0, q1, q2, q3]) rfl ?_
  exact MTo.fin HU4.out.drew HTO.out HGL.out HN.out.1 HN.out.2 (((((Upd.refl [b1] w6).setCell (.inl (by simp)) _).setCell (.inl (by simp)) _).setCell (.inl (by simp)) _).setCell (.inl (by simp)) _)
def mdX2 (c : Cf) (m : Ms) (k : Cl) : Rt × Ms := delM_ m k

set_option maxRecDepth 100000 in
set_option maxHeartbeats 8000000 in
theorem mdo_shut {W w : World} {mb : Nat} {c : Cf} {m : Ms} {G : List Nat} (h : MG W mb c m G w) (hn : m.n ≤ 4611686018427387904) (k : Cl) (hk : k.op = 2) : Calls Tryz.prog 61 #[.pointer (some ⟨mb, 0, none⟩), clV k] w (MTo W mb c (mdX2 c m k) G w) := by
  have HF : Hid (∀ w', Upd [] w w' → Calls Tryz.prog 90 #[.pointer (some ⟨mb, 0, none⟩), .agg #[.int .i64 2, .int .i64 k.flow, .int .i64 k.a, .int .i64 k.b]] w' (MTo W mb c (mdX2 c m k) G w')) := fun w' hu => by
    have HX := Lib.hid (h.upd hu)
    have := mshut_any HX.out k
    unfold clV at this
    rw [hk] at this
    exact this
  have HGL := Lib.hid h.lt
  clear h hn
  obtain ⟨w1, hw1⟩ : ∃ y, (w.alloc (.cells #[.int .i64 2, .int .i64 k.flow, .int .i64 k.a, .int .i64 k.b] 46)) = y := ⟨_, rfl⟩
  obtain ⟨w2, hw2⟩ : ∃ y, (w1.alloc (.cells #[.int .i64 0, .slice none 0 0, .int .i64 0, .int .u64 0] 57)) = y := ⟨_, rfl⟩
  have u1 : Upd [] w w1 := by rw [← hw1]; exact (Upd.refl [] w).alloc _
  have u2 : Upd [] w1 w2 := by rw [← hw2]; exact (Upd.refl [] w1).alloc _
  have b1 : Blk w1 w.heap.size 46 [.int .i64 2, .int .i64 k.flow, .int .i64 k.a, .int .i64 k.b] := by rw [← hw1]; exact Blk.new w 46 [.int .i64 2, .int .i64 k.flow, .int .i64 k.a, .int .i64 k.b]
  have b2 : Blk w2 w1.heap.size 57 [.int .i64 0, .slice none 0 0, .int .i64 0, .int .u64 0] := by rw [← hw2]; exact Blk.new w1 57 [.int .i64 0, .slice none 0 0, .int .i64 0, .int .u64 0]
  have b1 := b1.upd u2 (by simp)
  have hs1 : w1.heap.size = w.heap.size + 1 := by rw [← hw1]; simp
  have HS1 := Lib.hid hs1
  have HU2 : Hid (Upd [] w w2) := u1.trans u2
  have HB1 := Lib.hid b1
  have HB2 := Lib.hid b2
  have HWI : Hid (∀ w', Calls Tryz.prog 95 #[.int .i64 2, .int .i64 1, .int .i64 6] w' (fun e w2 => e = .returned (.bool true) ∧ w' = w2)) := fun w' => mwithin_any 2 1 6 w'
  obtain ⟨w3, hw3⟩ : ∃ y, (w2.alloc (.cells #[.nilFunc, .nilFunc, .nilFunc, .nilFunc, .nilFunc, .nilFunc, .nilFunc] 147)) = y := ⟨_, rfl⟩
  have b3 : Blk w3 w2.heap.size 147 [.nilFunc, .nilFunc, .nilFunc, .nilFunc, .nilFunc, .nilFunc, .nilFunc] := by rw [← hw3]; exact Blk.new w2 147 [.nilFunc, .nilFunc, .nilFunc, .nilFunc, .nilFunc, .nilFunc, .nilFunc]
  have u3 : Upd [] w2 w3 := by rw [← hw3]; exact (Upd.refl [] w2).alloc _
  have HU3 := Lib.hid u3
  have HB3 := Lib.hid b3
  have c0 := b3.cell (j := 0) rfl
  have c1 := b3.cell (j := 1) rfl
  have c2 := b3.cell (j := 2) rfl
  have c3 := b3.cell (j := 3) rfl
  have c4 := b3.cell (j := 4) rfl
  have c5 := b3.cell (j := 5) rfl
  have c6 := b3.cell (j := 6) rfl
  have f0 := b3.free 0
  have f1 := b3.free 1
  have f2 := b3.free 2
  have f3 := b3.free 3
  have f4 := b3.free 4
  have f5 := b3.free 5
  have f6 := b3.free 6
  have l3 := b3.lt
  have k0 := (HB1.out.upd u3 (by simp)).cell (j := 0) rfl
  have k1 := (HB1.out.upd u3 (by simp)).cell (j := 1) rfl
  have k2 := (HB1.out.upd u3 (by simp)).cell (j := 2) rfl
  have k3 := (HB1.out.upd u3 (by simp)).cell (j := 3) rfl
  have hs2 : w2.heap.size = w.heap.size + 2 := by rw [← hw2]; simp; exact HS1.out
  have HS2 := Lib.hid hs2
  have hne : w.heap.size ≠ w2.heap.size := by omega
  have hne2 := hne.symm
  clear hs1 hs2 b1 b2 b3 u1 u2 u3
  unfold clV
  rw [hk]
  go_enter Tryz.func61, Tryz.ntmps61
  go_wp2_with fail
  obtain ⟨b0, hb0⟩ : ∃ y, w.heap.size = y := ⟨_, rfl⟩
  obtain ⟨b1, hb1⟩ : ∃ y, w1.heap.size = y := ⟨_, rfl⟩
  obtain ⟨b2, hb2⟩ : ∃ y, w2.heap.size = y := ⟨_, rfl⟩
  obtain ⟨w4, hw4⟩ : ∃ y, ((((((w3.setCell ⟨b2, 0, none⟩ .nilFunc).setCell ⟨b2, 1, none⟩ (.func (.func 89) #[] #[])).setCell ⟨b2, 2, none⟩ (.func (.func 90) #[] #[])).setCell ⟨b2, 3, none⟩ (.func (.func 91) #[] #[])).setCell ⟨b2, 4, none⟩ (.func (.func 92) #[] #[])).setCell ⟨b2, 5, none⟩ (.func (.func 93) #[] #[])).setCell ⟨b2, 6, none⟩ (.func (.func 94) #[] #[]) = y := ⟨_, rfl⟩
  have hu4 : Upd [b2] w3 w4 := by rw [← hw4]; exact (((((((Upd.refl [b2] w3).setCell (.inl (by simp)) _).setCell (.inl (by simp)) _).setCell (.inl (by simp)) _).setCell (.inl (by simp)) _).setCell (.inl (by simp)) _).setCell (.inl (by simp)) _).setCell (.inl (by simp)) _
  have hb4 : Blk w4 b2 147 [.nilFunc, .func (.func 89) #[] #[], .func (.func 90) #[] #[], .func (.func 91) #[] #[], .func (.func 92) #[] #[], .func (.func 93) #[] #[], .func (.func 94) #[] #[]] := by
    rw [← hw4]
    have := HB3.out
    rw [hb2] at this
    exact ((((((this.set 0 .nilFunc).set 1 (.func (.func 89) #[] #[])).set 2 (.func (.func 90) #[] #[])).set 3 (.func (.func 91) #[] #[])).set 4 (.func (.func 92) #[] #[])).set 5 (.func (.func 93) #[] #[])).set 6 (.func (.func 94) #[] #[])
  rw [hb0, hb1, hb2, hw4]
  have hn0 : b0 ∉ [b2] := by rw [← hb0, ← hb2]; simp; exact hne
  have hn1 : b1 ∉ [b2] := by have := HS1.out; have := HS2.out; simp; omega
  have d1 := ((HB1.out.upd HU3.out (by simp)).upd hu4 (by rw [hb0]; exact hn0))
  rw [hb0] at d1
  have d2 := ((HB2.out.upd HU3.out (by simp)).upd hu4 (by rw [hb1]; exact hn1))
  rw [hb1] at d2
  have HU4 : Hid (Upd [] w w4) := (HU2.out.trans HU3.out).then hu4 (fun _ _ h => h) (fun i hi hm => by have := HS2.out; simp only [List.mem_cons, List.not_mem_nil, or_false] at hm; omega)
  have HN : Hid (w.heap.size ≤ b1 ∧ b1 < w4.heap.size) := ⟨by have := HS1.out; omega, d2.lt⟩
  have HD2 := Lib.hid d2
  have g0 := d1.cell (j := 0) rfl
  have g1 := d1.cell (j := 1) rfl
  have g2 := d1.cell (j := 2) rfl
  have g3 := d1.cell (j := 3) rfl
  have a1 := hb4.cell (j := 2) rfl
  have m0 := d1.lt
  have m2 := hb4.lt
  clear hw1 hw2 hw3 hw4 hu4 hb4 hn0 hn1 d1 d2 hb0 hb1 hb2 c0 c1 c2 c3 c4 c5 c6 f0 f1 f2 f3 f4 f5 f6 l3 k0 k1 k2 k3 hne hne2
  refine (HWI.out _).mono ?_
  rintro e w5 ⟨rfl, rfl⟩
  go_wp2_with fail
  refine wp_region_tail 6 (by kernel_rfl) (by kernel_rfl) ?_
  simp only [List.take_succ_cons, List.take_zero, List.drop_succ_cons, List.drop_zero]
  repeat (go_big_quiet_step (fail))
  refine wpQuiet_nil ?_
  go_wp2_with fail
  refine (HF.out _ HU4.out.drew).mono ?_
  rintro e w6 hto
  have hto2 := hto
  obtain ⟨v, G', rfl, hm, hf, hr⟩ := hto2
  have hr2 := hr
  obtain ⟨ao, cap, rfl, -, -⟩ := hr2
  have d6 := HD2.out.upd (Upd.refl [] w4).drew (by simp)
  have hbG : b1 ∉ G := fun hc => by have := HGL.out b1 hc; have := HN.out.1; omega
  have d7 := d6.upd hf.2 hbG
  have q0 := d7.cell (j := 0) rfl
  have q1 := d7.cell (j := 1) rfl
  have q2 := d7.cell (j := 2) rfl
  have q3 := d7.cell (j := 3) rfl
  have f0 := d7.free 0
  have f1 := d7.free 1
  have f2 := d7.free 2
  have f3 := d7.free 3
  have l1 := d7.lt
  have HTO := Lib.hid hto
  clear hto hm hf hr d6 d7 hbG
  go_wp2_with fail
  refine bodyPost_ret (v := .agg #[.int .i64 (mdX2 c m k).1.e, .slice ao (mdX2 c m k).1.L.length cap, .int .i64 (mdX2 c m k).1.n, .int .u64 (mdX2 c m k).1.v]) (by simp [results, Tryz.results61, go_sem, q0, q1, q2, q3]) rfl ?_
  exact MTo.fin HU4.out.drew HTO.out HGL.out HN.out.1 HN.out.2 (((((Upd.refl [b1] w6).setCell (.inl (by simp)) _).setCell (.inl (by simp)) _).setCell (.inl (by simp)) _).setCell (.inl (by simp)) _)
def mdX3 (c : Cf) (m : Ms) (k : Cl) : Rt × Ms := enqM m k

set_option maxRecDepth 100000 in
set_option maxHeartbeats 8000000 in
theorem mdo_enqueue {W w : World} {mb : Nat} {c : Cf} {m : Ms} {G : List Nat} (h : MG W mb c m G w) (hn : m.n ≤ 4611686018427387904) (k : Cl) (hk : k.op = 3) : Calls Tryz.prog 61 #[.pointer (some ⟨mb, 0, none⟩), clV k] w (MTo W mb c (mdX3 c m k) G w) := by
  have HF : Hid (∀ w', Upd [] w w' → Calls Tryz.prog 91 #[.pointer (some ⟨mb, 0, none⟩), .agg #[.int .i64 3, .int .i64 k.flow, .int .i64 k.a, .int .i64 k.b]] w' (MTo W mb c (mdX3 c m k) G w')) := fun w' hu => by
    have HX := Lib.hid (h.upd hu)
    have := menqueue_any HX.out k
    unfold clV at this
    rw [hk] at this
    exact this
  have HGL := Lib.hid h.lt
  clear h hn
  obtain ⟨w1, hw1⟩ : ∃ y, (w.alloc (.cells #[.int .i64 3, .int .i64 k.flow, .int .i64 k.a, .int .i64 k.b] 46)) = y := ⟨_, rfl⟩
  obtain ⟨w2, hw2⟩ : ∃ y, (w1.alloc (.cells #[.int .i64 0, .slice none 0 0, .int .i64 0, .int .u64 0] 57)) = y := ⟨_, rfl⟩
  have u1 : Upd [] w w1 := by rw [← hw1]; exact (Upd.refl [] w).alloc _
  have u2 : Upd [] w1 w2 := by rw [← hw2]; exact (Upd.refl [] w1).alloc _
  have b1 : Blk w1 w.heap.size 46 [.int .i64 3, .int .i64 k.flow, .int .i64 k.a, .int .i64 k.b] := by rw [← hw1]; exact Blk.new w 46 [.int .i64 3, .int .i64 k.flow, .int .i64 k.a, .int .i64 k.b]
  have b2 : Blk w2 w1.heap.size 57 [.int .i64 0, .slice none 0 0, .int .i64 0, .int .u64 0] := by rw [← hw2]; exact Blk.new w1 57 [.int .i64 0, .slice none 0 0, .int .i64 0, .int .u64 0]
  have b1 := b1.upd u2 (by simp)
  have hs1 : w1.heap.size = w.heap.size + 1 := by rw [← hw1]; simp
  have HS1 := Lib.hid hs1
  have HU2 : Hid (Upd [] w w2) := u1.trans u2
  have HB1 := Lib.hid b1
  have HB2 := Lib.hid b2
  have HWI : Hid (∀ w', Calls Tryz.prog 95 #[.int .i64 3, .int .i64 1, .int .i64 6] w' (fun e w2 => e = .returned (.bool true) ∧ w' = w2)) := fun w' => mwithin_any 3 1 6 w'
  obtain ⟨w3, hw3⟩ : ∃ y, (w2.alloc (.cells #[.nilFunc, .nilFunc, .nilFunc, .nilFunc, .nilFunc, .nilFunc, .nilFunc] 147)) = y := ⟨_, rfl⟩
  have b3 : Blk w3 w2.heap.size 147 [.nilFunc, .nilFunc, .nilFunc, .nilFunc, .nilFunc, .nilFunc, .nilFunc] := by rw [← hw3]; exact Blk.new w2 147 [.nilFunc, .nilFunc, .nilFunc, .nilFunc, .nilFunc, .nilFunc, .nilFunc]
  have u3 : Upd [] w2 w3 := by rw [← hw3]; exact (Upd.refl [] w2).alloc _
  have HU3 := Lib.hid u3
  have HB3 := Lib.hid b3
  have c0 := b3.cell (j := 0) rfl
  have c1 := b3.cell (j := 1) rfl
  have c2 := b3.cell (j := 2) rfl
  have c3 := b3.cell (j := 3) rfl
  have c4 := b3.cell (j := 4) rfl
  have c5 := b3.cell (j := 5) rfl
  have c6 := b3.cell (j := 6) rfl
  have f0 := b3.free 0
  have f1 := b3.free 1
  have f2 := b3.free 2
  have f3 := b3.free 3
  have f4 := b3.free 4
  have f5 := b3.free 5
  have f6 := b3.free 6
  have l3 := b3.lt
  have k0 := (HB1.out.upd u3 (by simp)).cell (j := 0) rfl
  have k1 := (HB1.out.upd u3 (by simp)).cell (j := 1) rfl
  have k2 := (HB1.out.upd u3 (by simp)).cell (j := 2) rfl
  have k3 := (HB1.out.upd u3 (by simp)).cell (j := 3) rfl
  have hs2 : w2.heap.size = w.heap.size + 2 := by rw [← hw2]; simp; exact HS1.out
  have HS2 := Lib.hid hs2
  have hne : w.heap.size ≠ w2.heap.size := by omega
  have hne2 := hne.symm
  clear hs1 hs2 b1 b2 b3 u1 u2 u3
  unfold clV
  rw [hk]
  go_enter Tryz.func61, Tryz.ntmps61
  go_wp2_with fail
  obtain ⟨b0, hb0⟩ : ∃ y, w.heap.size = y := ⟨_, rfl⟩
  obtain ⟨b1, hb1⟩ : ∃ y, w1.heap.size = y := ⟨_, rfl⟩
  obtain ⟨b2, hb2⟩ : ∃ y, w2.heap.size = y := ⟨_, rfl⟩
  obtain ⟨w4, hw4⟩ : ∃ y, ((((((w3.setCell ⟨b2, 0, none⟩ .nilFunc).setCell ⟨b2, 1, none⟩ (.func (.func 89) #[] #[])).setCell ⟨b2, 2, none⟩ (.func (.func 90) #[] #[])).setCell ⟨b2, 3, none⟩ (.func (.func 91) #[] #[])).setCell ⟨b2, 4, none⟩ (.func (.func 92) #[] #[])).setCell ⟨b2, 5, none⟩ (.func (.func 93) #[] #[])).setCell ⟨b2, 6, none⟩ (.func (.func 94) #[] #[]) = y := ⟨_, rfl⟩
  have hu4 : Upd [b2] w3 w4 := by rw [← hw4]; exact (((((((Upd.refl [b2] w3).setCell (.inl (by simp)) _).setCell (.inl (by simp)) _).setCell (.inl (by simp)) _).setCell (.inl (by simp)) _).setCell (.inl (by simp)) _).setCell (.inl (by simp)) _).setCell (.inl (by simp)) _
  have hb4 : Blk w4 b2 147 [.nilFunc, .func (.func 89) #[] #[], .func (.func 90) #[] #[], .func (.func 91) #[] #[], .func (.func 92) #[] #[], .func (.func 93) #[] #[], .func (.func 94) #[] #[]] := by
    rw [← hw4]
    have := HB3.out
    rw [hb2] at this
    exact ((((((this.set 0 .nilFunc).set 1 (.func (.func 89) #[] #[])).set 2 (.func (.func 90) #[] #[])).set 3 (.func (.func 91) #[] #[])).set 4 (.func (.func 92) #[] #[])).set 5 (.func (.func 93) #[] #[])).set 6 (.func (.func 94) #[] #[])
  rw [hb0, hb1, hb2, hw4]
  have hn0 : b0 ∉ [b2] := by rw [← hb0, ← hb2]; simp; exact hne
  have hn1 : b1 ∉ [b2] := by have := HS1.out; have := HS2.out; simp; omega
  have d1 := ((HB1.out.upd HU3.out (by simp)).upd hu4 (by rw [hb0]; exact hn0))
  rw [hb0] at d1
  have d2 := ((HB2.out.upd HU3.out (by simp)).upd hu4 (by rw [hb1]; exact hn1))
  rw [hb1] at d2
  have HU4 : Hid (Upd [] w w4) := (HU2.out.trans HU3.out).then hu4 (fun _ _ h => h) (fun i hi hm => by have := HS2.out; simp only [List.mem_cons, List.not_mem_nil, or_false] at hm; omega)
  have HN : Hid (w.heap.size ≤ b1 ∧ b1 < w4.heap.size) := ⟨by have := HS1.out; omega, d2.lt⟩
  have HD2 := Lib.hid d2
  have g0 := d1.cell (j := 0) rfl
  have g1 := d1.cell (j := 1) rfl
  have g2 := d1.cell (j := 2) rfl
  have g3 := d1.cell (j := 3) rfl
  have a1 := hb4.cell (j := 3) rfl
  have m0 := d1.lt
  have m2 := hb4.lt
  clear hw1 hw2 hw3 hw4 hu4 hb4 hn0 hn1 d1 d2 hb0 hb1 hb2 c0 c1 c2 c3 c4 c5 c6 f0 f1 f2 f3 f4 f5 f6 l3 k0 k1 k2 k3 hne hne2
  refine (HWI.out _).mono ?_
  rintro e w5 ⟨rfl, rfl⟩
  go_wp2_with fail
  refine wp_region_tail 6 (by kernel_rfl) (by kernel_rfl) ?_
  simp only [List.take_succ_cons, List.take_zero, List.drop_succ_cons, List.drop_zero]
  repeat (go_big_quiet_step (fail))
  refine wpQuiet_nil ?_
  go_wp2_with fail
  refine (HF.out _ HU4.out.drew).mono ?_
  rintro e w6 hto
  have hto2 := hto
  obtain ⟨v, G', rfl, hm, hf, hr⟩ := hto2
  have hr2 := hr
  obtain ⟨ao, cap, rfl, -, -⟩ := hr2
  have d6 := HD2.out.upd (Upd.refl [] w4).drew (by simp)
  have hbG : b1 ∉ G := fun hc => by have := HGL.out b1 hc; have := HN.out.1; omega
  have d7 := d6.upd hf.2 hbG
  have q0 := d7.cell (j := 0) rfl
  have q1 := d7.cell (j := 1) rfl
  have q2 := d7.cell (j := 2) rfl
  have q3 := d7.cell (j := 3) rfl
  have f0 := d7.free 0
  have f1 := d7.free 1
  have f2 := d7.free 2
  have f3 := d7.free 3
  have l1 := d7.lt
  have HTO := Lib.hid hto
  clear hto hm hf hr d6 d7 hbG
  go_wp2_with fail
  refine bodyPost_ret (v := .agg #[.int .i64 (mdX3 c m k).1.e, .slice ao (mdX3 c m k).1.L.length cap, .int .i64 (mdX3 c m k).1.n, .int .u64 (mdX3 c m k).1.v]) (by simp [results, Tryz.results61, go_sem, q0, q1, q2, q3]) rfl ?_
  exact MTo.fin HU4.out.drew HTO.out HGL.out HN.out.1 HN.out.2 (((((Upd.refl [b1] w6).setCell (.inl (by simp)) _).setCell (.inl (by simp)) _).setCell (.inl (by simp)) _).setCell (.inl (by simp)) _)
def mdX4 (c : Cf) (m : Ms) (k : Cl) : Rt × Ms := oneM m

set_option maxRecDepth 100000 in
set_option maxHeartbeats 8000000 in
theorem mdo_dequeue {W w : World} {mb : Nat} {c : Cf} {m : Ms} {G : List Nat} (h : MG W mb c m G w) (hn : m.n ≤ 4611686018427387904) (k : Cl) (hk : k.op = 4) : Calls Tryz.prog 61 #[.pointer (some ⟨mb, 0, none⟩), clV k] w (MTo W mb c (mdX4 c m k) G w) := by
  have HF : Hid (∀ w', Upd [] w w' → Calls Tryz.prog 92 #[.pointer (some ⟨mb, 0, none⟩), .agg #[.int .i64 4, .int .i64 k.flow, .int .i64 k.a, .int .i64 k.b]] w' (MTo W mb c (mdX4 c m k) G w')) := fun w' hu => by
    have HX := Lib.hid (h.upd hu)
    have := mdequeue_any HX.out (by omega) k
    unfold clV at this
    rw [hk] at this
    exact this
  have HGL := Lib.hid h.lt
  clear h hn
  obtain ⟨w1, hw1⟩ : ∃ y, (w.alloc (.cells #[.int .i64 4, .int .i64 k.flow, .int .i64 k.a, .int .i64 k.b] 46)) = y := ⟨_, rfl⟩
  obtain ⟨w2, hw2⟩ : ∃ y, (w1.alloc (.cells #[.int .i64 0, .slice none 0 0, .int .i64 0, .int .u64 0] 57)) = y := ⟨_, rfl⟩
  have u1 : Upd [] w w1 := by rw [← hw1]; exact (Upd.refl [] w).alloc _
  have u2 : Upd [] w1 w2 := by rw [← hw2]; exact (Upd.refl [] w1).alloc _
  have b1 : Blk w1 w.heap.size 46 [.int .i64 4, .int .i64 k.flow, .int .i64 k.a, .int .i64 k.b] := by rw [← hw1]; exact Blk.new w 46 [.int .i64 4, .int .i64 k.flow, .int .i64 k.a, .int .i64 k.b]
  have b2 : Blk w2 w1.heap.size 57 [.int .i64 0, .slice none 0 0, .int .i64 0, .int .u64 0] := by rw [← hw2]; exact Blk.new w1 57 [.int .i64 0, .slice none 0 0, .int .i64 0, .int .u64 0]
  have b1 := b1.upd u2 (by simp)
  have hs1 : w1.heap.size = w.heap.size + 1 := by rw [← hw1]; simp
  have HS1 := Lib.hid hs1
  have HU2 : Hid (Upd [] w w2) := u1.trans u2
  have HB1 := Lib.hid b1
  have HB2 := Lib.hid b2
  have HWI : Hid (∀ w', Calls Tryz.prog 95 #[.int .i64 4, .int .i64 1, .int .i64 6] w' (fun e w2 => e = .returned (.bool true) ∧ w' = w2)) := fun w' => mwithin_any 4 1 6 w'
  obtain ⟨w3, hw3⟩ : ∃ y, (w2.alloc (.cells #[.nilFunc, .nilFunc, .nilFunc, .nilFunc, .nilFunc, .nilFunc, .nilFunc] 147)) = y := ⟨_, rfl⟩
  have b3 : Blk w3 w2.heap.size 147 [.nilFunc, .nilFunc, .nilFunc, .nilFunc, .nilFunc, .nilFunc, .nilFunc] := by rw [← hw3]; exact Blk.new w2 147 [.nilFunc, .nilFunc, .nilFunc, .nilFunc, .nilFunc, .nilFunc, .nilFunc]
  have u3 : Upd [] w2 w3 := by rw [← hw3]; exact (Upd.refl [] w2).alloc _
  have HU3 := Lib.hid u3
  have HB3 := Lib.hid b3
  have c0 := b3.cell (j := 0) rfl
  have c1 := b3.cell (j := 1) rfl
  have c2 := b3.cell (j := 2) rfl
  have c3 := b3.cell (j := 3) rfl
  have c4 := b3.cell (j := 4) rfl
  have c5 := b3.cell (j := 5) rfl
  have c6 := b3.cell (j := 6) rfl
  have f0 := b3.free 0
  have f1 := b3.free 1
  have f2 := b3.free 2
  have f3 := b3.free 3
  have f4 := b3.free 4
  have f5 := b3.free 5
  have f6 := b3.free 6
  have l3 := b3.lt
  have k0 := (HB1.out.upd u3 (by simp)).cell (j := 0) rfl
  have k1 := (HB1.out.upd u3 (by simp)).cell (j := 1) rfl
  have k2 := (HB1.out.upd u3 (by simp)).cell (j := 2) rfl
  have k3 := (HB1.out.upd u3 (by simp)).cell (j := 3) rfl
  have hs2 : w2.heap.size = w.heap.size + 2 := by rw [← hw2]; simp; exact HS1.out
  have HS2 := Lib.hid hs2
  have hne : w.heap.size ≠ w2.heap.size := by omega
  have hne2 := hne.symm
  clear hs1 hs2 b1 b2 b3 u1 u2 u3
  unfold clV
  rw [hk]
  go_enter Tryz.func61, Tryz.ntmps61
  go_wp2_with fail
  obtain ⟨b0, hb0⟩ : ∃ y, w.heap.size = y := ⟨_, rfl⟩
  obtain ⟨b1, hb1⟩ : ∃ y, w1.heap.size = y := ⟨_, rfl⟩
  obtain ⟨b2, hb2⟩ : ∃ y, w2.heap.size = y := ⟨_, rfl⟩
  obtain ⟨w4, hw4⟩ : ∃ y, ((((((w3.setCell ⟨b2, 0, none⟩ .nilFunc).setCell ⟨b2, 1, none⟩ (.func (.func 89) #[] #[])).setCell ⟨b2, 2, none⟩ (.func (.func 90) #[] #[])).setCell ⟨b2, 3, none⟩ (.func (.func 91) #[] #[])).setCell ⟨b2, 4, none⟩ (.func (.func 92) #[] #[])).setCell ⟨b2, 5, none⟩ (.func (.func 93) #[] #[])).setCell ⟨b2, 6, none⟩ (.func (.func 94) #[] #[]) = y := ⟨_, rfl⟩
  have hu4 : Upd [b2] w3 w4 := by rw [← hw4]; exact (((((((Upd.refl [b2] w3).setCell (.inl (by simp)) _).setCell (.inl (by simp)) _).setCell (.inl (by simp)) _).setCell (.inl (by simp)) _).setCell (.inl (by simp)) _).setCell (.inl (by simp)) _).setCell (.inl (by simp)) _
  have hb4 : Blk w4 b2 147 [.nilFunc, .func (.func 89) #[] #[], .func (.func 90) #[] #[], .func (.func 91) #[] #[], .func (.func 92) #[] #[], .func (.func 93) #[] #[], .func (.func 94) #[] #[]] := by
    rw [← hw4]
    have := HB3.out
    rw [hb2] at this
    exact ((((((this.set 0 .nilFunc).set 1 (.func (.func 89) #[] #[])).set 2 (.func (.func 90) #[] #[])).set 3 (.func (.func 91) #[] #[])).set 4 (.func (.func 92) #[] #[])).set 5 (.func (.func 93) #[] #[])).set 6 (.func (.func 94) #[] #[])
  rw [hb0, hb1, hb2, hw4]
  have hn0 : b0 ∉ [b2] := by rw [← hb0, ← hb2]; simp; exact hne
  have hn1 : b1 ∉ [b2] := by have := HS1.out; have := HS2.out; simp; omega
  have d1 := ((HB1.out.upd HU3.out (by simp)).upd hu4 (by rw [hb0]; exact hn0))
  rw [hb0] at d1
  have d2 := ((HB2.out.upd HU3.out (by simp)).upd hu4 (by rw [hb1]; exact hn1))
  rw [hb1] at d2
  have HU4 : Hid (Upd [] w w4) := (HU2.out.trans HU3.out).then hu4 (fun _ _ h => h) (fun i hi hm => by have := HS2.out; simp only [List.mem_cons, List.not_mem_nil, or_false] at hm; omega)
  have HN : Hid (w.heap.size ≤ b1 ∧ b1 < w4.heap.size) := ⟨by have := HS1.out; omega, d2.lt⟩
  have HD2 := Lib.hid d2
  have g0 := d1.cell (j := 0) rfl
  have g1 := d1.cell (j := 1) rfl
  have g2 := d1.cell (j := 2) rfl
  have g3 := d1.cell (j := 3) rfl
  have a1 := hb4.cell (j := 4) rfl
  have m0 := d1.lt
  have m2 := hb4.lt
  clear hw1 hw2 hw3 hw4 hu4 hb4 hn0 hn1 d1 d2 hb0 hb1 hb2 c0 c1 c2 c3 c4 c5 c6 f0 f1 f2 f3 f4 f5 f6 l3 k0 k1 k2 k3 hne hne2
  refine (HWI.out _).mono ?_
  rintro e w5 ⟨rfl, rfl⟩
  go_wp2_with fail
  refine wp_region_tail 6 (by kernel_rfl) (by kernel_rfl) ?_
  simp only [List.take_succ_cons, List.take_zero, List.drop_succ_cons, List.drop_zero]
  repeat (go_big_quiet_step (fail))
  refine wpQuiet_nil ?_
  go_wp2_with fail
  refine (HF.out _ HU4.out.drew).mono ?_
  rintro e w6 hto
  have hto2 := hto
  obtain ⟨v, G', rfl, hm, hf, hr⟩ := hto2
  have hr2 := hr
  obtain ⟨ao, cap, rfl, -, -⟩ := hr2
  have d6 := HD2.out.upd (Upd.refl [] w4).drew (by simp)
  have hbG : b1 ∉ G := fun hc => by have := HGL.out b1 hc; have := HN.out.1; omega
  have d7 := d6.upd hf.2 hbG
  have q0 := d7.cell (j := 0) rfl
  have q1 := d7.cell (j := 1) rfl
  have q2 := d7.cell (j := 2) rfl
  have q3 := d7.cell (j := 3) rfl
  have f0 := d7.free 0
  have f1 := d7.free 1
  have f2 := d7.free 2
  have f3 := d7.free 3
  have l1 := d7.lt
  have HTO := Lib.hid hto
  clear hto hm hf hr d6 d7 hbG
  go_wp2_with fail
  refine bodyPost_ret (v := .agg #[.int .i64 (mdX4 c m k).1.e, .slice ao (mdX4 c m k).1.L.length cap, .int .i64 (mdX4 c m k).1.n, .int .u64 (mdX4 c m k).1.v]) (by simp [results, Tryz.results61, go_sem, q0, q1, q2, q3]) rfl ?_
  exact MTo.fin HU4.out.drew HTO.out HGL.out HN.out.1 HN.out.2 (((((Upd.refl [b1] w6).setCell (.inl (by simp)) _).setCell (.inl (by simp)) _).setCell (.inl (by simp)) _).setCell (.inl (by simp)) _)
def mdX5 (c : Cf) (m : Ms) (k : Cl) : Rt × Ms := batchM m k

set_option maxRecDepth 100000 in
set_option maxHeartbeats 8000000 in
theorem mdo_batch {W w : World} {mb : Nat} {c : Cf} {m : Ms} {G : List Nat} (h : MG W mb c m G w) (hn : m.n ≤ 4611686018427387904) (k : Cl) (hk : k.op = 5) : Calls Tryz.prog 61 #[.pointer (some ⟨mb, 0, none⟩), clV k] w (MTo W mb c (mdX5 c m k) G w) := by
  have HF : Hid (∀ w', Upd [] w w' → Calls Tryz.prog 93 #[.pointer (some ⟨mb, 0, none⟩), .agg #[.int .i64 5, .int .i64 k.flow, .int .i64 k.a, .int .i64 k.b]] w' (MTo W mb c (mdX5 c m k) G w')) := fun w' hu => by
    have HX := Lib.hid (h.upd hu)
    have := mbatch_any HX.out hn k
    unfold clV at this
    rw [hk] at this
    exact this
  have HGL := Lib.hid h.lt
  clear h hn
  obtain ⟨w1, hw1⟩ : ∃ y, (w.alloc (.cells #[.int .i64 5, .int .i64 k.flow, .int .i64 k.a, .int .i64 k.b] 46)) = y := ⟨_, rfl⟩
  obtain ⟨w2, hw2⟩ : ∃ y, (w1.alloc (.cells #[.int .i64 0, .slice none 0 0, .int .i64 0, .int .u64 0] 57)) = y := ⟨_, rfl⟩
  have u1 : Upd [] w w1 := by rw [← hw1]; exact (Upd.refl [] w).alloc _
  have u2 : Upd [] w1 w2 := by rw [← hw2]; exact (Upd.refl [] w1).alloc _
  have b1 : Blk w1 w.heap.size 46 [.int .i64 5, .int .i64 k.flow, .int .i64 k.a, .int .i64 k.b] := by rw [← hw1]; exact Blk.new w 46 [.int .i64 5, .int .i64 k.flow, .int .i64 k.a, .int .i64 k.b]
  have b2 : Blk w2 w1.heap.size 57 [.int .i64 0, .slice none 0 0, .int .i64 0, .int .u64 0] := by rw [← hw2]; exact Blk.new w1 57 [.int .i64 0, .slice none 0 0, .int .i64 0, .int .u64 0]
  have b1 := b1.upd u2 (by simp)
  have hs1 : w1.heap.size = w.heap.size + 1 := by rw [← hw1]; simp
  have HS1 := Lib.hid hs1
  have HU2 : Hid (Upd [] w w2) := u1.trans u2
  have HB1 := Lib.hid b1
  have HB2 := Lib.hid b2
  have HWI : Hid (∀ w', Calls Tryz.prog 95 #[.int .i64 5, .int .i64 1, .int .i64 6] w' (fun e w2 => e = .returned (.bool true) ∧ w' = w2)) := fun w' => mwithin_any 5 1 6 w'
  obtain ⟨w3, hw3⟩ : ∃ y, (w2.alloc (.cells #[.nilFunc, .nilFunc, .nilFunc, .nilFunc, .nilFunc, .nilFunc, .nilFunc] 147)) = y := ⟨_, rfl⟩
  have b3 : Blk w3 w2.heap.size 147 [.nilFunc, .nilFunc, .nilFunc, .nilFunc, .nilFunc, .nilFunc, .nilFunc] := by rw [← hw3]; exact Blk.new w2 147 [.nilFunc, .nilFunc, .nilFunc, .nilFunc, .nilFunc, .nilFunc, .nilFunc]
  have u3 : Upd [] w2 w3 := by rw [← hw3]; exact (Upd.refl [] w2).alloc _
  have HU3 := Lib.hid u3
  have HB3 := Lib.hid b3
  have c0 := b3.cell (j := 0) rfl
  have c1 := b3.cell (j := 1) rfl
  have c2 := b3.cell (j := 2) rfl
  have c3 := b3.cell (j := 3) rfl
  have c4 := b3.cell (j := 4) rfl
  have c5 := b3.cell (j := 5) rfl
  have c6 := b3.cell (j := 6) rfl
  have f0 := b3.free 0
  have f1 := b3.free 1
  have f2 := b3.free 2
  have f3 := b3.free 3
  have f4 := b3.free 4
  have f5 := b3.free 5
  have f6 := b3.free 6
  have l3 := b3.lt
  have k0 := (HB1.out.upd u3 (by simp)).cell (j := 0) rfl
  have k1 := (HB1.out.upd u3 (by simp)).cell (j := 1) rfl
  have k2 := (HB1.out.upd u3 (by simp)).cell (j := 2) rfl
  have k3 := (HB1.out.upd u3 (by simp)).cell (j := 3) rfl
  have hs2 : w2.heap.size = w.heap.size + 2 := by rw [← hw2]; simp; exact HS1.out
  have HS2 := Lib.hid hs2
  have hne : w.heap.size ≠ w2.heap.size := by omega
  have hne2 := hne.symm
  clear hs1 hs2 b1 b2 b3 u1 u2 u3
  unfold clV
  rw [hk]
  go_enter Tryz.func61, Tryz.ntmps61
  go_wp2_with fail
  obtain ⟨b0, hb0⟩ : ∃ y, w.heap.size = y := ⟨_, rfl⟩
  obtain ⟨b1, hb1⟩ : ∃ y, w1.heap.size = y := ⟨_, rfl⟩
  obtain ⟨b2, hb2⟩ : ∃ y, w2.heap.size = y := ⟨_, rfl⟩
  obtain ⟨w4, hw4⟩ : ∃ y, ((((((w3.setCell ⟨b2, 0, none⟩ .nilFunc).setCell ⟨b2, 1, none⟩ (.func (.func 89) #[] #[])).setCell ⟨b2, 2, none⟩ (.func (.func 90) #[] #[])).setCell ⟨b2, 3, none⟩ (.func (.func 91) #[] #[])).setCell ⟨b2, 4, none⟩ (.func (.func 92) #[] #[])).setCell ⟨b2, 5, none⟩ (.func (.func 93) #[] #[])).setCell ⟨b2, 6, none⟩ (.func (.func 94) #[] #[]) = y := ⟨_, rfl⟩
  have hu4 : Upd [b2] w3 w4 := by rw [← hw4]; exact (((((((Upd.refl [b2] w3).setCell (.inl (by simp)) _).setCell (.inl (by simp)) _).setCell (.inl (by simp)) _).setCell (.inl (by simp)) _).setCell (.inl (by simp)) _).setCell (.inl (by simp)) _).setCell (.inl (by simp)) _
  have hb4 : Blk w4 b2 147 [.nilFunc, .func (.func 89) #[] #[], .func (.func 90) #[] #[], .func (.func 91) #[] #[], .func (.func 92) #[] #[], .func (.func 93) #[] #[], .func (.func 94) #[] #[]] := by
    rw [← hw4]
    have := HB3.out
    rw [hb2] at this
    exact ((((((this.set 0 .nilFunc).set 1 (.func (.func 89) #[] #[])).set 2 (.func (.func 90) #[] #[])).set 3 (.func (.func 91) #[] #[])).set 4 (.func (.func 92) #[] #[])).set 5 (.func (.func 93) #[] #[])).set 6 (.func (.func 94) #[] #[])
  rw [hb0, hb1, hb2, hw4]
  have hn0 : b0 ∉ [b2] := by rw [← hb0, ← hb2]; simp; exact hne
  have hn1 : b1 ∉ [b2] := by have := HS1.out; have := HS2.out; simp; omega
  have d1 := ((HB1.out.upd HU3.out (by simp)).upd hu4 (by rw [hb0]; exact hn0))
  rw [hb0] at d1
  have d2 := ((HB2.out.upd HU3.out (by simp)).upd hu4 (by rw [hb1]; exact hn1))
  rw [hb1] at d2
  have HU4 : Hid (Upd [] w w4) := (HU2.out.trans HU3.out).then hu4 (fun _ _ h => h) (fun i hi hm => by have := HS2.out; simp only [List.mem_cons, List.not_mem_nil, or_false] at hm; omega)
  have HN : Hid (w.heap.size ≤ b1 ∧ b1 < w4.heap.size) := ⟨by have := HS1.out; omega, d2.lt⟩
  have HD2 := Lib.hid d2
  have g0 := d1.cell (j := 0) rfl
  have g1 := d1.cell (j := 1) rfl
  have g2 := d1.cell (j := 2) rfl
  have g3 := d1.cell (j := 3) rfl
  have a1 := hb4.cell (j := 5) rfl
  have m0 := d1.lt
  have m2 := hb4.lt
  clear hw1 hw2 hw3 hw4 hu4 hb4 hn0 hn1 d1 d2 hb0 hb1 hb2 c0 c1 c2 c3 c4 c5 c6 f0 f1 f2 f3 f4 f5 f6 l3 k0 k1 k2 k3 hne hne2
  refine (HWI.out _).mono ?_
  rintro e w5 ⟨rfl, rfl⟩
  go_wp2_with fail
  refine wp_region_tail 6 (by kernel_rfl) (by kernel_rfl) ?_
  simp only [List.take_succ_cons, List.take_zero, List.drop_succ_cons, List.drop_zero]
  repeat (go_big_quiet_step (fail))
  refine wpQuiet_nil ?_
  go_wp2_with fail
  refine (HF.out _ HU4.out.drew).mono ?_
  rintro e w6 hto
  have hto2 := hto
  obtain ⟨v, G', rfl, hm, hf, hr⟩ := hto2
  have hr2 := hr
  obtain ⟨ao, cap, rfl, -, -⟩ := hr2
  have d6 := HD2.out.upd (Upd.refl [] w4).drew (by simp)
  have hbG : b1 ∉ G := fun hc => by have := HGL.out b1 hc; have := HN.out.1; omega
  have d7 := d6.upd hf.2 hbG
  have q0 := d7.cell (j := 0) rfl
  have q1 := d7.cell (j := 1) rfl
  have q2 := d7.cell (j := 2) rfl
  have q3 := d7.cell (j := 3) rfl
  have f0 := d7.free 0
  have f1 := d7.free 1
  have f2 := d7.free 2
  have f3 := d7.free 3
  have l1 := d7.lt
  have HTO := Lib.hid hto
  clear hto hm hf hr d6 d7 hbG
  go_wp2_with fail
  refine bodyPost_ret (v := .agg #[.int .i64 (mdX5 c m k).1.e, .slice ao (mdX5 c m k).1.L.length cap, .int .i64 (mdX5 c m k).1.n, .int .u64 (mdX5 c m k).1.v]) (by simp [results, Tryz.results61, go_sem, q0, q1, q2, q3]) rfl ?_
  exact MTo.fin HU4.out.drew HTO.out HGL.out HN.out.1 HN.out.2 (((((Upd.refl [b1] w6).setCell (.inl (by simp)) _).setCell (.inl (by simp)) _).setCell (.inl (by simp)) _).setCell (.inl (by simp)) _)
end Go.Proofs.YtfeobcmcellcpaaGreat
