/-
  The program's model: New, stats, Do. No condition.
-/
import Derived.Test.YtfeobcmcellcpaaGreatPN
import Derived.Test.YtfeobcmcellcpaaGreatQuiet
import Derived.Laws.EntriesVeiled
set_option linter.unusedVariables false
set_option linter.unusedSimpArgs false
namespace Go.Proofs.YtfeobcmcellcpaaGreat
open Go.RowKit

def MNewTo (W : World) (c : Cf) (w : World) (e : Ending) (w' : World) : Prop :=
  (rightC c = true ∧ ∃ mb G, e = .returned (.tuple #[.pointer (some ⟨mb, 0, none⟩), .int .i64 0]) ∧ MG W mb c ms0 G w' ∧ Upd [] w w' ∧ ∀ x ∈ G, w.heap.size ≤ x) ∨
  (rightC c = false ∧ e = .returned (.tuple #[.pointer none, .int .i64 1]) ∧ Upd [] w w')
theorem mnew_done {W w w5 w6 : World} {c : Cf} {sb lb : Nat} {G : List Nat} (hr : rightC c = true) (hW : W.heap.size ≤ w.heap.size) (hU : Upd [] w w5) (hs : PG W sb ⟨[], 0, 0⟩ G w5) (hl : IMap w5 lb []) (hn : ∀ x ∈ lb :: G, w.heap.size ≤ x) (hlg : lb ∉ G)
    (h6 : w6 = w5.alloc (.cells #[.int .i64 c.sh, .int .i64 c.sl, .int .i64 c.wo, .int .i64 c.wd, .int .u64 c.unit, .pointer (some ⟨sb, 0, none⟩), .map (some lb), .int .i64 0] 121)) : MNewTo W c w (.returned (.tuple #[.pointer (some ⟨w5.heap.size, 0, none⟩), .int .i64 0])) w6 := by
  have u6 : Upd [] w5 w6 := by rw [h6]; exact (Upd.refl [] w5).alloc _
  have b6 : Blk w6 w5.heap.size 121 [.int .i64 c.sh, .int .i64 c.sl, .int .i64 c.wo, .int .i64 c.wd, .int .u64 c.unit, .pointer (some ⟨sb, 0, none⟩), .map (some lb), .int .i64 0] := by rw [h6]; exact Blk.new w5 121 [.int .i64 c.sh, .int .i64 c.sl, .int .i64 c.wo, .int .i64 c.wd, .int .u64 c.unit, .pointer (some ⟨sb, 0, none⟩), .map (some lb), .int .i64 0]
  have hsz := hU.size
  have hl5 := hl.lt
  have hlb := hn lb (by simp)
  refine .inl ⟨hr, _, _, rfl, ⟨sb, lb, [], G, { blk := b6, s := hs.upd u6, lens := hl.upd u6 (by simp), lm := List.Perm.refl _, d := by omega, far := fun x hx hxG => ?_, new := ⟨by omega, by omega⟩, ok := MOk.new hr }, rfl⟩, hU.trans u6, fun x hx => ?_⟩
  · simp only [List.mem_cons, List.not_mem_nil, or_false] at hx
    rcases hx with rfl | rfl
    · have := hs.lt _ hxG; omega
    · exact hlg hxG
  · rcases List.mem_cons.1 hx with rfl | hx
    · omega
    · exact hn x hx

set_option maxHeartbeats 4000000 in
theorem mnew_any {W w : World} (c : Cf) (hW : W.heap.size ≤ w.heap.size) : Calls Tryz.prog 58 #[cfV c] w (MNewTo W c w) := by
  have HR := Lib.hid (fun w' => mright_any c w')
  have HS := Lib.hid (fun w' => snew_any w')
  have HW := Lib.hid hW
  clear hW
  unfold cfV at *
  go_enter Tryz.func58, Tryz.ntmps58
  go_wp2_with fail
  refine (HR.out _).mono ?_
  rintro e w2 ⟨rfl, hU2⟩
  obtain ⟨w1, hw1⟩ : ∃ y, w.alloc (.cells #[.int .i64 c.sh, .int .i64 c.sl, .int .i64 c.wo, .int .i64 c.wd, .int .u64 c.unit] 24) = y := ⟨_, rfl⟩
  have hU1 : Upd [] w w1 := by rw [← hw1]; exact (Upd.refl [] w).alloc _
  have hB1 : Blk w1 w.heap.size 24 [.int .i64 c.sh, .int .i64 c.sl, .int .i64 c.wo, .int .i64 c.wd, .int .u64 c.unit] := by rw [← hw1]; exact Blk.new w 24 [.int .i64 c.sh, .int .i64 c.sl, .int .i64 c.wo, .int .i64 c.wd, .int .u64 c.unit]
  rw [hw1] at hU2
  have hB2 := hB1.upd hU2 (by simp)
  have HU2 : Hid (Upd [] w w2) := hU1.trans hU2
  clear hw1 hB1 hU1 hU2
  cases hr : rightC c with
  | false =>
    go_wp2_with fail
    refine bodyPost_ret (v := .tuple #[.pointer none, .int .i64 1]) (by simp [results, Tryz.results58, go_sem]) rfl ?_
    exact .inr ⟨hr, rfl, HU2.out⟩
  | true =>
    have HB2 := Lib.hid hB2
    obtain ⟨b0, hb0⟩ : ∃ y, w.heap.size = y := ⟨_, rfl⟩
    have HB0 := Lib.hid hb0
    rw [hb0] at hB2
    have y0 := hB2.cell (j := 0) rfl
    have y1 := hB2.cell (j := 1) rfl
    have y2 := hB2.cell (j := 2) rfl
    have y3 := hB2.cell (j := 3) rfl
    have y4 := hB2.cell (j := 4) rfl
    have d0 : w2.drew.cell? ⟨b0, 0, none⟩ = _ := y0
    have d1 : w2.drew.cell? ⟨b0, 1, none⟩ = _ := y1
    have d2 : w2.drew.cell? ⟨b0, 2, none⟩ = _ := y2
    have d3 : w2.drew.cell? ⟨b0, 3, none⟩ = _ := y3
    have d4 : w2.drew.cell? ⟨b0, 4, none⟩ = _ := y4
    have l0 := hB2.lt
    rw [hb0]
    clear hB2 hb0
    go_wp2_with fail
    have hm2 : (Instr.makeMap 119 none).run Tryz.prog w2.drew = .ok (.map (some w2.heap.size)) (w2.drew.alloc (.map #[] 0)) := rfl
    go_region_law
      (first
      | (go_simp; go_at_call 87; refine (HS.out w2.drew).mono ?_; rintro e w5 ⟨sb, G, rfl, hs, hu5, hn⟩; have HU5 : Hid (Upd [] w2 w5) := (Upd.refl [] w2).drew.trans hu5; have HN5 : Hid (∀ x ∈ G, w2.heap.size ≤ x) := hn; have HS5 := Lib.hid hs; have HL5 : Hid True := trivial; have g0 := (HU5.out.cell l0 (by simp) 0).trans y0; have g1 := (HU5.out.cell l0 (by simp) 1).trans y1; have g2 := (HU5.out.cell l0 (by simp) 2).trans y2; have g3 := (HU5.out.cell l0 (by simp) 3).trans y3; have g4 := (HU5.out.cell l0 (by simp) 4).trans y4; have l5 := Nat.lt_of_lt_of_le l0 HU5.out.size; have hm5 : (Instr.makeMap 119 none).run Tryz.prog w5 = .ok (.map (some w5.heap.size)) (w5.alloc (.map #[] 0)) := rfl; clear hs hu5 hn)
      | (go_simp; go_at_call 87; refine (HS.out (w2.drew.alloc (.map #[] 0))).mono ?_; rintro e w5 ⟨sb, G, rfl, hs, hu5, hn⟩; have HU5 : Hid (Upd [] w2 w5) := ((Upd.refl [] w2).drew.alloc _).trans hu5; have HN5 : Hid (∀ x ∈ G, w2.heap.size + 1 ≤ x) := (fun x hx => by have := hn x hx; simp at this; omega); have HS5 : Hid (∀ W : World, W.heap.size ≤ w2.heap.size + 1 → PG W sb ⟨[], 0, 0⟩ G w5) := (fun W hW => hs W (by simpa using hW)); have HL5 : Hid (IMap w5 w2.heap.size []) := (IMap.new w2).upd (((Upd.refl [] (w2.alloc (.map #[] 0))).drew).trans hu5) (by simp); have g0 := (HU5.out.cell l0 (by simp) 0).trans y0; have g1 := (HU5.out.cell l0 (by simp) 1).trans y1; have g2 := (HU5.out.cell l0 (by simp) 2).trans y2; have g3 := (HU5.out.cell l0 (by simp) 3).trans y3; have g4 := (HU5.out.cell l0 (by simp) 4).trans y4; have l5 := Nat.lt_of_lt_of_le l0 HU5.out.size; clear hs hu5 hn))
    all_goals
      go_wp2_with fail
      first
      | (refine bodyPost_ret (v := .tuple #[.pointer (some ⟨w5.heap.size + 1, 0, none⟩), .int .i64 0]) (by simp [results, Tryz.results58, go_sem]) rfl ?_; exact (by
          have k := mnew_done (W := W) (w := w) (w5 := w5.alloc (.map #[] 0)) (sb := sb) (lb := w5.heap.size) (G := G) hr HW.out (HU2.out.trans (HU5.out.trans ((Upd.refl [] w5).alloc _))) ((HS5.out W (Nat.le_trans HW.out HU2.out.size)).upd ((Upd.refl [] w5).alloc _)) (IMap.new w5) (fun x hx => by have q1 := HU2.out.size; have q2 := HU5.out.size; rcases List.mem_cons.1 hx with rfl | hx; (omega); have := HN5.out x hx; omega) (fun hx => by have := (HS5.out W (Nat.le_trans HW.out HU2.out.size)).lt _ hx; omega) rfl
          rw [show (w5.alloc (.map #[] 0)).heap.size = w5.heap.size + 1 by simp] at k
          exact k))
      | (refine bodyPost_ret (v := .tuple #[.pointer (some ⟨w5.heap.size, 0, none⟩), .int .i64 0]) (by simp [results, Tryz.results58, go_sem]) rfl ?_; exact mnew_done (W := W) (w := w) (w5 := w5) (sb := sb) (lb := w2.heap.size) (G := G) hr HW.out (HU2.out.trans HU5.out) (HS5.out W (by have q1 := HU2.out.size; have q2 := HW.out; omega)) HL5.out (fun x hx => by have q1 := HU2.out.size; rcases List.mem_cons.1 hx with rfl | hx; (omega); have := HN5.out x hx; omega) (fun hx => by have := HN5.out _ hx; omega) rfl)
/-! ### stats, Do -/
set_option maxHeartbeats 4000000 in
theorem sv_any {W w : World} {sb : Nat} {S : Sf} {G : List Nat} (h : PG W sb S G w) : Calls Tryz.prog 65 #[.pointer (some ⟨sb, 0, none⟩)] w (fun e w' => e = .returned (.int .u64 S.v) ∧ w = w') := by
  obtain ⟨fb, Z, h, -⟩ := h
  obtain ⟨-, c1, -, l⟩ := h.cells
  clear h
  go_enter Tryz.func65, Tryz.ntmps65
  go_wp2
  go_ret
  exact ⟨rfl, rfl⟩

/-- What is left, the result's cell written besides. -/
theorem MTo.fin {W w w1 w2 w3 : World} {mb : Nat} {c : Cf} {r : Rt × Ms} {G : List Nat} {v : Value} {b : Nat} (hU : Upd [] w w1) (h : MTo W mb c r G w1 (.returned v) w2) (hG : ∀ x ∈ G, x < w.heap.size) (hb : w.heap.size ≤ b) (hb1 : b < w1.heap.size) (h3 : Upd [b] w2 w3) : MTo W mb c r G w (.returned v) w3 := by
  obtain ⟨v', G', he, hm, hf, ao, cap, hv, hr, hn⟩ := h
  cases he
  have hbG : b ∉ G' := fun hc => by
    rcases hf.1 b hc with h | h
    · have := hG b h; omega
    · omega
  have hba : b ∉ blkO ao := fun hc => by have := (hn b hc).1; omega
  have hs := hU.size
  refine ⟨v, G', rfl, hm.updS h3 (fun x hx => by simpa using fun e : x = b => hbG (e ▸ hx)), ?_, ao, cap, hv, hr.upd h3 (fun x hx => by simpa using fun e : x = b => hba (e ▸ hx)), fun x hx => ⟨by have := (hn x hx).1; omega, (hn x hx).2⟩⟩
  exact (((Fr.of hU : Fr G G w w1).trans hf)).thenT h3 (fun x hx => by simp only [List.mem_cons, List.not_mem_nil, or_false] at hx; subst hx; exact .inr hb)
theorem MTo.keep {W w w' : World} {mb : Nat} {c : Cf} {m : Ms} {G : List Nat} (h : MG W mb c m G w) {T : List Nat} (hu : Upd T w w') (ht : ∀ x ∈ T, w.heap.size ≤ x) (e n : Int) (v : Nat) : MTo W mb c (⟨e, [], n, v⟩, m) G w (.returned (.agg #[.int .i64 e, .slice none 0 0, .int .i64 n, .int .u64 v])) w' :=
  ⟨_, G, rfl, h.updS hu (fun x hx hc => by have := ht x hc; have := h.lt x hx; omega), ⟨fun x hx => .inl hx, hu.then (Upd.refl [] w') (fun i hi hm => by have := ht i hm; omega) (fun i hi hm => by cases hm)⟩, RtN.none_ _ _ _ _ _ _⟩

set_option maxHeartbeats 4000000 in
theorem mstats_any {W w : World} {mb : Nat} {c : Cf} {m : Ms} {G : List Nat} (h : MG W mb c m G w) (k : Cl) : Calls Tryz.prog 94 #[.pointer (some ⟨mb, 0, none⟩), clV k] w (MTo W mb c (statM m) G w) := by
  have HM := Lib.hid h
  obtain ⟨sb, lb, M, GS, h, -⟩ := h
  obtain ⟨w1, hw1⟩ : ∃ y, (w.alloc (.cells #[.int .i64 k.op, .int .i64 k.flow, .int .i64 k.a, .int .i64 k.b] 46)) = y := ⟨_, rfl⟩
  obtain ⟨w2, hw2⟩ : ∃ y, (w1.alloc (.cells #[.int .i64 0, .slice none 0 0, .int .i64 0, .int .u64 0] 57)) = y := ⟨_, rfl⟩
  have u1 : Upd [] w w1 := by rw [← hw1]; exact (Upd.refl [] w).alloc _
  have u2 : Upd [] w1 w2 := by rw [← hw2]; exact (Upd.refl [] w1).alloc _
  have b2 : Blk w2 w1.heap.size 57 [.int .i64 0, .slice none 0 0, .int .i64 0, .int .u64 0] := by rw [← hw2]; exact Blk.new w1 57 [.int .i64 0, .slice none 0 0, .int .i64 0, .int .u64 0]
  have h2 := (h.upd u1).upd u2
  have HV : Hid (Calls Tryz.prog 65 #[.pointer (some ⟨sb, 0, none⟩)] w2.drew (fun e w' => e = .returned (.int .u64 m.S.v) ∧ w2.drew = w')) := sv_any (h2.upd (Upd.refl [] w2).drew).s
  obtain ⟨-, -, -, c5, -, c7, lm⟩ := h2.cells
  have HU2 : Hid (Upd [] w w2) := u1.trans u2
  have HS1 : Hid (w.heap.size ≤ w1.heap.size) := u1.size
  unfold clV
  go_enter Tryz.func94, Tryz.ntmps94
  go_wp2_with fail
  obtain ⟨b, hb⟩ : ∃ y, w1.heap.size = y := ⟨_, rfl⟩
  rw [hb]
  rw [hb] at b2 HS1
  have q0 := b2.cell (j := 0) rfl
  have q1 := b2.cell (j := 1) rfl
  have q2 := b2.cell (j := 2) rfl
  have q3 := b2.cell (j := 3) rfl
  have f0 := b2.free 0
  have f1 := b2.free 1
  have f2 := b2.free 2
  have f3 := b2.free 3
  have lb2 := b2.lt
  clear hw1 hw2 u1 u2 h h2 b2 hb
  refine wp_region_tail 10 (by kernel_rfl) (by kernel_rfl) ?_
  simp only [List.take_succ_cons, List.take_zero, List.drop_succ_cons, List.drop_zero]
  repeat (go_big_quiet_step (fail))
  go_big_quiet_step (exact (HV.out.mono (fun _ _ h => ⟨h.1, h.2.symm⟩)) _)
  repeat (go_big_quiet_step (fail))
  refine wpQuiet_nil ?_
  go_wp2_with fail
  refine bodyPost_ret (v := .agg #[.int .i64 0, .slice none 0 0, .int .i64 m.n, .int .u64 m.S.v]) (by simp [results, Tryz.results94, go_sem, q0, q1, q2, q3]) rfl ?_
  exact MTo.keep HM.out (T := [b]) (HU2.out.nil.trans (((((Upd.refl [b] w2).drew.setCell (.inl (by simp)) _).setCell (.inl (by simp)) _).setCell (.inl (by simp)) _).setCell (.inl (by simp)) _)) (fun x hx => by simp only [List.mem_cons, List.not_mem_nil, or_false] at hx; subst hx; exact HS1.out) _ _ _

set_option maxHeartbeats 4000000 in
theorem mdo_stats {W w : World} {mb : Nat} {c : Cf} {m : Ms} {G : List Nat} (h : MG W mb c m G w) (k : Cl) (hk : k.op = 6) : Calls Tryz.prog 61 #[.pointer (some ⟨mb, 0, none⟩), clV k] w (MTo W mb c (statM m) G w) := by
  have HF : Hid (∀ w', Upd [] w w' → Calls Tryz.prog 94 #[.pointer (some ⟨mb, 0, none⟩), .agg #[.int .i64 6, .int .i64 k.flow, .int .i64 k.a, .int .i64 k.b]] w' (MTo W mb c (statM m) G w')) := fun w' hu => by
    have := mstats_any (h.upd hu) k
    unfold clV at this
    rw [hk] at this
    exact this
  have HGL := Lib.hid h.lt
  clear h
  obtain ⟨w1, hw1⟩ : ∃ y, (w.alloc (.cells #[.int .i64 6, .int .i64 k.flow, .int .i64 k.a, .int .i64 k.b] 46)) = y := ⟨_, rfl⟩
  obtain ⟨w2, hw2⟩ : ∃ y, (w1.alloc (.cells #[.int .i64 0, .slice none 0 0, .int .i64 0, .int .u64 0] 57)) = y := ⟨_, rfl⟩
  have u1 : Upd [] w w1 := by rw [← hw1]; exact (Upd.refl [] w).alloc _
  have u2 : Upd [] w1 w2 := by rw [← hw2]; exact (Upd.refl [] w1).alloc _
  have b1 : Blk w1 w.heap.size 46 [.int .i64 6, .int .i64 k.flow, .int .i64 k.a, .int .i64 k.b] := by rw [← hw1]; exact Blk.new w 46 [.int .i64 6, .int .i64 k.flow, .int .i64 k.a, .int .i64 k.b]
  have b2 : Blk w2 w1.heap.size 57 [.int .i64 0, .slice none 0 0, .int .i64 0, .int .u64 0] := by rw [← hw2]; exact Blk.new w1 57 [.int .i64 0, .slice none 0 0, .int .i64 0, .int .u64 0]
  have b1 := b1.upd u2 (by simp)
  have hs1 : w1.heap.size = w.heap.size + 1 := by rw [← hw1]; simp
  have HS1 := Lib.hid hs1
  have HU2 : Hid (Upd [] w w2) := u1.trans u2
  have HB1 := Lib.hid b1
  have HB2 := Lib.hid b2
  have HWI : Hid (∀ w', Calls Tryz.prog 95 #[.int .i64 6, .int .i64 1, .int .i64 6] w' (fun e w2 => e = .returned (.bool true) ∧ w' = w2)) := fun w' => mwithin_any 6 1 6 w'
  obtain ⟨w3, hw3⟩ : ∃ y, (w2.alloc (.cells #[.nilFunc, .nilFunc, .nilFunc, .nilFunc, .nilFunc, .nilFunc, .nilFunc] 147)) = y := ⟨_, rfl⟩
  have b3 : Blk w3 w2.heap.size 147 [.nilFunc, .nilFunc, .nilFunc, .nilFunc, .nilFunc, .nilFunc, .nilFunc] := by rw [← hw3]; exact Blk.new w2 147 [.nilFunc, .nilFunc, .nilFunc, .nilFunc, .nilFunc, .nilFunc, .nilFunc]
  have u3 : Upd [] w2 w3 := by rw [← hw3]; exact (Upd.refl [] w2).alloc _
  have HU3 := Lib.hid u3
  have HB3 := Lib.hid b3
  have c0 := b3.cell (j := 0) rfl
  have c1 := b3.cell (j := 1) rfl
  have c2 := b3.cell (j := 2) rfl
  have c3 := b3.cell (j := 3) rfl
  have c4 := b3.cell (j := 4) rfl
  have c5 := b3.cell (j := 5) rfl
  have c6 := b3.cell (j := 6) rfl
  have f0 := b3.free 0
  have f1 := b3.free 1
  have f2 := b3.free 2
  have f3 := b3.free 3
  have f4 := b3.free 4
  have f5 := b3.free 5
  have f6 := b3.free 6
  have l3 := b3.lt
  have k0 := (HB1.out.upd u3 (by simp)).cell (j := 0) rfl
  have k1 := (HB1.out.upd u3 (by simp)).cell (j := 1) rfl
  have k2 := (HB1.out.upd u3 (by simp)).cell (j := 2) rfl
  have k3 := (HB1.out.upd u3 (by simp)).cell (j := 3) rfl
  have hs2 : w2.heap.size = w.heap.size + 2 := by rw [← hw2]; simp; exact HS1.out
  have HS2 := Lib.hid hs2
  have hne : w.heap.size ≠ w2.heap.size := by omega
  have hne2 := hne.symm
  clear hs1 hs2 b1 b2 b3 u1 u2 u3
  unfold clV
  rw [hk]
  go_enter Tryz.func61, Tryz.ntmps61
  go_wp2_with fail
  obtain ⟨b0, hb0⟩ : ∃ y, w.heap.size = y := ⟨_, rfl⟩
  obtain ⟨b1, hb1⟩ : ∃ y, w1.heap.size = y := ⟨_, rfl⟩
  obtain ⟨b2, hb2⟩ : ∃ y, w2.heap.size = y := ⟨_, rfl⟩
  obtain ⟨w4, hw4⟩ : ∃ y, ((((((w3.setCell ⟨b2, 0, none⟩ .nilFunc).setCell ⟨b2, 1, none⟩ (.func (.func 89) #[] #[])).setCell ⟨b2, 2, none⟩ (.func (.func 90) #[] #[])).setCell ⟨b2, 3, none⟩ (.func (.func 91) #[] #[])).setCell ⟨b2, 4, none⟩ (.func (.func 92) #[] #[])).setCell ⟨b2, 5, none⟩ (.func (.func 93) #[] #[])).setCell ⟨b2, 6, none⟩ (.func (.func 94) #[] #[]) = y := ⟨_, rfl⟩
  have hu4 : Upd [b2] w3 w4 := by rw [← hw4]; exact (((((((Upd.refl [b2] w3).setCell (.inl (by simp)) _).setCell (.inl (by simp)) _).setCell (.inl (by simp)) _).setCell (.inl (by simp)) _).setCell (.inl (by simp)) _).setCell (.inl (by simp)) _).setCell (.inl (by simp)) _
  have hb4 : Blk w4 b2 147 [.nilFunc, .func (.func 89) #[] #[], .func (.func 90) #[] #[], .func (.func 91) #[] #[], .func (.func 92) #[] #[], .func (.func 93) #[] #[], .func (.func 94) #[] #[]] := by
    rw [← hw4]
    have := HB3.out
    rw [hb2] at this
    exact ((((((this.set 0 .nilFunc).set 1 (.func (.func 89) #[] #[])).set 2 (.func (.func 90) #[] #[])).set 3 (.func (.func 91) #[] #[])).set 4 (.func (.func 92) #[] #[])).set 5 (.func (.func 93) #[] #[])).set 6 (.func (.func 94) #[] #[])
  rw [hb0, hb1, hb2, hw4]
  have hn0 : b0 ∉ [b2] := by rw [← hb0, ← hb2]; simp; exact hne
  have hn1 : b1 ∉ [b2] := by have := HS1.out; have := HS2.out; simp; omega
  have d1 := ((HB1.out.upd HU3.out (by simp)).upd hu4 (by rw [hb0]; exact hn0))
  rw [hb0] at d1
  have d2 := ((HB2.out.upd HU3.out (by simp)).upd hu4 (by rw [hb1]; exact hn1))
  rw [hb1] at d2
  have HU4 : Hid (Upd [] w w4) := (HU2.out.trans HU3.out).then hu4 (fun _ _ h => h) (fun i hi hm => by have := HS2.out; simp only [List.mem_cons, List.not_mem_nil, or_false] at hm; omega)
  have HN : Hid (w.heap.size ≤ b1 ∧ b1 < w4.heap.size) := ⟨by have := HS1.out; omega, d2.lt⟩
  have HD2 := Lib.hid d2
  have g0 := d1.cell (j := 0) rfl
  have g1 := d1.cell (j := 1) rfl
  have g2 := d1.cell (j := 2) rfl
  have g3 := d1.cell (j := 3) rfl
  have a1 := hb4.cell (j := 6) rfl
  have m0 := d1.lt
  have m2 := hb4.lt
  clear hw1 hw2 hw3 hw4 hu4 hb4 hn0 hn1 d1 d2 hb0 hb1 hb2 c0 c1 c2 c3 c4 c5 c6 f0 f1 f2 f3 f4 f5 f6 l3 k0 k1 k2 k3 hne hne2
  refine (HWI.out _).mono ?_
  rintro e w5 ⟨rfl, rfl⟩
  go_wp2_with fail
  refine wp_region_tail 6 (by kernel_rfl) (by kernel_rfl) ?_
  simp only [List.take_succ_cons, List.take_zero, List.drop_succ_cons, List.drop_zero]
  repeat (go_big_quiet_step (fail))
  refine wpQuiet_nil ?_
  go_wp2_with fail
  refine (HF.out _ HU4.out.drew).mono ?_
  rintro e w6 hto
  have hto2 := hto
  obtain ⟨v, G', rfl, hm, hf, hr⟩ := hto2
  have hr2 := hr
  obtain ⟨ao, cap, rfl, -, -⟩ := hr2
  have d6 := HD2.out.upd (Upd.refl [] w4).drew (by simp)
  have hbG : b1 ∉ G := fun hc => by have := HGL.out b1 hc; have := HN.out.1; omega
  have d7 := d6.upd hf.2 hbG
  have q0 := d7.cell (j := 0) rfl
  have q1 := d7.cell (j := 1) rfl
  have q2 := d7.cell (j := 2) rfl
  have q3 := d7.cell (j := 3) rfl
  have f0 := d7.free 0
  have f1 := d7.free 1
  have f2 := d7.free 2
  have f3 := d7.free 3
  have l1 := d7.lt
  have HTO := Lib.hid hto
  clear hto hm hf hr d6 d7 hbG
  go_wp2_with fail
  refine bodyPost_ret (v := .agg #[.int .i64 (statM m).1.e, .slice ao (statM m).1.L.length cap, .int .i64 (statM m).1.n, .int .u64 (statM m).1.v]) (by simp [results, Tryz.results61, go_sem, q0, q1, q2, q3]) rfl ?_
  exact MTo.fin HU4.out.drew HTO.out HGL.out HN.out.1 HN.out.2 (((((Upd.refl [b1] w6).setCell (.inl (by simp)) _).setCell (.inl (by simp)) _).setCell (.inl (by simp)) _).setCell (.inl (by simp)) _)
end Go.Proofs.YtfeobcmcellcpaaGreat
