/-
  The walk of the document's flow's Serve. No condition.
-/
import Derived.Test.YtmfndemnogpmcaaFb
set_option linter.unusedVariables false
set_option linter.unusedSimpArgs false
namespace Go.Proofs.Ytmfndemnogpmcaa
open Go.RowKit

def pkV (p : Pk) : Value := .agg #[.int .i64 p.flow, .int .i64 p.len, .int .i64 p.mark]

/-- What Serve tells. -/
def serveV (f : Fl) : Value := match f.L with
  | [] => .tuple #[pkV zPk, .int .u64 0, .bool false]
  | p :: _ => .tuple #[pkV p, .int .u64 (flFin f p), .bool true]
def serveF (f : Fl) : Fl := match f.L with
  | [] => f
  | p :: _ => flTake f p

set_option maxRecDepth 100000 in
set_option maxHeartbeats 16000000 in
theorem EntAt.serve {w : World} {e : Ent} (h : EntAt w e) :
    Calls Try.prog 77 #[.pointer (some ⟨e.b, 0, none⟩)] w (fun en w' => en = .returned (serveV e.f) ∧ EntTo w e (serveF e.f) w') := by
  have HH := Lib.hid h
  obtain ⟨c0, c1, c2, c3, c4, c5, lb⟩ := h.cells
  cases hL : e.f.L with
  | nil =>
    have HS : Hid (serveV e.f = .tuple #[pkV zPk, .int .u64 0, .bool false] ∧ serveF e.f = e.f) := by unfold Hid serveV serveF; rw [hL]; exact ⟨rfl, rfl⟩
    rw [HS.out.1, HS.out.2]
    rw [hL, List.length_nil] at c3
    clear h hL
    go_enter Try.func77, Try.ntmps77
    go_wp2_with fail
    refine bodyPost_ret (v := .tuple #[.agg #[.int .i64 0, .int .i64 0, .int .i64 0], .int .u64 0, .bool false]) (by simp [results, Try.results77, go_sem]) rfl ?_
    exact ⟨rfl, e.ao, e.cap, HH.out.upd ((Upd.refl [] w).alloc _) (by simp), fun c hc => .inl hc, (Upd.refl [e.b] w).alloc _⟩
  | cons p l =>
    have HS : Hid (serveV e.f = .tuple #[pkV p, .int .u64 (flFin e.f p), .bool true] ∧ serveF e.f = flTake e.f p) := by unfold Hid serveV serveF; rw [hL]; exact ⟨rfl, rfl⟩
    rw [HS.out.1, HS.out.2]
    have hpl : p.len < 9223372036854775808 := h.ok.lens p (by rw [hL]; simp)
    obtain ⟨n, hn⟩ : ∃ n, e.f.L.length = n := ⟨_, rfl⟩
    have hn1 : 0 < n := by rw [← hn, hL]; simp
    have hle := h.ok.len
    have hmo := h.ok.most
    obtain ⟨g, hg, hrow⟩ := h.row.row (by omega)
    have hcap := hrow.parts
    obtain ⟨cur, -, hcap1, hcap2, -, -⟩ := hcap.2
    rw [hn] at c3 hle hrow hcap1
    rw [hg] at c3
    have x0 := hrow.cell (j := 0) (v := .int .i64 p.flow) (by rw [hL, List.flatMap_cons]; rfl)
    have x1 := hrow.cell (j := 1) (v := .int .i64 p.len) (by rw [hL, List.flatMap_cons]; rfl)
    have x2 := hrow.cell (j := 2) (v := .int .i64 p.mark) (by rw [hL, List.flatMap_cons]; rfl)
    have lg := hrow.lt
    have HN := Lib.hid hn
    have HL := Lib.hid hL
    obtain ⟨m, hm⟩ : ∃ m, n - 1 = m := ⟨_, rfl⟩
    obtain ⟨i0, hi0, hz0, hz1, hz2⟩ := info_parts infoPk
    have HSRC : Hid (∀ w' off, Upd [] w w' → (off = 1 * 3 ∨ m = 0) → Src w' 3 (some ⟨g, off, none⟩) m (((e.f.L.drop 1).take m).flatMap pkVs)) := fun w' off hu ho => by
      have := part_srcG pkVs 3 pkVs_len pkVs_one (hrow.o.upd hu (by simp)) hn 1 m (by omega) off ho
      exact this
    have HG1 : Hid (0 + m ≤ maxLen ∧ (0 + m) * 24 ≤ 140737488355328) := ⟨by unfold maxLen; omega, by omega⟩
    obtain ⟨cst, hcst⟩ : ∃ x, mulT (sizeN p.len) e.f.r = x := ⟨_, rfl⟩
    obtain ⟨fin, hfin⟩ : ∃ x, addT e.f.start cst = x := ⟨_, rfl⟩
    have HFIN : Hid (flFin e.f p = fin) := by unfold Hid flFin; rw [hcst, hfin]
    have HC : Hid (∀ w, Calls Try.prog 86 #[.int .i64 p.len, .int .u64 e.f.r] w (fun en w' => en = .returned (.int .u64 cst) ∧ w = w')) := fun w => by rw [← hcst]; exact rfcost p.len hpl e.f.r h.ok.r64 w
    have HA : Hid (∀ w, Calls Try.prog 85 #[.int .u64 e.f.start, .int .u64 cst] w (fun en w' => en = .returned (.int .u64 fin) ∧ w = w')) := fun w => by rw [← hfin]; exact rfadd e.f.start cst h.ok.s64 (by rw [← hcst]; exact mulT_lt _ _) w
    have b1 : (0 : Int) < (n : Int) := by omega
    have b2 : (1 : Int) ≤ (n : Int) := by omega
    have b3 : 1 ≤ e.cap := by omega
    have t1 : (n == 0) = false := by simp; omega
    have t2 : ((n : Int) == 0) = false := by simp; omega
    have HOK : Hid (FlOk (flTake e.f p)) := h.ok.take p
    rw [HFIN.out]
    clear h hL hn hle hmo hrow hcap hcst hfin hg
    by_cases hce : e.cap = 1
    · have hm0 : m = 0 := by omega
      have HTL : Hid ((flTake e.f p).L.length = 0) := by unfold Hid; show e.f.L.tail.length = 0; rw [List.length_tail, HN.out]; omega
      have HTK : Hid ((flTake e.f p).L = (e.f.L.drop 1).take 0) := by have := List.eq_nil_of_length_eq_zero HTL.out; unfold Hid; rw [this]; rfl
      obtain ⟨wa, hwa⟩ : ∃ x, w.alloc (.cells #[.int .i64 0, .int .i64 0, .int .i64 0] 94) = x := ⟨_, rfl⟩
      obtain ⟨wb, hwb⟩ : ∃ x, wa.alloc (.cells #[.int .i64 p.flow, .int .i64 p.len, .int .i64 p.mark] 94) = x := ⟨_, rfl⟩
      have HUA : Hid (Upd [] w wa) := by rw [← hwa]; exact (Upd.refl [] w).alloc _
      have HUB : Hid (Upd [] wa wb) := by rw [← hwb]; exact (Upd.refl [] wa).alloc _
      have HZ : Hid (Blk wa w.heap.size 94 [.int .i64 0, .int .i64 0, .int .i64 0]) := by rw [← hwa]; exact Blk.new w 94 _
      have HBX : Hid (Blk wb wa.heap.size 94 (pkVs p)) := by rw [← hwb]; exact Blk.new wa 94 (pkVs p)
      obtain ⟨bz, hbz⟩ : ∃ x, w.heap.size = x := ⟨_, rfl⟩
      obtain ⟨bx, hbx⟩ : ∃ x, wa.heap.size = x := ⟨_, rfl⟩
      have HNE : Hid (bz ≠ e.b ∧ bx ≠ e.b ∧ bz ≠ bx ∧ w.heap.size ≤ bz ∧ w.heap.size ≤ bx ∧ bz < wa.heap.size) := by have h1 := HUA.out.size; have h2 := HZ.out.lt; exact ⟨by omega, by omega, by omega, by omega, by omega, by omega⟩
      rw [hbz] at HZ
      rw [hbx] at HBX
      have HEB : Hid (EntAt wb e) := HH.out.upd (HUA.out.trans HUB.out) (by simp)
      have y0 := (HUA.out.cell lg (by simp) 0).trans x0
      have y1 := (HUA.out.cell lg (by simp) 1).trans x1
      have y2 := (HUA.out.cell lg (by simp) 2).trans x2
      have lga := Nat.lt_of_lt_of_le lg HUA.out.size
      have c3a := (HUA.out.cell lb (by simp) 3).trans c3
      have lba := Nat.lt_of_lt_of_le lb HUA.out.size
      have c3b := (HUB.out.cell lba (by simp) 3).trans c3a
      have lbb := Nat.lt_of_lt_of_le lba HUB.out.size
      have c3z := HEB.out.blk.free 3
      go_enter Try.func77, Try.ntmps77
      go_wp2_with fail
      have HFR : Hid (e.b ∉ blkO (none : Option Addr)) := by unfold Hid; simp [blkO]
      have HFZ : Hid (bz ∉ blkO (none : Option Addr)) := by unfold Hid; simp [blkO]
      have HFN : Hid (∀ c ∈ blkO (none : Option Addr), w.heap.size ≤ c) := fun c hc => (by cases hc)
      have HB3 := Lib.hid HEB.out.blk
      have HR1 : Hid (RowO wb 94 3 none 0 0 (((e.f.L.drop 1).take 0).flatMap pkVs)) := RowO.nil _ _ _
      have HU3 : Hid (Upd [] wb wb) := Upd.refl _ _
      obtain ⟨w4, hw4⟩ : ∃ x, wb.setCell ⟨e.b, 3, none⟩ (.slice none 0 0) = x := ⟨_, rfl⟩
      have hu4 : Upd [e.b] wb w4 := by rw [← hw4]; exact (Upd.refl [e.b] wb).setCell (.inl (by simp)) _
      have HB4 : Hid (Blk w4 e.b 114 [.int .i64 e.f.id, .int .i64 e.f.most, .int .u64 e.f.r, .slice none 0 0, .int .u64 e.f.start, .int .u64 e.f.fin]) := by rw [← hw4]; exact HB3.out.set 3 _
      have HU4 : Hid (Upd [e.b] w w4) := ((HUA.out.trans HUB.out).trans HU3.out).nil.trans hu4
      have HBX4 := Lib.hid ((HBX.out.upd HU3.out (by simp)).upd hu4 (by simpa using HNE.out.2.1))
      have HZ4 := Lib.hid (((HZ.out.upd HUB.out (by simp)).upd HU3.out (by simp)).upd hu4 (by simpa using HNE.out.1))
      have HR4 := Lib.hid (HR1.out.upd hu4 (fun c hc e2 => by simp only [List.mem_cons, List.not_mem_nil, or_false] at e2; exact HFR.out (e2 ▸ hc)))
      rw [hw4]
      clear hw4 hu4
      have d2 := HB4.out.cell (j := 2) rfl
      have d4 := HB4.out.cell (j := 4) rfl
      have d5 := HB4.out.cell (j := 5) rfl
      have z4 := HB4.out.free 4
      have z5 := HB4.out.free 5
      have lb4 := HB4.out.lt
      have v1 := HBX4.out.cell (j := 1) rfl
      have lx4 := HBX4.out.lt
      clear c0 c1 c2 c3 c4 c5 c3a c3b y0 y1 y2 x0 x1 x2 lba lbb lb lga lg
      refine wp_region_tail 15 (by kernel_rfl) (by kernel_rfl) ?_
      simp only [List.take_succ_cons, List.take_zero, List.drop_succ_cons, List.drop_zero]
      repeat (go_big_quiet_step (fail))
      go_big_quiet_step (exact ((HC.out _).mono (fun _ _ h => ⟨h.1, h.2.symm⟩)) _)
      repeat (go_big_quiet_step (fail))
      go_big_quiet_step (exact ((HA.out _).mono (fun _ _ h => ⟨h.1, h.2.symm⟩)) _)
      repeat (go_big_quiet_step (fail))
      refine wpQuiet_nil ?_
      go_wp2_with fail
      obtain ⟨w5, hw5⟩ : ∃ x, (w4.setCell ⟨e.b, 5, none⟩ (.int .u64 fin)).setCell ⟨e.b, 4, none⟩ (.int .u64 fin) = x := ⟨_, rfl⟩
      have hu5 : Upd [e.b] w4 w5 := by rw [← hw5]; exact ((Upd.refl [e.b] w4).setCell (.inl (by simp)) _).setCell (.inl (by simp)) _
      have HB5 : Hid (Blk w5 e.b 114 [.int .i64 e.f.id, .int .i64 e.f.most, .int .u64 e.f.r, .slice none 0 0, .int .u64 fin, .int .u64 fin]) := by rw [← hw5]; exact (HB4.out.set 5 _).set 4 _
      have HU5 : Hid (Upd [e.b] w w5) := HU4.out.trans hu5
      have hx5 := HBX4.out.upd hu5 (by simpa using HNE.out.2.1)
      have HZ5 := Lib.hid (HZ4.out.upd hu5 (by simpa using HNE.out.1))
      have HR5 := Lib.hid (HR4.out.upd hu5 (fun c hc e2 => by simp only [List.mem_cons, List.not_mem_nil, or_false] at e2; exact HFR.out (e2 ▸ hc)))
      rw [hw5]
      clear hw5 hu5 d2 d4 d5 z4 z5 lb4 v1 lx4
      have d5 := HB5.out.cell (j := 5) rfl
      have lb5 := HB5.out.lt
      have v0 := hx5.cell (j := 0) rfl
      have v1 := hx5.cell (j := 1) rfl
      have v2 := hx5.cell (j := 2) rfl
      have lx5 := hx5.lt
      have q0 := HZ5.out.cell (j := 0) rfl
      have q1 := HZ5.out.cell (j := 1) rfl
      have q2 := HZ5.out.cell (j := 2) rfl
      have p0 := HZ5.out.free 0
      have p1 := HZ5.out.free 1
      have p2 := HZ5.out.free 2
      have lz5 := HZ5.out.lt
      clear hx5
      go_region
      all_goals
        go_wp2_with fail
        refine bodyPost_ret (v := .tuple #[.agg #[.int .i64 p.flow, .int .i64 p.len, .int .i64 p.mark], .int .u64 fin, .bool true]) (by simp [results, Try.results77, go_sem, q0, q1, q2]) rfl ?_
        have u6 : Upd [bz] w5 ((((w5.setCell ⟨bz, 0, none⟩ (.int .i64 p.flow)).setCell ⟨bz, 1, none⟩ (.int .i64 p.len)).setCell ⟨bz, 2, none⟩ (.int .i64 p.mark)).drew.drew) := ((((Upd.refl [bz] w5).setCell (.inl (by simp)) _).setCell (.inl (by simp)) _).setCell (.inl (by simp)) _).drew.drew
        refine ⟨rfl, none, 0, { blk := ?_, row := ?_, d := HFR.out, ok := HOK.out }, fun c hc => .inr (HFN.out c hc), HU5.out.then u6 (fun _ _ h => h) (fun i hi hm => by simp only [List.mem_cons, List.not_mem_nil, or_false] at hm; have := HNE.out.2.2.2.1; omega)⟩
        · have := HB5.out.upd u6 (by simp only [List.mem_cons, List.not_mem_nil, or_false]; exact fun h => HNE.out.1 h.symm)
          rw [show (flTake e.f p).L.length = 0 from HTL.out, show (flTake e.f p).start = fin from HFIN.out, show (flTake e.f p).fin = fin from HFIN.out]
          exact this
        · rw [show (flTake e.f p).L.length = 0 from HTL.out, show (flTake e.f p).L = (e.f.L.drop 1).take 0 from HTK.out]
          exact HR5.out.upd u6 (fun c hc e2 => by simp only [List.mem_cons, List.not_mem_nil, or_false] at e2; exact HFZ.out (e2 ▸ hc))
    · have hce2 : (e.cap == 1) = false := by simp [hce]
      have HTL : Hid ((flTake e.f p).L.length = m) := by unfold Hid; show e.f.L.tail.length = m; rw [List.length_tail, HN.out]; omega
      have HTK : Hid ((flTake e.f p).L = (e.f.L.drop 1).take m) := by
        unfold Hid; show e.f.L.tail = _
        rw [← List.drop_one, List.take_of_length_le (by rw [List.length_drop, HN.out]; omega)]
      obtain ⟨wa, hwa⟩ : ∃ x, w.alloc (.cells #[.int .i64 0, .int .i64 0, .int .i64 0] 94) = x := ⟨_, rfl⟩
      obtain ⟨wb, hwb⟩ : ∃ x, wa.alloc (.cells #[.int .i64 p.flow, .int .i64 p.len, .int .i64 p.mark] 94) = x := ⟨_, rfl⟩
      have HUA : Hid (Upd [] w wa) := by rw [← hwa]; exact (Upd.refl [] w).alloc _
      have HUB : Hid (Upd [] wa wb) := by rw [← hwb]; exact (Upd.refl [] wa).alloc _
      have HZ : Hid (Blk wa w.heap.size 94 [.int .i64 0, .int .i64 0, .int .i64 0]) := by rw [← hwa]; exact Blk.new w 94 _
      have HBX : Hid (Blk wb wa.heap.size 94 (pkVs p)) := by rw [← hwb]; exact Blk.new wa 94 (pkVs p)
      obtain ⟨bz, hbz⟩ : ∃ x, w.heap.size = x := ⟨_, rfl⟩
      obtain ⟨bx, hbx⟩ : ∃ x, wa.heap.size = x := ⟨_, rfl⟩
      have HNE : Hid (bz ≠ e.b ∧ bx ≠ e.b ∧ bz ≠ bx ∧ w.heap.size ≤ bz ∧ w.heap.size ≤ bx ∧ bz < wa.heap.size) := by have h1 := HUA.out.size; have h2 := HZ.out.lt; exact ⟨by omega, by omega, by omega, by omega, by omega, by omega⟩
      rw [hbz] at HZ
      rw [hbx] at HBX
      have HEB : Hid (EntAt wb e) := HH.out.upd (HUA.out.trans HUB.out) (by simp)
      have y0 := (HUA.out.cell lg (by simp) 0).trans x0
      have y1 := (HUA.out.cell lg (by simp) 1).trans x1
      have y2 := (HUA.out.cell lg (by simp) 2).trans x2
      have lga := Nat.lt_of_lt_of_le lg HUA.out.size
      have c3a := (HUA.out.cell lb (by simp) 3).trans c3
      have lba := Nat.lt_of_lt_of_le lb HUA.out.size
      have c3b := (HUB.out.cell lba (by simp) 3).trans c3a
      have lbb := Nat.lt_of_lt_of_le lba HUB.out.size
      go_enter Try.func77, Try.ntmps77
      go_wp2_with (at_builtin; (refine wpList_app2 _ (by rfl) _ _ _ (by rfl) 94 i0 _ 3 24 underlyingPks hi0 hz0 hz1 hz2 rfl (by omega) none 0 0 [] (by rfl) (RowO.nil _ _ _) (some ⟨g, 3, none⟩) m _ (((e.f.L.drop 1).take m).flatMap pkVs) (by rfl) (HSRC.out _ 3 (HUA.out.trans HUB.out) (by (left; rfl))) HG1.out.1 HG1.out.2 ?_); (intro ao1 cap1 w3 hA1; have HU3 : Hid (Upd [] wb w3) := hA1.upd; have hB3 := HEB.out.blk.upd HU3.out (by simp); have e3 := hB3.cell (j := 3) rfl; have z3 := hB3.free 3; have lb3 := hB3.lt; have HR1 : Hid (RowO w3 94 3 ao1 m cap1 (((e.f.L.drop 1).take m).flatMap pkVs)) := (by have := hA1.row; rw [Nat.zero_add, List.nil_append] at this; exact this); have HB3 := Lib.hid hB3; have HA1 := Lib.hid hA1; clear hA1 hB3))
      have HFN : Hid (∀ c ∈ blkO ao1, w.heap.size ≤ c) := fun c hc => by rcases HA1.out.at_ _ hc with h | h; (cases h); (have := HUA.out.size; have := HUB.out.size; omega)
      have HFR : Hid (e.b ∉ blkO ao1) := fun hc => by have := HFN.out _ hc; have := HH.out.blk.lt; omega
      have HFZ : Hid (bz ∉ blkO ao1) := fun hc => by rcases HA1.out.at_ _ hc with h | h; (cases h); (have := HNE.out; have := HUB.out.size; omega)
      obtain ⟨w4, hw4⟩ : ∃ x, w3.setCell ⟨e.b, 3, none⟩ (.slice ao1 m cap1) = x := ⟨_, rfl⟩
      have hu4 : Upd [e.b] w3 w4 := by rw [← hw4]; exact (Upd.refl [e.b] w3).setCell (.inl (by simp)) _
      have HB4 : Hid (Blk w4 e.b 114 [.int .i64 e.f.id, .int .i64 e.f.most, .int .u64 e.f.r, .slice ao1 m cap1, .int .u64 e.f.start, .int .u64 e.f.fin]) := by rw [← hw4]; exact HB3.out.set 3 _
      have HU4 : Hid (Upd [e.b] w w4) := ((HUA.out.trans HUB.out).trans HU3.out).nil.trans hu4
      have HBX4 := Lib.hid ((HBX.out.upd HU3.out (by simp)).upd hu4 (by simpa using HNE.out.2.1))
      have HZ4 := Lib.hid (((HZ.out.upd HUB.out (by simp)).upd HU3.out (by simp)).upd hu4 (by simpa using HNE.out.1))
      have HR4 := Lib.hid (HR1.out.upd hu4 (fun c hc e2 => by simp only [List.mem_cons, List.not_mem_nil, or_false] at e2; exact HFR.out (e2 ▸ hc)))
      rw [hw4]
      clear hw4 hu4
      have d2 := HB4.out.cell (j := 2) rfl
      have d4 := HB4.out.cell (j := 4) rfl
      have d5 := HB4.out.cell (j := 5) rfl
      have z4 := HB4.out.free 4
      have z5 := HB4.out.free 5
      have lb4 := HB4.out.lt
      have v1 := HBX4.out.cell (j := 1) rfl
      have lx4 := HBX4.out.lt
      clear c0 c1 c2 c3 c4 c5 c3a c3b y0 y1 y2 x0 x1 x2 lba lbb lb lga lg
      refine wp_region_tail 15 (by kernel_rfl) (by kernel_rfl) ?_
      simp only [List.take_succ_cons, List.take_zero, List.drop_succ_cons, List.drop_zero]
      repeat (go_big_quiet_step (fail))
      go_big_quiet_step (exact ((HC.out _).mono (fun _ _ h => ⟨h.1, h.2.symm⟩)) _)
      repeat (go_big_quiet_step (fail))
      go_big_quiet_step (exact ((HA.out _).mono (fun _ _ h => ⟨h.1, h.2.symm⟩)) _)
      repeat (go_big_quiet_step (fail))
      refine wpQuiet_nil ?_
      go_wp2_with fail
      obtain ⟨w5, hw5⟩ : ∃ x, (w4.setCell ⟨e.b, 5, none⟩ (.int .u64 fin)).setCell ⟨e.b, 4, none⟩ (.int .u64 fin) = x := ⟨_, rfl⟩
      have hu5 : Upd [e.b] w4 w5 := by rw [← hw5]; exact ((Upd.refl [e.b] w4).setCell (.inl (by simp)) _).setCell (.inl (by simp)) _
      have HB5 : Hid (Blk w5 e.b 114 [.int .i64 e.f.id, .int .i64 e.f.most, .int .u64 e.f.r, .slice ao1 m cap1, .int .u64 fin, .int .u64 fin]) := by rw [← hw5]; exact (HB4.out.set 5 _).set 4 _
      have HU5 : Hid (Upd [e.b] w w5) := HU4.out.trans hu5
      have hx5 := HBX4.out.upd hu5 (by simpa using HNE.out.2.1)
      have HZ5 := Lib.hid (HZ4.out.upd hu5 (by simpa using HNE.out.1))
      have HR5 := Lib.hid (HR4.out.upd hu5 (fun c hc e2 => by simp only [List.mem_cons, List.not_mem_nil, or_false] at e2; exact HFR.out (e2 ▸ hc)))
      rw [hw5]
      clear hw5 hu5 d2 d4 d5 z4 z5 lb4 v1 lx4
      have d5 := HB5.out.cell (j := 5) rfl
      have lb5 := HB5.out.lt
      have v0 := hx5.cell (j := 0) rfl
      have v1 := hx5.cell (j := 1) rfl
      have v2 := hx5.cell (j := 2) rfl
      have lx5 := hx5.lt
      have q0 := HZ5.out.cell (j := 0) rfl
      have q1 := HZ5.out.cell (j := 1) rfl
      have q2 := HZ5.out.cell (j := 2) rfl
      have p0 := HZ5.out.free 0
      have p1 := HZ5.out.free 1
      have p2 := HZ5.out.free 2
      have lz5 := HZ5.out.lt
      clear hx5
      go_region
      all_goals
        go_wp2_with fail
        refine bodyPost_ret (v := .tuple #[.agg #[.int .i64 p.flow, .int .i64 p.len, .int .i64 p.mark], .int .u64 fin, .bool true]) (by simp [results, Try.results77, go_sem, q0, q1, q2]) rfl ?_
        have u6 : Upd [bz] w5 ((((w5.setCell ⟨bz, 0, none⟩ (.int .i64 p.flow)).setCell ⟨bz, 1, none⟩ (.int .i64 p.len)).setCell ⟨bz, 2, none⟩ (.int .i64 p.mark)).drew.drew) := ((((Upd.refl [bz] w5).setCell (.inl (by simp)) _).setCell (.inl (by simp)) _).setCell (.inl (by simp)) _).drew.drew
        refine ⟨rfl, ao1, cap1, { blk := ?_, row := ?_, d := HFR.out, ok := HOK.out }, fun c hc => .inr (HFN.out c hc), HU5.out.then u6 (fun _ _ h => h) (fun i hi hm => by simp only [List.mem_cons, List.not_mem_nil, or_false] at hm; have := HNE.out.2.2.2.1; omega)⟩
        · have := HB5.out.upd u6 (by simp only [List.mem_cons, List.not_mem_nil, or_false]; exact fun h => HNE.out.1 h.symm)
          rw [show (flTake e.f p).L.length = m from HTL.out, show (flTake e.f p).start = fin from HFIN.out, show (flTake e.f p).fin = fin from HFIN.out]
          exact this
        · rw [show (flTake e.f p).L.length = m from HTL.out, show (flTake e.f p).L = (e.f.L.drop 1).take m from HTK.out]
          exact HR5.out.upd u6 (fun c hc e2 => by simp only [List.mem_cons, List.not_mem_nil, or_false] at e2; exact HFZ.out (e2 ▸ hc))
end Go.Proofs.Ytmfndemnogpmcaa
