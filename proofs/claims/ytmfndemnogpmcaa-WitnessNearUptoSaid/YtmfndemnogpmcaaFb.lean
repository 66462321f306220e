/-
  The walks of the document's flow: NewFlow, Arrive, Serve. No condition.
-/
import Derived.Test.YtmfndemnogpmcaaFa
import Derived.Test.YtmfndemnogpmcaaPCT
import Derived.Test.YtmfndemnogpmcaaQuiet
set_option linter.unusedVariables false
set_option linter.unusedSimpArgs false
namespace Go.Proofs.Ytmfndemnogpmcaa
open Go.RowKit

theorem flnew_any (id : Int) (r : Nat) (hr : r < 18446744073709551616) (most : Int) (w : World) :
    Calls Try.prog 76 #[.int .i64 id, .int .u64 r, .int .i64 most] w (fun en w' => en = .returned (.pointer (some ⟨w.heap.size, 0, none⟩)) ∧ EntAt w' ⟨w.heap.size, flNew id r most, none, 0⟩ ∧ Upd [] w w') := by
  have hm := heldMost_bd most
  obtain ⟨q, hq⟩ : ∃ q, heldMost most = q := ⟨_, rfl⟩
  have HQ := Lib.hid hq
  have hq2 : min (max most 1) 8 = q := hq
  have hq3 : Min.min (Max.max most 1) 8 = q := hq
  clear hq hm
  go_enter Try.func76, Try.ntmps76
  go_wp2
  go_ret
  refine ⟨rfl, { blk := ?_, row := RowO.nil _ _ _, d := by simp [blkO], ok := FlOk.new id hr most }, (Upd.refl [] w).alloc _⟩
  have := Blk.new w 114 [.int .i64 id, .int .i64 q, .int .u64 r, .slice none 0 0, .int .u64 0, .int .u64 0]
  simp only [flNew, HQ.out, List.length_nil]
  exact this

/-- The array is put into the flow. -/
theorem ent_done {w w5 : World} {e : Ent} (h : EntAt w e) {f' : Fl} {st fi : Nat} {old : Value} {n' : Nat} {ao2 : Option Addr} {cap2 : Nat} (hU : Upd [e.b] w w5)
    (hB : Blk w5 e.b 114 [.int .i64 e.f.id, .int .i64 e.f.most, .int .u64 e.f.r, old, .int .u64 st, .int .u64 fi]) (hR : RowO w5 94 3 ao2 n' cap2 (f'.L.flatMap pkVs)) (hn : f'.L.length = n') (hf : ∀ c ∈ blkO ao2, w.heap.size ≤ c)
    (h1 : f'.id = e.f.id) (h2 : f'.most = e.f.most) (h3 : f'.r = e.f.r) (h4 : f'.start = st) (h5 : f'.fin = fi) (hok : FlOk f') {w6 : World} (h6 : Upd [] (w5.setCell ⟨e.b, 3, none⟩ (.slice ao2 n' cap2)) w6) : EntTo w e f' w6 := by
  have hbn : e.b ∉ blkO ao2 := fun c => by have := hf _ c; have := h.blk.lt; omega
  have u1 : Upd [e.b] w5 (w5.setCell ⟨e.b, 3, none⟩ (.slice ao2 n' cap2)) := (Upd.refl [e.b] w5).setCell (.inl (by simp)) _
  refine ⟨ao2, cap2, { blk := ?_, row := ?_, d := hbn, ok := hok }, fun c hc => .inr (hf c hc), hU.trans (u1.trans h6.nil)⟩
  · have := (hB.set 3 (.slice ao2 n' cap2)).upd h6 (by simp)
    simp only [h1, h2, h3, h4, h5, hn]
    exact this
  · simp only [hn]
    exact ((hR.upd u1 (fun c hc e2 => by simp only [List.mem_cons, List.not_mem_nil, or_false] at e2; exact hbn (e2 ▸ hc))).upd h6 (by simp))

set_option maxRecDepth 100000 in
set_option maxHeartbeats 16000000 in
theorem EntAt.arrive {w : World} {e : Ent} (h : EntAt w e) (v : Nat) (hv : v < 18446744073709551616) (p : Pk) (hp : p.len < 9223372036854775808) :
    Calls Try.prog 67 #[.pointer (some ⟨e.b, 0, none⟩), .int .u64 v, .agg #[.int .i64 p.flow, .int .i64 p.len, .int .i64 p.mark]] w (fun en w' => en = .returned (.bool (!flFull e.f)) ∧ EntTo w e (if flFull e.f = true then e.f else flPut e.f v p) w') := by
  have HH := Lib.hid h
  obtain ⟨c0, c1, c2, c3, c4, c5, lb⟩ := h.cells
  obtain ⟨n, hn⟩ : ∃ n, e.f.L.length = n := ⟨_, rfl⟩
  have HN := Lib.hid hn
  have hmo := h.ok.most
  have hle := h.ok.len
  obtain ⟨q, hq⟩ : ∃ q, e.f.most = q := ⟨_, rfl⟩
  rw [hn] at c3 hle
  rw [hq] at c1 hmo hle
  have HQ := Lib.hid hq
  have HPL := Lib.hid hp
  have HV := Lib.hid hv
  clear h hn hq hp hv
  by_cases hfull : q ≤ (n : Int)
  · have HF : Hid (flFull e.f = true) := by unfold Hid flFull; rw [HN.out, HQ.out]; simp [hfull]
    have t1 : decide (q ≤ (n : Int)) = true := by simp [hfull]
    rw [HF.out]
    go_enter Try.func67, Try.ntmps67
    go_wp2_with fail
    go_quiet (fail)
    go_wp2
    go_ret
    refine ⟨rfl, e.ao, e.cap, ?_, fun c hc => .inl hc, ((Upd.refl [e.b] w).alloc _).drewN _⟩
    exact HH.out.upd (((Upd.refl [] w).alloc (.cells #[.int .i64 p.flow, .int .i64 p.len, .int .i64 p.mark] 94)).drewN _) (by simp)
  · have HF : Hid (flFull e.f = false) := by unfold Hid flFull; rw [HN.out, HQ.out]; simp; omega
    have t1 : decide (q ≤ (n : Int)) = false := by simp; omega
    have hn8 : n < 8 := by omega
    have HOK := Lib.hid (HH.out.ok.put HF.out HV.out HPL.out)
    rw [HF.out]
    simp only [Bool.false_eq_true, if_false, Bool.not_false]
    obtain ⟨wa, hwa⟩ : ∃ x, w.alloc (.cells #[.int .i64 p.flow, .int .i64 p.len, .int .i64 p.mark] 94) = x := ⟨_, rfl⟩
    have hUa : Upd [] w wa := by rw [← hwa]; exact (Upd.refl [] w).alloc _
    have hBx : Blk wa w.heap.size 94 (pkVs p) := by rw [← hwa]; exact Blk.new w 94 (pkVs p)
    have HEA := Lib.hid (HH.out.upd hUa (by simp))
    have HUA := Lib.hid hUa
    have HBA := Lib.hid hBx
    have nbx : w.heap.size ≠ e.b := by omega
    clear hUa hBx hle hmo c0 c1 c2 c3 c4 c5 lb
    obtain ⟨-, c1, -, c3, -, c5, lb⟩ := HEA.out.cells
    rw [HN.out] at c3
    rw [HQ.out] at c1
    by_cases h0 : n = 0
    · have HST : Hid ((flPut e.f v p).start = max v e.f.fin) := by unfold Hid flPut; rw [HN.out, if_pos h0]
      subst h0
      go_enter Try.func67, Try.ntmps67
      go_wp2_with fail
      go_quiet (fail)
      have HEQ := Lib.hid (HEA.out.upd ((Upd.refl [] wa).drewN nq) (by simp))
      have HBQ := Lib.hid (HBA.out.upd ((Upd.refl [] wa).drewN nq) (by simp))
      have HUQ : Hid (Upd [] w (wa.drewN nq)) := HUA.out.drewN nq
      obtain ⟨wq, hwq⟩ : ∃ x, wa.drewN nq = x := ⟨_, rfl⟩
      rw [hwq] at HEQ HBQ HUQ ⊢
      clear hwq hwa c1 c3 c5 lb
      obtain ⟨-, -, -, c3, c4, c5, lb⟩ := HEQ.out.cells
      rw [HN.out] at c3
      have z4 := HEQ.out.blk.free 4
      obtain ⟨mx, hmx⟩ : ∃ x, max v e.f.fin = x := ⟨_, rfl⟩
      have hmxi : Max.max (v : Int) (e.f.fin : Int) = (mx : Int) := by omega
      have HMX := Lib.hid hmx
      clear hmx
      go_wp2_with fail
      obtain ⟨wz, hwz⟩ : ∃ x, wq.setCell ⟨e.b, 4, none⟩ (.int .u64 mx) = x := ⟨_, rfl⟩
      have hU4 : Upd [e.b] wq wz := by rw [← hwz]; exact (Upd.refl [e.b] wq).setCell (.inl (by simp)) _
      rw [HMX.out] at HST
      have hmx64 : mx < 18446744073709551616 := by have := HOK.out.s64; rw [HST.out] at this; exact this
      have HEZ : Hid (EntAt wz ⟨e.b, { e.f with start := mx }, e.ao, e.cap⟩) := { blk := by rw [← hwz]; exact HEQ.out.blk.set 4 _, row := HEQ.out.row.upd hU4 (fun c hc e2 => by simp only [List.mem_cons, List.not_mem_nil, or_false] at e2; exact HEQ.out.d (e2 ▸ hc)), d := HEQ.out.d, ok := { HEQ.out.ok with s64 := hmx64 } }
      have HBX := Lib.hid (HBQ.out.upd hU4 (by simpa using nbx))
      have HUZ : Hid (Upd [e.b] w wz) := HUQ.out.nil.trans hU4
      rw [hwz]
      clear hwz hU4 c3 c4 c5 lb z4 hmxi HMX
      obtain ⟨n, hn0⟩ : ∃ n : Nat, 0 = n := ⟨_, rfl⟩
      rw [hn0] at HN
      have hle8 : n < 8 := by omega
      clear hn0
      obtain ⟨i0, hi0, hz0, hz1, hz2⟩ := info_parts infoPk
      have HROW : Hid (RowO wz 94 3 e.ao n e.cap (e.f.L.flatMap pkVs)) := by have := HEZ.out.row; rw [← HN.out]; exact this
      have HSRC : Hid (∀ w', Upd [] wz w' → Src w' 3 e.ao n (e.f.L.flatMap pkVs)) := fun w' hu => all_srcG pkVs 3 pkVs_len pkVs_one (HROW.out.upd hu (by simp)) HN.out
      have HG1 : Hid (0 + n ≤ maxLen ∧ (0 + n) * 24 ≤ 140737488355328 ∧ n + 1 ≤ maxLen ∧ (n + 1) * 24 ≤ 140737488355328) := ⟨by unfold maxLen; omega, by omega, by unfold maxLen; omega, by omega⟩
      have y0 := HBX.out.cell (j := 0) rfl
      have y1 := HBX.out.cell (j := 1) rfl
      have y2 := HBX.out.cell (j := 2) rfl
      have lbx := HBX.out.lt
      have c3 : wz.cell? ⟨e.b, 3, none⟩ = some (.slice e.ao n e.cap) := by rw [← HN.out]; exact HEZ.out.cells.2.2.2.1
      have lb : e.b < wz.heap.size := HEZ.out.blk.lt
      go_region_law
        (first
        | (refine step_app2 _ (by rfl) _ _ _ (by rfl) 94 i0 _ 3 24 underlyingPks hi0 hz0 hz1 hz2 rfl (by omega) none 0 0 [] (by rfl) (RowO.nil _ _ _) e.ao n e.cap (e.f.L.flatMap pkVs) (by rfl) (HSRC.out _ (Upd.refl [] wz).drew) HG1.out.1 HG1.out.2.1 ?_; intro ao1 cap1 w3 hA1; have HU3 : Hid (Upd [] wz w3) := ((Upd.refl [] wz).drew).trans hA1.upd; have hB3 := HBX.out.upd HU3.out (by simp); have y0 := hB3.cell (j := 0) rfl; have y1 := hB3.cell (j := 1) rfl; have y2 := hB3.cell (j := 2) rfl; have lbx3 := hB3.lt; have HR1 : Hid (RowO w3 94 3 ao1 n cap1 (e.f.L.flatMap pkVs)) := (by have := hA1.row; rw [Nat.zero_add, List.nil_append] at this; exact this); have HA1 := Lib.hid hA1; clear hA1 hB3)
        | (refine step_app2 _ (by rfl) _ _ _ (by rfl) 94 i0 _ 3 24 underlyingPks hi0 hz0 hz1 hz2 rfl (by omega) none 0 0 [] (by rfl) (RowO.nil _ _ _) e.ao n e.cap (e.f.L.flatMap pkVs) (by rfl) (HSRC.out _ ((Upd.refl [] wz).alloc (.cells #[.int .i64 p.flow, .int .i64 p.len, .int .i64 p.mark] 94)).drew) HG1.out.1 HG1.out.2.1 ?_; intro ao1 cap1 w3 hA1; have HU3 : Hid (Upd [] wz w3) := (((Upd.refl [] wz).alloc _).drew).trans hA1.upd; have HS3 : Hid (Src w3 3 (some ⟨wz.heap.size, 0, none⟩) 1 (pkVs p)) := (one_src wz 94 (pkVs p) (pkVs_one p) 3 rfl).drew.upd hA1.upd (fun ad h => by cases h; exact ⟨rfl, by simp [blkO], by simp⟩); have hB3 := HBX.out.upd HU3.out (by simp); have y0 := hB3.cell (j := 0) rfl; have y1 := hB3.cell (j := 1) rfl; have y2 := hB3.cell (j := 2) rfl; have lbx3 := hB3.lt; have HR1 : Hid (RowO w3 94 3 ao1 n cap1 (e.f.L.flatMap pkVs)) := (by have := hA1.row; rw [Nat.zero_add, List.nil_append] at this; exact this); have HA1 := Lib.hid hA1; clear hA1 hB3)
        | (refine step_app2 _ (by rfl) _ _ _ (by rfl) 94 i0 _ 3 24 underlyingPks hi0 hz0 hz1 hz2 rfl (by omega) ao1 n cap1 _ (by rfl) (HR1.out.upd ((Upd.refl [] w3).alloc (.cells #[.int .i64 p.flow, .int .i64 p.len, .int .i64 p.mark] 94)) (by simp)) (some ⟨w3.heap.size, 0, none⟩) 1 1 (pkVs p) (by rfl) (one_src w3 94 (pkVs p) (pkVs_one p) 3 rfl) HG1.out.2.2.1 HG1.out.2.2.2 ?_; intro ao2 cap2 w5 hA2; have HF5 : Hid (∀ c ∈ blkO ao2, w.heap.size ≤ c) := (fun c hc => by (have := HUZ.out.size); (have := HU3.out.size); rcases hA2.at_ c hc with h | h; (rcases HA1.out.at_ c h with h | h; (cases h); (simp at h; omega)); (simp at h; omega)); have HU5 : Hid (Upd [] wz w5) := HU3.out.then (((Upd.refl (blkO ao1) w3).alloc _).trans hA2.upd) (fun _ _ h => h) (fun i hi hm => by rcases HA1.out.at_ i hm with h | h; (cases h); (simp at h; omega)); have hB5 := HEZ.out.blk.upd HU5.out (by simp); have e5 := hB5.cell (j := 3) rfl; have z5 := hB5.free 3; have lb5 := hB5.lt; have HA2 := Lib.hid hA2; have HB5 := Lib.hid hB5; clear hA2 hB5)
        | (refine step_app2 _ (by rfl) _ _ _ (by rfl) 94 i0 _ 3 24 underlyingPks hi0 hz0 hz1 hz2 rfl (by omega) ao1 n cap1 _ (by rfl) HR1.out (some ⟨wz.heap.size, 0, none⟩) 1 1 (pkVs p) (by rfl) HS3.out HG1.out.2.2.1 HG1.out.2.2.2 ?_; intro ao2 cap2 w5 hA2; have HF5 : Hid (∀ c ∈ blkO ao2, w.heap.size ≤ c) := (fun c hc => by (have := HUZ.out.size); (have := HU3.out.size); rcases hA2.at_ c hc with h | h; (rcases HA1.out.at_ c h with h | h; (cases h); (simp at h; omega)); omega); have HU5 : Hid (Upd [] wz w5) := HU3.out.then hA2.upd (fun _ _ h => h) (fun i hi hm => by rcases HA1.out.at_ i hm with h | h; (cases h); (simp at h; omega)); have hB5 := HEZ.out.blk.upd HU5.out (by simp); have e5 := hB5.cell (j := 3) rfl; have z5 := hB5.free 3; have lb5 := hB5.lt; have HA2 := Lib.hid hA2; have HB5 := Lib.hid hB5; clear hA2 hB5))
      all_goals
        go_wp2
        go_ret
        refine ⟨rfl, ent_done (f' := flPut e.f v p) HH.out (HUZ.out.trans HU5.out.nil) HB5.out (by have := HA2.out.row; rw [show pkVs p = [p].flatMap pkVs by simp, ← List.flatMap_append] at this; exact this) ?_ HF5.out rfl rfl rfl HST.out rfl HOK.out (Upd.refl [] _)⟩
        show (e.f.L ++ [p]).length = _
        rw [List.length_append, HN.out, List.length_singleton]
    · have HST : Hid ((flPut e.f v p).start = e.f.start) := by unfold Hid flPut; rw [HN.out, if_neg h0]
      have t2 : (n == 0) = false := by simp [h0]
      have t3 : ((n : Int) == 0) = false := by simp; omega
      go_enter Try.func67, Try.ntmps67
      go_wp2_with fail
      go_quiet (fail)
      go_wp2_with fail
      obtain ⟨wz, hwz⟩ : ∃ x, wa.drewN nq = x := ⟨_, rfl⟩
      have HEZ : Hid (EntAt wz ⟨e.b, { e.f with start := e.f.start }, e.ao, e.cap⟩) := by rw [← hwz]; exact HEA.out.upd ((Upd.refl [] wa).drewN nq) (by simp)
      have HBX : Hid (Blk wz w.heap.size 94 (pkVs p)) := by rw [← hwz]; exact HBA.out.upd ((Upd.refl [] wa).drewN nq) (by simp)
      have HUZ : Hid (Upd [e.b] w wz) := by rw [← hwz]; exact (HUA.out.drewN nq).nil
      rw [hwz]
      clear hwz hwa c1 c3 c5 lb
      obtain ⟨i0, hi0, hz0, hz1, hz2⟩ := info_parts infoPk
      have HROW : Hid (RowO wz 94 3 e.ao n e.cap (e.f.L.flatMap pkVs)) := by have := HEZ.out.row; rw [← HN.out]; exact this
      have HSRC : Hid (∀ w', Upd [] wz w' → Src w' 3 e.ao n (e.f.L.flatMap pkVs)) := fun w' hu => all_srcG pkVs 3 pkVs_len pkVs_one (HROW.out.upd hu (by simp)) HN.out
      have HG1 : Hid (0 + n ≤ maxLen ∧ (0 + n) * 24 ≤ 140737488355328 ∧ n + 1 ≤ maxLen ∧ (n + 1) * 24 ≤ 140737488355328) := ⟨by unfold maxLen; omega, by omega, by unfold maxLen; omega, by omega⟩
      have y0 := HBX.out.cell (j := 0) rfl
      have y1 := HBX.out.cell (j := 1) rfl
      have y2 := HBX.out.cell (j := 2) rfl
      have lbx := HBX.out.lt
      have c3 : wz.cell? ⟨e.b, 3, none⟩ = some (.slice e.ao n e.cap) := by rw [← HN.out]; exact HEZ.out.cells.2.2.2.1
      have lb : e.b < wz.heap.size := HEZ.out.blk.lt
      go_region_law
        (first
        | (refine step_app2 _ (by rfl) _ _ _ (by rfl) 94 i0 _ 3 24 underlyingPks hi0 hz0 hz1 hz2 rfl (by omega) none 0 0 [] (by rfl) (RowO.nil _ _ _) e.ao n e.cap (e.f.L.flatMap pkVs) (by rfl) (HSRC.out _ (Upd.refl [] wz).drew) HG1.out.1 HG1.out.2.1 ?_; intro ao1 cap1 w3 hA1; have HU3 : Hid (Upd [] wz w3) := ((Upd.refl [] wz).drew).trans hA1.upd; have hB3 := HBX.out.upd HU3.out (by simp); have y0 := hB3.cell (j := 0) rfl; have y1 := hB3.cell (j := 1) rfl; have y2 := hB3.cell (j := 2) rfl; have lbx3 := hB3.lt; have HR1 : Hid (RowO w3 94 3 ao1 n cap1 (e.f.L.flatMap pkVs)) := (by have := hA1.row; rw [Nat.zero_add, List.nil_append] at this; exact this); have HA1 := Lib.hid hA1; clear hA1 hB3)
        | (refine step_app2 _ (by rfl) _ _ _ (by rfl) 94 i0 _ 3 24 underlyingPks hi0 hz0 hz1 hz2 rfl (by omega) none 0 0 [] (by rfl) (RowO.nil _ _ _) e.ao n e.cap (e.f.L.flatMap pkVs) (by rfl) (HSRC.out _ ((Upd.refl [] wz).alloc (.cells #[.int .i64 p.flow, .int .i64 p.len, .int .i64 p.mark] 94)).drew) HG1.out.1 HG1.out.2.1 ?_; intro ao1 cap1 w3 hA1; have HU3 : Hid (Upd [] wz w3) := (((Upd.refl [] wz).alloc _).drew).trans hA1.upd; have HS3 : Hid (Src w3 3 (some ⟨wz.heap.size, 0, none⟩) 1 (pkVs p)) := (one_src wz 94 (pkVs p) (pkVs_one p) 3 rfl).drew.upd hA1.upd (fun ad h => by cases h; exact ⟨rfl, by simp [blkO], by simp⟩); have hB3 := HBX.out.upd HU3.out (by simp); have y0 := hB3.cell (j := 0) rfl; have y1 := hB3.cell (j := 1) rfl; have y2 := hB3.cell (j := 2) rfl; have lbx3 := hB3.lt; have HR1 : Hid (RowO w3 94 3 ao1 n cap1 (e.f.L.flatMap pkVs)) := (by have := hA1.row; rw [Nat.zero_add, List.nil_append] at this; exact this); have HA1 := Lib.hid hA1; clear hA1 hB3)
        | (refine step_app2 _ (by rfl) _ _ _ (by rfl) 94 i0 _ 3 24 underlyingPks hi0 hz0 hz1 hz2 rfl (by omega) ao1 n cap1 _ (by rfl) (HR1.out.upd ((Upd.refl [] w3).alloc (.cells #[.int .i64 p.flow, .int .i64 p.len, .int .i64 p.mark] 94)) (by simp)) (some ⟨w3.heap.size, 0, none⟩) 1 1 (pkVs p) (by rfl) (one_src w3 94 (pkVs p) (pkVs_one p) 3 rfl) HG1.out.2.2.1 HG1.out.2.2.2 ?_; intro ao2 cap2 w5 hA2; have HF5 : Hid (∀ c ∈ blkO ao2, w.heap.size ≤ c) := (fun c hc => by (have := HUZ.out.size); (have := HU3.out.size); rcases hA2.at_ c hc with h | h; (rcases HA1.out.at_ c h with h | h; (cases h); (simp at h; omega)); (simp at h; omega)); have HU5 : Hid (Upd [] wz w5) := HU3.out.then (((Upd.refl (blkO ao1) w3).alloc _).trans hA2.upd) (fun _ _ h => h) (fun i hi hm => by rcases HA1.out.at_ i hm with h | h; (cases h); (simp at h; omega)); have hB5 := HEZ.out.blk.upd HU5.out (by simp); have e5 := hB5.cell (j := 3) rfl; have z5 := hB5.free 3; have lb5 := hB5.lt; have HA2 := Lib.hid hA2; have HB5 := Lib.hid hB5; clear hA2 hB5)
        | (refine step_app2 _ (by rfl) _ _ _ (by rfl) 94 i0 _ 3 24 underlyingPks hi0 hz0 hz1 hz2 rfl (by omega) ao1 n cap1 _ (by rfl) HR1.out (some ⟨wz.heap.size, 0, none⟩) 1 1 (pkVs p) (by rfl) HS3.out HG1.out.2.2.1 HG1.out.2.2.2 ?_; intro ao2 cap2 w5 hA2; have HF5 : Hid (∀ c ∈ blkO ao2, w.heap.size ≤ c) := (fun c hc => by (have := HUZ.out.size); (have := HU3.out.size); rcases hA2.at_ c hc with h | h; (rcases HA1.out.at_ c h with h | h; (cases h); (simp at h; omega)); omega); have HU5 : Hid (Upd [] wz w5) := HU3.out.then hA2.upd (fun _ _ h => h) (fun i hi hm => by rcases HA1.out.at_ i hm with h | h; (cases h); (simp at h; omega)); have hB5 := HEZ.out.blk.upd HU5.out (by simp); have e5 := hB5.cell (j := 3) rfl; have z5 := hB5.free 3; have lb5 := hB5.lt; have HA2 := Lib.hid hA2; have HB5 := Lib.hid hB5; clear hA2 hB5))
      all_goals
        go_wp2
        go_ret
        refine ⟨rfl, ent_done (f' := flPut e.f v p) HH.out (HUZ.out.trans HU5.out.nil) HB5.out (by have := HA2.out.row; rw [show pkVs p = [p].flatMap pkVs by simp, ← List.flatMap_append] at this; exact this) ?_ HF5.out rfl rfl rfl HST.out rfl HOK.out (Upd.refl [] _)⟩
        show (e.f.L ++ [p]).length = _
        rw [List.length_append, HN.out, List.length_singleton]
end Go.Proofs.Ytmfndemnogpmcaa
