/-
  A shard: Pop, All, New. No condition.
-/
import Derived.Test.YtkepeolbpgnlbaaGreatDoorSf
import Derived.Test.YtkepeolbpgnlbaaGreatDoorHeapR
import Derived.Test.YtkepeolbpgnlbaaGreatDoorWu
import Derived.Deep.RegionLaw
set_option linter.unusedVariables false
set_option linter.unusedSimpArgs false
namespace Go.Proofs.YtkepeolbpgnlbaaGreatDoor
open Go.RowKit

section
variable {W w : World} {sb base wd : Nat} {L : List It} {F : List Nat}
theorem SL.lt (h : SL W sb base wd L F w) : ∀ c ∈ F, c < w.heap.size := by obtain ⟨_, _, _, h⟩ := h; exact h.lt
theorem SL.newB (h : SL W sb base wd L F w) : ∀ c ∈ F, W.heap.size ≤ c := by obtain ⟨_, _, _, h⟩ := h; exact h.newB
theorem SL.updS (h : SL W sb base wd L F w) {S : List Nat} {w' : World} (hu : Upd S w w') (hs : ∀ c ∈ F, c ∉ S) (hw : ∀ c ∈ S, W.heap.size ≤ c) : SL W sb base wd L F w' := by
  obtain ⟨A, B, e, h⟩ := h; exact ⟨A, B, e, h.updS hu hs hw⟩
theorem SL.upd (h : SL W sb base wd L F w) {w' : World} (hu : Upd [] w w') : SL W sb base wd L F w' := h.updS hu (by simp) (by simp)
theorem SL.updW (h : SL W sb base wd L F w) : Upd [] W w := by obtain ⟨_, _, _, h⟩ := h; exact h.updW
theorem SL.tab (h : SL W sb base wd L F w) : TabAt 0 Lib.deBruijn64tab W := by obtain ⟨_, _, _, h⟩ := h; exact h.tab
theorem SL.srt (h : SL W sb base wd L F w) : Srt L := by obtain ⟨_, _, rfl, h⟩ := h; exact h.ok.srt
theorem SL.nd (h : SL W sb base wd L F w) : NdI L := by obtain ⟨_, _, rfl, h⟩ := h; exact h.ok.nd
theorem SL.keys (h : SL W sb base wd L F w) : ∀ x ∈ L, x.1 = (kn x : Int) ∧ kn x < 18446744073709551616 ∧ base ≤ kn x := by obtain ⟨_, _, rfl, h⟩ := h; exact h.ok.key
theorem SL.lenL (h : SL W sb base wd L F w) : L.length ≤ 1000 := by obtain ⟨_, _, rfl, h⟩ := h; exact h.len
theorem SL.b64 (h : SL W sb base wd L F w) : base < 18446744073709551616 := by obtain ⟨_, _, rfl, _, _, _, _, h, _⟩ := h; exact h.b64
theorem SL.ptr (h : SL W sb base wd L F w) : sb ∈ F := by obtain ⟨_, _, _, h⟩ := h; exact h.mem
theorem SL.base_ (h : SL W sb base wd L F w) : Calls Tryz.prog 56 #[.pointer (some ⟨sb, 0, none⟩)] w (fun e w' => e = .returned (.int .u64 base) ∧ w = w') := by
  obtain ⟨A, B, rfl, wb, hb, fw, fh, h1, h2, h3, rfl⟩ := h; exact h1.base_
theorem SL.has (h : SL W sb base wd L F w) (id : Int) : Calls Tryz.prog 64 #[.pointer (some ⟨sb, 0, none⟩), .int .i64 id] w (RetUpd [] w (.bool (hasI L id))) := by
  obtain ⟨A, B, rfl, wb, hb, fw, fh, h1, h2, h3, rfl⟩ := h; exact h1.has id
theorem SL.len (h : SL W sb base wd L F w) : Calls Tryz.prog 43 #[.pointer (some ⟨sb, 0, none⟩)] w (RetUpd [] w (.int .i64 L.length)) := by
  obtain ⟨A, B, rfl, wb, hb, fw, fh, h1, h2, h3, rfl⟩ := h; exact h1.len h3
theorem SL.min (h : SL W sb base wd L F w) : Calls Tryz.prog 72 #[.pointer (some ⟨sb, 0, none⟩)] w (RetUpd [] w (firstV L)) := by
  obtain ⟨A, B, rfl, wb, hb, fw, fh, h1, h2, h3, rfl⟩ := h; exact h1.min h2.srt

/-- How many lie beyond. -/
def farN (base wd : Nat) (L : List It) : Nat := (L.filter (fun x => decide (lev3 wd base (kn x) = 3))).length
theorem dropI_head {x : It} {r : List It} (h : NdI (x :: r)) : dropI (x :: r) x.2 = r := by
  unfold dropI NdI at *
  rw [List.map_cons, List.nodup_cons] at h
  rw [List.filter_cons]
  simp only [beq_self_eq_true, Bool.not_true, Bool.false_eq_true, if_false]
  rw [List.filter_eq_self]
  intro y hy
  have : y.2 ≠ x.2 := fun e => h.1 (by rw [← e]; exact List.mem_map_of_mem hy)
  simp [this]

theorem sl_done {w2 w3 w4 : World} {base' : Nat} {L' : List It} {F' S : List Nat} (hF : ∀ c ∈ F, c < w.heap.size) (h0 : Upd [] w w2) (hfr : Fr F F' w2 w3) (hs : SL W sb base' wd L' F' w3) (hu : Upd S w3 w4) (hSS : ∀ c ∈ S, w.heap.size ≤ c ∧ c < w2.heap.size) (hW : W.heap.size ≤ w.heap.size) : SLTo W sb base' wd L' F w w4 := by
  have hsz := h0.size
  refine ⟨F', hs.updS hu (fun c hc e => ?_) (fun c hc => by have := hSS c hc; omega), fun c hc => ?_, ?_⟩
  · have h1 := hSS c e
    rcases hfr.1 c hc with h | h
    · have := hF c h; omega
    · omega
  · rcases hfr.1 c hc with h | h
    · exact .inl h
    · right; omega
  · exact (h0.nil.trans hfr.2).then hu (fun _ _ h => h) (fun i hi hm => by have := (hSS i hm).1; omega)
theorem SLTo.up {w' : World} (h : SLTo W sb base wd L F w w') : Upd F w w' := by obtain ⟨_, _, h⟩ := h; exact h.2


set_option maxHeartbeats 8000000 in
theorem SL.pop (h : SL W sb base wd L F w) : Calls Tryz.prog 48 #[.pointer (some ⟨sb, 0, none⟩)] w (fun e w' => e = .returned (firstV L) ∧ SLTo W sb (popB base L) wd L.tail F w w') := by
  have HH := Lib.hid h
  have HLT := Lib.hid h.lt
  have HLW := Lib.hid h.updW.size
  have HND := Lib.hid h.nd
  have HZ := Lib.hid (Blk.new w 37 [.int .u64 0, .int .i64 0])
  cases L with
  | nil =>
    clear h
    go_enter Tryz.func48, Tryz.ntmps48
    go_wp2_with fail
    refine ((HH.out.upd ((Upd.refl [] w).alloc _)).min).mono ?_
    rintro e w3 ⟨rfl, hU⟩
    have hZ := HZ.out.upd hU (by simp)
    have z0 := hZ.cell (j := 0) rfl
    have z1 := hZ.cell (j := 1) rfl
    have zf := hZ.free 0
    have zf1 := hZ.free 1
    have zl := hZ.lt
    have HU3 : Hid (Upd [] w w3) := ((Upd.refl [] w).alloc _).trans hU
    clear hU hZ
    unfold firstV itV
    go_wp2
    refine bodyPost_ret (v := .tuple #[.agg #[.int .u64 0, .int .i64 0], .bool false]) (by simp [results, Tryz.results48, go_sem, z0, z1, zl]) rfl ⟨rfl, F, HH.out.upd (((HU3.out.setCell (.inr (Nat.le_refl _)) _).setCell (.inr (Nat.le_refl _)) _).alloc _), Fr.of (((HU3.out.setCell (.inr (Nat.le_refl _)) _).setCell (.inr (Nat.le_refl _)) _).alloc _)⟩
  | cons x r =>
    have HK := Lib.hid (h.keys x (by simp))
    have HSR := Lib.hid h.srt
    have HKY := Lib.hid h.keys
    clear h
    go_enter Tryz.func48, Tryz.ntmps48
    go_wp2_with fail
    refine ((HH.out.upd ((Upd.refl [] w).alloc _)).min).mono ?_
    rintro e w3 ⟨rfl, hU⟩
    have HU3 : Hid (Upd [] w w3) := ((Upd.refl [] w).alloc _).trans hU
    have HZ3 := Lib.hid (HZ.out.upd hU (by simp))
    clear hU
    unfold firstV itV
    go_wp2_with fail
    refine ((HH.out.upd (HU3.out.alloc (.cells #[.int .u64 x.1, .int .i64 x.2] 37))).drop x.2).mono ?_
    rintro e w4 ⟨rfl, F4, h4, hF4⟩
    rw [dropI_head HND.out] at h4
    have hx4 := (Blk.new w3 37 [.int .u64 x.1, .int .i64 x.2]).upd hF4.2 (fun e => by have := HLT.out _ e; have := HU3.out.size; omega)
    have x0 := hx4.cell (j := 0) rfl
    have x1 := hx4.cell (j := 1) rfl
    have xl := hx4.lt
    have hz4 := (HZ3.out.upd ((Upd.refl [] w3).alloc _) (by simp)).upd hF4.2 (fun e => by have := HLT.out _ e; omega)
    have HX4 := Lib.hid hx4
    have HZ4 := Lib.hid hz4
    have H4 := Lib.hid h4
    have HF4 := Lib.hid hF4
    rw [HK.out.1] at x0
    clear h4 hF4 hx4 hz4
    go_wp2_with fail
    refine (H4.out.move (kn x) HK.out.2.1).mono ?_
    rintro e w5 ⟨rfl, F5, h5, hF5⟩
    have hmv : movB base r (kn x) = true := by
      rw [movB_iff]
      exact ⟨HK.out.2.2, fun y hy => srt_head_le HSR.out (fun z hz => (HKY.out z hz).1) y (by simp [hy])⟩
    rw [hmv] at h5 ⊢
    rw [if_pos rfl] at h5
    have hn : ∀ c ∈ F4, c < w4.heap.size := H4.out.lt
    have hnx : w3.heap.size ∉ F4 := fun e => by
      rcases HF4.out.1 _ e with h | h
      · have := HLT.out _ h; have := HU3.out.size; omega
      · simp at h; omega
    have hnz : w.heap.size ∉ F4 := fun e => by
      rcases HF4.out.1 _ e with h | h
      · have := HLT.out _ h; omega
      · have := HZ3.out.lt; simp at h; omega
    have hx5 := HX4.out.upd hF5.2 hnx
    have hz5 := HZ4.out.upd hF5.2 hnz
    have x0 := hx5.cell (j := 0) rfl
    have x1 := hx5.cell (j := 1) rfl
    have xl := hx5.lt
    have z0 := hz5.cell (j := 0) rfl
    have z1 := hz5.cell (j := 1) rfl
    have zf := hz5.free 0
    have zf1 := hz5.free 1
    have zl := hz5.lt
    have hwz : w.heap.size < w3.heap.size := HZ3.out.lt
    have H5 := Lib.hid h5
    have HF5 := Lib.hid (HF4.out.trans hF5)
    have HWZ := Lib.hid hwz
    clear h5 hF5 hx5 hz5 hn hnx hnz hmv
    go_wp2
    exact bodyPost_ret (v := .tuple #[.agg #[.int .u64 x.1, .int .i64 x.2], .bool true]) (by simp [results, Tryz.results48, go_sem, z0, z1, zl]) rfl ⟨rfl, sl_done (S := [w.heap.size]) (w2 := w3.alloc (.cells #[.int .u64 x.1, .int .i64 x.2] 37)) HLT.out (HU3.out.alloc _) HF5.out H5.out (((Upd.refl _ _).setCell (by simp) _).setCell (by simp) _) (fun c hc => by simp at hc; subst hc; exact ⟨Nat.le_refl _, by have := HWZ.out; simp; omega⟩) HLW.out⟩

/-! ### All, New -/
theorem told_src {w : World} {ao : Option Addr} {n cap : Nat} {L : List It} (hn : L.length = n) (h : RowO w 37 2 ao n cap (L.flatMap itVs)) : Src w 2 ao n (L.flatMap itVs) := by
  subst hn; exact row_src h

set_option maxHeartbeats 8000000 in
theorem SL.all (h : SL W sb base wd L F w) : Calls Tryz.prog 42 #[.pointer (some ⟨sb, 0, none⟩)] w (Told w L []) := by
  obtain ⟨A, B, rfl, wb, hb, fw, fh, h1, h2, h3, rfl⟩ := h
  obtain ⟨i0, hi0, hz0, hz1, hz2⟩ := info_parts infoItem
  obtain ⟨width, p0, p1, p2, -, ls⟩ := h1.cells
  have HH := Lib.hid h1
  rw [List.length_append] at h3
  obtain ⟨n, hn⟩ : ∃ n, A.length = n := ⟨_, rfl⟩
  obtain ⟨m, hm⟩ : ∃ m, B.length = m := ⟨_, rfl⟩
  rw [hn, hm] at h3
  have HN := Lib.hid hn
  have HM := Lib.hid hm
  have HSM : Hid (B.length ≤ 1000) := by unfold Hid; omega
  have H63 : Hid (n + m ≤ maxLen) := by unfold Hid maxLen; omega
  have HBY : Hid ((n + m) * 16 ≤ 140737488355328) := by unfold Hid; omega
  clear h1 h2 h3 hn hm
  go_enter Tryz.func42, Tryz.ntmps42
  go_wp2_with fail
  go_region_law (first | (go_simp; go_at_call 65; refine ((HH.out.upd (Upd.refl [] w).drew).whl.all).mono ?_; rintro e w2 ⟨ao1, cp1, rfl, hR1, hF1, hU1⟩; rw [HN.out] at hR1 ⊢; have HR1 := Lib.hid hR1; have HF1 := Lib.hid hF1; have hUa : Upd [] w w2 := (Upd.refl [] w).drew.trans hU1; have q1 := (hUa.cell ls (by simp) 1).trans p1; have lq := Nat.lt_of_lt_of_le ls hUa.size; have HU1 := Lib.hid hUa; clear hR1 hF1 hU1 hUa) | (go_simp; go_at_call 66; refine (heap_all hb B fh _ (HH.out.upd HU1.out).hp.1 HSM.out).mono ?_; rintro e w3 ⟨ao2, cp2, rfl, hR2, hF2, hU2⟩; rw [HM.out] at hR2 ⊢; have HR3 := Lib.hid (HR1.out.upd hU2 (by simp)); have HSRC := Lib.hid (told_src HM.out hR2); have HU2 : Hid (Upd [] w w3) := HU1.out.trans hU2; clear hR2 hF2 hU2) | (refine step_app2 _ rfl _ _ _ rfl 37 i0 _ 2 16 underlyingItems hi0 hz0 hz1 hz2 rfl Nat.zero_lt_two ao1 n cp1 (A.flatMap itVs) rfl HR3.out ao2 m cp2 (B.flatMap itVs) rfl HSRC.out H63.out HBY.out ?_; intro ao3 cp3 w4 hA; have HA := Lib.hid hA; clear hA))
  all_goals
    go_wp2
    go_ret
    have hsz := HU1.out.size
    have hsz2 := HU2.out.size
    refine ⟨ao3, cp3, by rw [List.length_append, HN.out, HM.out]; rfl, ?_, fun c hc => ?_, HU2.out.then HA.out.upd (fun _ _ h => h) (fun i hi hm => by have := HF1.out i hm; have h3 : w.drew.heap.size = w.heap.size := rfl; omega)⟩
    · rw [List.length_append, HN.out, HM.out, List.flatMap_append]; exact HA.out.row
    · rcases HA.out.at_ c hc with h | h
      · exact HF1.out c h
      · omega
end
end Go.Proofs.YtkepeolbpgnlbaaGreatDoor
