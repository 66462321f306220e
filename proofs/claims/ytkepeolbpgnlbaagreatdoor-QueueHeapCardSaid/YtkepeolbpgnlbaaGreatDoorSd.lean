/-
  A shard: Push, Drop. No condition.
-/
import Derived.Test.YtkepeolbpgnlbaaGreatDoorSc
set_option linter.unusedVariables false
set_option linter.unusedSimpArgs false
namespace Go.Proofs.YtkepeolbpgnlbaaGreatDoor
open Go.RowKit

section
variable {W w : World} {sb wb hb base wd : Nat} {A B : List It} {fw fh : List Nat}
/-- Behind a deed cells may be written that were made ahead of it. -/
theorem sat_done {w2 w3 w4 : World} {base' : Nat} {A' B' : List It} {F fw' fh' S : List Nat} (hF : ∀ c ∈ F, c < w.heap.size) (h0 : Upd [] w w2) (hfr : Fr F (sb :: (fw' ++ fh')) w2 w3) (hs : SAt W w3 sb wb hb base' wd A' B' fw' fh') (hu : Upd S w3 w4) (hSS : ∀ c ∈ S, w.heap.size ≤ c ∧ c < w2.heap.size) (hW : W.heap.size ≤ w.heap.size) :
    SAt W w4 sb wb hb base' wd A' B' fw' fh' ∧ Fr F (sb :: (fw' ++ fh')) w w4 := by
  have hsz := h0.size
  refine ⟨hs.updS hu (fun c hc e => ?_) (fun c hc => by have := hSS c hc; omega), fun c hc => ?_, ?_⟩
  · have h1 := hSS c e
    rcases hfr.1 c hc with h | h
    · have := hF c h; omega
    · omega
  · rcases hfr.1 c hc with h | h
    · exact .inl h
    · right; omega
  · exact (h0.nil.trans hfr.2).then hu (fun _ _ h => h) (fun i hi hm => by have := (hSS i hm).1; omega)
theorem SAt.ltW (h : SAt W w sb wb hb base wd A B fw fh) : W.heap.size ≤ w.heap.size := h.whl.updW.size

theorem dropV_app {A B : List It} (hn : NdI (A ++ B)) (id : Int) : dropV (A ++ B) id = if hasI B id = true then dropV B id else dropV A id := by
  unfold dropV
  rw [findI_app]
  by_cases h : hasI B id = true
  · rw [if_pos h]
    have := nd_app_left hn h
    rw [← findI_none] at this
    rw [this]; rfl
  · rw [if_neg h]
    have h2 : findI B id = none := findI_none.2 (by simpa using h)
    rw [h2]
    cases findI A id <;> rfl

theorem HGTo.up_ {W : World} {hb : Nat} {L : List It} {fp : List Nat} {w w' : World} (h : HGTo W hb L fp w w') : Upd fp w w' := by obtain ⟨_, _, _, h⟩ := h; exact h
theorem WGTo.up_ {W : World} {wb base wd : Nat} {L : List It} {fp : List Nat} {w w' : World} (h : WGTo W wb base wd L fp w w') : Upd fp w w' := by obtain ⟨_, _, _, h⟩ := h; exact h

/-- What a deed leaves of a shard. -/
def SATo (W : World) (sb wb hb base wd : Nat) (A B : List It) (F : List Nat) (w w' : World) : Prop := ∃ fw' fh', SAt W w' sb wb hb base wd A B fw' fh' ∧ Fr F (sb :: (fw' ++ fh')) w w'

set_option maxHeartbeats 4000000 in
theorem SAt.drop (h : SAt W w sb wb hb base wd A B fw fh) (hn : NdI (A ++ B)) (id : Int) : Calls Tryz.prog 50 #[.pointer (some ⟨sb, 0, none⟩), .int .i64 id] w (fun e w' => e = .returned (dropV (A ++ B) id) ∧ SATo W sb wb hb base wd (dropI A id) (dropI B id) (sb :: (fw ++ fh)) w w') := by
  obtain ⟨width, p0, p1, p2, -, ls⟩ := h.cells
  have HH := Lib.hid h
  have HLT := Lib.hid h.lt
  have HLW := Lib.hid h.ltW
  have HZ := Lib.hid (Blk.new w 37 [.int .u64 0, .int .i64 0])
  rw [dropV_app hn]
  cases hb : hasI B id with
  | true =>
    rw [if_pos rfl]
    have hda : Hid (dropI A id = A) := dropI_none (nd_app_left hn hb)
    have HX := Lib.hid hb
    obtain ⟨y, ok, hy⟩ : ∃ y ok, dropV B id = itV y ok := by unfold dropV; split <;> exact ⟨_, _, rfl⟩
    have HY := Lib.hid hy
    rw [hda.out, hy]
    clear h hn hb hy
    go_enter Tryz.func50, Tryz.ntmps50
    go_wp2_with fail
    refine ((HH.out.upd ((Upd.refl [] w).alloc _)).hp.has id).mono ?_
    rintro e w3 ⟨rfl, -, hU⟩
    rw [HX.out]
    have q1 := ((((Upd.refl [] w).alloc _).trans hU).cell ls (by simp) 1).trans p1
    have lq := Nat.lt_of_lt_of_le ls (((Upd.refl [] w).alloc _).trans hU).size
    have HA3 := Lib.hid ((HH.out.upd ((Upd.refl [] w).alloc _)).upd hU)
    clear p0 p1 p2
    go_wp2_with fail
    refine (HA3.out.hp.drop id).mono ?_
    rintro e w4 ⟨rfl, h4⟩
    rw [HY.out]
    unfold itV
    obtain ⟨fh', hA4, hF4⟩ := HA3.out.hstep h4
    have hnn : w.heap.size ∉ fh := fun e => by have := HLT.out w.heap.size (by simp [e]); omega
    have hZ := HZ.out.upd hU (by simp)
    have hZ4 := hZ.upd h4.up_ hnn
    have z0 := hZ4.cell (j := 0) rfl
    have z1 := hZ4.cell (j := 1) rfl
    have zf := hZ4.free 0
    have zf1 := hZ4.free 1
    have zl := hZ4.lt
    have HA4 := Lib.hid hA4
    have HF4 := Lib.hid hF4
    have HU3 : Hid (Upd [] w w3) := ((Upd.refl [] w).alloc _).trans hU
    have hw3 := Lib.hid hZ.lt
    clear hA4 hF4 hnn hZ hZ4 h4 hU
    go_wp2
    exact bodyPost_ret (v := .tuple #[.agg #[.int .u64 y.1, .int .i64 y.2], .bool ok]) (by simp [results, Tryz.results50, go_sem, z0, z1, zl]) rfl ⟨rfl, _, _, sat_done (S := [w.heap.size]) HLT.out HU3.out HF4.out HA4.out (((Upd.refl _ _).setCell (by simp) _).setCell (by simp) _) (fun c hc => by simp at hc; subst hc; exact ⟨Nat.le_refl _, hw3.out⟩) HLW.out⟩
  | false =>
    rw [if_neg (by simp)]
    have hdb : Hid (dropI B id = B) := dropI_none hb
    have HX := Lib.hid hb
    obtain ⟨y, ok, hy⟩ : ∃ y ok, dropV A id = itV y ok := by unfold dropV; split <;> exact ⟨_, _, rfl⟩
    have HY := Lib.hid hy
    rw [hdb.out, hy]
    clear h hn hb hy
    go_enter Tryz.func50, Tryz.ntmps50
    go_wp2_with fail
    refine ((HH.out.upd ((Upd.refl [] w).alloc _)).hp.has id).mono ?_
    rintro e w3 ⟨rfl, -, hU⟩
    rw [HX.out]
    have q0 := ((((Upd.refl [] w).alloc _).trans hU).cell ls (by simp) 0).trans p0
    have lq := Nat.lt_of_lt_of_le ls (((Upd.refl [] w).alloc _).trans hU).size
    have HA3 := Lib.hid ((HH.out.upd ((Upd.refl [] w).alloc _)).upd hU)
    clear p0 p1 p2
    go_wp2_with fail
    refine (HA3.out.whl.drop id).mono ?_
    rintro e w4 ⟨rfl, h4⟩
    rw [HY.out]
    unfold itV
    obtain ⟨fw', hA4, hF4⟩ := HA3.out.wstep h4
    have hnn : w.heap.size ∉ fw := fun e => by have := HLT.out w.heap.size (by simp [e]); omega
    have hZ := HZ.out.upd hU (by simp)
    have hZ4 := hZ.upd h4.up_ hnn
    have z0 := hZ4.cell (j := 0) rfl
    have z1 := hZ4.cell (j := 1) rfl
    have zf := hZ4.free 0
    have zf1 := hZ4.free 1
    have zl := hZ4.lt
    have HA4 := Lib.hid hA4
    have HF4 := Lib.hid hF4
    have HU3 : Hid (Upd [] w w3) := ((Upd.refl [] w).alloc _).trans hU
    have hw3 := Lib.hid hZ.lt
    clear hA4 hF4 hnn hZ hZ4 h4 hU
    go_wp2
    exact bodyPost_ret (v := .tuple #[.agg #[.int .u64 y.1, .int .i64 y.2], .bool ok]) (by simp [results, Tryz.results50, go_sem, z0, z1, zl]) rfl ⟨rfl, _, _, sat_done (S := [w.heap.size]) HLT.out HU3.out HF4.out HA4.out (((Upd.refl _ _).setCell (by simp) _).setCell (by simp) _) (fun c hc => by simp at hc; subst hc; exact ⟨Nat.le_refl _, hw3.out⟩) HLW.out⟩

/-! ### Push -/
theorem item_loads (w : World) (k : Nat) (id : Int) : Blk (w.alloc (.cells #[.int .u64 (k : Int), .int .i64 id] 37)) w.heap.size 37 [.int .u64 (k : Int), .int .i64 id] := Blk.new w 37 [.int .u64 (k : Int), .int .i64 id]

set_option maxHeartbeats 4000000 in
theorem SAt.push_low (h : SAt W w sb wb hb base wd A B fw fh) (h64 : base < 18446744073709551616) (k : Nat) (hk : k < 18446744073709551616) (id : Int) (hlow : k < base) :
    Calls Tryz.prog 44 #[.pointer (some ⟨sb, 0, none⟩), .agg #[.int .u64 k, .int .i64 id]] w (RetUpd [] w (.bool false)) := by
  obtain ⟨width, p0, p1, p2, hwid, ls⟩ := h.cells
  have HH := Lib.hid h
  have HLT := Lib.hid h.lt
  have HLW := Lib.hid h.ltW
  have HLV := Lib.hid (fun w => level_any base k h64 hk width w)
  rw [hwid] at HLV
  obtain ⟨w1, hw1⟩ : ∃ w1, w1 = w.alloc (.cells #[.int .u64 (k : Int), .int .i64 id] 37 (0, 0)) := ⟨_, rfl⟩
  have hU1 : Upd [] w w1 := by rw [hw1]; exact (Upd.refl [] w).alloc _
  have hB1 : Blk w1 w.heap.size 37 [.int .u64 (k : Int), .int .i64 id] := by rw [hw1]; exact item_loads w k id
  have x0 := hB1.cell (j := 0) rfl
  have x1 := hB1.cell (j := 1) rfl
  have xl := hB1.lt
  have q0 := (hU1.cell ls (by simp) 0).trans p0
  have q1 := (hU1.cell ls (by simp) 1).trans p1
  have q2 := (hU1.cell ls (by simp) 2).trans p2
  have lq := Nat.lt_of_lt_of_le ls hU1.size
  have HU1 := Lib.hid hU1
  have HH1 := Lib.hid (HH.out.upd hU1)
  have HW1 := Lib.hid hw1
  have HB1 := Lib.hid hB1
  have HL : Hid (levN wd base k = -1) := by unfold Hid levN; rw [if_pos hlow]
  clear h hwid hw1 hU1 hB1 p0 p1 p2 hlow
  go_enter Tryz.func44, Tryz.ntmps44
  go_wp2_with fail
  rw [← HW1.out]
  go_quiet ((first | (go_at_call 56; exact Calls.quiet_of_same ((SAt.base_ (HH1.out.upd ((Upd.refl [] w1).drewN _))).mono (fun _ _ h => ⟨h.1, h.2.symm⟩))) | (go_at_call 69; exact Calls.quiet_of_same ((HLV.out _).mono (fun _ _ h => ⟨by rw [h.1, HL.out], h.2.symm⟩)))))
  go_wp2
  go_ret
  exact ⟨rfl, HU1.out.drewN _⟩

set_option maxHeartbeats 4000000 in
theorem SAt.push_has (h : SAt W w sb wb hb base wd A B fw fh) (h64 : base < 18446744073709551616) (k : Nat) (hk : k < 18446744073709551616) (id : Int) (hlow : base ≤ k) (hx : hasI (A ++ B) id = true) :
    Calls Tryz.prog 44 #[.pointer (some ⟨sb, 0, none⟩), .agg #[.int .u64 k, .int .i64 id]] w (RetUpd [] w (.bool false)) := by
  obtain ⟨width, p0, p1, p2, hwid, ls⟩ := h.cells
  have HH := Lib.hid h
  have HLT := Lib.hid h.lt
  have HLW := Lib.hid h.ltW
  have HLV := Lib.hid (fun w => level_any base k h64 hk width w)
  rw [hwid] at HLV
  obtain ⟨w1, hw1⟩ : ∃ w1, w1 = w.alloc (.cells #[.int .u64 (k : Int), .int .i64 id] 37 (0, 0)) := ⟨_, rfl⟩
  have hU1 : Upd [] w w1 := by rw [hw1]; exact (Upd.refl [] w).alloc _
  have hB1 : Blk w1 w.heap.size 37 [.int .u64 (k : Int), .int .i64 id] := by rw [hw1]; exact item_loads w k id
  have x0 := hB1.cell (j := 0) rfl
  have x1 := hB1.cell (j := 1) rfl
  have xl := hB1.lt
  have q0 := (hU1.cell ls (by simp) 0).trans p0
  have q1 := (hU1.cell ls (by simp) 1).trans p1
  have q2 := (hU1.cell ls (by simp) 2).trans p2
  have lq := Nat.lt_of_lt_of_le ls hU1.size
  have HU1 := Lib.hid hU1
  have HH1 := Lib.hid (HH.out.upd hU1)
  have HW1 := Lib.hid hw1
  have HB1 := Lib.hid hB1
  obtain ⟨l, hl⟩ : ∃ l, lev3 wd base k = l := ⟨_, rfl⟩
  have HL : Hid (levN wd base k = (l : Int)) := by unfold Hid levN; rw [if_neg (by omega), hl]
  have t1 : decide ((l : Int) < 0) = false := by simp
  have HX := Lib.hid hx
  clear h hwid hw1 hU1 hB1 p0 p1 p2 hlow hl hx
  go_enter Tryz.func44, Tryz.ntmps44
  go_wp2_with fail
  rw [← HW1.out]
  go_quiet ((first | (go_at_call 56; exact Calls.quiet_of_same ((SAt.base_ (HH1.out.upd ((Upd.refl [] w1).drewN _))).mono (fun _ _ h => ⟨h.1, h.2.symm⟩))) | (go_at_call 69; exact Calls.quiet_of_same ((HLV.out _).mono (fun _ _ h => ⟨by rw [h.1, HL.out], h.2.symm⟩)))))
  go_wp2_with fail
  refine ((HH1.out.upd ((Upd.refl [] w1).drewN _)).has id).mono ?_
  rintro e w3 ⟨rfl, hU3⟩
  rw [HX.out]
  go_wp2
  go_ret
  exact ⟨rfl, (HU1.out.drewN _).trans hU3⟩

set_option maxHeartbeats 4000000 in
theorem SAt.push_far (h : SAt W w sb wb hb base wd A B fw fh) (h64 : base < 18446744073709551616) (k : Nat) (hk : k < 18446744073709551616) (id : Int) (hlow : base ≤ k) (hl : lev3 wd base k = 3) (hx : hasI (A ++ B) id = false) (hsm : (A ++ B).length < 1000) :
    Calls Tryz.prog 44 #[.pointer (some ⟨sb, 0, none⟩), .agg #[.int .u64 k, .int .i64 id]] w (fun e w' => e = .returned (.bool true) ∧ SATo W sb wb hb base wd A (insI ((k : Int), id) B) (sb :: (fw ++ fh)) w w') := by
  obtain ⟨width, p0, p1, p2, hwid, ls⟩ := h.cells
  have HH := Lib.hid h
  have HLT := Lib.hid h.lt
  have HLW := Lib.hid h.ltW
  have HLV := Lib.hid (fun w => level_any base k h64 hk width w)
  rw [hwid] at HLV
  obtain ⟨w1, hw1⟩ : ∃ w1, w1 = w.alloc (.cells #[.int .u64 (k : Int), .int .i64 id] 37 (0, 0)) := ⟨_, rfl⟩
  have hU1 : Upd [] w w1 := by rw [hw1]; exact (Upd.refl [] w).alloc _
  have hB1 : Blk w1 w.heap.size 37 [.int .u64 (k : Int), .int .i64 id] := by rw [hw1]; exact item_loads w k id
  have x0 := hB1.cell (j := 0) rfl
  have x1 := hB1.cell (j := 1) rfl
  have xl := hB1.lt
  have q0 := (hU1.cell ls (by simp) 0).trans p0
  have q1 := (hU1.cell ls (by simp) 1).trans p1
  have q2 := (hU1.cell ls (by simp) 2).trans p2
  have lq := Nat.lt_of_lt_of_le ls hU1.size
  have HU1 := Lib.hid hU1
  have HH1 := Lib.hid (HH.out.upd hU1)
  have HW1 := Lib.hid hw1
  have HB1 := Lib.hid hB1
  have HL : Hid (levN wd base k = 3) := by unfold Hid levN; rw [if_neg (by omega), hl]; rfl
  have HX := Lib.hid hx
  rw [hasI_app, Bool.or_eq_false_iff] at hx
  have HXB := Lib.hid hx.2
  have HSM : Hid (B.length < 1000) := by unfold Hid; rw [List.length_append] at hsm; omega
  clear h hwid hw1 hU1 hB1 p0 p1 p2 hlow hl hx hsm
  go_enter Tryz.func44, Tryz.ntmps44
  go_wp2_with fail
  rw [← HW1.out]
  go_quiet ((first | (go_at_call 56; exact Calls.quiet_of_same ((SAt.base_ (HH1.out.upd ((Upd.refl [] w1).drewN _))).mono (fun _ _ h => ⟨h.1, h.2.symm⟩))) | (go_at_call 69; exact Calls.quiet_of_same ((HLV.out _).mono (fun _ _ h => ⟨by rw [h.1, HL.out], h.2.symm⟩)))))
  go_wp2_with fail
  refine ((HH1.out.upd ((Upd.refl [] w1).drewN _)).has id).mono ?_
  rintro e w3 ⟨rfl, hU3⟩
  rw [HX.out]
  have hU13 : Upd [] w1 w3 := ((Upd.refl [] w1).drewN _).trans hU3
  have x0 := (hU13.cell xl (by simp) 0).trans x0
  have x1 := (hU13.cell xl (by simp) 1).trans x1
  have q1 := (hU13.cell lq (by simp) 1).trans q1
  have lq3 := Nat.lt_of_lt_of_le lq hU13.size
  have xl3 := Nat.lt_of_lt_of_le xl hU13.size
  have HH3 := Lib.hid (HH1.out.upd hU13)
  have HU3 : Hid (Upd [] w w3) := HU1.out.trans hU13
  clear hU13 hU3 q0 q2
  go_wp2_with fail
  go_region_with (go_at_call 70; refine ((HH3.out.upd (Upd.refl [] w3).drew).hp.push ((k : Int), id) HSM.out).mono ?_; rintro e w4 ⟨he, h4⟩; rw [HXB.out] at he h4; subst he; rw [if_neg (by simp)] at h4; have H4 := Lib.hid ((HH3.out.upd (Upd.refl [] w3).drew).hstep h4); clear h4)
  all_goals
    go_wp2
    go_ret
    obtain ⟨fh', hA4, hF4⟩ := H4.out
    exact ⟨rfl, fw, fh', hA4, ⟨fun c hc => by rcases hF4.1 c hc with h | h; exact .inl h; exact .inr (Nat.le_trans HU3.out.size h), (HU3.out.drew.nil).trans hF4.2⟩⟩

set_option maxHeartbeats 4000000 in
theorem SAt.push_near (h : SAt W w sb wb hb base wd A B fw fh) (h64 : base < 18446744073709551616) (k : Nat) (hk : k < 18446744073709551616) (id : Int) (hlow : base ≤ k) (h3 : lev3 wd base k < 3) (hx : hasI (A ++ B) id = false) (hsm : (A ++ B).length < 1000) :
    Calls Tryz.prog 44 #[.pointer (some ⟨sb, 0, none⟩), .agg #[.int .u64 k, .int .i64 id]] w (fun e w' => e = .returned (.bool true) ∧ SATo W sb wb hb base wd (insI ((k : Int), id) A) B (sb :: (fw ++ fh)) w w') := by
  obtain ⟨width, p0, p1, p2, hwid, ls⟩ := h.cells
  have HH := Lib.hid h
  have HLT := Lib.hid h.lt
  have HLW := Lib.hid h.ltW
  have HLV := Lib.hid (fun w => level_any base k h64 hk width w)
  rw [hwid] at HLV
  obtain ⟨w1, hw1⟩ : ∃ w1, w1 = w.alloc (.cells #[.int .u64 (k : Int), .int .i64 id] 37 (0, 0)) := ⟨_, rfl⟩
  have hU1 : Upd [] w w1 := by rw [hw1]; exact (Upd.refl [] w).alloc _
  have hB1 : Blk w1 w.heap.size 37 [.int .u64 (k : Int), .int .i64 id] := by rw [hw1]; exact item_loads w k id
  have x0 := hB1.cell (j := 0) rfl
  have x1 := hB1.cell (j := 1) rfl
  have xl := hB1.lt
  have q0 := (hU1.cell ls (by simp) 0).trans p0
  have q1 := (hU1.cell ls (by simp) 1).trans p1
  have q2 := (hU1.cell ls (by simp) 2).trans p2
  have lq := Nat.lt_of_lt_of_le ls hU1.size
  have HU1 := Lib.hid hU1
  have HH1 := Lib.hid (HH.out.upd hU1)
  have HW1 := Lib.hid hw1
  have HB1 := Lib.hid hB1
  obtain ⟨l, hl⟩ : ∃ l, lev3 wd base k = l := ⟨_, rfl⟩
  have HL : Hid (levN wd base k = (l : Int)) := by unfold Hid levN; rw [if_neg (by omega), hl]
  have t1 : decide ((l : Int) < 0) = false := by simp
  have t2 : decide ((2 : Int) < (l : Int)) = false := by simp; omega
  have t3 : decide (2 < l) = false := by simp; omega
  have HX := Lib.hid hx
  rw [hasI_app, Bool.or_eq_false_iff] at hx
  have HFI : Hid ((fitsB base wd k && !hasI A id) = true) := by unfold Hid fitsB; rw [hx.1]; simp [hlow, h3]
  have HSM : Hid (A.length < 1000) := by unfold Hid; rw [List.length_append] at hsm; omega
  have HK := Lib.hid hk
  clear h hwid hw1 hU1 hB1 p0 p1 p2 hlow hl hx hsm h3
  go_enter Tryz.func44, Tryz.ntmps44
  go_wp2_with fail
  rw [← HW1.out]
  go_quiet ((first | (go_at_call 56; exact Calls.quiet_of_same ((SAt.base_ (HH1.out.upd ((Upd.refl [] w1).drewN _))).mono (fun _ _ h => ⟨h.1, h.2.symm⟩))) | (go_at_call 69; exact Calls.quiet_of_same ((HLV.out _).mono (fun _ _ h => ⟨by rw [h.1, HL.out], h.2.symm⟩)))))
  go_wp2_with fail
  refine ((HH1.out.upd ((Upd.refl [] w1).drewN _)).has id).mono ?_
  rintro e w3 ⟨rfl, hU3⟩
  rw [HX.out]
  have hU13 : Upd [] w1 w3 := ((Upd.refl [] w1).drewN _).trans hU3
  have x0 := (hU13.cell xl (by simp) 0).trans x0
  have x1 := (hU13.cell xl (by simp) 1).trans x1
  have q0 := (hU13.cell lq (by simp) 0).trans q0
  have lq3 := Nat.lt_of_lt_of_le lq hU13.size
  have xl3 := Nat.lt_of_lt_of_le xl hU13.size
  have HH3 := Lib.hid (HH1.out.upd hU13)
  have HU3 : Hid (Upd [] w w3) := HU1.out.trans hU13
  clear hU13 hU3 q1 q2
  go_wp2_with fail
  go_region_with (go_at_call 71; refine ((HH3.out.upd (Upd.refl [] w3).drew).whl.push k HK.out id HSM.out).mono ?_; rintro e w4 ⟨he, h4⟩; rw [HFI.out] at he h4; subst he; rw [if_pos rfl] at h4; have H4 := Lib.hid ((HH3.out.upd (Upd.refl [] w3).drew).wstep h4); clear h4)
  all_goals
    go_wp2
    go_ret
    obtain ⟨fw', hA4, hF4⟩ := H4.out
    exact ⟨rfl, fw', fh, hA4, ⟨fun c hc => by rcases hF4.1 c hc with h | h; exact .inl h; exact .inr (Nat.le_trans HU3.out.size h), (HU3.out.drew.nil).trans hF4.2⟩⟩
theorem SAt.b64 (h : SAt W w sb wb hb base wd A B fw fh) : base < 18446744073709551616 := by
  obtain ⟨s, h1, _, rfl, _⟩ := h.whl; exact h1.b64

/-- A shard in blocks that are new since W: items in order. -/
def SL (W : World) (sb base wd : Nat) (L : List It) (F : List Nat) (w : World) : Prop := ∃ A B, L = A ++ B ∧ SG W sb base wd A B F w
def SLTo (W : World) (sb base wd : Nat) (L : List It) (F : List Nat) (w w' : World) : Prop := ∃ F', SL W sb base wd L F' w' ∧ Fr F F' w w'
def takeS (base : Nat) (L : List It) (k : Nat) (id : Int) : Bool := decide (base ≤ k) && !hasI L id
theorem SL.push {L : List It} {F : List Nat} (h : SL W sb base wd L F w) (k : Nat) (hk : k < 18446744073709551616) (id : Int) (hsm : L.length < 1000) :
    Calls Tryz.prog 44 #[.pointer (some ⟨sb, 0, none⟩), .agg #[.int .u64 k, .int .i64 id]] w (fun e w' => e = .returned (.bool (takeS base L k id)) ∧ SLTo W sb base wd (if takeS base L k id = true then insI ((k : Int), id) L else L) F w w') := by
  have h0 := h
  obtain ⟨A, B, rfl, wb, hb, fw, fh, h1, h2, h3, rfl⟩ := h
  have hkn : kn ((k : Int), id) = k := by unfold kn; simp
  by_cases hc : takeS base (A ++ B) k id = true
  · rw [hc, if_pos rfl]
    unfold takeS at hc
    rw [Bool.and_eq_true, decide_eq_true_iff] at hc
    have hx : hasI (A ++ B) id = false := by simpa using hc.2
    have hlen : (insI ((k : Int), id) (A ++ B)).length ≤ 1000 := by rw [(insI_perm _ _).length_eq, List.length_cons]; omega
    by_cases hl : lev3 wd base k < 3
    · obtain ⟨e, ho⟩ := h2.push_near (x := ((k : Int), id)) (by rw [hkn]) (by rw [hkn]; exact hk) (by rw [hkn]; exact hc.1) (by rw [hkn]; exact hl) hx
      refine (h1.push_near h1.b64 k hk id hc.1 hl hx hsm).mono ?_
      rintro e1 w' ⟨rfl, fw', fh', k1, k2⟩
      exact ⟨rfl, _, ⟨_, _, e, wb, hb, fw', fh', k1, ho, by rw [← e]; exact hlen, rfl⟩, k2⟩
    · have hl3 : lev3 wd base k = 3 := by have := lev3_le wd base k; omega
      obtain ⟨e, ho⟩ := h2.push_far (x := ((k : Int), id)) (by rw [hkn]) (by rw [hkn]; exact hk) (by rw [hkn]; exact hc.1) (by rw [hkn]; exact hl3) hx
      refine (h1.push_far h1.b64 k hk id hc.1 hl3 hx hsm).mono ?_
      rintro e1 w' ⟨rfl, fw', fh', k1, k2⟩
      exact ⟨rfl, _, ⟨_, _, e, wb, hb, fw', fh', k1, ho, by rw [← e]; exact hlen, rfl⟩, k2⟩
  · have hcf : takeS base (A ++ B) k id = false := by simpa using hc
    rw [hcf, if_neg (by simp)]
    unfold takeS at hcf
    have hno : ∀ w', RetUpd [] w (.bool false) (.returned (.bool false)) w' → SLTo W sb base wd (A ++ B) (sb :: (fw ++ fh)) w w' := fun w' hr => ⟨_, ⟨A, B, rfl, wb, hb, fw, fh, h1.upd hr.2, h2, h3, rfl⟩, Fr.of hr.2⟩
    by_cases hb1 : base ≤ k
    · have hx : hasI (A ++ B) id = true := by simpa [hb1] using hcf
      refine (h1.push_has h1.b64 k hk id hb1 hx).mono ?_
      rintro e w' ⟨rfl, hU⟩
      exact ⟨rfl, hno w' ⟨rfl, hU⟩⟩
    · refine (h1.push_low h1.b64 k hk id (by omega)).mono ?_
      rintro e w' ⟨rfl, hU⟩
      exact ⟨rfl, hno w' ⟨rfl, hU⟩⟩
theorem SL.drop {L : List It} {F : List Nat} (h : SL W sb base wd L F w) (id : Int) :
    Calls Tryz.prog 50 #[.pointer (some ⟨sb, 0, none⟩), .int .i64 id] w (fun e w' => e = .returned (dropV L id) ∧ SLTo W sb base wd (dropI L id) F w w') := by
  obtain ⟨A, B, rfl, wb, hb, fw, fh, h1, h2, h3, rfl⟩ := h
  refine (h1.drop h2.nd id).mono ?_
  rintro e w' ⟨rfl, fw', fh', k1, k2⟩
  refine ⟨rfl, _, ⟨_, _, dropI_app A B id, wb, hb, fw', fh', k1, h2.drop id, ?_, rfl⟩, k2⟩
  rw [← dropI_app]
  exact Nat.le_trans (List.length_filter_le _ _) h3
end
end Go.Proofs.YtkepeolbpgnlbaaGreatDoor
