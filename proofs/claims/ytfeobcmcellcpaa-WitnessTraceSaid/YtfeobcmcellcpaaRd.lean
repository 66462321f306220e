/-
  The walk of the law WitnessTrace. No condition.
-/
import Derived.Test.YtfeobcmcellcpaaRc
set_option linter.unusedVariables false
set_option linter.unusedSimpArgs false
namespace Go.Proofs.Ytfeobcmcellcpaa
open Go.RowKit

/-- Where the law goes on: its plan lies at b3, the points at ao. -/
structure WtAt (w wr : World) (b3 bl m : Nat) (A B C D : Int) (U : Nat) (E : List Li) (ao : Option Addr) (k cap : Nat) (X : List Pt) : Prop where
  blk : Blk wr b3 27 [.int .i64 A, .int .i64 B, .int .i64 C, .int .i64 D, .int .u64 U, .slice (some ⟨bl, 0, none⟩) m m]
  pl : PlanAt wr (.agg #[.int .i64 A, .int .i64 B, .int .i64 C, .int .i64 D, .int .u64 U, .slice (some ⟨bl, 0, none⟩) m m]) ⟨⟨A, B, C, D, U⟩, E⟩
  pts : PtsAt' wr (.slice ao k cap) X
  upd : Upd [] w wr
theorem WtAt.upd' {w wr w' : World} {b3 bl m : Nat} {A B C D : Int} {U : Nat} {E : List Li} {ao : Option Addr} {k cap : Nat} {X : List Pt} (h : WtAt w wr b3 bl m A B C D U E ao k cap X) (hu : Upd [] wr w') : WtAt w w' b3 bl m A B C D U E ao k cap X :=
  ⟨h.blk.upd hu (by simp), h.pl.upd hu, h.pts.upd hu, h.upd.trans hu⟩

set_option maxRecDepth 100000 in
set_option maxHeartbeats 16000000 in
theorem wtrace_walk {w : World} (A0 B0 C0 D0 : Int) (U0 : Nat) {v tv : Value} {L : List Li} {tn : Nat} {T : Nat → Nat → Int} (hl : ListsAt w v L) (ht : RowsAt w [.i64] tv tn T) (n at_ : Int) : Calls Try.prog 4 #[.agg #[.int .i64 A0, .int .i64 B0, .int .i64 C0, .int .i64 D0, .int .u64 U0], v, tv, .int .i64 n, .int .i64 at_] w (RetUpd [] w (.bool true)) := by
  have HL := Lib.hid hl
  have HT := Lib.hid ht
  obtain ⟨-, aop, capp, rfl, -⟩ := lists_at hl
  obtain ⟨aot, capt, rfl, -, -⟩ := tn_cells ht
  obtain ⟨ln, hln⟩ : ∃ y, L.length = y := ⟨_, rfl⟩
  rw [hln] at HL ⊢
  obtain ⟨w1, hw1⟩ : ∃ y, w.alloc (.cells #[.int .i64 A0, .int .i64 B0, .int .i64 C0, .int .i64 D0, .int .u64 U0] 24) = y := ⟨_, rfl⟩
  have u1 : Upd [] w w1 := by rw [← hw1]; exact (Upd.refl [] w).alloc _
  have b1 : Blk w1 w.heap.size 24 [.int .i64 A0, .int .i64 B0, .int .i64 C0, .int .i64 D0, .int .u64 U0] := by rw [← hw1]; exact Blk.new w 24 [.int .i64 A0, .int .i64 B0, .int .i64 C0, .int .i64 D0, .int .u64 U0]
  have x0 := b1.cell (j := 0) rfl
  have x1 := b1.cell (j := 1) rfl
  have x2 := b1.cell (j := 2) rfl
  have x3 := b1.cell (j := 3) rfl
  have x4 := b1.cell (j := 4) rfl
  have lx := b1.lt
  have HU1 := Lib.hid u1
  have HW : Hid (Calls Try.prog 13 #[.agg #[.int .i64 A0, .int .i64 B0, .int .i64 C0, .int .i64 D0, .int .u64 U0], .slice aop ln capp, .int .i64 30] w1 (WideTo w1)) := pwide_some A0 B0 C0 D0 U0 (HL.out.upd u1) 30 (by omega)
  clear u1 b1 hl ht hln
  go_enter Try.func4, Try.ntmps4
  go_wp2_with fail
  clear hw1
  refine HW.out.mono ?_
  rintro e w2 ⟨A, B, C, D, U, bl, E, rfl, hls, hrc, hec, hu2⟩
  obtain ⟨m, hm⟩ : ∃ y, E.length = y := ⟨_, rfl⟩
  have HM := Lib.hid hm
  rw [hm] at hls ⊢
  have hu2w : Upd [] w w2 := HU1.out.trans hu2
  have HRC : Hid (rightC ⟨A, B, C, D, U⟩ = true) := hrc
  have hm6 : 1 ≤ m ∧ m ≤ 6 := by have := (rightC_bd hrc).2.2.1; simp only at this; omega
  obtain ⟨w3, hw3⟩ : ∃ y, w2.alloc (.cells #[.int .i64 A, .int .i64 B, .int .i64 C, .int .i64 D, .int .u64 U, .slice (some ⟨bl, 0, none⟩) m m] 27) = y := ⟨_, rfl⟩
  have u3 : Upd [] w2 w3 := by rw [← hw3]; exact (Upd.refl [] w2).alloc _
  obtain ⟨b3, hb3⟩ : ∃ y, w2.heap.size = y := ⟨_, rfl⟩
  have hblk : Blk w3 b3 27 [.int .i64 A, .int .i64 B, .int .i64 C, .int .i64 D, .int .u64 U, .slice (some ⟨bl, 0, none⟩) m m] := by rw [← hw3, ← hb3]; exact Blk.new w2 27 [.int .i64 A, .int .i64 B, .int .i64 C, .int .i64 D, .int .u64 U, .slice (some ⟨bl, 0, none⟩) m m]
  have HB3 := Lib.hid hblk
  have HPL : Hid (PlanAt w3 (.agg #[.int .i64 A, .int .i64 B, .int .i64 C, .int .i64 D, .int .u64 U, .slice (some ⟨bl, 0, none⟩) m m]) ⟨⟨A, B, C, D, U⟩, E⟩) := ⟨_, rfl, hls.upd u3⟩
  have HU3 : Hid (Upd [] w w3) := hu2w.trans u3
  clear x0 x1 x2 x3 x4 lx hls hrc hec hu2 hu2w u3 hblk hm HW
  have y0 := HB3.out.cell (j := 0) rfl
  have y1 := HB3.out.cell (j := 1) rfl
  have y2 := HB3.out.cell (j := 2) rfl
  have y3 := HB3.out.cell (j := 3) rfl
  have y4 := HB3.out.cell (j := 4) rfl
  have y5 := HB3.out.cell (j := 5) rfl
  have ly := HB3.out.lt
  have HTR : Hid (Calls Try.prog 14 #[.agg #[.int .i64 A, .int .i64 B, .int .i64 C, .int .i64 D, .int .u64 U, .slice (some ⟨bl, 0, none⟩) m m], .slice aot tn capt, .int .i64 50] w3 (TrTo w3 ⟨⟨A, B, C, D, U⟩, E⟩ 50)) := trace_some HPL.out HRC.out (HT.out.upd HU3.out (by simp)) 50 (by omega) (by rw [show (Pl.mk ⟨A, B, C, D, U⟩ E).L.length = m from HM.out]; exact hm6.1) (by rw [show (Pl.mk ⟨A, B, C, D, U⟩ E).L.length = m from HM.out]; exact hm6.2)
  clear hm6
  go_upto_region 2 with (fail)
  clear hw3 hb3
  go_wp2_with fail
  refine HTR.out.mono ?_
  rintro e w4 ⟨ao, k, cap, X, rfl, htx, hk, hrun, hbd, hu4⟩
  clear y0 y1 y2 y3 y4 y5 ly
  obtain ⟨mm, hrun⟩ := hrun
  have HRUN := Lib.hid hrun
  have HBD := Lib.hid hbd
  have HK := Lib.hid hk
  have HLX : Hid (X.length = k) := htx.len
  have HQ : Hid (WtAt w w4 b3 bl m A B C D U E ao k cap X) := ⟨HB3.out.upd hu4 (by simp), HPL.out.upd hu4, htx.at_, HU3.out.trans hu4⟩
  have HROW : Hid (RowO w4 49 7 ao k cap (X.flatMap ptVs)) := htx.row
  have HPX : Hid (playsM ⟨⟨A, B, C, D, U⟩, E⟩ X = some mm) := by unfold Hid; rw [plays_of HRC.out]; exact hrun
  have HAW : Hid (∀ w', Upd [] w4 w' → Calls Try.prog 8 #[] w' (RetUpd [] w' (.bool true))) := fun w' _ => awake27_any w'
  have HP1 : Hid (∀ w', Upd [] w4 w' → Calls Try.prog 9 #[.agg #[.int .i64 A, .int .i64 B, .int .i64 C, .int .i64 D, .int .u64 U, .slice (some ⟨bl, 0, none⟩) m m], .slice ao k cap] w' (RetUpd [] w' (.bool true))) := fun w' hu => by
    have := wplays_any (ok := fun _ => True) (HQ.out.pl.upd hu) (HQ.out.pts.upd hu) (do_ok _ _) (fun _ _ _ _ => trivial) (by rw [HLX.out]; exact Nat.le_trans HK.out (by decide))
    rw [HPX.out] at this
    exact this
  clear htx hrun hbd hk hu4 HTR HB3 HPL HU3
  rcases HROW.out.cases with ⟨rfl, rfl, rfl, -⟩ | ⟨g, rfl, hrow⟩
  · have HQ0 : Hid (modI n 1 = 0) := by have := modI_bd n 1 (by omega) (by omega); unfold Hid; omega
    have HMO : Hid (∀ w', Upd [] w4 w' → Calls Try.prog 15 #[.int .i64 n, .int .i64 1] w' (RetUpd [] w' (.int .i64 0))) := fun w' _ => (mod_any n 1 (by omega) (by omega) w').mono (fun e w2 h => ⟨by rw [h.1, HQ0.out], by rw [h.2]; exact Upd.refl _ _⟩)
    have HP2 := HP1
    have HBK := Lib.hid HQ.out.blk
    have y0 := HBK.out.cell (j := 0) rfl
    have y1 := HBK.out.cell (j := 1) rfl
    have y2 := HBK.out.cell (j := 2) rfl
    have y3 := HBK.out.cell (j := 3) rfl
    have y4 := HBK.out.cell (j := 4) rfl
    have y5 := HBK.out.cell (j := 5) rfl
    have ly := HBK.out.lt
    go_upto_region 3 with (fail)
    refine wp_region_held_drew (S := fun w' => Upd [] w4 w' ∧ ∀ (b o : Nat), b < w4.heap.size → b ∉ [] → w'.cell? ⟨b, o, none⟩ = w4.cell? ⟨b, o, none⟩) (by kernel_rfl) (Held.init _ _) (fun hHeld => ?_)
    refine wpAnyH_ready (rs := [0]) (by kernel_rfl) (by simp) ?_
    refine AllReadyH.cons rfl (fun K hK => ?_) AllReadyH.nil
    go_simp
    go_at_call 8
    refine (HAW.out _ hHeld.1).mono ?_
    rintro e w6 ⟨rfl, hB⟩
    refine hK.out _ _ (Held.step hHeld hB) (fun hHeldN => ?_)
    clear hK K hHeld hB
    have hHeld := hHeldN
    clear hHeldN
    try simp only [List.getElem_toArray, List.getElem_cons_zero, List.getElem_cons_succ, Act.put, List.setIfInBounds_toArray, List.set_cons_zero, List.set_cons_succ]
    refine wpAnyH_take (i := 1) (v := ?_) rfl (by kernel_rfl) (by kernel_rfl) (by kernel_rfl) (fun _ _ _ h => h) (Or.inl ⟨by rfl, ?_⟩) (by assumption) ?_
    rotate_left
    · intro w hSw
      try dsimp only at hSw
      go_simp
      try with_reducible rfl
    try simp only [List.getElem_toArray, List.getElem_cons_zero, List.getElem_cons_succ, Act.put, List.setIfInBounds_toArray, List.set_cons_zero, List.set_cons_succ]
    refine wpAnyH_take (i := 2) (v := ?_) rfl (by kernel_rfl) (by kernel_rfl) (by kernel_rfl) (fun _ _ _ h => h) (Or.inl ⟨by rfl, ?_⟩) (by assumption) ?_
    rotate_left
    · intro w hSw
      try dsimp only at hSw
      go_simp
      try with_reducible rfl
    try simp only [List.getElem_toArray, List.getElem_cons_zero, List.getElem_cons_succ, Act.put, List.setIfInBounds_toArray, List.set_cons_zero, List.set_cons_succ]
    refine wpAnyH_take (i := 3) (v := ?_) rfl (by kernel_rfl) (by kernel_rfl) (by kernel_rfl) (fun _ _ _ h => h) (Or.inl ⟨by rfl, ?_⟩) (by assumption) ?_
    rotate_left
    · intro w hSw
      try dsimp only at hSw
      go_simp
      try with_reducible rfl
    try simp only [List.getElem_toArray, List.getElem_cons_zero, List.getElem_cons_succ, Act.put, List.setIfInBounds_toArray, List.set_cons_zero, List.set_cons_succ]
    refine wpAnyH_take (i := 4) (v := ?_) rfl (by kernel_rfl) (by kernel_rfl) (by kernel_rfl) (fun _ _ _ h => h) (Or.inl ⟨by rfl, ?_⟩) (by assumption) ?_
    rotate_left
    · intro w hSw
      try dsimp only at hSw
      go_simp
      try with_reducible rfl
    try simp only [List.getElem_toArray, List.getElem_cons_zero, List.getElem_cons_succ, Act.put, List.setIfInBounds_toArray, List.set_cons_zero, List.set_cons_succ]
    refine wpAnyH_ready (rs := [5]) (by kernel_rfl) (by simp) ?_
    refine AllReadyH.cons rfl (fun K hK => ?_) AllReadyH.nil
    go_simp
    go_at_call 9
    refine (HP1.out _ hHeld.1).mono ?_
    rintro e w6 ⟨rfl, hB⟩
    refine hK.out _ _ (Held.step hHeld hB) (fun hHeldN => ?_)
    clear hK K hHeld hB
    have hHeld := hHeldN
    clear hHeldN
    try simp only [List.getElem_toArray, List.getElem_cons_zero, List.getElem_cons_succ, Act.put, List.setIfInBounds_toArray, List.set_cons_zero, List.set_cons_succ]
    refine wpAnyH_take (i := 6) (v := ?_) rfl (by kernel_rfl) (by kernel_rfl) (by kernel_rfl) (fun _ _ _ h => h) (Or.inl ⟨by rfl, ?_⟩) (by assumption) ?_
    rotate_left
    · intro w hSw
      try dsimp only at hSw
      go_simp
      try with_reducible rfl
    try simp only [List.getElem_toArray, List.getElem_cons_zero, List.getElem_cons_succ, Act.put, List.setIfInBounds_toArray, List.set_cons_zero, List.set_cons_succ]
    refine wpAnyH_take (i := 7) (v := ?_) rfl (by kernel_rfl) (by kernel_rfl) (by kernel_rfl) (fun _ _ _ h => h) (Or.inl ⟨by rfl, ?_⟩) (by assumption) ?_
    rotate_left
    · intro w hSw
      try dsimp only at hSw
      go_simp
      try with_reducible rfl
    try simp only [List.getElem_toArray, List.getElem_cons_zero, List.getElem_cons_succ, Act.put, List.setIfInBounds_toArray, List.set_cons_zero, List.set_cons_succ]
    refine wpAnyH_take (i := 8) (v := ?_) rfl (by kernel_rfl) (by kernel_rfl) (by kernel_rfl) (fun _ _ _ h => h) (Or.inl ⟨by rfl, ?_⟩) (by assumption) ?_
    rotate_left
    · intro w hSw
      try dsimp only at hSw
      go_simp
      try with_reducible rfl
    try simp only [List.getElem_toArray, List.getElem_cons_zero, List.getElem_cons_succ, Act.put, List.setIfInBounds_toArray, List.set_cons_zero, List.set_cons_succ]
    refine wpAnyH_take (i := 9) (v := ?_) rfl (by kernel_rfl) (by kernel_rfl) (by kernel_rfl) (fun _ _ _ h => h) (Or.inl ⟨by rfl, ?_⟩) (by assumption) ?_
    rotate_left
    · intro w hSw
      try dsimp only at hSw
      go_simp
      try with_reducible rfl
    try simp only [List.getElem_toArray, List.getElem_cons_zero, List.getElem_cons_succ, Act.put, List.setIfInBounds_toArray, List.set_cons_zero, List.set_cons_succ]
    refine wpAnyH_take (i := 10) (v := ?_) rfl (by kernel_rfl) (by kernel_rfl) (by kernel_rfl) (fun _ _ _ h => h) (Or.inl ⟨by rfl, ?_⟩) (by assumption) ?_
    rotate_left
    · intro w hSw
      try dsimp only at hSw
      go_simp
      try with_reducible rfl
    try simp only [List.getElem_toArray, List.getElem_cons_zero, List.getElem_cons_succ, Act.put, List.setIfInBounds_toArray, List.set_cons_zero, List.set_cons_succ]
    refine wpAnyH_take (i := 11) (v := ?_) rfl (by kernel_rfl) (by kernel_rfl) (by kernel_rfl) (fun _ _ _ h => h) (Or.inl ⟨by rfl, ?_⟩) (by assumption) ?_
    rotate_left
    · intro w hSw
      try dsimp only at hSw
      go_simp
      try with_reducible rfl
    try simp only [List.getElem_toArray, List.getElem_cons_zero, List.getElem_cons_succ, Act.put, List.setIfInBounds_toArray, List.set_cons_zero, List.set_cons_succ]
    refine wpAnyH_take (i := 12) (v := ?_) rfl (by kernel_rfl) (by kernel_rfl) (by kernel_rfl) (fun _ _ _ h => h) (Or.inl ⟨by rfl, ?_⟩) (by assumption) ?_
    rotate_left
    · intro w hSw
      try dsimp only at hSw
      go_simp
      try with_reducible rfl
    try simp only [List.getElem_toArray, List.getElem_cons_zero, List.getElem_cons_succ, Act.put, List.setIfInBounds_toArray, List.set_cons_zero, List.set_cons_succ]
    refine wpAnyH_take (i := 13) (v := ?_) rfl (by kernel_rfl) (by kernel_rfl) (by kernel_rfl) (fun _ _ _ h => h) (Or.inl ⟨by rfl, ?_⟩) (by assumption) ?_
    rotate_left
    · intro w hSw
      try dsimp only at hSw
      go_simp
      try with_reducible rfl
    try simp only [List.getElem_toArray, List.getElem_cons_zero, List.getElem_cons_succ, Act.put, List.setIfInBounds_toArray, List.set_cons_zero, List.set_cons_succ]
    refine wpAnyH_take (i := 14) (v := ?_) rfl (by kernel_rfl) (by kernel_rfl) (by kernel_rfl) (fun _ _ _ h => h) (Or.inl ⟨by rfl, ?_⟩) (by assumption) ?_
    rotate_left
    · intro w hSw
      try dsimp only at hSw
      go_simp
      try with_reducible rfl
    try simp only [List.getElem_toArray, List.getElem_cons_zero, List.getElem_cons_succ, Act.put, List.setIfInBounds_toArray, List.set_cons_zero, List.set_cons_succ]
    skip
    refine wpAnyH_ready (rs := [15]) (by kernel_rfl) (by simp) ?_
    refine AllReadyH.cons rfl (fun K hK => ?_) AllReadyH.nil
    go_simp
    go_at_call 15
    refine (HMO.out _ hHeld.1).mono ?_
    rintro e w6 ⟨rfl, hB⟩
    refine hK.out _ _ (Held.step hHeld hB) (fun hHeldN => ?_)
    clear hK K hHeld hB
    have hHeld := hHeldN
    clear hHeldN
    try simp only [List.getElem_toArray, List.getElem_cons_zero, List.getElem_cons_succ, Act.put, List.setIfInBounds_toArray, List.set_cons_zero, List.set_cons_succ]
    refine wpAnyH_take (i := 16) (v := ?_) rfl (by kernel_rfl) (by kernel_rfl) (by kernel_rfl) (fun _ _ _ h => h) (Or.inl ⟨by rfl, ?_⟩) (by assumption) ?_
    rotate_left
    · intro w hSw
      try dsimp only at hSw
      go_simp
      try with_reducible rfl
    try simp only [List.getElem_toArray, List.getElem_cons_zero, List.getElem_cons_succ, Act.put, List.setIfInBounds_toArray, List.set_cons_zero, List.set_cons_succ]
    refine wpAnyH_ready (rs := [17]) (by kernel_rfl) (by simp) ?_
    refine AllReadyH.cons rfl (fun K hK => ?_) AllReadyH.nil
    go_simp
    go_at_call 9
    refine (HP2.out _ hHeld.1).mono ?_
    rintro e w6 ⟨rfl, hB⟩
    refine hK.out _ _ (Held.step hHeld hB) (fun hHeldN => ?_)
    clear hK K hHeld hB
    have hHeld := hHeldN
    clear hHeldN
    try simp only [List.getElem_toArray, List.getElem_cons_zero, List.getElem_cons_succ, Act.put, List.setIfInBounds_toArray, List.set_cons_zero, List.set_cons_succ]
    refine wpAnyH_take (i := 18) (v := ?_) rfl (by kernel_rfl) (by kernel_rfl) (by kernel_rfl) (fun _ _ _ h => h) (Or.inl ⟨by rfl, ?_⟩) (by assumption) ?_
    rotate_left
    · intro w hSw
      try dsimp only at hSw
      go_simp
      try with_reducible rfl
    try simp only [List.getElem_toArray, List.getElem_cons_zero, List.getElem_cons_succ, Act.put, List.setIfInBounds_toArray, List.set_cons_zero, List.set_cons_succ]
    refine wpAnyH_take (i := 19) (v := ?_) rfl (by kernel_rfl) (by kernel_rfl) (by kernel_rfl) (fun _ _ _ h => h) (Or.inl ⟨by rfl, ?_⟩) (by assumption) ?_
    rotate_left
    · intro w hSw
      try dsimp only at hSw
      go_simp
      try with_reducible rfl
    try simp only [List.getElem_toArray, List.getElem_cons_zero, List.getElem_cons_succ, Act.put, List.setIfInBounds_toArray, List.set_cons_zero, List.set_cons_succ]
    refine wpAnyH_done (by kernel_rfl) ?_ _
    clear y0 y1 y2 y3 y4 y5 ly
    go_wp2_with fail
    go_ret
    exact ⟨rfl, HQ.out.upd.trans hHeld.1⟩
  · obtain ⟨q, hq, hqk⟩ : ∃ q : Nat, modI n ((k : Int) + 1) = q ∧ q ≤ k := ⟨(modI n ((k : Int) + 1)).toNat, by have := modI_bd n ((k : Int) + 1) (by omega) (by have := HK.out; omega); omega, by have := modI_bd n ((k : Int) + 1) (by omega) (by have := HK.out; omega); omega⟩
    have HMO : Hid (∀ w', Upd [] w4 w' → Calls Try.prog 15 #[.int .i64 n, .int .i64 ((k : Int) + 1)] w' (RetUpd [] w' (.int .i64 q))) := fun w' _ => (mod_any n ((k : Int) + 1) (by omega) (by have := HK.out; omega) w').mono (fun e w2 h => ⟨by rw [h.1, hq], by rw [h.2]; exact Upd.refl _ _⟩)
    have wk1 : IntKind.i64.wrap ((k : Int) + 1) = (k : Int) + 1 := by have := HK.out; rw [IntKind.wrap_i64]; omega
    have hkc := HROW.out.cap_le.1
    have hqc : q ≤ cap := by omega
    have fk : k + 1 ≤ 9223372036854775807 := by have := HK.out; omega
    have HP2 : Hid (∀ w', Upd [] w4 w' → Calls Try.prog 9 #[.agg #[.int .i64 A, .int .i64 B, .int .i64 C, .int .i64 D, .int .u64 U, .slice (some ⟨bl, 0, none⟩) m m], .slice (some ⟨g, 0, none⟩) q cap] w' (RetUpd [] w' (.bool true))) := fun w' hu => by
      have := wplays_any (ok := fun _ => True) (HQ.out.pl.upd hu) (pts_take (cap' := cap) (HQ.out.pts.upd hu) q (by rw [HLX.out]; exact hqk)) (do_ok _ _) (fun _ _ _ _ => trivial) (by rw [List.length_take, HLX.out]; exact Nat.le_trans (Nat.min_le_right _ _) (Nat.le_trans HK.out (by decide)))
      obtain ⟨m', hm'⟩ := runM_take HRUN.out q
      rw [plays_of HRC.out, hm'] at this
      exact this
    clear hq hqk
    have HBK := Lib.hid HQ.out.blk
    have y0 := HBK.out.cell (j := 0) rfl
    have y1 := HBK.out.cell (j := 1) rfl
    have y2 := HBK.out.cell (j := 2) rfl
    have y3 := HBK.out.cell (j := 3) rfl
    have y4 := HBK.out.cell (j := 4) rfl
    have y5 := HBK.out.cell (j := 5) rfl
    have ly := HBK.out.lt
    go_upto_region 3 with (fail)
    refine wp_region_held_drew (S := fun w' => Upd [] w4 w' ∧ ∀ (b o : Nat), b < w4.heap.size → b ∉ [] → w'.cell? ⟨b, o, none⟩ = w4.cell? ⟨b, o, none⟩) (by kernel_rfl) (Held.init _ _) (fun hHeld => ?_)
    refine wpAnyH_ready (rs := [0]) (by kernel_rfl) (by simp) ?_
    refine AllReadyH.cons rfl (fun K hK => ?_) AllReadyH.nil
    go_simp
    go_at_call 8
    refine (HAW.out _ hHeld.1).mono ?_
    rintro e w6 ⟨rfl, hB⟩
    refine hK.out _ _ (Held.step hHeld hB) (fun hHeldN => ?_)
    clear hK K hHeld hB
    have hHeld := hHeldN
    clear hHeldN
    try simp only [List.getElem_toArray, List.getElem_cons_zero, List.getElem_cons_succ, Act.put, List.setIfInBounds_toArray, List.set_cons_zero, List.set_cons_succ]
    refine wpAnyH_take (i := 1) (v := ?_) rfl (by kernel_rfl) (by kernel_rfl) (by kernel_rfl) (fun _ _ _ h => h) (Or.inl ⟨by rfl, ?_⟩) (by assumption) ?_
    rotate_left
    · intro w hSw
      try dsimp only at hSw
      go_simp
      try with_reducible rfl
    try simp only [List.getElem_toArray, List.getElem_cons_zero, List.getElem_cons_succ, Act.put, List.setIfInBounds_toArray, List.set_cons_zero, List.set_cons_succ]
    refine wpAnyH_take (i := 2) (v := ?_) rfl (by kernel_rfl) (by kernel_rfl) (by kernel_rfl) (fun _ _ _ h => h) (Or.inl ⟨by rfl, ?_⟩) (by assumption) ?_
    rotate_left
    · intro w hSw
      try dsimp only at hSw
      go_simp
      try with_reducible rfl
    try simp only [List.getElem_toArray, List.getElem_cons_zero, List.getElem_cons_succ, Act.put, List.setIfInBounds_toArray, List.set_cons_zero, List.set_cons_succ]
    refine wpAnyH_take (i := 3) (v := ?_) rfl (by kernel_rfl) (by kernel_rfl) (by kernel_rfl) (fun _ _ _ h => h) (Or.inl ⟨by rfl, ?_⟩) (by assumption) ?_
    rotate_left
    · intro w hSw
      try dsimp only at hSw
      go_simp
      try with_reducible rfl
    try simp only [List.getElem_toArray, List.getElem_cons_zero, List.getElem_cons_succ, Act.put, List.setIfInBounds_toArray, List.set_cons_zero, List.set_cons_succ]
    refine wpAnyH_take (i := 4) (v := ?_) rfl (by kernel_rfl) (by kernel_rfl) (by kernel_rfl) (fun _ _ _ h => h) (Or.inl ⟨by rfl, ?_⟩) (by assumption) ?_
    rotate_left
    · intro w hSw
      try dsimp only at hSw
      go_simp
      try with_reducible rfl
    try simp only [List.getElem_toArray, List.getElem_cons_zero, List.getElem_cons_succ, Act.put, List.setIfInBounds_toArray, List.set_cons_zero, List.set_cons_succ]
    refine wpAnyH_ready (rs := [5]) (by kernel_rfl) (by simp) ?_
    refine AllReadyH.cons rfl (fun K hK => ?_) AllReadyH.nil
    go_simp
    go_at_call 9
    refine (HP1.out _ hHeld.1).mono ?_
    rintro e w6 ⟨rfl, hB⟩
    refine hK.out _ _ (Held.step hHeld hB) (fun hHeldN => ?_)
    clear hK K hHeld hB
    have hHeld := hHeldN
    clear hHeldN
    try simp only [List.getElem_toArray, List.getElem_cons_zero, List.getElem_cons_succ, Act.put, List.setIfInBounds_toArray, List.set_cons_zero, List.set_cons_succ]
    refine wpAnyH_take (i := 6) (v := ?_) rfl (by kernel_rfl) (by kernel_rfl) (by kernel_rfl) (fun _ _ _ h => h) (Or.inl ⟨by rfl, ?_⟩) (by assumption) ?_
    rotate_left
    · intro w hSw
      try dsimp only at hSw
      go_simp
      try with_reducible rfl
    try simp only [List.getElem_toArray, List.getElem_cons_zero, List.getElem_cons_succ, Act.put, List.setIfInBounds_toArray, List.set_cons_zero, List.set_cons_succ]
    refine wpAnyH_take (i := 7) (v := ?_) rfl (by kernel_rfl) (by kernel_rfl) (by kernel_rfl) (fun _ _ _ h => h) (Or.inl ⟨by rfl, ?_⟩) (by assumption) ?_
    rotate_left
    · intro w hSw
      try dsimp only at hSw
      go_simp
      try with_reducible rfl
    try simp only [List.getElem_toArray, List.getElem_cons_zero, List.getElem_cons_succ, Act.put, List.setIfInBounds_toArray, List.set_cons_zero, List.set_cons_succ]
    refine wpAnyH_take (i := 8) (v := ?_) rfl (by kernel_rfl) (by kernel_rfl) (by kernel_rfl) (fun _ _ _ h => h) (Or.inl ⟨by rfl, ?_⟩) (by assumption) ?_
    rotate_left
    · intro w hSw
      try dsimp only at hSw
      go_simp
      try with_reducible rfl
    try simp only [List.getElem_toArray, List.getElem_cons_zero, List.getElem_cons_succ, Act.put, List.setIfInBounds_toArray, List.set_cons_zero, List.set_cons_succ]
    refine wpAnyH_take (i := 9) (v := ?_) rfl (by kernel_rfl) (by kernel_rfl) (by kernel_rfl) (fun _ _ _ h => h) (Or.inl ⟨by rfl, ?_⟩) (by assumption) ?_
    rotate_left
    · intro w hSw
      try dsimp only at hSw
      go_simp
      try with_reducible rfl
    try simp only [List.getElem_toArray, List.getElem_cons_zero, List.getElem_cons_succ, Act.put, List.setIfInBounds_toArray, List.set_cons_zero, List.set_cons_succ]
    refine wpAnyH_take (i := 10) (v := ?_) rfl (by kernel_rfl) (by kernel_rfl) (by kernel_rfl) (fun _ _ _ h => h) (Or.inl ⟨by rfl, ?_⟩) (by assumption) ?_
    rotate_left
    · intro w hSw
      try dsimp only at hSw
      go_simp
      try with_reducible rfl
    try simp only [List.getElem_toArray, List.getElem_cons_zero, List.getElem_cons_succ, Act.put, List.setIfInBounds_toArray, List.set_cons_zero, List.set_cons_succ]
    refine wpAnyH_take (i := 11) (v := ?_) rfl (by kernel_rfl) (by kernel_rfl) (by kernel_rfl) (fun _ _ _ h => h) (Or.inl ⟨by rfl, ?_⟩) (by assumption) ?_
    rotate_left
    · intro w hSw
      try dsimp only at hSw
      go_simp
      try with_reducible rfl
    try simp only [List.getElem_toArray, List.getElem_cons_zero, List.getElem_cons_succ, Act.put, List.setIfInBounds_toArray, List.set_cons_zero, List.set_cons_succ]
    refine wpAnyH_take (i := 12) (v := ?_) rfl (by kernel_rfl) (by kernel_rfl) (by kernel_rfl) (fun _ _ _ h => h) (Or.inl ⟨by rfl, ?_⟩) (by assumption) ?_
    rotate_left
    · intro w hSw
      try dsimp only at hSw
      go_simp
      try with_reducible rfl
    try simp only [List.getElem_toArray, List.getElem_cons_zero, List.getElem_cons_succ, Act.put, List.setIfInBounds_toArray, List.set_cons_zero, List.set_cons_succ]
    refine wpAnyH_take (i := 13) (v := ?_) rfl (by kernel_rfl) (by kernel_rfl) (by kernel_rfl) (fun _ _ _ h => h) (Or.inl ⟨by rfl, ?_⟩) (by assumption) ?_
    rotate_left
    · intro w hSw
      try dsimp only at hSw
      go_simp
      try with_reducible rfl
    try simp only [List.getElem_toArray, List.getElem_cons_zero, List.getElem_cons_succ, Act.put, List.setIfInBounds_toArray, List.set_cons_zero, List.set_cons_succ]
    refine wpAnyH_take (i := 14) (v := ?_) rfl (by kernel_rfl) (by kernel_rfl) (by kernel_rfl) (fun _ _ _ h => h) (Or.inl ⟨by rfl, ?_⟩) (by assumption) ?_
    rotate_left
    · intro w hSw
      try dsimp only at hSw
      go_simp
      try with_reducible rfl
    try simp only [List.getElem_toArray, List.getElem_cons_zero, List.getElem_cons_succ, Act.put, List.setIfInBounds_toArray, List.set_cons_zero, List.set_cons_succ]
    skip
    refine wpAnyH_ready (rs := [15]) (by kernel_rfl) (by simp) ?_
    refine AllReadyH.cons rfl (fun K hK => ?_) AllReadyH.nil
    go_simp
    go_at_call 15
    refine (HMO.out _ hHeld.1).mono ?_
    rintro e w6 ⟨rfl, hB⟩
    refine hK.out _ _ (Held.step hHeld hB) (fun hHeldN => ?_)
    clear hK K hHeld hB
    have hHeld := hHeldN
    clear hHeldN
    try simp only [List.getElem_toArray, List.getElem_cons_zero, List.getElem_cons_succ, Act.put, List.setIfInBounds_toArray, List.set_cons_zero, List.set_cons_succ]
    refine wpAnyH_take (i := 16) (v := ?_) rfl (by kernel_rfl) (by kernel_rfl) (by kernel_rfl) (fun _ _ _ h => h) (Or.inl ⟨by rfl, ?_⟩) (by assumption) ?_
    rotate_left
    · intro w hSw
      try dsimp only at hSw
      go_simp
      try with_reducible rfl
    try simp only [List.getElem_toArray, List.getElem_cons_zero, List.getElem_cons_succ, Act.put, List.setIfInBounds_toArray, List.set_cons_zero, List.set_cons_succ]
    refine wpAnyH_ready (rs := [17]) (by kernel_rfl) (by simp) ?_
    refine AllReadyH.cons rfl (fun K hK => ?_) AllReadyH.nil
    go_simp
    go_at_call 9
    refine (HP2.out _ hHeld.1).mono ?_
    rintro e w6 ⟨rfl, hB⟩
    refine hK.out _ _ (Held.step hHeld hB) (fun hHeldN => ?_)
    clear hK K hHeld hB
    have hHeld := hHeldN
    clear hHeldN
    try simp only [List.getElem_toArray, List.getElem_cons_zero, List.getElem_cons_succ, Act.put, List.setIfInBounds_toArray, List.set_cons_zero, List.set_cons_succ]
    refine wpAnyH_take (i := 18) (v := ?_) rfl (by kernel_rfl) (by kernel_rfl) (by kernel_rfl) (fun _ _ _ h => h) (Or.inl ⟨by rfl, ?_⟩) (by assumption) ?_
    rotate_left
    · intro w hSw
      try dsimp only at hSw
      go_simp
      try with_reducible rfl
    try simp only [List.getElem_toArray, List.getElem_cons_zero, List.getElem_cons_succ, Act.put, List.setIfInBounds_toArray, List.set_cons_zero, List.set_cons_succ]
    refine wpAnyH_take (i := 19) (v := ?_) rfl (by kernel_rfl) (by kernel_rfl) (by kernel_rfl) (fun _ _ _ h => h) (Or.inl ⟨by rfl, ?_⟩) (by assumption) ?_
    rotate_left
    · intro w hSw
      try dsimp only at hSw
      go_simp
      try with_reducible rfl
    try simp only [List.getElem_toArray, List.getElem_cons_zero, List.getElem_cons_succ, Act.put, List.setIfInBounds_toArray, List.set_cons_zero, List.set_cons_succ]
    refine wpAnyH_done (by kernel_rfl) ?_ _
    clear y0 y1 y2 y3 y4 y5 ly
    have HQ5 := Lib.hid (HQ.out.upd' hHeld.1)
    have HROW5 := Lib.hid (hrow.upd hHeld.1 (by simp))
    have HU5 : Hid (Upd [] w4 w6) := hHeld.1
    clear hHeld hqc fk HP1 HP2 HAW HMO wk1 hkc
    obtain ⟨w5, ew5⟩ : ∃ y : World, y = w6 := ⟨_, rfl⟩
    subst ew5
    by_cases hk2 : k < 2
    · have t1 : decide (k < 2) = true := by simp [hk2]
      have t1' : decide ((k : Int) < 2) = true := by simp; omega
      go_wp2_with fail
      go_ret
      exact ⟨rfl, HQ5.out.upd⟩
    · have t1 : decide (k < 2) = false := by simp; omega
      have t1' : decide ((k : Int) < 2) = false := by simp; omega
      obtain ⟨k1, rfl⟩ : ∃ k1, k = k1 + 1 := ⟨k - 1, by omega⟩
      have hk1 : 1 ≤ k1 := by omega
      have wk := wt_small (Nat.le_trans (Nat.le_of_succ_le HK.out) (by decide : 50 ≤ 60))
      have wk1 := wk.1
      have wk2 := wk.2.1
      have wk3 := wk.2.2
      obtain ⟨j, hj, hjk⟩ : ∃ j : Nat, modI at_ (k1 : Int) = j ∧ j < k1 := ⟨(modI at_ (k1 : Int)).toNat, by have := modI_bd at_ (k1 : Int) (by omega) (by have := HK.out; omega); omega, by have := modI_bd at_ (k1 : Int) (by omega) (by have := HK.out; omega); omega⟩
      have HMJ : Hid (∀ w', Calls Try.prog 15 #[.int .i64 at_, .int .i64 k1] w' (fun e w2 => e = .returned (.int .i64 j) ∧ w' = w2)) := fun w' => by rw [← hj]; exact mod_any at_ (k1 : Int) (by omega) (by have := HK.out; omega) w'
      have HJ : Hid (j < k1) := hjk
      clear hk2 hj hjk wk
      go_wp2_with fail
      refine (HMJ.out _).mono ?_
      rintro e w9 ⟨rfl, rfl⟩
      have hjl := HJ.out
      have HXL : Hid (j < X.length ∧ j + 1 < X.length ∧ j + 1 ≠ j) := wt_len HLX.out HJ.out
      obtain ⟨p0, hp0⟩ : ∃ x, X[j]? = some x := ⟨_, List.getElem?_eq_getElem HXL.out.1⟩
      obtain ⟨p1, hp1⟩ : ∃ x, X[j + 1]? = some x := ⟨_, List.getElem?_eq_getElem HXL.out.2.1⟩
      have hb0 := HBD.out p0 (List.mem_of_getElem? hp0)
      have HPB : Hid (0 ≤ p0.step ∧ p0.step ≤ 150) := ⟨hb0.1, hb0.2.1⟩
      have HP0 := Lib.hid hp0
      have HP1' := Lib.hid hp1
      obtain ⟨d, hd⟩ : ∃ y, modI n 3 = y := ⟨_, rfl⟩
      have hdb := wt_modI n 3 (by decide) (by decide)
      rw [hd] at hdb
      have HDB : Hid (0 ≤ d ∧ d ≤ 2) := hdb
      have HMD : Hid (∀ w', Calls Try.prog 15 #[.int .i64 n, .int .i64 3] w' (fun e w2 => e = .returned (.int .i64 d) ∧ w' = w2)) := fun w' => by rw [← hd]; exact mod_any n 3 (by decide) (by decide) w'
      obtain ⟨d9, hd9⟩ : ∃ y, modI n 100 = y := ⟨_, rfl⟩
      have hdb9 := wt_modI n 100 (by decide) (by decide)
      rw [hd9] at hdb9
      have HDB9 : Hid (0 ≤ d9 ∧ d9 ≤ 99) := hdb9
      have HMH : Hid (∀ w', Calls Try.prog 15 #[.int .i64 n, .int .i64 100] w' (fun e w2 => e = .returned (.int .i64 d9) ∧ w' = w2)) := fun w' => by rw [← hd9]; exact mod_any n 100 (by decide) (by decide) w'
      have ws := (wt_sub HPB.out.1 (Int.le_trans HPB.out.2 (by decide)) HDB.out.1 (Int.le_trans HDB.out.2 (by decide))).1
      have WSW := Lib.hid (wt_wrap HPB.out.1 (Int.le_trans HPB.out.2 (by decide)) HDB.out.1 (Int.le_trans HDB.out.2 (by decide))).1
      have ws9 := (wt_sub HPB.out.1 (Int.le_trans HPB.out.2 (by decide)) HDB9.out.1 (Int.le_trans HDB9.out.2 (by decide))).2
      obtain ⟨ip, hip, hpz0, hpz1, hpz2⟩ := info_parts infoPt_
      have HSRC : Hid (∀ w', Upd [] w5 w' → Src w' 7 (some ⟨g, 0, none⟩) (k1 + 1) (X.flatMap ptVs)) := fun w' hu => pts_src ((HROW5.out.upd hu (by simp)).o) (fun x hx => (HQ5.out.pts.2 x hx).upd hu)
      have HBN : Hid (0 + (k1 + 1) ≤ maxLen ∧ (0 + (k1 + 1)) * 72 ≤ 140737488355328) := wt_bn HK.out
      clear hb0 hdb hdb9 hd hd9 hp0 hp1 hrow t1 t1'
      go_upto_region 9 with (at_builtin; (refine wpList_app2 _ (by rfl) _ _ _ (by rfl) 49 ip _ 7 72 underlyingPts_ hip hpz0 hpz1 hpz2 rfl (by omega) none 0 0 [] (by rfl) (RowO.nil _ _ _) (some ⟨g, 0, none⟩) (k1 + 1) cap (X.flatMap ptVs) (by rfl) (HSRC.out _ (Upd.refl _ _)) HBN.out.1 HBN.out.2 ?_); (intro ao7 cap7 w7 hA7; have HA7 := Lib.hid hA7; clear hA7))
      have hA7 := HA7.out
      rw [Nat.zero_add, List.nil_append] at hA7
      try rw [Nat.zero_add]
      obtain ⟨g7, rfl, hrow7⟩ := hA7.row.row (Nat.succ_pos k1)
      have hu7 : Upd [] w5 w7 := hA7.upd
      have HG7 : Hid (g7 = w5.heap.size) := by rcases hA7.at_ g7 (by simp [blkO]) with h | h; cases h; exact h
      have HROW7 := Lib.hid hrow7
      have HU7 := Lib.hid hu7
      have e0 := pts_cell hrow7 HP0.out 0 (by decide) rfl
      have e1 := pts_cell hrow7 HP1'.out 0 (by decide) rfl
      have f1 := hrow7.free ((j + 1) * 7)
      have l7 := hrow7.lt
      obtain ⟨i0, i1, i2, i3, i5, i6, i7, i8, i4⟩ := wt_ix HJ.out HK.out
      simp only [Nat.add_zero] at e0 e1
      clear hA7 hu7 HA7 hrow7
      have c0 : w7.drew.cell? ⟨g7, j * 7, none⟩ = _ := e0
      have c1 : w7.drew.cell? ⟨g7, (j + 1) * 7, none⟩ = _ := e1
      have k1f : w7.drew.frozen? ⟨g7, (j + 1) * 7, none⟩ = false := f1
      go_cut [] (fun wx => Row wx 49 7 g7 (k1 + 1) cap7 ((X.set (j + 1) (setStep p1 (p0.step - d))).flatMap ptVs) ∧ Upd [g7] w7 wx)
      case first =>
        go_region_with (go_at_call 15; refine (HMD.out _).mono ?_; rintro e w9 ⟨rfl, rfl⟩)
        all_goals go_wp2_with fail
        all_goals go_meet
        all_goals rw [WSW.out]
        all_goals exact ⟨(pts_put HROW7.out HP1'.out 0 (by decide) (.int .i64 (p0.step - d)) rfl).drew, ((Upd.refl [g7] w7).setCell (.inl (by simp)) _).drew⟩
      case rest =>
        obtain ⟨hY, huY⟩ := hcut
        have HY := Lib.hid hY
        have hu5c : Upd [] w5 wc := HU7.out.then huY (fun _ _ h => h) (fun i hi hm => wt_fresh (Nat.le_of_eq HG7.out.symm) hi hm)
        have HUC := Lib.hid hu5c
        have HPY : Hid (Calls Try.prog 9 #[.agg #[.int .i64 A, .int .i64 B, .int .i64 C, .int .i64 D, .int .u64 U, .slice (some ⟨bl, 0, none⟩) m m], .slice (some ⟨g7, 0, none⟩) (k1 + 1) cap7] wc (RetUpd [] wc (.bool false))) := by
          have hpt : ∀ x ∈ X, PtAt wc x := fun x hx => (HQ5.out.pts.2 x hx).upd hu5c
          have h1 : PtsAt' wc (.slice (some ⟨g7, 0, none⟩) (k1 + 1) cap7) (X.set (j + 1) (setStep p1 (p0.step - d))) := ⟨by rw [List.length_set, HLX.out]; exact hY.o.sl, set_at hpt (hpt p1 (List.mem_of_getElem? HP1'.out))⟩
          have := wplays_any (ok := fun _ => True) (HQ5.out.pl.upd hu5c) h1 (do_ok _ _) (fun _ _ _ _ => trivial) (by rw [List.length_set, HLX.out]; exact Nat.le_trans HK.out (by decide))
          rw [plays_of HRC.out, runM_step_bad (k := j) (a := p0) (b := setStep p1 (p0.step - d)) (by rw [List.getElem?_set_ne HXL.out.2.2]; exact HP0.out) (by rw [List.getElem?_set_self HXL.out.2.1]) (Int.sub_le_self p0.step HDB.out.1)] at this
          exact this
        have HBK := Lib.hid (HQ5.out.upd' hu5c).blk
        have y0 := HBK.out.cell (j := 0) rfl
        have y1 := HBK.out.cell (j := 1) rfl
        have y2 := HBK.out.cell (j := 2) rfl
        have y3 := HBK.out.cell (j := 3) rfl
        have y4 := HBK.out.cell (j := 4) rfl
        have y5 := HBK.out.cell (j := 5) rfl
        have ly := HBK.out.lt
        clear hY huY hu5c e0 e1 f1 l7 c0 c1 k1f
        go_wp2_with fail
        refine HPY.out.mono ?_
        rintro e wd ⟨rfl, hud⟩
        have HUD := Lib.hid (HUC.out.trans hud)
        clear hud
        clear y0 y1 y2 y3 y4 y5 ly
        go_upto_region 13 with (at_builtin; (refine wpList_app2 _ (by rfl) _ _ _ (by rfl) 49 ip _ 7 72 underlyingPts_ hip hpz0 hpz1 hpz2 rfl (by omega) none 0 0 [] (by rfl) (RowO.nil _ _ _) (some ⟨g, 0, none⟩) (k1 + 1) cap (X.flatMap ptVs) (by rfl) (HSRC.out _ HUD.out) HBN.out.1 HBN.out.2 ?_); (intro ao8 cap8 w8 hA8; have HA8 := Lib.hid hA8; clear hA8))
        have hA8 := HA8.out
        rw [Nat.zero_add, List.nil_append] at hA8
        try rw [Nat.zero_add]
        obtain ⟨g8, rfl, hrow8⟩ := hA8.row.row (Nat.succ_pos k1)
        have hu8 : Upd [] wd w8 := hA8.upd
        have HG8 : Hid (g8 = wd.heap.size) := by rcases hA8.at_ g8 (by simp [blkO]) with h | h; cases h; exact h
        have HROW8 := Lib.hid hrow8
        have e5 := pts_cell hrow8 HP0.out 5 (by decide) rfl
        have f5 := hrow8.free (j * 7 + 5)
        have l8 := hrow8.lt
        have HU8 := Lib.hid (HUD.out.trans hu8)
        clear hA8 hu8 HA8 hrow8
        go_upto_region 14 with ((refine (HMH.out _).mono ?_); (rintro e w' ⟨rfl, rfl⟩))
        obtain ⟨we, hwe⟩ : ∃ y, w8.setCell ⟨g8, j * 7 + 5, none⟩ (.int .i64 (-1 - d9)) = y := ⟨_, rfl⟩
        have hZ : Row we 49 7 g8 (k1 + 1) cap8 ((X.set j (setN p0 (-1 - d9))).flatMap ptVs) := by rw [← hwe]; exact pts_put HROW8.out HP0.out 5 (by decide) (.int .i64 (-1 - d9)) rfl
        have hue : Upd [] w5 we := HU8.out.then (T := [g8]) (by rw [← hwe]; exact (Upd.refl [g8] w8).setCell (.inl (by simp)) _) (fun _ _ h => h) (fun i hi hm => wt_fresh (by rw [HG8.out]; exact HUD.out.size) hi hm)
        try rw [ws9]
        rw [hwe]
        have HUE := Lib.hid hue
        have HPZ : Hid (Calls Try.prog 9 #[.agg #[.int .i64 A, .int .i64 B, .int .i64 C, .int .i64 D, .int .u64 U, .slice (some ⟨bl, 0, none⟩) m m], .slice (some ⟨g8, 0, none⟩) (k1 + 1) cap8] we (RetUpd [] we (.bool false))) := by
          have hpt : ∀ x ∈ X, PtAt we x := fun x hx => (HQ5.out.pts.2 x hx).upd hue
          have h1 : PtsAt' we (.slice (some ⟨g8, 0, none⟩) (k1 + 1) cap8) (X.set j (setN p0 (-1 - d9))) := ⟨by rw [List.length_set, HLX.out]; exact hZ.o.sl, set_at hpt (hpt p0 (List.mem_of_getElem? HP0.out))⟩
          have := wplays_any (ok := fun _ => True) (HQ5.out.pl.upd hue) h1 (do_ok _ _) (fun _ _ _ _ => trivial) (by rw [List.length_set, HLX.out]; exact Nat.le_trans HK.out (by decide))
          rw [plays_of HRC.out, runM_n_bad (k := j) (a := setN p0 (-1 - d9)) (by rw [List.getElem?_set_self HXL.out.1]) (wt_neg HDB9.out.1)] at this
          exact this
        have HDP : Hid (∀ w', Upd [] w5 w' → Calls Try.prog 6 #[.agg #[.int .i64 A, .int .i64 B, .int .i64 C, .int .i64 D, .int .u64 U, .slice (some ⟨bl, 0, none⟩) m m], .slice (some ⟨g, 0, none⟩) (k1 + 1) cap] w' (DPlTo w ⟨⟨A, B, C, D, U⟩, E⟩ X w')) := fun w' hu => dplays_any (Nat.le_trans HQ5.out.upd.size hu.size) (HQ5.out.pl.upd hu) (HQ5.out.pts.upd hu) (by rw [HLX.out]; exact Nat.le_trans HK.out (by decide))
        have HBK := Lib.hid (HQ5.out.upd' hue).blk
        have y0 := HBK.out.cell (j := 0) rfl
        have y1 := HBK.out.cell (j := 1) rfl
        have y2 := HBK.out.cell (j := 2) rfl
        have y3 := HBK.out.cell (j := 3) rfl
        have y4 := HBK.out.cell (j := 4) rfl
        have y5 := HBK.out.cell (j := 5) rfl
        have ly := HBK.out.lt
        clear hwe hZ hue e5 f5 l8
        go_wp2_with fail
        refine HPZ.out.mono ?_
        rintro e wf ⟨rfl, huf⟩
        have HUF := Lib.hid (HUE.out.trans huf)
        clear huf
        clear y0 y1 y2 y3 y4 y5 ly
        have HBK := Lib.hid (HQ5.out.upd' HUF.out).blk
        have y0 := HBK.out.cell (j := 0) rfl
        have y1 := HBK.out.cell (j := 1) rfl
        have y2 := HBK.out.cell (j := 2) rfl
        have y3 := HBK.out.cell (j := 3) rfl
        have y4 := HBK.out.cell (j := 4) rfl
        have y5 := HBK.out.cell (j := 5) rfl
        have ly := HBK.out.lt
        go_wp2_with fail
        refine (HDP.out _ HUF.out).mono ?_
        rintro e wg hto
        rcases hto with ⟨m', mb, G, hpm, rfl, -, -, hu, -⟩ | ⟨hpm, rfl, hu⟩
        · go_wp2_with fail
          go_ret
          exact ⟨rfl, HQ5.out.upd.trans (HUF.out.trans hu)⟩
        · rw [HPX.out] at hpm; cases hpm
end Go.Proofs.Ytfeobcmcellcpaa
