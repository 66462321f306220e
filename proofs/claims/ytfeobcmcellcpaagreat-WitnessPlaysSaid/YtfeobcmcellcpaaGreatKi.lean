/-
  The walk of the law WitnessPlays. No condition.
-/
import Derived.Test.YtfeobcmcellcpaaGreatPK3
import Derived.Test.YtfeobcmcellcpaaGreatRa
import Derived.Test.YtfeobcmcellcpaaGreatRb
set_option linter.unusedVariables false
set_option linter.unusedSimpArgs false
namespace Go.Proofs.YtfeobcmcellcpaaGreat
open Go.RowKit

def WpAt (w8 : World) (fv : Value) (wr : World) : Prop := ∃ f : Int, fv = .int .i64 f ∧ -1 ≤ f ∧ f ≤ 6 ∧ w8 = wr
theorem wp_f {f : Int} (h1 : -1 ≤ f) (h2 : f < 6) : wrap64 (f + 1) = f + 1 ∧ IntKind.i64.wrap (f + 1) = f + 1 ∧ -1 ≤ f + 1 ∧ f + 1 ≤ 6 ∧ 7 - (f + 1 + 1).toNat < 7 - (f + 1).toNat := by
  simp only [IntKind.wrap_i64]
  unfold wrap64
  omega
theorem wp_meas {f : Int} (h1 : -1 ≤ f) (h2 : f < 6) : 7 - (intOf (.int .i64 (f + 1)) + 1).toNat < 7 - (intOf (.int .i64 f) + 1).toNat := by simp [intOf]; omega

set_option maxRecDepth 100000 in
set_option maxHeartbeats 16000000 in
theorem wplays_walk {w : World} (A0 B0 C0 D0 : Int) (U0 : Nat) {v tv : Value} {L : List Li} {tn : Nat} {T : Nat → Nat → Int} (hl : ListsAt w v L) (ht : RowsAt w [.i64] tv tn T) (kind at_ n : Int) : Calls Tryz.prog 10 #[.agg #[.int .i64 A0, .int .i64 B0, .int .i64 C0, .int .i64 D0, .int .u64 U0], v, tv, .int .i64 kind, .int .i64 at_, .int .i64 n] w (RetUpd [] w (.bool true)) := by
  have HL := Lib.hid hl
  have HT := Lib.hid ht
  obtain ⟨-, aop, capp, rfl, -⟩ := lists_at hl
  obtain ⟨aot, capt, rfl, -, -⟩ := tn_cells ht
  obtain ⟨ln, hln⟩ : ∃ y, L.length = y := ⟨_, rfl⟩
  rw [hln] at HL ⊢
  obtain ⟨w1, hw1⟩ : ∃ y, w.alloc (.cells #[.int .i64 A0, .int .i64 B0, .int .i64 C0, .int .i64 D0, .int .u64 U0] 24) = y := ⟨_, rfl⟩
  have u1 : Upd [] w w1 := by rw [← hw1]; exact (Upd.refl [] w).alloc _
  have b1 : Blk w1 w.heap.size 24 [.int .i64 A0, .int .i64 B0, .int .i64 C0, .int .i64 D0, .int .u64 U0] := by rw [← hw1]; exact Blk.new w 24 [.int .i64 A0, .int .i64 B0, .int .i64 C0, .int .i64 D0, .int .u64 U0]
  have x0 := b1.cell (j := 0) rfl
  have x1 := b1.cell (j := 1) rfl
  have x2 := b1.cell (j := 2) rfl
  have x3 := b1.cell (j := 3) rfl
  have x4 := b1.cell (j := 4) rfl
  have lx := b1.lt
  have HU1 := Lib.hid u1
  have HW : Hid (Calls Tryz.prog 18 #[.agg #[.int .i64 A0, .int .i64 B0, .int .i64 C0, .int .i64 D0, .int .u64 U0], .slice aop ln capp, .int .i64 30] w1 (WideTo w1)) := pwide_some A0 B0 C0 D0 U0 (HL.out.upd u1) 30 (by omega)
  clear u1 b1 hl ht hln
  go_enter Tryz.func10, Tryz.ntmps10
  go_wp2_with fail
  clear hw1
  refine HW.out.mono ?_
  rintro e w2 ⟨A, B, C, D, U, bl, E, rfl, hls, hrc, hec, hu2⟩
  obtain ⟨m, hm⟩ : ∃ y, E.length = y := ⟨_, rfl⟩
  have HM := Lib.hid hm
  rw [hm] at hls ⊢
  have hu2w : Upd [] w w2 := HU1.out.trans hu2
  have HRC : Hid (rightC ⟨A, B, C, D, U⟩ = true) := hrc
  have hm6 : 1 ≤ m ∧ m ≤ 6 := by have := (rightC_bd hrc).2.2.1; simp only at this; omega
  obtain ⟨w3, hw3⟩ : ∃ y, w2.alloc (.cells #[.int .i64 A, .int .i64 B, .int .i64 C, .int .i64 D, .int .u64 U, .slice (some ⟨bl, 0, none⟩) m m] 29) = y := ⟨_, rfl⟩
  have u3 : Upd [] w2 w3 := by rw [← hw3]; exact (Upd.refl [] w2).alloc _
  obtain ⟨b3, hb3⟩ : ∃ y, w2.heap.size = y := ⟨_, rfl⟩
  have hblk : Blk w3 b3 29 [.int .i64 A, .int .i64 B, .int .i64 C, .int .i64 D, .int .u64 U, .slice (some ⟨bl, 0, none⟩) m m] := by rw [← hw3, ← hb3]; exact Blk.new w2 29 [.int .i64 A, .int .i64 B, .int .i64 C, .int .i64 D, .int .u64 U, .slice (some ⟨bl, 0, none⟩) m m]
  have HB3 := Lib.hid hblk
  have HPL : Hid (PlanAt w3 (.agg #[.int .i64 A, .int .i64 B, .int .i64 C, .int .i64 D, .int .u64 U, .slice (some ⟨bl, 0, none⟩) m m]) ⟨⟨A, B, C, D, U⟩, E⟩) := ⟨_, rfl, hls.upd u3⟩
  have HU3 : Hid (Upd [] w w3) := hu2w.trans u3
  clear x0 x1 x2 x3 x4 lx hls hrc hec hu2 hu2w u3 hblk hm HW
  have y0 := HB3.out.cell (j := 0) rfl
  have y1 := HB3.out.cell (j := 1) rfl
  have y2 := HB3.out.cell (j := 2) rfl
  have y3 := HB3.out.cell (j := 3) rfl
  have y4 := HB3.out.cell (j := 4) rfl
  have y5 := HB3.out.cell (j := 5) rfl
  have ly := HB3.out.lt
  have HTR : Hid (Calls Tryz.prog 12 #[.agg #[.int .i64 A, .int .i64 B, .int .i64 C, .int .i64 D, .int .u64 U, .slice (some ⟨bl, 0, none⟩) m m], .slice aot tn capt, .int .i64 50] w3 (TrTo w3 ⟨⟨A, B, C, D, U⟩, E⟩ 50)) := trace_some HPL.out HRC.out (HT.out.upd HU3.out (by simp)) 50 (by omega) (by rw [show (Pl.mk ⟨A, B, C, D, U⟩ E).L.length = m from HM.out]; exact hm6.1) (by rw [show (Pl.mk ⟨A, B, C, D, U⟩ E).L.length = m from HM.out]; exact hm6.2)
  clear hm6
  go_upto_region 2 with (fail)
  clear hw3 hb3
  go_wp2_with fail
  refine HTR.out.mono ?_
  rintro e w4 ⟨ao, k, cap, X, rfl, htx, hk, hrun, hbd, hu4⟩
  clear y0 y1 y2 y3 y4 y5 ly
  have HB3 := Lib.hid (HB3.out.upd hu4 (by simp))
  have HPL := Lib.hid (HPL.out.upd hu4)
  have HU3 := Lib.hid (HU3.out.trans hu4)
  have HBT : Hid (Calls Tryz.prog 14 #[.slice ao k cap, .int .i64 kind, .int .i64 at_, .int .i64 n] w4 (BentTo w4)) := bent_some htx.at_ (by rw [htx.len]; exact Nat.le_trans hk (by decide)) (fun x hx => (hbd x hx).2.2.2) kind at_ n
  clear htx hk hrun hbd hu4 HTR
  go_wp2_with fail
  refine HBT.out.mono ?_
  rintro e w5 ⟨ao, k, cap, X, rfl, hpx, hxl, hk60, -, hu5⟩
  have HPT := Lib.hid hpx
  have HB3 := Lib.hid (HB3.out.upd hu5 (by simp))
  have HPL := Lib.hid (HPL.out.upd hu5)
  have HU3 := Lib.hid (HU3.out.trans hu5)
  have HXL : Hid (X.length = k) := hxl
  have HX60 : Hid (X.length ≤ 60) := by unfold Hid; rw [hxl]; exact hk60
  have HLEN : Hid (X.length ≤ 288230376151711744) := by unfold Hid; rw [hxl]; exact Nat.le_trans hk60 (by decide)
  have HDP : Hid (Calls Tryz.prog 21 #[.agg #[.int .i64 A, .int .i64 B, .int .i64 C, .int .i64 D, .int .u64 U, .slice (some ⟨bl, 0, none⟩) m m], .slice ao k cap] w5 (DPlTo w ⟨⟨A, B, C, D, U⟩, E⟩ X w5)) := dplays_any HU3.out.size HPL.out HPT.out HLEN.out
  clear hpx hxl hk60 hu5 HBT
  have y0 := HB3.out.cell (j := 0) rfl
  have y1 := HB3.out.cell (j := 1) rfl
  have y2 := HB3.out.cell (j := 2) rfl
  have y3 := HB3.out.cell (j := 3) rfl
  have y4 := HB3.out.cell (j := 4) rfl
  have y5 := HB3.out.cell (j := 5) rfl
  have ly := HB3.out.lt
  go_wp2_with fail
  refine HDP.out.mono ?_
  rintro e w6 hto
  have HWA := Lib.hid hto
  clear y0 y1 y2 y3 y4 y5 ly
  rcases hto with ⟨md, mb, G, hpm, rfl, hdg, hng, hu6, hmn⟩ | ⟨hpm, rfl, hu6⟩
  · have HPM : Hid (playsM ⟨⟨A, B, C, D, U⟩, E⟩ X = some md) := hpm
    have HDG := Lib.hid hdg
    -- what is known, at a later world: hu6 the Upd
    have HB3 := Lib.hid (HB3.out.upd hu6 (by simp))
    have HPL := Lib.hid (HPL.out.upd hu6)
    have HU3 := Lib.hid (HU3.out.trans hu6)
    have HPT := Lib.hid (HPT.out.upd hu6)
    clear hpm hu6 HWA hdg hng hmn
    have HWM : Hid (Calls Tryz.prog 27 #[.agg #[.int .i64 A, .int .i64 B, .int .i64 C, .int .i64 D, .int .u64 U, .slice (some ⟨bl, 0, none⟩) m m], .slice ao k cap] w6 (WMTo w ⟨⟨A, B, C, D, U⟩, E⟩ X w6)) := wmodel_any (ok := fun _ => True) HU3.out.size HPL.out HPT.out (do_ok _ _) (fun _ _ _ _ => trivial) HLEN.out
    have y0 := HB3.out.cell (j := 0) rfl
    have y1 := HB3.out.cell (j := 1) rfl
    have y2 := HB3.out.cell (j := 2) rfl
    have y3 := HB3.out.cell (j := 3) rfl
    have y4 := HB3.out.cell (j := 4) rfl
    have y5 := HB3.out.cell (j := 5) rfl
    have ly := HB3.out.lt
    go_wp2_with fail
    refine HWM.out.mono ?_
    rintro e w7 hto
    clear y0 y1 y2 y3 y4 y5 ly
    rcases hto with ⟨m1, mb1, G1, hpm1, rfl, hmg, -, hu7, -⟩ | ⟨hpm1, rfl, hu7⟩
    rotate_left
    · rw [HPM.out] at hpm1; cases hpm1
    have hm1 : m1 = md := by rw [HPM.out] at hpm1; cases hpm1; rfl
    subst hm1
    have HMG := Lib.hid hmg
    have HDG := Lib.hid (HDG.out.upd hu7)
    -- what is known, at a later world: hu7 the Upd
    have HB3 := Lib.hid (HB3.out.upd hu7 (by simp))
    have HPL := Lib.hid (HPL.out.upd hu7)
    have HU3 := Lib.hid (HU3.out.trans hu7)
    have HPT := Lib.hid (HPT.out.upd hu7)
    have HAW : Hid (Calls Tryz.prog 28 #[] w7 (RetUpd [] w7 (.bool true))) := awake27_any w7
    clear hpm1 hu7 HWM hmg
    go_wp2_with fail
    refine HAW.out.mono ?_
    rintro e w8 ⟨rfl, hu8⟩
    -- what is known, at a later world: hu8 the Upd
    have HB3 := Lib.hid (HB3.out.upd hu8 (by simp))
    have HPL := Lib.hid (HPL.out.upd hu8)
    have HU3 := Lib.hid (HU3.out.trans hu8)
    have HPT := Lib.hid (HPT.out.upd hu8)
    have HMG := Lib.hid (HMG.out.upd hu8)
    have HDG := Lib.hid (HDG.out.upd hu8)
    have HWP : Hid (Calls Tryz.prog 29 #[.agg #[.int .i64 A, .int .i64 B, .int .i64 C, .int .i64 D, .int .u64 U, .slice (some ⟨bl, 0, none⟩) m m], .slice ao k cap] w8 (RetUpd [] w8 (.bool true))) := by
      have := wplays_any (ok := fun _ => True) HPL.out HPT.out (do_ok _ _) (fun _ _ _ _ => trivial) HLEN.out
      rw [HPM.out] at this
      exact this
    clear hu8 HAW
    have y0 := HB3.out.cell (j := 0) rfl
    have y1 := HB3.out.cell (j := 1) rfl
    have y2 := HB3.out.cell (j := 2) rfl
    have y3 := HB3.out.cell (j := 3) rfl
    have y4 := HB3.out.cell (j := 4) rfl
    have y5 := HB3.out.cell (j := 5) rfl
    have ly := HB3.out.lt
    go_wp2_with fail
    refine HWP.out.mono ?_
    rintro e w9 ⟨rfl, hu9⟩
    have HMG := Lib.hid (HMG.out.upd hu9)
    have HDG := Lib.hid (HDG.out.upd hu9)
    have HU9 := Lib.hid (HU3.out.trans hu9)
    clear hu9 HWP
    clear y0 y1 y2 y3 y4 y5 ly
    go_wp2_with fail
    go_loopw [18] (fun fv wr => WpAt w9 fv wr) (fun fv _ => 7 - (intOf fv + 1).toNat)
    case atStart => exact ⟨-1, rfl, by decide, by decide, rfl⟩
    case round =>
      obtain ⟨f, rfl, hf1, hf2, rfl⟩ := hrel
      by_cases hlt : f < 6
      · have t1 : decide (f < 6) = true := by simp [hlt]
        obtain ⟨wf1, wf2, wf3, wf4, -⟩ := wp_f hf1 hlt
        have HMS := Lib.hid (wp_meas hf1 hlt)
        have HML := Lib.hid (mlen_any HMG.out f)
        have HDL := Lib.hid (dlen_any HDG.out f)
        obtain ⟨l, hl⟩ : ∃ y, lenP m1.S.F f = y := ⟨_, rfl⟩
        rw [hl] at HML HDL
        have t2 : (l != l) = false := by simp
        clear hl hlt hf1 hf2
        go_wp2_with fail
        refine HML.out.mono ?_
        rintro e wa ⟨rfl, rfl⟩
        go_wp2_with fail
        refine HDL.out.mono ?_
        rintro e wb ⟨rfl, rfl⟩
        go_wp2_with fail
        exact ⟨⟨f + 1, by first | rfl | (congr 1; exact wf1), wf3, wf4, rfl⟩, by first | exact HMS.out | (rw [wf1]; exact HMS.out)⟩
      · have t1 : decide (f < 6) = false := by simp; omega
        clear hlt hf1 hf2
        obtain ⟨sb, GS, hraw, -, -⟩ := HDG.out
        obtain ⟨-, -, -, c5, c6, lmb⟩ := hraw.cells
        have HSF := Lib.hid hraw.s
        obtain ⟨aoS, capS, Z, hz, -, -⟩ := hraw.s
        obtain ⟨-, s1, -, lsb⟩ := hz.cells
        have hsm := HMG.out.ok.small
        obtain ⟨L1, hL1⟩ : ∃ y, startsF m1.S.F = y := ⟨_, rfl⟩
        have HL1 : Hid (L1.length ≤ 1000) := by
          unfold Hid; rw [← hL1]; have := startsF_len m1.S.F []; simp only [List.length_nil] at this; unfold startsF; omega
        have HV : Hid (∀ w', Upd [] w9 w' → Calls Tryz.prog 32 #[.pointer (some ⟨mb1, 0, none⟩)] w' (RetUpd [] w' (.int .u64 m1.S.v))) := fun w' hu => (mv_any (HMG.out.upd hu)).mono (fun e w2 h => ⟨h.1, by rw [h.2]; exact Upd.refl _ _⟩)
        have HSD : Hid (∀ w', Upd [] w9 w' → Calls Tryz.prog 33 #[.pointer (some ⟨mb1, 0, none⟩)] w' (RetUpd [] w' (.int .i64 m1.n))) := fun w' hu => (mserved_any (HMG.out.upd hu)).mono (fun e w2 h => ⟨h.1, by rw [h.2]; exact Upd.refl _ _⟩)
        have HST : Hid (∀ w', Upd [] w9 w' → Calls Tryz.prog 35 #[.pointer (some ⟨mb1, 0, none⟩)] w' (Told w' L1 [])) := fun w' hu => by rw [← hL1]; exact mstarts_any (HMG.out.upd hu)
        have HDS : Hid (∀ w', Upd [] w9 w' → Calls Tryz.prog 36 #[.pointer (some ⟨sb, 0, none⟩)] w' (Told w' L1 [])) := fun w' hu => by rw [← hL1]; exact (HSF.out.upd hu).starts
        obtain ⟨L2, hL2⟩ : ∃ y, idsP m1.S.F = y := ⟨_, rfl⟩
        have HFL : Hid (∀ w', Upd [] w9 w' → Calls Tryz.prog 38 #[.pointer (some ⟨mb1, 0, none⟩)] w' (SortedTo w' L2)) := fun w' hu => by rw [← hL2]; exact mflows_any (HMG.out.upd hu)
        have HDF : Hid (∀ w', Upd [] w9 w' → Calls Tryz.prog 39 #[.pointer (some ⟨sb, 0, none⟩)] w' (SortedTo w' L2)) := fun w' hu => by rw [← hL2]; exact dsflows_any (HSF.out.upd hu) (Nat.le_trans hsm (by decide))
        clear hraw hz hL1 hL2 hsm
        go_upto_region 14 with (fail)
        refine wp_region_held_drew (S := fun w' => Upd [] w9 w' ∧ ∀ (b o : Nat), b < w9.heap.size → b ∉ [] → w'.cell? ⟨b, o, none⟩ = w9.cell? ⟨b, o, none⟩) (by kernel_rfl) (Held.init _ _) (fun hHeld => ?_)
        refine wpAnyH_take (i := 0) (v := ?_) rfl (by kernel_rfl) (by kernel_rfl) (by kernel_rfl) (fun _ _ _ h => h) (Or.inl ⟨by rfl, ?_⟩) (by assumption) ?_
        rotate_left
        · intro w hSw
          try dsimp only at hSw
          go_simp
          try with_reducible rfl
        try simp only [List.getElem_toArray, List.getElem_cons_zero, List.getElem_cons_succ, Act.put, List.setIfInBounds_toArray, List.set_cons_zero, List.set_cons_succ]
        refine wpAnyH_take (i := 2) (v := ?_) rfl (by kernel_rfl) (by kernel_rfl) (by kernel_rfl) (fun _ _ _ h => h) (Or.inl ⟨by rfl, ?_⟩) (by assumption) ?_
        rotate_left
        · intro w hSw
          try dsimp only at hSw
          go_simp
          try with_reducible rfl
        try simp only [List.getElem_toArray, List.getElem_cons_zero, List.getElem_cons_succ, Act.put, List.setIfInBounds_toArray, List.set_cons_zero, List.set_cons_succ]
        refine wpAnyH_take (i := 3) (v := ?_) rfl (by kernel_rfl) (by kernel_rfl) (by kernel_rfl) (fun _ _ _ h => h) (Or.inl ⟨by rfl, ?_⟩) (by assumption) ?_
        rotate_left
        · intro w hSw
          try dsimp only at hSw
          go_simp
          try with_reducible rfl
        try simp only [List.getElem_toArray, List.getElem_cons_zero, List.getElem_cons_succ, Act.put, List.setIfInBounds_toArray, List.set_cons_zero, List.set_cons_succ]
        refine wpAnyH_take (i := 4) (v := ?_) rfl (by kernel_rfl) (by kernel_rfl) (by kernel_rfl) (fun _ _ _ h => h) (Or.inl ⟨by rfl, ?_⟩) (by assumption) ?_
        rotate_left
        · intro w hSw
          try dsimp only at hSw
          go_simp
          try with_reducible rfl
        try simp only [List.getElem_toArray, List.getElem_cons_zero, List.getElem_cons_succ, Act.put, List.setIfInBounds_toArray, List.set_cons_zero, List.set_cons_succ]
        refine wpAnyH_take (i := 5) (v := ?_) rfl (by kernel_rfl) (by kernel_rfl) (by kernel_rfl) (fun _ _ _ h => h) (Or.inl ⟨by rfl, ?_⟩) (by assumption) ?_
        rotate_left
        · intro w hSw
          try dsimp only at hSw
          go_simp
          try with_reducible rfl
        try simp only [List.getElem_toArray, List.getElem_cons_zero, List.getElem_cons_succ, Act.put, List.setIfInBounds_toArray, List.set_cons_zero, List.set_cons_succ]
        refine wpAnyH_take (i := 6) (v := ?_) rfl (by kernel_rfl) (by kernel_rfl) (by kernel_rfl) (fun _ _ _ h => h) (Or.inl ⟨by rfl, ?_⟩) (by assumption) ?_
        rotate_left
        · intro w hSw
          try dsimp only at hSw
          go_simp
          try with_reducible rfl
        try simp only [List.getElem_toArray, List.getElem_cons_zero, List.getElem_cons_succ, Act.put, List.setIfInBounds_toArray, List.set_cons_zero, List.set_cons_succ]
        refine wpAnyH_take (i := 7) (v := ?_) rfl (by kernel_rfl) (by kernel_rfl) (by kernel_rfl) (fun _ _ _ h => h) (Or.inl ⟨by rfl, ?_⟩) (by assumption) ?_
        rotate_left
        · intro w hSw
          try dsimp only at hSw
          go_simp
          try with_reducible rfl
        try simp only [List.getElem_toArray, List.getElem_cons_zero, List.getElem_cons_succ, Act.put, List.setIfInBounds_toArray, List.set_cons_zero, List.set_cons_succ]
        refine wpAnyH_take (i := 8) (v := ?_) rfl (by kernel_rfl) (by kernel_rfl) (by kernel_rfl) (fun _ _ _ h => h) (Or.inl ⟨by rfl, ?_⟩) (by assumption) ?_
        rotate_left
        · intro w hSw
          try dsimp only at hSw
          go_simp
          try with_reducible rfl
        try simp only [List.getElem_toArray, List.getElem_cons_zero, List.getElem_cons_succ, Act.put, List.setIfInBounds_toArray, List.set_cons_zero, List.set_cons_succ]
        refine wpAnyH_ready (rs := [1]) (by kernel_rfl) (by simp) ?_
        refine AllReadyH.cons rfl (fun K hK => ?_) AllReadyH.nil
        go_simp
        go_at_call 32
        refine (HV.out _ hHeld.1).mono ?_
        rintro e w6 ⟨rfl, hB⟩
        refine hK.out _ _ (Held.step hHeld hB) (fun hHeldN => ?_)
        clear hK K hHeld hB
        have hHeld := hHeldN
        clear hHeldN
        try simp only [List.getElem_toArray, List.getElem_cons_zero, List.getElem_cons_succ, Act.put, List.setIfInBounds_toArray, List.set_cons_zero, List.set_cons_succ]
        refine wpAnyH_take (i := 9) (v := ?_) rfl (by kernel_rfl) (by kernel_rfl) (by kernel_rfl) (fun _ _ _ h => h) (Or.inl ⟨by rfl, ?_⟩) (by assumption) ?_
        rotate_left
        · intro w hSw
          try dsimp only at hSw
          go_simp
          try with_reducible rfl
        try simp only [List.getElem_toArray, List.getElem_cons_zero, List.getElem_cons_succ, Act.put, List.setIfInBounds_toArray, List.set_cons_zero, List.set_cons_succ]
        refine wpAnyH_take (i := 10) (v := ?_) rfl (by kernel_rfl) (by kernel_rfl) (by kernel_rfl) (fun _ _ _ h => h) (Or.inl ⟨by rfl, ?_⟩) (by assumption) ?_
        rotate_left
        · intro w hSw
          try dsimp only at hSw
          go_simp
          try with_reducible rfl
        try simp only [List.getElem_toArray, List.getElem_cons_zero, List.getElem_cons_succ, Act.put, List.setIfInBounds_toArray, List.set_cons_zero, List.set_cons_succ]
        refine wpAnyH_take (i := 11) (v := ?_) rfl (by kernel_rfl) (by kernel_rfl) (by kernel_rfl) (fun _ _ _ h => h) (Or.inl ⟨by rfl, ?_⟩) (by assumption) ?_
        rotate_left
        · intro w hSw
          try dsimp only at hSw
          go_simp
          try with_reducible rfl
        try simp only [List.getElem_toArray, List.getElem_cons_zero, List.getElem_cons_succ, Act.put, List.setIfInBounds_toArray, List.set_cons_zero, List.set_cons_succ]
        refine wpAnyH_take (i := 13) (v := ?_) rfl (by kernel_rfl) (by kernel_rfl) (by kernel_rfl) (fun _ _ _ h => h) (Or.inl ⟨by rfl, ?_⟩) (by assumption) ?_
        rotate_left
        · intro w hSw
          try dsimp only at hSw
          go_simp
          try with_reducible rfl
        try simp only [List.getElem_toArray, List.getElem_cons_zero, List.getElem_cons_succ, Act.put, List.setIfInBounds_toArray, List.set_cons_zero, List.set_cons_succ]
        refine wpAnyH_take (i := 14) (v := ?_) rfl (by kernel_rfl) (by kernel_rfl) (by kernel_rfl) (fun _ _ _ h => h) (Or.inl ⟨by rfl, ?_⟩) (by assumption) ?_
        rotate_left
        · intro w hSw
          try dsimp only at hSw
          go_simp
          try with_reducible rfl
        try simp only [List.getElem_toArray, List.getElem_cons_zero, List.getElem_cons_succ, Act.put, List.setIfInBounds_toArray, List.set_cons_zero, List.set_cons_succ]
        refine wpAnyH_take (i := 15) (v := ?_) rfl (by kernel_rfl) (by kernel_rfl) (by kernel_rfl) (fun _ _ _ h => h) (Or.inl ⟨by rfl, ?_⟩) (by assumption) ?_
        rotate_left
        · intro w hSw
          try dsimp only at hSw
          go_simp
          try with_reducible rfl
        try simp only [List.getElem_toArray, List.getElem_cons_zero, List.getElem_cons_succ, Act.put, List.setIfInBounds_toArray, List.set_cons_zero, List.set_cons_succ]
        refine wpAnyH_take (i := 16) (v := ?_) rfl (by kernel_rfl) (by kernel_rfl) (by kernel_rfl) (fun _ _ _ h => h) (Or.inl ⟨by rfl, ?_⟩) (by assumption) ?_
        rotate_left
        · intro w hSw
          try dsimp only at hSw
          go_simp
          try with_reducible rfl
        try simp only [List.getElem_toArray, List.getElem_cons_zero, List.getElem_cons_succ, Act.put, List.setIfInBounds_toArray, List.set_cons_zero, List.set_cons_succ]
        refine wpAnyH_ready (rs := [12]) (by kernel_rfl) (by simp) ?_
        refine AllReadyH.cons rfl (fun K hK => ?_) AllReadyH.nil
        go_simp
        go_at_call 33
        refine (HSD.out _ hHeld.1).mono ?_
        rintro e w6 ⟨rfl, hB⟩
        refine hK.out _ _ (Held.step hHeld hB) (fun hHeldN => ?_)
        clear hK K hHeld hB
        have hHeld := hHeldN
        clear hHeldN
        try simp only [List.getElem_toArray, List.getElem_cons_zero, List.getElem_cons_succ, Act.put, List.setIfInBounds_toArray, List.set_cons_zero, List.set_cons_succ]
        refine wpAnyH_take (i := 17) (v := ?_) rfl (by kernel_rfl) (by kernel_rfl) (by kernel_rfl) (fun _ _ _ h => h) (Or.inl ⟨by rfl, ?_⟩) (by assumption) ?_
        rotate_left
        · intro w hSw
          try dsimp only at hSw
          go_simp
          try with_reducible rfl
        try simp only [List.getElem_toArray, List.getElem_cons_zero, List.getElem_cons_succ, Act.put, List.setIfInBounds_toArray, List.set_cons_zero, List.set_cons_succ]
        refine wpAnyH_take (i := 18) (v := ?_) rfl (by kernel_rfl) (by kernel_rfl) (by kernel_rfl) (fun _ _ _ h => h) (Or.inl ⟨by rfl, ?_⟩) (by assumption) ?_
        rotate_left
        · intro w hSw
          try dsimp only at hSw
          go_simp
          try with_reducible rfl
        try simp only [List.getElem_toArray, List.getElem_cons_zero, List.getElem_cons_succ, Act.put, List.setIfInBounds_toArray, List.set_cons_zero, List.set_cons_succ]
        refine wpAnyH_take (i := 19) (v := ?_) rfl (by kernel_rfl) (by kernel_rfl) (by kernel_rfl) (fun _ _ _ h => h) (Or.inl ⟨by rfl, ?_⟩) (by assumption) ?_
        rotate_left
        · intro w hSw
          try dsimp only at hSw
          go_simp
          try with_reducible rfl
        try simp only [List.getElem_toArray, List.getElem_cons_zero, List.getElem_cons_succ, Act.put, List.setIfInBounds_toArray, List.set_cons_zero, List.set_cons_succ]
        refine wpAnyH_take (i := 20) (v := ?_) rfl (by kernel_rfl) (by kernel_rfl) (by kernel_rfl) (fun _ _ _ h => h) (Or.inl ⟨by rfl, ?_⟩) (by assumption) ?_
        rotate_left
        · intro w hSw
          try dsimp only at hSw
          go_simp
          try with_reducible rfl
        try simp only [List.getElem_toArray, List.getElem_cons_zero, List.getElem_cons_succ, Act.put, List.setIfInBounds_toArray, List.set_cons_zero, List.set_cons_succ]
        refine wpAnyH_take (i := 22) (v := ?_) rfl (by kernel_rfl) (by kernel_rfl) (by kernel_rfl) (fun _ _ _ h => h) (Or.inl ⟨by rfl, ?_⟩) (by assumption) ?_
        rotate_left
        · intro w hSw
          try dsimp only at hSw
          go_simp
          try with_reducible rfl
        try simp only [List.getElem_toArray, List.getElem_cons_zero, List.getElem_cons_succ, Act.put, List.setIfInBounds_toArray, List.set_cons_zero, List.set_cons_succ]
        refine wpAnyH_take (i := 23) (v := ?_) rfl (by kernel_rfl) (by kernel_rfl) (by kernel_rfl) (fun _ _ _ h => h) (Or.inl ⟨by rfl, ?_⟩) (by assumption) ?_
        rotate_left
        · intro w hSw
          try dsimp only at hSw
          go_simp
          try with_reducible rfl
        try simp only [List.getElem_toArray, List.getElem_cons_zero, List.getElem_cons_succ, Act.put, List.setIfInBounds_toArray, List.set_cons_zero, List.set_cons_succ]
        refine wpAnyH_take (i := 24) (v := ?_) rfl (by kernel_rfl) (by kernel_rfl) (by kernel_rfl) (fun _ _ _ h => h) (Or.inl ⟨by rfl, ?_⟩) (by assumption) ?_
        rotate_left
        · intro w hSw
          try dsimp only at hSw
          go_simp
          try with_reducible rfl
        try simp only [List.getElem_toArray, List.getElem_cons_zero, List.getElem_cons_succ, Act.put, List.setIfInBounds_toArray, List.set_cons_zero, List.set_cons_succ]
        refine wpAnyH_take (i := 25) (v := ?_) rfl (by kernel_rfl) (by kernel_rfl) (by kernel_rfl) (fun _ _ _ h => h) (Or.inl ⟨by rfl, ?_⟩) (by assumption) ?_
        rotate_left
        · intro w hSw
          try dsimp only at hSw
          go_simp
          try with_reducible rfl
        try simp only [List.getElem_toArray, List.getElem_cons_zero, List.getElem_cons_succ, Act.put, List.setIfInBounds_toArray, List.set_cons_zero, List.set_cons_succ]
        refine wpAnyH_ready (rs := [21]) (by kernel_rfl) (by simp) ?_
        refine AllReadyH.cons rfl (fun K hK => ?_) AllReadyH.nil
        go_simp
        go_at_call 35
        refine (HST.out _ hHeld.1).mono ?_
        rintro e w6 ⟨a1, c1, rfl, h1, -, hB⟩
        refine hK.out _ _ (Held.step hHeld hB) (fun hHeldN => ?_)
        clear hK K hHeld
        have hHeld := hHeldN
        clear hHeldN
        try simp only [List.getElem_toArray, List.getElem_cons_zero, List.getElem_cons_succ, Act.put, List.setIfInBounds_toArray, List.set_cons_zero, List.set_cons_succ]
        clear hB
        refine wpAnyH_ready (rs := [26]) (by kernel_rfl) (by simp) ?_
        refine AllReadyH.cons rfl (fun K hK => ?_) AllReadyH.nil
        go_simp
        go_at_call 36
        refine (HDS.out _ hHeld.1).mono ?_
        rintro e w6 ⟨a2, c2, rfl, h2, -, hB⟩
        refine hK.out _ _ (Held.step hHeld hB) (fun hHeldN => ?_)
        clear hK K hHeld
        have hHeld := hHeldN
        clear hHeldN
        try simp only [List.getElem_toArray, List.getElem_cons_zero, List.getElem_cons_succ, Act.put, List.setIfInBounds_toArray, List.set_cons_zero, List.set_cons_succ]
        have h1 := h1.upd hB (by simp)
        have HPN : Hid (∀ w', w' = w6 → Calls Tryz.prog 34 #[.slice a1 L1.length c1, .slice a2 L1.length c2] w' (RetUpd [] w' (.bool true))) := fun w' hw => by subst hw; exact plainE_any a1 a2 _ c1 c2 L1 _ rfl HL1.out h1 h2
        clear h1 h2 hB
        refine wpAnyH_ready (rs := [27]) (by kernel_rfl) (by simp) ?_
        refine AllReadyH.cons rfl (fun K hK => ?_) AllReadyH.nil
        go_simp
        go_at_call 34
        refine (HPN.out _ rfl).mono ?_
        rintro e w6 ⟨rfl, hB⟩
        refine hK.out _ _ (Held.step hHeld hB) (fun hHeldN => ?_)
        clear hK K hHeld hB
        have hHeld := hHeldN
        clear hHeldN
        try simp only [List.getElem_toArray, List.getElem_cons_zero, List.getElem_cons_succ, Act.put, List.setIfInBounds_toArray, List.set_cons_zero, List.set_cons_succ]
        refine wpAnyH_take (i := 28) (v := ?_) rfl (by kernel_rfl) (by kernel_rfl) (by kernel_rfl) (fun _ _ _ h => h) (Or.inl ⟨by rfl, ?_⟩) (by assumption) ?_
        rotate_left
        · intro w hSw
          try dsimp only at hSw
          go_simp
          try with_reducible rfl
        try simp only [List.getElem_toArray, List.getElem_cons_zero, List.getElem_cons_succ, Act.put, List.setIfInBounds_toArray, List.set_cons_zero, List.set_cons_succ]
        refine wpAnyH_take (i := 29) (v := ?_) rfl (by kernel_rfl) (by kernel_rfl) (by kernel_rfl) (fun _ _ _ h => h) (Or.inl ⟨by rfl, ?_⟩) (by assumption) ?_
        rotate_left
        · intro w hSw
          try dsimp only at hSw
          go_simp
          try with_reducible rfl
        try simp only [List.getElem_toArray, List.getElem_cons_zero, List.getElem_cons_succ, Act.put, List.setIfInBounds_toArray, List.set_cons_zero, List.set_cons_succ]
        refine wpAnyH_take (i := 30) (v := ?_) rfl (by kernel_rfl) (by kernel_rfl) (by kernel_rfl) (fun _ _ _ h => h) (Or.inl ⟨by rfl, ?_⟩) (by assumption) ?_
        rotate_left
        · intro w hSw
          try dsimp only at hSw
          go_simp
          try with_reducible rfl
        try simp only [List.getElem_toArray, List.getElem_cons_zero, List.getElem_cons_succ, Act.put, List.setIfInBounds_toArray, List.set_cons_zero, List.set_cons_succ]
        refine wpAnyH_take (i := 32) (v := ?_) rfl (by kernel_rfl) (by kernel_rfl) (by kernel_rfl) (fun _ _ _ h => h) (Or.inl ⟨by rfl, ?_⟩) (by assumption) ?_
        rotate_left
        · intro w hSw
          try dsimp only at hSw
          go_simp
          try with_reducible rfl
        try simp only [List.getElem_toArray, List.getElem_cons_zero, List.getElem_cons_succ, Act.put, List.setIfInBounds_toArray, List.set_cons_zero, List.set_cons_succ]
        refine wpAnyH_take (i := 33) (v := ?_) rfl (by kernel_rfl) (by kernel_rfl) (by kernel_rfl) (fun _ _ _ h => h) (Or.inl ⟨by rfl, ?_⟩) (by assumption) ?_
        rotate_left
        · intro w hSw
          try dsimp only at hSw
          go_simp
          try with_reducible rfl
        try simp only [List.getElem_toArray, List.getElem_cons_zero, List.getElem_cons_succ, Act.put, List.setIfInBounds_toArray, List.set_cons_zero, List.set_cons_succ]
        refine wpAnyH_take (i := 34) (v := ?_) rfl (by kernel_rfl) (by kernel_rfl) (by kernel_rfl) (fun _ _ _ h => h) (Or.inl ⟨by rfl, ?_⟩) (by assumption) ?_
        rotate_left
        · intro w hSw
          try dsimp only at hSw
          go_simp
          try with_reducible rfl
        try simp only [List.getElem_toArray, List.getElem_cons_zero, List.getElem_cons_succ, Act.put, List.setIfInBounds_toArray, List.set_cons_zero, List.set_cons_succ]
        refine wpAnyH_take (i := 35) (v := ?_) rfl (by kernel_rfl) (by kernel_rfl) (by kernel_rfl) (fun _ _ _ h => h) (Or.inl ⟨by rfl, ?_⟩) (by assumption) ?_
        rotate_left
        · intro w hSw
          try dsimp only at hSw
          go_simp
          try with_reducible rfl
        try simp only [List.getElem_toArray, List.getElem_cons_zero, List.getElem_cons_succ, Act.put, List.setIfInBounds_toArray, List.set_cons_zero, List.set_cons_succ]
        refine wpAnyH_ready (rs := [31]) (by kernel_rfl) (by simp) ?_
        refine AllReadyH.cons rfl (fun K hK => ?_) AllReadyH.nil
        go_simp
        go_at_call 38
        refine (HFL.out _ hHeld.1).mono ?_
        rintro e w6 ⟨a1, c1, rfl, h1, -, hB⟩
        refine hK.out _ _ (Held.step hHeld hB) (fun hHeldN => ?_)
        clear hK K hHeld
        have hHeld := hHeldN
        clear hHeldN
        try simp only [List.getElem_toArray, List.getElem_cons_zero, List.getElem_cons_succ, Act.put, List.setIfInBounds_toArray, List.set_cons_zero, List.set_cons_succ]
        clear hB
        refine wpAnyH_ready (rs := [36]) (by kernel_rfl) (by simp) ?_
        refine AllReadyH.cons rfl (fun K hK => ?_) AllReadyH.nil
        go_simp
        go_at_call 39
        refine (HDF.out _ hHeld.1).mono ?_
        rintro e w6 ⟨a2, c2, rfl, h2, -, hB⟩
        refine hK.out _ _ (Held.step hHeld hB) (fun hHeldN => ?_)
        clear hK K hHeld
        have hHeld := hHeldN
        clear hHeldN
        try simp only [List.getElem_toArray, List.getElem_cons_zero, List.getElem_cons_succ, Act.put, List.setIfInBounds_toArray, List.set_cons_zero, List.set_cons_succ]
        have h1 := h1.upd hB (by simp)
        have HPM2 : Hid (∀ w', w' = w6 → Calls Tryz.prog 37 #[.slice a1 L2.length c1, .slice a2 L2.length c2] w' (RetUpd [] w' (.bool true))) := fun w' hw => by subst hw; exact iplain_any h1.sl h2.sl
        clear h1 h2 hB
        refine wpAnyH_ready (rs := [37]) (by kernel_rfl) (by simp) ?_
        refine AllReadyH.cons rfl (fun K hK => ?_) AllReadyH.nil
        go_simp
        go_at_call 37
        refine (HPM2.out _ rfl).mono ?_
        rintro e w6 ⟨rfl, hB⟩
        refine hK.out _ _ (Held.step hHeld hB) (fun hHeldN => ?_)
        clear hK K hHeld hB
        have hHeld := hHeldN
        clear hHeldN
        try simp only [List.getElem_toArray, List.getElem_cons_zero, List.getElem_cons_succ, Act.put, List.setIfInBounds_toArray, List.set_cons_zero, List.set_cons_succ]
        refine wpAnyH_take (i := 38) (v := ?_) rfl (by kernel_rfl) (by kernel_rfl) (by kernel_rfl) (fun _ _ _ h => h) (Or.inl ⟨by rfl, ?_⟩) (by assumption) ?_
        rotate_left
        · intro w hSw
          try dsimp only at hSw
          go_simp
          try with_reducible rfl
        try simp only [List.getElem_toArray, List.getElem_cons_zero, List.getElem_cons_succ, Act.put, List.setIfInBounds_toArray, List.set_cons_zero, List.set_cons_succ]
        refine wpAnyH_take (i := 39) (v := ?_) rfl (by kernel_rfl) (by kernel_rfl) (by kernel_rfl) (fun _ _ _ h => h) (Or.inl ⟨by rfl, ?_⟩) (by assumption) ?_
        rotate_left
        · intro w hSw
          try dsimp only at hSw
          go_simp
          try with_reducible rfl
        try simp only [List.getElem_toArray, List.getElem_cons_zero, List.getElem_cons_succ, Act.put, List.setIfInBounds_toArray, List.set_cons_zero, List.set_cons_succ]
        refine wpAnyH_done (by kernel_rfl) ?_ _
        go_wp2_with fail
        go_ret
        exact ⟨rfl, HU9.out.trans hHeld.1⟩
  · have HPM : Hid (playsM ⟨⟨A, B, C, D, U⟩, E⟩ X = none) := hpm
    -- what is known, at a later world: hu6 the Upd
    have HB3 := Lib.hid (HB3.out.upd hu6 (by simp))
    have HPL := Lib.hid (HPL.out.upd hu6)
    have HU3 := Lib.hid (HU3.out.trans hu6)
    have HPT := Lib.hid (HPT.out.upd hu6)
    clear hpm hu6 HWA
    have HWM : Hid (Calls Tryz.prog 27 #[.agg #[.int .i64 A, .int .i64 B, .int .i64 C, .int .i64 D, .int .u64 U, .slice (some ⟨bl, 0, none⟩) m m], .slice ao k cap] w6 (WMTo w ⟨⟨A, B, C, D, U⟩, E⟩ X w6)) := wmodel_any (ok := fun _ => True) HU3.out.size HPL.out HPT.out (do_ok _ _) (fun _ _ _ _ => trivial) HLEN.out
    have y0 := HB3.out.cell (j := 0) rfl
    have y1 := HB3.out.cell (j := 1) rfl
    have y2 := HB3.out.cell (j := 2) rfl
    have y3 := HB3.out.cell (j := 3) rfl
    have y4 := HB3.out.cell (j := 4) rfl
    have y5 := HB3.out.cell (j := 5) rfl
    have ly := HB3.out.lt
    go_wp2_with fail
    refine HWM.out.mono ?_
    rintro e w7 hto
    clear y0 y1 y2 y3 y4 y5 ly
    rcases hto with ⟨m1, mb1, G1, hpm1, rfl, -, -, hu7, -⟩ | ⟨hpm1, rfl, hu7⟩
    · rw [HPM.out] at hpm1; cases hpm1
    · skip
      -- what is known, at a later world: hu7 the Upd
      have HB3 := Lib.hid (HB3.out.upd hu7 (by simp))
      have HPL := Lib.hid (HPL.out.upd hu7)
      have HU3 := Lib.hid (HU3.out.trans hu7)
      have HPT := Lib.hid (HPT.out.upd hu7)
      have HAW : Hid (Calls Tryz.prog 28 #[] w7 (RetUpd [] w7 (.bool true))) := awake27_any w7
      clear hpm1 hu7 HWM
      go_wp2_with fail
      refine HAW.out.mono ?_
      rintro e w8 ⟨rfl, hu8⟩
      -- what is known, at a later world: hu8 the Upd
      have HB3 := Lib.hid (HB3.out.upd hu8 (by simp))
      have HPL := Lib.hid (HPL.out.upd hu8)
      have HU3 := Lib.hid (HU3.out.trans hu8)
      have HPT := Lib.hid (HPT.out.upd hu8)
      have HWP : Hid (Calls Tryz.prog 29 #[.agg #[.int .i64 A, .int .i64 B, .int .i64 C, .int .i64 D, .int .u64 U, .slice (some ⟨bl, 0, none⟩) m m], .slice ao k cap] w8 (RetUpd [] w8 (.bool false))) := by
        have := wplays_any (ok := fun _ => True) HPL.out HPT.out (do_ok _ _) (fun _ _ _ _ => trivial) HLEN.out
        rw [HPM.out] at this
        exact this
      clear hu8 HAW
      have y0 := HB3.out.cell (j := 0) rfl
      have y1 := HB3.out.cell (j := 1) rfl
      have y2 := HB3.out.cell (j := 2) rfl
      have y3 := HB3.out.cell (j := 3) rfl
      have y4 := HB3.out.cell (j := 4) rfl
      have y5 := HB3.out.cell (j := 5) rfl
      have ly := HB3.out.lt
      go_wp2_with fail
      refine HWP.out.mono ?_
      rintro e w9 ⟨rfl, hu9⟩
      have HU9 := Lib.hid (HU3.out.trans hu9)
      clear hu9
      clear y0 y1 y2 y3 y4 y5 ly
      go_wp2_with fail
      go_ret
      exact ⟨rfl, HU9.out⟩
end Go.Proofs.YtfeobcmcellcpaaGreat
