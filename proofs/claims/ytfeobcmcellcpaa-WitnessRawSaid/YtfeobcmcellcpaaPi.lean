/-
  The walk of the law WitnessRaw. No condition.
-/
import Derived.Test.YtfeobcmcellcpaaOr
import Derived.Test.YtfeobcmcellcpaaPg
import Derived.Test.YtfeobcmcellcpaaPh
import Derived.Test.YtfeobcmcellcpaaMs
import Derived.Test.YtfeobcmcellcpaaMp
set_option linter.unusedVariables false
set_option linter.unusedSimpArgs false
namespace Go.Proofs.Ytfeobcmcellcpaa
open Go.RowKit

theorem raw_sub {ao : Option Addr} {n c x : Nat} (h : x ∈ lvB (.slice ao n c)) : x ∈ blkO ao := by
  cases ao with
  | none => simp [lvB] at h
  | some a =>
    cases n with
    | zero => simp [lvB] at h
    | succ n => simpa [lvB, blkO] using h
theorem bad_none (A C D : Int) (U : Nat) (E : List Li) (l : List Pt) : playsM ⟨⟨A, 0, C, D, U⟩, E⟩ l = none := by
  unfold playsM rightC; simp

set_option maxRecDepth 100000 in
set_option maxHeartbeats 16000000 in
theorem raw_walk {w : World} {pv v : Value} {p : Pl} {l : List Pt} (hp : PlanAt w pv p) (hl : PtsAt' w v l) (near : Bool) (hpl : p.L.length ≤ 8796093022208) (hll : l.length ≤ 1954687338268) : Calls Try.prog 3 #[pv, v, .bool near] w (RetUpd [] w (.bool true)) := by
  have HL := Lib.hid hl
  have HL2 := Lib.hid hll
  have HL1 : Hid (l.length ≤ 288230376151711744) := Nat.le_trans hll (by decide)
  obtain ⟨lv, rfl, hL⟩ := hp
  obtain ⟨⟨A, B, C, D, U⟩, E9⟩ := p
  simp only at hL hpl ⊢
  have HLS := Lib.hid hL
  obtain ⟨hlm, ao9, c9, rfl, -⟩ := lists_at hL
  obtain ⟨n9, hn9⟩ : ∃ n, E9.length = n := ⟨_, rfl⟩
  have HN9 := Lib.hid hn9
  obtain ⟨hpm, al, cl, rfl, -⟩ := pts_at hl
  obtain ⟨n, hn⟩ : ∃ n, l.length = n := ⟨_, rfl⟩
  have HN := Lib.hid hn
  have HPLN := Lib.hid hpl
  rw [hn9] at hlm ⊢
  rw [hn] at hpm HL ⊢
  have bn : n ≤ 9223372036854775807 := hpm
  have bn9 : n9 ≤ 9223372036854775807 := hlm
  obtain ⟨wz, hwz⟩ : ∃ y, w.alloc (.cells #[.int .i64 A, .int .i64 B, .int .i64 C, .int .i64 D, .int .u64 U, .slice ao9 n9 c9] 27) = y := ⟨_, rfl⟩
  have huz : Upd [] w wz := by rw [← hwz]; exact (Upd.refl [] w).alloc _
  obtain ⟨b3, hb3⟩ : ∃ y, w.heap.size = y := ⟨_, rfl⟩
  have HB3 : Hid (Blk wz b3 27 [.int .i64 A, .int .i64 B, .int .i64 C, .int .i64 D, .int .u64 U, .slice ao9 n9 c9]) := by
    unfold Hid; rw [← hwz, ← hb3]; exact Blk.new w 27 [.int .i64 A, .int .i64 B, .int .i64 C, .int .i64 D, .int .u64 U, .slice ao9 n9 c9]
  have HUZ := Lib.hid huz
  have HPL : Hid (PlanAt wz (.agg #[.int .i64 A, .int .i64 B, .int .i64 C, .int .i64 D, .int .u64 U, .slice ao9 n9 c9]) ⟨⟨A, B, C, D, U⟩, E9⟩) := by
    have := HLS.out.upd huz
    rw [hn9] at this
    exact ⟨_, rfl, this⟩
  have HW3 := Lib.hid hb3
  clear hl hn hn9 hlm hpm hL hpl hll huz
  go_enter Try.func3, Try.ntmps3
  cases near with
  | false =>
    go_upto_region 3 with (fail)
    clear hwz hb3
    have y0 := HB3.out.cell (j := 0) rfl
    have y1 := HB3.out.cell (j := 1) rfl
    have y2 := HB3.out.cell (j := 2) rfl
    have y3 := HB3.out.cell (j := 3) rfl
    have y4 := HB3.out.cell (j := 4) rfl
    have y5 := HB3.out.cell (j := 5) rfl
    have ly := HB3.out.lt
    have HDP : Hid (Calls Try.prog 6 #[.agg #[.int .i64 A, .int .i64 B, .int .i64 C, .int .i64 D, .int .u64 U, .slice ao9 n9 c9], .slice al n cl] wz (DPlTo w ⟨⟨A, B, C, D, U⟩, E9⟩ l wz)) := dplays_any HUZ.out.size HPL.out (HL.out.upd HUZ.out) HL1.out
    go_wp2_with fail
    refine HDP.out.mono ?_
    rintro e wa hto
    rcases hto with ⟨m, mb, G, hpm, rfl, -, -, hu, -⟩ | ⟨hpm, rfl, hu⟩
    · skip
      have HRR : Hid (playsM ⟨⟨A, B, C, D, U⟩, E9⟩ l = (some m)) := hpm
      have HB3 := Lib.hid (HB3.out.upd hu (by simp))
      have HPL := Lib.hid (HPL.out.upd hu)
      have HUW := Lib.hid (HUZ.out.trans hu)
      clear hpm hu HDP
      clear y0 y1 y2 y3 y4 y5 ly
      have y0 := HB3.out.cell (j := 0) rfl
      have y1 := HB3.out.cell (j := 1) rfl
      have y2 := HB3.out.cell (j := 2) rfl
      have y3 := HB3.out.cell (j := 3) rfl
      have y4 := HB3.out.cell (j := 4) rfl
      have y5 := HB3.out.cell (j := 5) rfl
      have ly := HB3.out.lt
      go_upto_region 6 with (fail)
      obtain ⟨wb, hwb⟩ : ∃ y, wa.alloc (.cells #[.int .i64 A, .int .i64 0, .int .i64 C, .int .i64 D, .int .u64 U, .slice ao9 n9 c9] 27) = y := ⟨_, rfl⟩
      have hub : Upd [] wa wb := by rw [← hwb]; exact (Upd.refl [] wa).alloc _
      obtain ⟨b8, hb8⟩ : ∃ y, wa.heap.size = y := ⟨_, rfl⟩
      have HB8 : Hid (Blk wb b8 27 [.int .i64 A, .int .i64 0, .int .i64 C, .int .i64 D, .int .u64 U, .slice ao9 n9 c9]) := by
        unfold Hid; rw [← hwb, ← hb8]; exact Blk.new wa 27 [.int .i64 A, .int .i64 0, .int .i64 C, .int .i64 D, .int .u64 U, .slice ao9 n9 c9]
      have HB3 := Lib.hid (HB3.out.upd hub (by simp))
      have HPL := Lib.hid (HPL.out.upd hub)
      have HUB := Lib.hid (HUW.out.trans hub)
      have HPX : Hid (PlanAt wb (.agg #[.int .i64 A, .int .i64 0, .int .i64 C, .int .i64 D, .int .u64 U, .slice ao9 n9 c9]) ⟨⟨A, 0, C, D, U⟩, E9⟩) := by
        obtain ⟨lv, he, hL⟩ := HPL.out
        cases he
        exact ⟨_, rfl, hL⟩
      rw [hwb, hb8]
      clear hub hwb hb8
      clear y0 y1 y2 y3 y4 y5 ly
      have y0 := HB3.out.cell (j := 0) rfl
      have y1 := HB3.out.cell (j := 1) rfl
      have y2 := HB3.out.cell (j := 2) rfl
      have y3 := HB3.out.cell (j := 3) rfl
      have y4 := HB3.out.cell (j := 4) rfl
      have y5 := HB3.out.cell (j := 5) rfl
      have ly := HB3.out.lt
      have HWM : Hid (Calls Try.prog 7 #[.agg #[.int .i64 A, .int .i64 B, .int .i64 C, .int .i64 D, .int .u64 U, .slice ao9 n9 c9], .slice al n cl] wb (WMTo w ⟨⟨A, B, C, D, U⟩, E9⟩ l wb)) := wmodel_any (ok := fun _ => True) HUB.out.size HPL.out (HL.out.upd HUB.out) (do_ok _ _) (fun _ _ _ _ => trivial) HL1.out
      go_wp2_with fail
      refine HWM.out.mono ?_
      rintro e wc hto
      rcases hto with ⟨m1, mb1, G1, hpm, rfl, -, -, hc, -⟩ | ⟨hpm, rfl, hc⟩
      · skip
        clear hpm
        have HUC : Hid (Upd [] w wc) := HUB.out.trans hc
        have HB3 := Lib.hid (HB3.out.upd hc (by simp))
        have HB8 := Lib.hid (HB8.out.upd hc (by simp))
        have HPL := Lib.hid (HPL.out.upd hc)
        have HPX := Lib.hid (HPX.out.upd hc)
        clear hc HWM y0 y1 y2 y3 y4 y5 ly
        have y0 := HB3.out.cell (j := 0) rfl
        have y1 := HB3.out.cell (j := 1) rfl
        have y2 := HB3.out.cell (j := 2) rfl
        have y3 := HB3.out.cell (j := 3) rfl
        have y4 := HB3.out.cell (j := 4) rfl
        have y5 := HB3.out.cell (j := 5) rfl
        have ly := HB3.out.lt
        have z0 := HB8.out.cell (j := 0) rfl
        have z1 := HB8.out.cell (j := 1) rfl
        have z2 := HB8.out.cell (j := 2) rfl
        have z3 := HB8.out.cell (j := 3) rfl
        have z4 := HB8.out.cell (j := 4) rfl
        have z5 := HB8.out.cell (j := 5) rfl
        have lz := HB8.out.lt
        have HAW : Hid (∀ w', Upd [] wc w' → Calls Try.prog 8 #[] w' (RetUpd [] w' (.bool true))) := fun w' _ => awake27_any w'
        have HP1 : Hid (∀ w', Upd [] wc w' → Calls Try.prog 9 #[.agg #[.int .i64 A, .int .i64 B, .int .i64 C, .int .i64 D, .int .u64 U, .slice ao9 n9 c9], .slice al n cl] w' (RetUpd [] w' (.bool true))) := fun w' hu => by
          have := wplays_any (ok := fun _ => True) (HPL.out.upd hu) (HL.out.upd (HUC.out.trans hu)) (do_ok _ _) (fun _ _ _ _ => trivial) HL1.out
          rw [HRR.out] at this
          exact this
        have HP2 : Hid (∀ w', Upd [] wc w' → Calls Try.prog 9 #[.agg #[.int .i64 A, .int .i64 0, .int .i64 C, .int .i64 D, .int .u64 U, .slice ao9 n9 c9], .slice al n cl] w' (RetUpd [] w' (.bool false))) := fun w' hu => by
          have := wplays_any (ok := fun _ => True) (HPX.out.upd hu) (HL.out.upd (HUC.out.trans hu)) (do_ok _ _) (fun _ _ _ _ => trivial) HL1.out
          rw [bad_none] at this
          exact this
        have HP3 : Hid (∀ w', Upd [] wc w' → Calls Try.prog 9 #[.agg #[.int .i64 A, .int .i64 0, .int .i64 C, .int .i64 D, .int .u64 U, .slice ao9 n9 c9], .slice none 0 0] w' (RetUpd [] w' (.bool false))) := fun w' hu => by
          have := wplays_any (l := []) (ok := fun _ => True) (HPX.out.upd hu) ⟨SlAt.nil _ _, fun x hx => by cases hx⟩ (do_ok _ _) (fun _ _ _ _ => trivial) (by simp)
          rw [bad_none] at this
          exact this
        have HWW : Hid (∀ w', Upd [] wc w' → Calls Try.prog 11 #[.agg #[.int .i64 A, .int .i64 B, .int .i64 C, .int .i64 D, .int .u64 U, .slice ao9 n9 c9], .slice al n cl] w' (WhoTo w' E9 l)) := fun w' hu => wwhole_any (HPL.out.upd hu) (HL.out.upd (HUC.out.trans hu)) HPLN.out
        have HWD : Hid (∀ w', Upd [] wc w' → Calls Try.prog 12 #[.agg #[.int .i64 A, .int .i64 B, .int .i64 C, .int .i64 D, .int .u64 U, .slice ao9 n9 c9], .slice al n cl] w' (WhoTo w' E9 l)) := fun w' hu => dwhole_any (HPL.out.upd hu) (HL.out.upd (HUC.out.trans hu)) HPLN.out HL2.out
        go_upto_region 7 with (fail)
        refine wp_region_held_drew (S := fun w' => Upd [] wc w' ∧ ∀ (b o : Nat), b < wc.heap.size → b ∉ [] → w'.cell? ⟨b, o, none⟩ = wc.cell? ⟨b, o, none⟩) (by kernel_rfl) (Held.init _ _) (fun hHeld => ?_)
        refine wpAnyH_ready (rs := [0]) (by kernel_rfl) (by simp) ?_
        refine AllReadyH.cons rfl (fun K hK => ?_) AllReadyH.nil
        go_simp
        go_at_call 8
        refine (HAW.out _ hHeld.1).mono ?_
        rintro e w6 ⟨rfl, hB⟩
        refine hK.out _ _ (Held.step hHeld hB) (fun hHeldN => ?_)
        clear hK K hHeld hB
        have hHeld := hHeldN
        clear hHeldN
        try simp only [List.getElem_toArray, List.getElem_cons_zero, List.getElem_cons_succ, Act.put, List.setIfInBounds_toArray, List.set_cons_zero, List.set_cons_succ]
        refine wpAnyH_take (i := 1) (v := ?_) rfl (by kernel_rfl) (by kernel_rfl) (by kernel_rfl) (fun _ _ _ h => h) (Or.inl ⟨by rfl, ?_⟩) (by assumption) ?_
        rotate_left
        · intro w hSw
          try dsimp only at hSw
          go_simp
          try with_reducible rfl
        try simp only [List.getElem_toArray, List.getElem_cons_zero, List.getElem_cons_succ, Act.put, List.setIfInBounds_toArray, List.set_cons_zero, List.set_cons_succ]
        refine wpAnyH_take (i := 2) (v := ?_) rfl (by kernel_rfl) (by kernel_rfl) (by kernel_rfl) (fun _ _ _ h => h) (Or.inl ⟨by rfl, ?_⟩) (by assumption) ?_
        rotate_left
        · intro w hSw
          try dsimp only at hSw
          go_simp
          try with_reducible rfl
        try simp only [List.getElem_toArray, List.getElem_cons_zero, List.getElem_cons_succ, Act.put, List.setIfInBounds_toArray, List.set_cons_zero, List.set_cons_succ]
        refine wpAnyH_take (i := 3) (v := ?_) rfl (by kernel_rfl) (by kernel_rfl) (by kernel_rfl) (fun _ _ _ h => h) (Or.inl ⟨by rfl, ?_⟩) (by assumption) ?_
        rotate_left
        · intro w hSw
          try dsimp only at hSw
          go_simp
          try with_reducible rfl
        try simp only [List.getElem_toArray, List.getElem_cons_zero, List.getElem_cons_succ, Act.put, List.setIfInBounds_toArray, List.set_cons_zero, List.set_cons_succ]
        refine wpAnyH_take (i := 5) (v := ?_) rfl (by kernel_rfl) (by kernel_rfl) (by kernel_rfl) (fun _ _ _ h => h) (Or.inl ⟨by rfl, ?_⟩) (by assumption) ?_
        rotate_left
        · intro w hSw
          try dsimp only at hSw
          go_simp
          try with_reducible rfl
        try simp only [List.getElem_toArray, List.getElem_cons_zero, List.getElem_cons_succ, Act.put, List.setIfInBounds_toArray, List.set_cons_zero, List.set_cons_succ]
        refine wpAnyH_take (i := 6) (v := ?_) rfl (by kernel_rfl) (by kernel_rfl) (by kernel_rfl) (fun _ _ _ h => h) (Or.inl ⟨by rfl, ?_⟩) (by assumption) ?_
        rotate_left
        · intro w hSw
          try dsimp only at hSw
          go_simp
          try with_reducible rfl
        try simp only [List.getElem_toArray, List.getElem_cons_zero, List.getElem_cons_succ, Act.put, List.setIfInBounds_toArray, List.set_cons_zero, List.set_cons_succ]
        refine wpAnyH_ready (rs := [4]) (by kernel_rfl) (by simp) ?_
        refine AllReadyH.cons rfl (fun K hK => ?_) AllReadyH.nil
        go_simp
        go_at_call 9
        refine (HP1.out _ hHeld.1).mono ?_
        rintro e w6 ⟨rfl, hB⟩
        refine hK.out _ _ (Held.step hHeld hB) (fun hHeldN => ?_)
        clear hK K hHeld hB
        have hHeld := hHeldN
        clear hHeldN
        try simp only [List.getElem_toArray, List.getElem_cons_zero, List.getElem_cons_succ, Act.put, List.setIfInBounds_toArray, List.set_cons_zero, List.set_cons_succ]
        refine wpAnyH_take (i := 7) (v := ?_) rfl (by kernel_rfl) (by kernel_rfl) (by kernel_rfl) (fun _ _ _ h => h) (Or.inl ⟨by rfl, ?_⟩) (by assumption) ?_
        rotate_left
        · intro w hSw
          try dsimp only at hSw
          go_simp
          try with_reducible rfl
        try simp only [List.getElem_toArray, List.getElem_cons_zero, List.getElem_cons_succ, Act.put, List.setIfInBounds_toArray, List.set_cons_zero, List.set_cons_succ]
        refine wpAnyH_take (i := 8) (v := ?_) rfl (by kernel_rfl) (by kernel_rfl) (by kernel_rfl) (fun _ _ _ h => h) (Or.inl ⟨by rfl, ?_⟩) (by assumption) ?_
        rotate_left
        · intro w hSw
          try dsimp only at hSw
          go_simp
          try with_reducible rfl
        try simp only [List.getElem_toArray, List.getElem_cons_zero, List.getElem_cons_succ, Act.put, List.setIfInBounds_toArray, List.set_cons_zero, List.set_cons_succ]
        refine wpAnyH_take (i := 9) (v := ?_) rfl (by kernel_rfl) (by kernel_rfl) (by kernel_rfl) (fun _ _ _ h => h) (Or.inl ⟨by rfl, ?_⟩) (by assumption) ?_
        rotate_left
        · intro w hSw
          try dsimp only at hSw
          go_simp
          try with_reducible rfl
        try simp only [List.getElem_toArray, List.getElem_cons_zero, List.getElem_cons_succ, Act.put, List.setIfInBounds_toArray, List.set_cons_zero, List.set_cons_succ]
        refine wpAnyH_take (i := 10) (v := ?_) rfl (by kernel_rfl) (by kernel_rfl) (by kernel_rfl) (fun _ _ _ h => h) (Or.inl ⟨by rfl, ?_⟩) (by assumption) ?_
        rotate_left
        · intro w hSw
          try dsimp only at hSw
          go_simp
          try with_reducible rfl
        try simp only [List.getElem_toArray, List.getElem_cons_zero, List.getElem_cons_succ, Act.put, List.setIfInBounds_toArray, List.set_cons_zero, List.set_cons_succ]
        refine wpAnyH_take (i := 11) (v := ?_) rfl (by kernel_rfl) (by kernel_rfl) (by kernel_rfl) (fun _ _ _ h => h) (Or.inl ⟨by rfl, ?_⟩) (by assumption) ?_
        rotate_left
        · intro w hSw
          try dsimp only at hSw
          go_simp
          try with_reducible rfl
        try simp only [List.getElem_toArray, List.getElem_cons_zero, List.getElem_cons_succ, Act.put, List.setIfInBounds_toArray, List.set_cons_zero, List.set_cons_succ]
        refine wpAnyH_take (i := 12) (v := ?_) rfl (by kernel_rfl) (by kernel_rfl) (by kernel_rfl) (fun _ _ _ h => h) (Or.inl ⟨by rfl, ?_⟩) (by assumption) ?_
        rotate_left
        · intro w hSw
          try dsimp only at hSw
          go_simp
          try with_reducible rfl
        try simp only [List.getElem_toArray, List.getElem_cons_zero, List.getElem_cons_succ, Act.put, List.setIfInBounds_toArray, List.set_cons_zero, List.set_cons_succ]
        refine wpAnyH_take (i := 13) (v := ?_) rfl (by kernel_rfl) (by kernel_rfl) (by kernel_rfl) (fun _ _ _ h => h) (Or.inl ⟨by rfl, ?_⟩) (by assumption) ?_
        rotate_left
        · intro w hSw
          try dsimp only at hSw
          go_simp
          try with_reducible rfl
        try simp only [List.getElem_toArray, List.getElem_cons_zero, List.getElem_cons_succ, Act.put, List.setIfInBounds_toArray, List.set_cons_zero, List.set_cons_succ]
        refine wpAnyH_take (i := 14) (v := ?_) rfl (by kernel_rfl) (by kernel_rfl) (by kernel_rfl) (fun _ _ _ h => h) (Or.inl ⟨by rfl, ?_⟩) (by assumption) ?_
        rotate_left
        · intro w hSw
          try dsimp only at hSw
          go_simp
          try with_reducible rfl
        try simp only [List.getElem_toArray, List.getElem_cons_zero, List.getElem_cons_succ, Act.put, List.setIfInBounds_toArray, List.set_cons_zero, List.set_cons_succ]
        refine wpAnyH_take (i := 15) (v := ?_) rfl (by kernel_rfl) (by kernel_rfl) (by kernel_rfl) (fun _ _ _ h => h) (Or.inl ⟨by rfl, ?_⟩) (by assumption) ?_
        rotate_left
        · intro w hSw
          try dsimp only at hSw
          go_simp
          try with_reducible rfl
        try simp only [List.getElem_toArray, List.getElem_cons_zero, List.getElem_cons_succ, Act.put, List.setIfInBounds_toArray, List.set_cons_zero, List.set_cons_succ]
        refine wpAnyH_take (i := 16) (v := ?_) rfl (by kernel_rfl) (by kernel_rfl) (by kernel_rfl) (fun _ _ _ h => h) (Or.inl ⟨by rfl, ?_⟩) (by assumption) ?_
        rotate_left
        · intro w hSw
          try dsimp only at hSw
          go_simp
          try with_reducible rfl
        try simp only [List.getElem_toArray, List.getElem_cons_zero, List.getElem_cons_succ, Act.put, List.setIfInBounds_toArray, List.set_cons_zero, List.set_cons_succ]
        refine wpAnyH_take (i := 17) (v := ?_) rfl (by kernel_rfl) (by kernel_rfl) (by kernel_rfl) (fun _ _ _ h => h) (Or.inl ⟨by rfl, ?_⟩) (by assumption) ?_
        rotate_left
        · intro w hSw
          try dsimp only at hSw
          go_simp
          try with_reducible rfl
        try simp only [List.getElem_toArray, List.getElem_cons_zero, List.getElem_cons_succ, Act.put, List.setIfInBounds_toArray, List.set_cons_zero, List.set_cons_succ]
        refine wpAnyH_ready (rs := [18]) (by kernel_rfl) (by simp) ?_
        refine AllReadyH.cons rfl (fun K hK => ?_) AllReadyH.nil
        go_simp
        go_at_call 9
        refine (HP2.out _ hHeld.1).mono ?_
        rintro e w6 ⟨rfl, hB⟩
        refine hK.out _ _ (Held.step hHeld hB) (fun hHeldN => ?_)
        clear hK K hHeld hB
        have hHeld := hHeldN
        clear hHeldN
        try simp only [List.getElem_toArray, List.getElem_cons_zero, List.getElem_cons_succ, Act.put, List.setIfInBounds_toArray, List.set_cons_zero, List.set_cons_succ]
        refine wpAnyH_take (i := 19) (v := ?_) rfl (by kernel_rfl) (by kernel_rfl) (by kernel_rfl) (fun _ _ _ h => h) (Or.inl ⟨by rfl, ?_⟩) (by assumption) ?_
        rotate_left
        · intro w hSw
          try dsimp only at hSw
          go_simp
          try with_reducible rfl
        try simp only [List.getElem_toArray, List.getElem_cons_zero, List.getElem_cons_succ, Act.put, List.setIfInBounds_toArray, List.set_cons_zero, List.set_cons_succ]
        refine wpAnyH_take (i := 20) (v := ?_) rfl (by kernel_rfl) (by kernel_rfl) (by kernel_rfl) (fun _ _ _ h => h) (Or.inl ⟨by rfl, ?_⟩) (by assumption) ?_
        rotate_left
        · intro w hSw
          try dsimp only at hSw
          go_simp
          try with_reducible rfl
        try simp only [List.getElem_toArray, List.getElem_cons_zero, List.getElem_cons_succ, Act.put, List.setIfInBounds_toArray, List.set_cons_zero, List.set_cons_succ]
        refine wpAnyH_take (i := 21) (v := ?_) rfl (by kernel_rfl) (by kernel_rfl) (by kernel_rfl) (fun _ _ _ h => h) (Or.inl ⟨by rfl, ?_⟩) (by assumption) ?_
        rotate_left
        · intro w hSw
          try dsimp only at hSw
          go_simp
          try with_reducible rfl
        try simp only [List.getElem_toArray, List.getElem_cons_zero, List.getElem_cons_succ, Act.put, List.setIfInBounds_toArray, List.set_cons_zero, List.set_cons_succ]
        refine wpAnyH_take (i := 22) (v := ?_) rfl (by kernel_rfl) (by kernel_rfl) (by kernel_rfl) (fun _ _ _ h => h) (Or.inl ⟨by rfl, ?_⟩) (by assumption) ?_
        rotate_left
        · intro w hSw
          try dsimp only at hSw
          go_simp
          try with_reducible rfl
        try simp only [List.getElem_toArray, List.getElem_cons_zero, List.getElem_cons_succ, Act.put, List.setIfInBounds_toArray, List.set_cons_zero, List.set_cons_succ]
        refine wpAnyH_ready (rs := [23]) (by kernel_rfl) (by simp) ?_
        refine AllReadyH.cons rfl (fun K hK => ?_) AllReadyH.nil
        go_simp
        go_at_call 9
        refine (HP3.out _ hHeld.1).mono ?_
        rintro e w6 ⟨rfl, hB⟩
        refine hK.out _ _ (Held.step hHeld hB) (fun hHeldN => ?_)
        clear hK K hHeld hB
        have hHeld := hHeldN
        clear hHeldN
        try simp only [List.getElem_toArray, List.getElem_cons_zero, List.getElem_cons_succ, Act.put, List.setIfInBounds_toArray, List.set_cons_zero, List.set_cons_succ]
        refine wpAnyH_take (i := 24) (v := ?_) rfl (by kernel_rfl) (by kernel_rfl) (by kernel_rfl) (fun _ _ _ h => h) (Or.inl ⟨by rfl, ?_⟩) (by assumption) ?_
        rotate_left
        · intro w hSw
          try dsimp only at hSw
          go_simp
          try with_reducible rfl
        try simp only [List.getElem_toArray, List.getElem_cons_zero, List.getElem_cons_succ, Act.put, List.setIfInBounds_toArray, List.set_cons_zero, List.set_cons_succ]
        refine wpAnyH_take (i := 25) (v := ?_) rfl (by kernel_rfl) (by kernel_rfl) (by kernel_rfl) (fun _ _ _ h => h) (Or.inl ⟨by rfl, ?_⟩) (by assumption) ?_
        rotate_left
        · intro w hSw
          try dsimp only at hSw
          go_simp
          try with_reducible rfl
        try simp only [List.getElem_toArray, List.getElem_cons_zero, List.getElem_cons_succ, Act.put, List.setIfInBounds_toArray, List.set_cons_zero, List.set_cons_succ]
        refine wpAnyH_take (i := 26) (v := ?_) rfl (by kernel_rfl) (by kernel_rfl) (by kernel_rfl) (fun _ _ _ h => h) (Or.inl ⟨by rfl, ?_⟩) (by assumption) ?_
        rotate_left
        · intro w hSw
          try dsimp only at hSw
          go_simp
          try with_reducible rfl
        try simp only [List.getElem_toArray, List.getElem_cons_zero, List.getElem_cons_succ, Act.put, List.setIfInBounds_toArray, List.set_cons_zero, List.set_cons_succ]
        refine wpAnyH_take (i := 27) (v := ?_) rfl (by kernel_rfl) (by kernel_rfl) (by kernel_rfl) (fun _ _ _ h => h) (Or.inl ⟨by rfl, ?_⟩) (by assumption) ?_
        rotate_left
        · intro w hSw
          try dsimp only at hSw
          go_simp
          try with_reducible rfl
        try simp only [List.getElem_toArray, List.getElem_cons_zero, List.getElem_cons_succ, Act.put, List.setIfInBounds_toArray, List.set_cons_zero, List.set_cons_succ]
        refine wpAnyH_take (i := 28) (v := ?_) rfl (by kernel_rfl) (by kernel_rfl) (by kernel_rfl) (fun _ _ _ h => h) (Or.inl ⟨by rfl, ?_⟩) (by assumption) ?_
        rotate_left
        · intro w hSw
          try dsimp only at hSw
          go_simp
          try with_reducible rfl
        try simp only [List.getElem_toArray, List.getElem_cons_zero, List.getElem_cons_succ, Act.put, List.setIfInBounds_toArray, List.set_cons_zero, List.set_cons_succ]
        refine wpAnyH_take (i := 30) (v := ?_) rfl (by kernel_rfl) (by kernel_rfl) (by kernel_rfl) (fun _ _ _ h => h) (Or.inl ⟨by rfl, ?_⟩) (by assumption) ?_
        rotate_left
        · intro w hSw
          try dsimp only at hSw
          go_simp
          try with_reducible rfl
        try simp only [List.getElem_toArray, List.getElem_cons_zero, List.getElem_cons_succ, Act.put, List.setIfInBounds_toArray, List.set_cons_zero, List.set_cons_succ]
        refine wpAnyH_take (i := 31) (v := ?_) rfl (by kernel_rfl) (by kernel_rfl) (by kernel_rfl) (fun _ _ _ h => h) (Or.inl ⟨by rfl, ?_⟩) (by assumption) ?_
        rotate_left
        · intro w hSw
          try dsimp only at hSw
          go_simp
          try with_reducible rfl
        try simp only [List.getElem_toArray, List.getElem_cons_zero, List.getElem_cons_succ, Act.put, List.setIfInBounds_toArray, List.set_cons_zero, List.set_cons_succ]
        refine wpAnyH_ready (rs := [29]) (by kernel_rfl) (by simp) ?_
        refine AllReadyH.cons rfl (fun K hK => ?_) AllReadyH.nil
        go_simp
        go_at_call 11
        refine (HWW.out _ hHeld.1).mono ?_
        rintro e w6 ⟨a1, c1, rfl, h1, -, hB⟩
        rw [HN9.out] at h1 ⊢
        refine hK.out _ _ (Held.step hHeld hB) (fun hHeldN => ?_)
        clear hK K hHeld
        have hHeld := hHeldN
        clear hHeldN
        try simp only [List.getElem_toArray, List.getElem_cons_zero, List.getElem_cons_succ, Act.put, List.setIfInBounds_toArray, List.set_cons_zero, List.set_cons_succ]
        refine wpAnyH_ready (rs := [32]) (by kernel_rfl) (by simp) ?_
        refine AllReadyH.cons rfl (fun K hK => ?_) AllReadyH.nil
        clear hB
        go_simp
        go_at_call 12
        refine (HWD.out _ hHeld.1).mono ?_
        rintro e w6 ⟨a2, c2, rfl, h2, -, hB⟩
        rw [HN9.out] at h2 ⊢
        refine hK.out _ _ (Held.step hHeld hB) (fun hHeldN => ?_)
        clear hK K hHeld
        have hHeld := hHeldN
        clear hHeldN
        try simp only [List.getElem_toArray, List.getElem_cons_zero, List.getElem_cons_succ, Act.put, List.setIfInBounds_toArray, List.set_cons_zero, List.set_cons_succ]
        have h1 := h1.upd hB (by simp)
        have HPN : Hid (∀ w', w' = w6 → Calls Try.prog 10 #[.slice a1 n9 c1, .slice a2 n9 c2] w' (RetUpd [] w' (.bool true))) := fun w' hw => by subst hw; exact iplain_any h1.sl h2.sl
        clear h1 h2 hB
        refine wpAnyH_ready (rs := [33]) (by kernel_rfl) (by simp) ?_
        refine AllReadyH.cons rfl (fun K hK => ?_) AllReadyH.nil
        go_simp
        go_at_call 10
        refine (HPN.out _ rfl).mono ?_
        rintro e w6 ⟨rfl, hB⟩
        refine hK.out _ _ (Held.step hHeld hB) (fun hHeldN => ?_)
        clear hK K hHeld hB
        have hHeld := hHeldN
        clear hHeldN
        try simp only [List.getElem_toArray, List.getElem_cons_zero, List.getElem_cons_succ, Act.put, List.setIfInBounds_toArray, List.set_cons_zero, List.set_cons_succ]
        refine wpAnyH_take (i := 34) (v := ?_) rfl (by kernel_rfl) (by kernel_rfl) (by kernel_rfl) (fun _ _ _ h => h) (Or.inl ⟨by rfl, ?_⟩) (by assumption) ?_
        rotate_left
        · intro w hSw
          try dsimp only at hSw
          go_simp
          try with_reducible rfl
        try simp only [List.getElem_toArray, List.getElem_cons_zero, List.getElem_cons_succ, Act.put, List.setIfInBounds_toArray, List.set_cons_zero, List.set_cons_succ]
        refine wpAnyH_take (i := 35) (v := ?_) rfl (by kernel_rfl) (by kernel_rfl) (by kernel_rfl) (fun _ _ _ h => h) (Or.inl ⟨by rfl, ?_⟩) (by assumption) ?_
        rotate_left
        · intro w hSw
          try dsimp only at hSw
          go_simp
          try with_reducible rfl
        try simp only [List.getElem_toArray, List.getElem_cons_zero, List.getElem_cons_succ, Act.put, List.setIfInBounds_toArray, List.set_cons_zero, List.set_cons_succ]
        refine wpAnyH_done (by kernel_rfl) ?_ _
        go_wp2_with fail
        go_ret
        exact ⟨rfl, HUC.out.trans hHeld.1⟩
      · rw [HRR.out] at hpm; cases hpm
    · skip
      have HRR : Hid (playsM ⟨⟨A, B, C, D, U⟩, E9⟩ l = none) := hpm
      have HB3 := Lib.hid (HB3.out.upd hu (by simp))
      have HPL := Lib.hid (HPL.out.upd hu)
      have HUW := Lib.hid (HUZ.out.trans hu)
      clear hpm hu HDP
      clear y0 y1 y2 y3 y4 y5 ly
      have y0 := HB3.out.cell (j := 0) rfl
      have y1 := HB3.out.cell (j := 1) rfl
      have y2 := HB3.out.cell (j := 2) rfl
      have y3 := HB3.out.cell (j := 3) rfl
      have y4 := HB3.out.cell (j := 4) rfl
      have y5 := HB3.out.cell (j := 5) rfl
      have ly := HB3.out.lt
      go_upto_region 6 with (fail)
      obtain ⟨wb, hwb⟩ : ∃ y, wa.alloc (.cells #[.int .i64 A, .int .i64 0, .int .i64 C, .int .i64 D, .int .u64 U, .slice ao9 n9 c9] 27) = y := ⟨_, rfl⟩
      have hub : Upd [] wa wb := by rw [← hwb]; exact (Upd.refl [] wa).alloc _
      obtain ⟨b8, hb8⟩ : ∃ y, wa.heap.size = y := ⟨_, rfl⟩
      have HB8 : Hid (Blk wb b8 27 [.int .i64 A, .int .i64 0, .int .i64 C, .int .i64 D, .int .u64 U, .slice ao9 n9 c9]) := by
        unfold Hid; rw [← hwb, ← hb8]; exact Blk.new wa 27 [.int .i64 A, .int .i64 0, .int .i64 C, .int .i64 D, .int .u64 U, .slice ao9 n9 c9]
      have HB3 := Lib.hid (HB3.out.upd hub (by simp))
      have HPL := Lib.hid (HPL.out.upd hub)
      have HUB := Lib.hid (HUW.out.trans hub)
      have HPX : Hid (PlanAt wb (.agg #[.int .i64 A, .int .i64 0, .int .i64 C, .int .i64 D, .int .u64 U, .slice ao9 n9 c9]) ⟨⟨A, 0, C, D, U⟩, E9⟩) := by
        obtain ⟨lv, he, hL⟩ := HPL.out
        cases he
        exact ⟨_, rfl, hL⟩
      rw [hwb, hb8]
      clear hub hwb hb8
      clear y0 y1 y2 y3 y4 y5 ly
      have y0 := HB3.out.cell (j := 0) rfl
      have y1 := HB3.out.cell (j := 1) rfl
      have y2 := HB3.out.cell (j := 2) rfl
      have y3 := HB3.out.cell (j := 3) rfl
      have y4 := HB3.out.cell (j := 4) rfl
      have y5 := HB3.out.cell (j := 5) rfl
      have ly := HB3.out.lt
      have HWM : Hid (Calls Try.prog 7 #[.agg #[.int .i64 A, .int .i64 B, .int .i64 C, .int .i64 D, .int .u64 U, .slice ao9 n9 c9], .slice al n cl] wb (WMTo w ⟨⟨A, B, C, D, U⟩, E9⟩ l wb)) := wmodel_any (ok := fun _ => True) HUB.out.size HPL.out (HL.out.upd HUB.out) (do_ok _ _) (fun _ _ _ _ => trivial) HL1.out
      go_wp2_with fail
      refine HWM.out.mono ?_
      rintro e wc hto
      rcases hto with ⟨m1, mb1, G1, hpm, rfl, -, -, hc, -⟩ | ⟨hpm, rfl, hc⟩
      · rw [HRR.out] at hpm; cases hpm
      · skip
        clear hpm
        have HUC : Hid (Upd [] w wc) := HUB.out.trans hc
        have HB3 := Lib.hid (HB3.out.upd hc (by simp))
        have HB8 := Lib.hid (HB8.out.upd hc (by simp))
        have HPL := Lib.hid (HPL.out.upd hc)
        have HPX := Lib.hid (HPX.out.upd hc)
        clear hc HWM y0 y1 y2 y3 y4 y5 ly
        have y0 := HB3.out.cell (j := 0) rfl
        have y1 := HB3.out.cell (j := 1) rfl
        have y2 := HB3.out.cell (j := 2) rfl
        have y3 := HB3.out.cell (j := 3) rfl
        have y4 := HB3.out.cell (j := 4) rfl
        have y5 := HB3.out.cell (j := 5) rfl
        have ly := HB3.out.lt
        have z0 := HB8.out.cell (j := 0) rfl
        have z1 := HB8.out.cell (j := 1) rfl
        have z2 := HB8.out.cell (j := 2) rfl
        have z3 := HB8.out.cell (j := 3) rfl
        have z4 := HB8.out.cell (j := 4) rfl
        have z5 := HB8.out.cell (j := 5) rfl
        have lz := HB8.out.lt
        have HAW : Hid (∀ w', Upd [] wc w' → Calls Try.prog 8 #[] w' (RetUpd [] w' (.bool true))) := fun w' _ => awake27_any w'
        have HP1 : Hid (∀ w', Upd [] wc w' → Calls Try.prog 9 #[.agg #[.int .i64 A, .int .i64 B, .int .i64 C, .int .i64 D, .int .u64 U, .slice ao9 n9 c9], .slice al n cl] w' (RetUpd [] w' (.bool false))) := fun w' hu => by
          have := wplays_any (ok := fun _ => True) (HPL.out.upd hu) (HL.out.upd (HUC.out.trans hu)) (do_ok _ _) (fun _ _ _ _ => trivial) HL1.out
          rw [HRR.out] at this
          exact this
        have HP2 : Hid (∀ w', Upd [] wc w' → Calls Try.prog 9 #[.agg #[.int .i64 A, .int .i64 0, .int .i64 C, .int .i64 D, .int .u64 U, .slice ao9 n9 c9], .slice al n cl] w' (RetUpd [] w' (.bool false))) := fun w' hu => by
          have := wplays_any (ok := fun _ => True) (HPX.out.upd hu) (HL.out.upd (HUC.out.trans hu)) (do_ok _ _) (fun _ _ _ _ => trivial) HL1.out
          rw [bad_none] at this
          exact this
        have HP3 : Hid (∀ w', Upd [] wc w' → Calls Try.prog 9 #[.agg #[.int .i64 A, .int .i64 0, .int .i64 C, .int .i64 D, .int .u64 U, .slice ao9 n9 c9], .slice none 0 0] w' (RetUpd [] w' (.bool false))) := fun w' hu => by
          have := wplays_any (l := []) (ok := fun _ => True) (HPX.out.upd hu) ⟨SlAt.nil _ _, fun x hx => by cases hx⟩ (do_ok _ _) (fun _ _ _ _ => trivial) (by simp)
          rw [bad_none] at this
          exact this
        have HWW : Hid (∀ w', Upd [] wc w' → Calls Try.prog 11 #[.agg #[.int .i64 A, .int .i64 B, .int .i64 C, .int .i64 D, .int .u64 U, .slice ao9 n9 c9], .slice al n cl] w' (WhoTo w' E9 l)) := fun w' hu => wwhole_any (HPL.out.upd hu) (HL.out.upd (HUC.out.trans hu)) HPLN.out
        have HWD : Hid (∀ w', Upd [] wc w' → Calls Try.prog 12 #[.agg #[.int .i64 A, .int .i64 B, .int .i64 C, .int .i64 D, .int .u64 U, .slice ao9 n9 c9], .slice al n cl] w' (WhoTo w' E9 l)) := fun w' hu => dwhole_any (HPL.out.upd hu) (HL.out.upd (HUC.out.trans hu)) HPLN.out HL2.out
        go_upto_region 7 with (fail)
        refine wp_region_held_drew (S := fun w' => Upd [] wc w' ∧ ∀ (b o : Nat), b < wc.heap.size → b ∉ [] → w'.cell? ⟨b, o, none⟩ = wc.cell? ⟨b, o, none⟩) (by kernel_rfl) (Held.init _ _) (fun hHeld => ?_)
        refine wpAnyH_ready (rs := [0]) (by kernel_rfl) (by simp) ?_
        refine AllReadyH.cons rfl (fun K hK => ?_) AllReadyH.nil
        go_simp
        go_at_call 8
        refine (HAW.out _ hHeld.1).mono ?_
        rintro e w6 ⟨rfl, hB⟩
        refine hK.out _ _ (Held.step hHeld hB) (fun hHeldN => ?_)
        clear hK K hHeld hB
        have hHeld := hHeldN
        clear hHeldN
        try simp only [List.getElem_toArray, List.getElem_cons_zero, List.getElem_cons_succ, Act.put, List.setIfInBounds_toArray, List.set_cons_zero, List.set_cons_succ]
        refine wpAnyH_take (i := 1) (v := ?_) rfl (by kernel_rfl) (by kernel_rfl) (by kernel_rfl) (fun _ _ _ h => h) (Or.inl ⟨by rfl, ?_⟩) (by assumption) ?_
        rotate_left
        · intro w hSw
          try dsimp only at hSw
          go_simp
          try with_reducible rfl
        try simp only [List.getElem_toArray, List.getElem_cons_zero, List.getElem_cons_succ, Act.put, List.setIfInBounds_toArray, List.set_cons_zero, List.set_cons_succ]
        refine wpAnyH_take (i := 2) (v := ?_) rfl (by kernel_rfl) (by kernel_rfl) (by kernel_rfl) (fun _ _ _ h => h) (Or.inl ⟨by rfl, ?_⟩) (by assumption) ?_
        rotate_left
        · intro w hSw
          try dsimp only at hSw
          go_simp
          try with_reducible rfl
        try simp only [List.getElem_toArray, List.getElem_cons_zero, List.getElem_cons_succ, Act.put, List.setIfInBounds_toArray, List.set_cons_zero, List.set_cons_succ]
        refine wpAnyH_take (i := 3) (v := ?_) rfl (by kernel_rfl) (by kernel_rfl) (by kernel_rfl) (fun _ _ _ h => h) (Or.inl ⟨by rfl, ?_⟩) (by assumption) ?_
        rotate_left
        · intro w hSw
          try dsimp only at hSw
          go_simp
          try with_reducible rfl
        try simp only [List.getElem_toArray, List.getElem_cons_zero, List.getElem_cons_succ, Act.put, List.setIfInBounds_toArray, List.set_cons_zero, List.set_cons_succ]
        refine wpAnyH_take (i := 5) (v := ?_) rfl (by kernel_rfl) (by kernel_rfl) (by kernel_rfl) (fun _ _ _ h => h) (Or.inl ⟨by rfl, ?_⟩) (by assumption) ?_
        rotate_left
        · intro w hSw
          try dsimp only at hSw
          go_simp
          try with_reducible rfl
        try simp only [List.getElem_toArray, List.getElem_cons_zero, List.getElem_cons_succ, Act.put, List.setIfInBounds_toArray, List.set_cons_zero, List.set_cons_succ]
        refine wpAnyH_take (i := 6) (v := ?_) rfl (by kernel_rfl) (by kernel_rfl) (by kernel_rfl) (fun _ _ _ h => h) (Or.inl ⟨by rfl, ?_⟩) (by assumption) ?_
        rotate_left
        · intro w hSw
          try dsimp only at hSw
          go_simp
          try with_reducible rfl
        try simp only [List.getElem_toArray, List.getElem_cons_zero, List.getElem_cons_succ, Act.put, List.setIfInBounds_toArray, List.set_cons_zero, List.set_cons_succ]
        refine wpAnyH_ready (rs := [4]) (by kernel_rfl) (by simp) ?_
        refine AllReadyH.cons rfl (fun K hK => ?_) AllReadyH.nil
        go_simp
        go_at_call 9
        refine (HP1.out _ hHeld.1).mono ?_
        rintro e w6 ⟨rfl, hB⟩
        refine hK.out _ _ (Held.step hHeld hB) (fun hHeldN => ?_)
        clear hK K hHeld hB
        have hHeld := hHeldN
        clear hHeldN
        try simp only [List.getElem_toArray, List.getElem_cons_zero, List.getElem_cons_succ, Act.put, List.setIfInBounds_toArray, List.set_cons_zero, List.set_cons_succ]
        refine wpAnyH_take (i := 7) (v := ?_) rfl (by kernel_rfl) (by kernel_rfl) (by kernel_rfl) (fun _ _ _ h => h) (Or.inl ⟨by rfl, ?_⟩) (by assumption) ?_
        rotate_left
        · intro w hSw
          try dsimp only at hSw
          go_simp
          try with_reducible rfl
        try simp only [List.getElem_toArray, List.getElem_cons_zero, List.getElem_cons_succ, Act.put, List.setIfInBounds_toArray, List.set_cons_zero, List.set_cons_succ]
        refine wpAnyH_take (i := 8) (v := ?_) rfl (by kernel_rfl) (by kernel_rfl) (by kernel_rfl) (fun _ _ _ h => h) (Or.inl ⟨by rfl, ?_⟩) (by assumption) ?_
        rotate_left
        · intro w hSw
          try dsimp only at hSw
          go_simp
          try with_reducible rfl
        try simp only [List.getElem_toArray, List.getElem_cons_zero, List.getElem_cons_succ, Act.put, List.setIfInBounds_toArray, List.set_cons_zero, List.set_cons_succ]
        refine wpAnyH_take (i := 9) (v := ?_) rfl (by kernel_rfl) (by kernel_rfl) (by kernel_rfl) (fun _ _ _ h => h) (Or.inl ⟨by rfl, ?_⟩) (by assumption) ?_
        rotate_left
        · intro w hSw
          try dsimp only at hSw
          go_simp
          try with_reducible rfl
        try simp only [List.getElem_toArray, List.getElem_cons_zero, List.getElem_cons_succ, Act.put, List.setIfInBounds_toArray, List.set_cons_zero, List.set_cons_succ]
        refine wpAnyH_take (i := 10) (v := ?_) rfl (by kernel_rfl) (by kernel_rfl) (by kernel_rfl) (fun _ _ _ h => h) (Or.inl ⟨by rfl, ?_⟩) (by assumption) ?_
        rotate_left
        · intro w hSw
          try dsimp only at hSw
          go_simp
          try with_reducible rfl
        try simp only [List.getElem_toArray, List.getElem_cons_zero, List.getElem_cons_succ, Act.put, List.setIfInBounds_toArray, List.set_cons_zero, List.set_cons_succ]
        refine wpAnyH_take (i := 11) (v := ?_) rfl (by kernel_rfl) (by kernel_rfl) (by kernel_rfl) (fun _ _ _ h => h) (Or.inl ⟨by rfl, ?_⟩) (by assumption) ?_
        rotate_left
        · intro w hSw
          try dsimp only at hSw
          go_simp
          try with_reducible rfl
        try simp only [List.getElem_toArray, List.getElem_cons_zero, List.getElem_cons_succ, Act.put, List.setIfInBounds_toArray, List.set_cons_zero, List.set_cons_succ]
        refine wpAnyH_take (i := 12) (v := ?_) rfl (by kernel_rfl) (by kernel_rfl) (by kernel_rfl) (fun _ _ _ h => h) (Or.inl ⟨by rfl, ?_⟩) (by assumption) ?_
        rotate_left
        · intro w hSw
          try dsimp only at hSw
          go_simp
          try with_reducible rfl
        try simp only [List.getElem_toArray, List.getElem_cons_zero, List.getElem_cons_succ, Act.put, List.setIfInBounds_toArray, List.set_cons_zero, List.set_cons_succ]
        refine wpAnyH_take (i := 13) (v := ?_) rfl (by kernel_rfl) (by kernel_rfl) (by kernel_rfl) (fun _ _ _ h => h) (Or.inl ⟨by rfl, ?_⟩) (by assumption) ?_
        rotate_left
        · intro w hSw
          try dsimp only at hSw
          go_simp
          try with_reducible rfl
        try simp only [List.getElem_toArray, List.getElem_cons_zero, List.getElem_cons_succ, Act.put, List.setIfInBounds_toArray, List.set_cons_zero, List.set_cons_succ]
        refine wpAnyH_take (i := 14) (v := ?_) rfl (by kernel_rfl) (by kernel_rfl) (by kernel_rfl) (fun _ _ _ h => h) (Or.inl ⟨by rfl, ?_⟩) (by assumption) ?_
        rotate_left
        · intro w hSw
          try dsimp only at hSw
          go_simp
          try with_reducible rfl
        try simp only [List.getElem_toArray, List.getElem_cons_zero, List.getElem_cons_succ, Act.put, List.setIfInBounds_toArray, List.set_cons_zero, List.set_cons_succ]
        refine wpAnyH_take (i := 15) (v := ?_) rfl (by kernel_rfl) (by kernel_rfl) (by kernel_rfl) (fun _ _ _ h => h) (Or.inl ⟨by rfl, ?_⟩) (by assumption) ?_
        rotate_left
        · intro w hSw
          try dsimp only at hSw
          go_simp
          try with_reducible rfl
        try simp only [List.getElem_toArray, List.getElem_cons_zero, List.getElem_cons_succ, Act.put, List.setIfInBounds_toArray, List.set_cons_zero, List.set_cons_succ]
        refine wpAnyH_take (i := 16) (v := ?_) rfl (by kernel_rfl) (by kernel_rfl) (by kernel_rfl) (fun _ _ _ h => h) (Or.inl ⟨by rfl, ?_⟩) (by assumption) ?_
        rotate_left
        · intro w hSw
          try dsimp only at hSw
          go_simp
          try with_reducible rfl
        try simp only [List.getElem_toArray, List.getElem_cons_zero, List.getElem_cons_succ, Act.put, List.setIfInBounds_toArray, List.set_cons_zero, List.set_cons_succ]
        refine wpAnyH_take (i := 17) (v := ?_) rfl (by kernel_rfl) (by kernel_rfl) (by kernel_rfl) (fun _ _ _ h => h) (Or.inl ⟨by rfl, ?_⟩) (by assumption) ?_
        rotate_left
        · intro w hSw
          try dsimp only at hSw
          go_simp
          try with_reducible rfl
        try simp only [List.getElem_toArray, List.getElem_cons_zero, List.getElem_cons_succ, Act.put, List.setIfInBounds_toArray, List.set_cons_zero, List.set_cons_succ]
        refine wpAnyH_ready (rs := [18]) (by kernel_rfl) (by simp) ?_
        refine AllReadyH.cons rfl (fun K hK => ?_) AllReadyH.nil
        go_simp
        go_at_call 9
        refine (HP2.out _ hHeld.1).mono ?_
        rintro e w6 ⟨rfl, hB⟩
        refine hK.out _ _ (Held.step hHeld hB) (fun hHeldN => ?_)
        clear hK K hHeld hB
        have hHeld := hHeldN
        clear hHeldN
        try simp only [List.getElem_toArray, List.getElem_cons_zero, List.getElem_cons_succ, Act.put, List.setIfInBounds_toArray, List.set_cons_zero, List.set_cons_succ]
        refine wpAnyH_take (i := 19) (v := ?_) rfl (by kernel_rfl) (by kernel_rfl) (by kernel_rfl) (fun _ _ _ h => h) (Or.inl ⟨by rfl, ?_⟩) (by assumption) ?_
        rotate_left
        · intro w hSw
          try dsimp only at hSw
          go_simp
          try with_reducible rfl
        try simp only [List.getElem_toArray, List.getElem_cons_zero, List.getElem_cons_succ, Act.put, List.setIfInBounds_toArray, List.set_cons_zero, List.set_cons_succ]
        refine wpAnyH_take (i := 20) (v := ?_) rfl (by kernel_rfl) (by kernel_rfl) (by kernel_rfl) (fun _ _ _ h => h) (Or.inl ⟨by rfl, ?_⟩) (by assumption) ?_
        rotate_left
        · intro w hSw
          try dsimp only at hSw
          go_simp
          try with_reducible rfl
        try simp only [List.getElem_toArray, List.getElem_cons_zero, List.getElem_cons_succ, Act.put, List.setIfInBounds_toArray, List.set_cons_zero, List.set_cons_succ]
        refine wpAnyH_take (i := 21) (v := ?_) rfl (by kernel_rfl) (by kernel_rfl) (by kernel_rfl) (fun _ _ _ h => h) (Or.inl ⟨by rfl, ?_⟩) (by assumption) ?_
        rotate_left
        · intro w hSw
          try dsimp only at hSw
          go_simp
          try with_reducible rfl
        try simp only [List.getElem_toArray, List.getElem_cons_zero, List.getElem_cons_succ, Act.put, List.setIfInBounds_toArray, List.set_cons_zero, List.set_cons_succ]
        refine wpAnyH_take (i := 22) (v := ?_) rfl (by kernel_rfl) (by kernel_rfl) (by kernel_rfl) (fun _ _ _ h => h) (Or.inl ⟨by rfl, ?_⟩) (by assumption) ?_
        rotate_left
        · intro w hSw
          try dsimp only at hSw
          go_simp
          try with_reducible rfl
        try simp only [List.getElem_toArray, List.getElem_cons_zero, List.getElem_cons_succ, Act.put, List.setIfInBounds_toArray, List.set_cons_zero, List.set_cons_succ]
        refine wpAnyH_ready (rs := [23]) (by kernel_rfl) (by simp) ?_
        refine AllReadyH.cons rfl (fun K hK => ?_) AllReadyH.nil
        go_simp
        go_at_call 9
        refine (HP3.out _ hHeld.1).mono ?_
        rintro e w6 ⟨rfl, hB⟩
        refine hK.out _ _ (Held.step hHeld hB) (fun hHeldN => ?_)
        clear hK K hHeld hB
        have hHeld := hHeldN
        clear hHeldN
        try simp only [List.getElem_toArray, List.getElem_cons_zero, List.getElem_cons_succ, Act.put, List.setIfInBounds_toArray, List.set_cons_zero, List.set_cons_succ]
        refine wpAnyH_take (i := 24) (v := ?_) rfl (by kernel_rfl) (by kernel_rfl) (by kernel_rfl) (fun _ _ _ h => h) (Or.inl ⟨by rfl, ?_⟩) (by assumption) ?_
        rotate_left
        · intro w hSw
          try dsimp only at hSw
          go_simp
          try with_reducible rfl
        try simp only [List.getElem_toArray, List.getElem_cons_zero, List.getElem_cons_succ, Act.put, List.setIfInBounds_toArray, List.set_cons_zero, List.set_cons_succ]
        refine wpAnyH_take (i := 25) (v := ?_) rfl (by kernel_rfl) (by kernel_rfl) (by kernel_rfl) (fun _ _ _ h => h) (Or.inl ⟨by rfl, ?_⟩) (by assumption) ?_
        rotate_left
        · intro w hSw
          try dsimp only at hSw
          go_simp
          try with_reducible rfl
        try simp only [List.getElem_toArray, List.getElem_cons_zero, List.getElem_cons_succ, Act.put, List.setIfInBounds_toArray, List.set_cons_zero, List.set_cons_succ]
        refine wpAnyH_take (i := 26) (v := ?_) rfl (by kernel_rfl) (by kernel_rfl) (by kernel_rfl) (fun _ _ _ h => h) (Or.inl ⟨by rfl, ?_⟩) (by assumption) ?_
        rotate_left
        · intro w hSw
          try dsimp only at hSw
          go_simp
          try with_reducible rfl
        try simp only [List.getElem_toArray, List.getElem_cons_zero, List.getElem_cons_succ, Act.put, List.setIfInBounds_toArray, List.set_cons_zero, List.set_cons_succ]
        refine wpAnyH_take (i := 27) (v := ?_) rfl (by kernel_rfl) (by kernel_rfl) (by kernel_rfl) (fun _ _ _ h => h) (Or.inl ⟨by rfl, ?_⟩) (by assumption) ?_
        rotate_left
        · intro w hSw
          try dsimp only at hSw
          go_simp
          try with_reducible rfl
        try simp only [List.getElem_toArray, List.getElem_cons_zero, List.getElem_cons_succ, Act.put, List.setIfInBounds_toArray, List.set_cons_zero, List.set_cons_succ]
        refine wpAnyH_take (i := 28) (v := ?_) rfl (by kernel_rfl) (by kernel_rfl) (by kernel_rfl) (fun _ _ _ h => h) (Or.inl ⟨by rfl, ?_⟩) (by assumption) ?_
        rotate_left
        · intro w hSw
          try dsimp only at hSw
          go_simp
          try with_reducible rfl
        try simp only [List.getElem_toArray, List.getElem_cons_zero, List.getElem_cons_succ, Act.put, List.setIfInBounds_toArray, List.set_cons_zero, List.set_cons_succ]
        refine wpAnyH_take (i := 30) (v := ?_) rfl (by kernel_rfl) (by kernel_rfl) (by kernel_rfl) (fun _ _ _ h => h) (Or.inl ⟨by rfl, ?_⟩) (by assumption) ?_
        rotate_left
        · intro w hSw
          try dsimp only at hSw
          go_simp
          try with_reducible rfl
        try simp only [List.getElem_toArray, List.getElem_cons_zero, List.getElem_cons_succ, Act.put, List.setIfInBounds_toArray, List.set_cons_zero, List.set_cons_succ]
        refine wpAnyH_take (i := 31) (v := ?_) rfl (by kernel_rfl) (by kernel_rfl) (by kernel_rfl) (fun _ _ _ h => h) (Or.inl ⟨by rfl, ?_⟩) (by assumption) ?_
        rotate_left
        · intro w hSw
          try dsimp only at hSw
          go_simp
          try with_reducible rfl
        try simp only [List.getElem_toArray, List.getElem_cons_zero, List.getElem_cons_succ, Act.put, List.setIfInBounds_toArray, List.set_cons_zero, List.set_cons_succ]
        refine wpAnyH_ready (rs := [29]) (by kernel_rfl) (by simp) ?_
        refine AllReadyH.cons rfl (fun K hK => ?_) AllReadyH.nil
        go_simp
        go_at_call 11
        refine (HWW.out _ hHeld.1).mono ?_
        rintro e w6 ⟨a1, c1, rfl, h1, -, hB⟩
        rw [HN9.out] at h1 ⊢
        refine hK.out _ _ (Held.step hHeld hB) (fun hHeldN => ?_)
        clear hK K hHeld
        have hHeld := hHeldN
        clear hHeldN
        try simp only [List.getElem_toArray, List.getElem_cons_zero, List.getElem_cons_succ, Act.put, List.setIfInBounds_toArray, List.set_cons_zero, List.set_cons_succ]
        refine wpAnyH_ready (rs := [32]) (by kernel_rfl) (by simp) ?_
        refine AllReadyH.cons rfl (fun K hK => ?_) AllReadyH.nil
        clear hB
        go_simp
        go_at_call 12
        refine (HWD.out _ hHeld.1).mono ?_
        rintro e w6 ⟨a2, c2, rfl, h2, -, hB⟩
        rw [HN9.out] at h2 ⊢
        refine hK.out _ _ (Held.step hHeld hB) (fun hHeldN => ?_)
        clear hK K hHeld
        have hHeld := hHeldN
        clear hHeldN
        try simp only [List.getElem_toArray, List.getElem_cons_zero, List.getElem_cons_succ, Act.put, List.setIfInBounds_toArray, List.set_cons_zero, List.set_cons_succ]
        have h1 := h1.upd hB (by simp)
        have HPN : Hid (∀ w', w' = w6 → Calls Try.prog 10 #[.slice a1 n9 c1, .slice a2 n9 c2] w' (RetUpd [] w' (.bool true))) := fun w' hw => by subst hw; exact iplain_any h1.sl h2.sl
        clear h1 h2 hB
        refine wpAnyH_ready (rs := [33]) (by kernel_rfl) (by simp) ?_
        refine AllReadyH.cons rfl (fun K hK => ?_) AllReadyH.nil
        go_simp
        go_at_call 10
        refine (HPN.out _ rfl).mono ?_
        rintro e w6 ⟨rfl, hB⟩
        refine hK.out _ _ (Held.step hHeld hB) (fun hHeldN => ?_)
        clear hK K hHeld hB
        have hHeld := hHeldN
        clear hHeldN
        try simp only [List.getElem_toArray, List.getElem_cons_zero, List.getElem_cons_succ, Act.put, List.setIfInBounds_toArray, List.set_cons_zero, List.set_cons_succ]
        refine wpAnyH_take (i := 34) (v := ?_) rfl (by kernel_rfl) (by kernel_rfl) (by kernel_rfl) (fun _ _ _ h => h) (Or.inl ⟨by rfl, ?_⟩) (by assumption) ?_
        rotate_left
        · intro w hSw
          try dsimp only at hSw
          go_simp
          try with_reducible rfl
        try simp only [List.getElem_toArray, List.getElem_cons_zero, List.getElem_cons_succ, Act.put, List.setIfInBounds_toArray, List.set_cons_zero, List.set_cons_succ]
        refine wpAnyH_take (i := 35) (v := ?_) rfl (by kernel_rfl) (by kernel_rfl) (by kernel_rfl) (fun _ _ _ h => h) (Or.inl ⟨by rfl, ?_⟩) (by assumption) ?_
        rotate_left
        · intro w hSw
          try dsimp only at hSw
          go_simp
          try with_reducible rfl
        try simp only [List.getElem_toArray, List.getElem_cons_zero, List.getElem_cons_succ, Act.put, List.setIfInBounds_toArray, List.set_cons_zero, List.set_cons_succ]
        refine wpAnyH_done (by kernel_rfl) ?_ _
        go_wp2_with fail
        go_ret
        exact ⟨rfl, HUC.out.trans hHeld.1⟩
  | true =>
    have HPP : Hid (Calls Try.prog 5 #[.agg #[.int .i64 A, .int .i64 B, .int .i64 C, .int .i64 D, .int .u64 U, .slice ao9 n9 c9], .int .i64 5] wz (PlTo wz)) := pplan_some HPL.out
    have y0 := HB3.out.cell (j := 0) rfl
    have y1 := HB3.out.cell (j := 1) rfl
    have y2 := HB3.out.cell (j := 2) rfl
    have y3 := HB3.out.cell (j := 3) rfl
    have y4 := HB3.out.cell (j := 4) rfl
    have y5 := HB3.out.cell (j := 5) rfl
    have ly := HB3.out.lt
    go_wp2_with fail
    clear hwz hb3
    refine HPP.out.mono ?_
    rintro e wq ⟨A, B, C, D, U, ao9, c9, E9, rfl, hls8, hlen8, hnew8, huq⟩
    clear y0 y1 y2 y3 y4 y5 ly
    have HB3q := Lib.hid (HB3.out.upd huq (by simp))
    have HUQ := Lib.hid (HUZ.out.trans huq)
    have HLQ := Lib.hid hls8
    have HL8 := Lib.hid hlen8
    have HNW8 := Lib.hid hnew8
    have HSP : Hid (b3 < wz.heap.size) := HB3.out.lt
    clear hls8 hlen8 hnew8 huq HPP HPL HPLN HN9 bn9 HLS
    obtain ⟨n9, hn9⟩ : ∃ n, E9.length = n := ⟨_, rfl⟩
    have HN9 := Lib.hid hn9
    rw [hn9]
    have HPLN : Hid (E9.length ≤ 8796093022208) := Nat.le_trans HL8.out (by decide)
    have y0 := HB3q.out.cell (j := 0) rfl
    have y1 := HB3q.out.cell (j := 1) rfl
    have y2 := HB3q.out.cell (j := 2) rfl
    have y3 := HB3q.out.cell (j := 3) rfl
    have y4 := HB3q.out.cell (j := 4) rfl
    have y5 := HB3q.out.cell (j := 5) rfl
    have ly := HB3q.out.lt
    have g0 := HB3q.out.free 0
    have g1 := HB3q.out.free 1
    have g2 := HB3q.out.free 2
    have g3 := HB3q.out.free 3
    have g4 := HB3q.out.free 4
    have g5 := HB3q.out.free 5
    go_upto_region 3 with (fail)
    obtain ⟨w6, hw6⟩ : ∃ v, (((((wq.setCell ⟨b3, 0, none⟩ (.int .i64 A)).setCell ⟨b3, 1, none⟩ (.int .i64 B)).setCell ⟨b3, 2, none⟩ (.int .i64 C)).setCell ⟨b3, 3, none⟩ (.int .i64 D)).setCell ⟨b3, 4, none⟩ (.int .u64 U)).setCell ⟨b3, 5, none⟩ (.slice ao9 n9 c9) = v := ⟨_, rfl⟩
    have hu6 : Upd [b3] wq w6 := by rw [← hw6]; exact (((((Upd.refl [b3] wq).setCell (.inl (by simp)) _).setCell (.inl (by simp)) _).setCell (.inl (by simp)) _).setCell (.inl (by simp)) _).setCell (.inl (by simp)) _ |>.setCell (.inl (by simp)) _
    have hb6 : Blk w6 b3 27 [.int .i64 A, .int .i64 B, .int .i64 C, .int .i64 D, .int .u64 U, .slice ao9 n9 c9] := by rw [← hw6]; exact (((((HB3q.out.set 0 (.int .i64 A)).set 1 (.int .i64 B)).set 2 (.int .i64 C)).set 3 (.int .i64 D)).set 4 (.int .u64 U)).set 5 (.slice ao9 n9 c9)
    have HU6 := Lib.hid hu6
    have HPL : Hid (PlanAt w6 (.agg #[.int .i64 A, .int .i64 B, .int .i64 C, .int .i64 D, .int .u64 U, .slice ao9 n9 c9]) ⟨⟨A, B, C, D, U⟩, E9⟩) := by
      refine ⟨_, rfl, ?_, fun x hx => ?_⟩
      · have h1 := HLQ.out.1
        rw [HN9.out] at h1
        rw [show (Pl.mk ⟨A, B, C, D, U⟩ E9).L.length = n9 from HN9.out]
        exact h1.updS HU6.out (fun c hc hm => by have := HNW8.out.1 c (raw_sub hc); have := HSP.out; simp only [List.mem_cons, List.not_mem_nil, or_false] at hm; omega)
      · exact (HLQ.out.2 x hx).updS HU6.out (fun c hc hm => by have := HNW8.out.2 x hx c hc; have := HSP.out; simp only [List.mem_cons, List.not_mem_nil, or_false] at hm; omega)
    have HUZ : Hid (Upd [] w w6) := HUQ.out.then hu6 (fun _ _ h => h) (fun i hi hm => by have := HW3.out; simp only [List.mem_cons, List.not_mem_nil, or_false] at hm; omega)
    rw [hw6]
    have HB3 := Lib.hid hb6
    clear hw6 hu6 hb6 g0 g1 g2 g3 g4 g5 hn9 HB3q HUQ HLQ HL8 HNW8
    clear y0 y1 y2 y3 y4 y5 ly
    obtain ⟨wz, ewz⟩ : ∃ v : World, v = w6 := ⟨_, rfl⟩
    subst ewz
    have bn9 : n9 ≤ 9223372036854775807 := by have := HPLN.out; have := HN9.out; omega
    have y0 := HB3.out.cell (j := 0) rfl
    have y1 := HB3.out.cell (j := 1) rfl
    have y2 := HB3.out.cell (j := 2) rfl
    have y3 := HB3.out.cell (j := 3) rfl
    have y4 := HB3.out.cell (j := 4) rfl
    have y5 := HB3.out.cell (j := 5) rfl
    have ly := HB3.out.lt
    have HDP : Hid (Calls Try.prog 6 #[.agg #[.int .i64 A, .int .i64 B, .int .i64 C, .int .i64 D, .int .u64 U, .slice ao9 n9 c9], .slice al n cl] wz (DPlTo w ⟨⟨A, B, C, D, U⟩, E9⟩ l wz)) := dplays_any HUZ.out.size HPL.out (HL.out.upd HUZ.out) HL1.out
    go_wp2_with fail
    refine HDP.out.mono ?_
    rintro e wa hto
    rcases hto with ⟨m, mb, G, hpm, rfl, -, -, hu, -⟩ | ⟨hpm, rfl, hu⟩
    · skip
      have HRR : Hid (playsM ⟨⟨A, B, C, D, U⟩, E9⟩ l = (some m)) := hpm
      have HB3 := Lib.hid (HB3.out.upd hu (by simp))
      have HPL := Lib.hid (HPL.out.upd hu)
      have HUW := Lib.hid (HUZ.out.trans hu)
      clear hpm hu HDP
      clear y0 y1 y2 y3 y4 y5 ly
      have y0 := HB3.out.cell (j := 0) rfl
      have y1 := HB3.out.cell (j := 1) rfl
      have y2 := HB3.out.cell (j := 2) rfl
      have y3 := HB3.out.cell (j := 3) rfl
      have y4 := HB3.out.cell (j := 4) rfl
      have y5 := HB3.out.cell (j := 5) rfl
      have ly := HB3.out.lt
      go_upto_region 6 with (fail)
      obtain ⟨wb, hwb⟩ : ∃ y, wa.alloc (.cells #[.int .i64 A, .int .i64 0, .int .i64 C, .int .i64 D, .int .u64 U, .slice ao9 n9 c9] 27) = y := ⟨_, rfl⟩
      have hub : Upd [] wa wb := by rw [← hwb]; exact (Upd.refl [] wa).alloc _
      obtain ⟨b8, hb8⟩ : ∃ y, wa.heap.size = y := ⟨_, rfl⟩
      have HB8 : Hid (Blk wb b8 27 [.int .i64 A, .int .i64 0, .int .i64 C, .int .i64 D, .int .u64 U, .slice ao9 n9 c9]) := by
        unfold Hid; rw [← hwb, ← hb8]; exact Blk.new wa 27 [.int .i64 A, .int .i64 0, .int .i64 C, .int .i64 D, .int .u64 U, .slice ao9 n9 c9]
      have HB3 := Lib.hid (HB3.out.upd hub (by simp))
      have HPL := Lib.hid (HPL.out.upd hub)
      have HUB := Lib.hid (HUW.out.trans hub)
      have HPX : Hid (PlanAt wb (.agg #[.int .i64 A, .int .i64 0, .int .i64 C, .int .i64 D, .int .u64 U, .slice ao9 n9 c9]) ⟨⟨A, 0, C, D, U⟩, E9⟩) := by
        obtain ⟨lv, he, hL⟩ := HPL.out
        cases he
        exact ⟨_, rfl, hL⟩
      rw [hwb, hb8]
      clear hub hwb hb8
      clear y0 y1 y2 y3 y4 y5 ly
      have y0 := HB3.out.cell (j := 0) rfl
      have y1 := HB3.out.cell (j := 1) rfl
      have y2 := HB3.out.cell (j := 2) rfl
      have y3 := HB3.out.cell (j := 3) rfl
      have y4 := HB3.out.cell (j := 4) rfl
      have y5 := HB3.out.cell (j := 5) rfl
      have ly := HB3.out.lt
      have HWM : Hid (Calls Try.prog 7 #[.agg #[.int .i64 A, .int .i64 B, .int .i64 C, .int .i64 D, .int .u64 U, .slice ao9 n9 c9], .slice al n cl] wb (WMTo w ⟨⟨A, B, C, D, U⟩, E9⟩ l wb)) := wmodel_any (ok := fun _ => True) HUB.out.size HPL.out (HL.out.upd HUB.out) (do_ok _ _) (fun _ _ _ _ => trivial) HL1.out
      go_wp2_with fail
      refine HWM.out.mono ?_
      rintro e wc hto
      rcases hto with ⟨m1, mb1, G1, hpm, rfl, -, -, hc, -⟩ | ⟨hpm, rfl, hc⟩
      · skip
        clear hpm
        have HUC : Hid (Upd [] w wc) := HUB.out.trans hc
        have HB3 := Lib.hid (HB3.out.upd hc (by simp))
        have HB8 := Lib.hid (HB8.out.upd hc (by simp))
        have HPL := Lib.hid (HPL.out.upd hc)
        have HPX := Lib.hid (HPX.out.upd hc)
        clear hc HWM y0 y1 y2 y3 y4 y5 ly
        have y0 := HB3.out.cell (j := 0) rfl
        have y1 := HB3.out.cell (j := 1) rfl
        have y2 := HB3.out.cell (j := 2) rfl
        have y3 := HB3.out.cell (j := 3) rfl
        have y4 := HB3.out.cell (j := 4) rfl
        have y5 := HB3.out.cell (j := 5) rfl
        have ly := HB3.out.lt
        have z0 := HB8.out.cell (j := 0) rfl
        have z1 := HB8.out.cell (j := 1) rfl
        have z2 := HB8.out.cell (j := 2) rfl
        have z3 := HB8.out.cell (j := 3) rfl
        have z4 := HB8.out.cell (j := 4) rfl
        have z5 := HB8.out.cell (j := 5) rfl
        have lz := HB8.out.lt
        have HAW : Hid (∀ w', Upd [] wc w' → Calls Try.prog 8 #[] w' (RetUpd [] w' (.bool true))) := fun w' _ => awake27_any w'
        have HP1 : Hid (∀ w', Upd [] wc w' → Calls Try.prog 9 #[.agg #[.int .i64 A, .int .i64 B, .int .i64 C, .int .i64 D, .int .u64 U, .slice ao9 n9 c9], .slice al n cl] w' (RetUpd [] w' (.bool true))) := fun w' hu => by
          have := wplays_any (ok := fun _ => True) (HPL.out.upd hu) (HL.out.upd (HUC.out.trans hu)) (do_ok _ _) (fun _ _ _ _ => trivial) HL1.out
          rw [HRR.out] at this
          exact this
        have HP2 : Hid (∀ w', Upd [] wc w' → Calls Try.prog 9 #[.agg #[.int .i64 A, .int .i64 0, .int .i64 C, .int .i64 D, .int .u64 U, .slice ao9 n9 c9], .slice al n cl] w' (RetUpd [] w' (.bool false))) := fun w' hu => by
          have := wplays_any (ok := fun _ => True) (HPX.out.upd hu) (HL.out.upd (HUC.out.trans hu)) (do_ok _ _) (fun _ _ _ _ => trivial) HL1.out
          rw [bad_none] at this
          exact this
        have HP3 : Hid (∀ w', Upd [] wc w' → Calls Try.prog 9 #[.agg #[.int .i64 A, .int .i64 0, .int .i64 C, .int .i64 D, .int .u64 U, .slice ao9 n9 c9], .slice none 0 0] w' (RetUpd [] w' (.bool false))) := fun w' hu => by
          have := wplays_any (l := []) (ok := fun _ => True) (HPX.out.upd hu) ⟨SlAt.nil _ _, fun x hx => by cases hx⟩ (do_ok _ _) (fun _ _ _ _ => trivial) (by simp)
          rw [bad_none] at this
          exact this
        have HWW : Hid (∀ w', Upd [] wc w' → Calls Try.prog 11 #[.agg #[.int .i64 A, .int .i64 B, .int .i64 C, .int .i64 D, .int .u64 U, .slice ao9 n9 c9], .slice al n cl] w' (WhoTo w' E9 l)) := fun w' hu => wwhole_any (HPL.out.upd hu) (HL.out.upd (HUC.out.trans hu)) HPLN.out
        have HWD : Hid (∀ w', Upd [] wc w' → Calls Try.prog 12 #[.agg #[.int .i64 A, .int .i64 B, .int .i64 C, .int .i64 D, .int .u64 U, .slice ao9 n9 c9], .slice al n cl] w' (WhoTo w' E9 l)) := fun w' hu => dwhole_any (HPL.out.upd hu) (HL.out.upd (HUC.out.trans hu)) HPLN.out HL2.out
        go_upto_region 7 with (fail)
        refine wp_region_held_drew (S := fun w' => Upd [] wc w' ∧ ∀ (b o : Nat), b < wc.heap.size → b ∉ [] → w'.cell? ⟨b, o, none⟩ = wc.cell? ⟨b, o, none⟩) (by kernel_rfl) (Held.init _ _) (fun hHeld => ?_)
        refine wpAnyH_ready (rs := [0]) (by kernel_rfl) (by simp) ?_
        refine AllReadyH.cons rfl (fun K hK => ?_) AllReadyH.nil
        go_simp
        go_at_call 8
        refine (HAW.out _ hHeld.1).mono ?_
        rintro e w6 ⟨rfl, hB⟩
        refine hK.out _ _ (Held.step hHeld hB) (fun hHeldN => ?_)
        clear hK K hHeld hB
        have hHeld := hHeldN
        clear hHeldN
        try simp only [List.getElem_toArray, List.getElem_cons_zero, List.getElem_cons_succ, Act.put, List.setIfInBounds_toArray, List.set_cons_zero, List.set_cons_succ]
        refine wpAnyH_take (i := 1) (v := ?_) rfl (by kernel_rfl) (by kernel_rfl) (by kernel_rfl) (fun _ _ _ h => h) (Or.inl ⟨by rfl, ?_⟩) (by assumption) ?_
        rotate_left
        · intro w hSw
          try dsimp only at hSw
          go_simp
          try with_reducible rfl
        try simp only [List.getElem_toArray, List.getElem_cons_zero, List.getElem_cons_succ, Act.put, List.setIfInBounds_toArray, List.set_cons_zero, List.set_cons_succ]
        refine wpAnyH_take (i := 2) (v := ?_) rfl (by kernel_rfl) (by kernel_rfl) (by kernel_rfl) (fun _ _ _ h => h) (Or.inl ⟨by rfl, ?_⟩) (by assumption) ?_
        rotate_left
        · intro w hSw
          try dsimp only at hSw
          go_simp
          try with_reducible rfl
        try simp only [List.getElem_toArray, List.getElem_cons_zero, List.getElem_cons_succ, Act.put, List.setIfInBounds_toArray, List.set_cons_zero, List.set_cons_succ]
        refine wpAnyH_take (i := 3) (v := ?_) rfl (by kernel_rfl) (by kernel_rfl) (by kernel_rfl) (fun _ _ _ h => h) (Or.inl ⟨by rfl, ?_⟩) (by assumption) ?_
        rotate_left
        · intro w hSw
          try dsimp only at hSw
          go_simp
          try with_reducible rfl
        try simp only [List.getElem_toArray, List.getElem_cons_zero, List.getElem_cons_succ, Act.put, List.setIfInBounds_toArray, List.set_cons_zero, List.set_cons_succ]
        refine wpAnyH_take (i := 5) (v := ?_) rfl (by kernel_rfl) (by kernel_rfl) (by kernel_rfl) (fun _ _ _ h => h) (Or.inl ⟨by rfl, ?_⟩) (by assumption) ?_
        rotate_left
        · intro w hSw
          try dsimp only at hSw
          go_simp
          try with_reducible rfl
        try simp only [List.getElem_toArray, List.getElem_cons_zero, List.getElem_cons_succ, Act.put, List.setIfInBounds_toArray, List.set_cons_zero, List.set_cons_succ]
        refine wpAnyH_take (i := 6) (v := ?_) rfl (by kernel_rfl) (by kernel_rfl) (by kernel_rfl) (fun _ _ _ h => h) (Or.inl ⟨by rfl, ?_⟩) (by assumption) ?_
        rotate_left
        · intro w hSw
          try dsimp only at hSw
          go_simp
          try with_reducible rfl
        try simp only [List.getElem_toArray, List.getElem_cons_zero, List.getElem_cons_succ, Act.put, List.setIfInBounds_toArray, List.set_cons_zero, List.set_cons_succ]
        refine wpAnyH_ready (rs := [4]) (by kernel_rfl) (by simp) ?_
        refine AllReadyH.cons rfl (fun K hK => ?_) AllReadyH.nil
        go_simp
        go_at_call 9
        refine (HP1.out _ hHeld.1).mono ?_
        rintro e w6 ⟨rfl, hB⟩
        refine hK.out _ _ (Held.step hHeld hB) (fun hHeldN => ?_)
        clear hK K hHeld hB
        have hHeld := hHeldN
        clear hHeldN
        try simp only [List.getElem_toArray, List.getElem_cons_zero, List.getElem_cons_succ, Act.put, List.setIfInBounds_toArray, List.set_cons_zero, List.set_cons_succ]
        refine wpAnyH_take (i := 7) (v := ?_) rfl (by kernel_rfl) (by kernel_rfl) (by kernel_rfl) (fun _ _ _ h => h) (Or.inl ⟨by rfl, ?_⟩) (by assumption) ?_
        rotate_left
        · intro w hSw
          try dsimp only at hSw
          go_simp
          try with_reducible rfl
        try simp only [List.getElem_toArray, List.getElem_cons_zero, List.getElem_cons_succ, Act.put, List.setIfInBounds_toArray, List.set_cons_zero, List.set_cons_succ]
        refine wpAnyH_take (i := 8) (v := ?_) rfl (by kernel_rfl) (by kernel_rfl) (by kernel_rfl) (fun _ _ _ h => h) (Or.inl ⟨by rfl, ?_⟩) (by assumption) ?_
        rotate_left
        · intro w hSw
          try dsimp only at hSw
          go_simp
          try with_reducible rfl
        try simp only [List.getElem_toArray, List.getElem_cons_zero, List.getElem_cons_succ, Act.put, List.setIfInBounds_toArray, List.set_cons_zero, List.set_cons_succ]
        refine wpAnyH_take (i := 9) (v := ?_) rfl (by kernel_rfl) (by kernel_rfl) (by kernel_rfl) (fun _ _ _ h => h) (Or.inl ⟨by rfl, ?_⟩) (by assumption) ?_
        rotate_left
        · intro w hSw
          try dsimp only at hSw
          go_simp
          try with_reducible rfl
        try simp only [List.getElem_toArray, List.getElem_cons_zero, List.getElem_cons_succ, Act.put, List.setIfInBounds_toArray, List.set_cons_zero, List.set_cons_succ]
        refine wpAnyH_take (i := 10) (v := ?_) rfl (by kernel_rfl) (by kernel_rfl) (by kernel_rfl) (fun _ _ _ h => h) (Or.inl ⟨by rfl, ?_⟩) (by assumption) ?_
        rotate_left
        · intro w hSw
          try dsimp only at hSw
          go_simp
          try with_reducible rfl
        try simp only [List.getElem_toArray, List.getElem_cons_zero, List.getElem_cons_succ, Act.put, List.setIfInBounds_toArray, List.set_cons_zero, List.set_cons_succ]
        refine wpAnyH_take (i := 11) (v := ?_) rfl (by kernel_rfl) (by kernel_rfl) (by kernel_rfl) (fun _ _ _ h => h) (Or.inl ⟨by rfl, ?_⟩) (by assumption) ?_
        rotate_left
        · intro w hSw
          try dsimp only at hSw
          go_simp
          try with_reducible rfl
        try simp only [List.getElem_toArray, List.getElem_cons_zero, List.getElem_cons_succ, Act.put, List.setIfInBounds_toArray, List.set_cons_zero, List.set_cons_succ]
        refine wpAnyH_take (i := 12) (v := ?_) rfl (by kernel_rfl) (by kernel_rfl) (by kernel_rfl) (fun _ _ _ h => h) (Or.inl ⟨by rfl, ?_⟩) (by assumption) ?_
        rotate_left
        · intro w hSw
          try dsimp only at hSw
          go_simp
          try with_reducible rfl
        try simp only [List.getElem_toArray, List.getElem_cons_zero, List.getElem_cons_succ, Act.put, List.setIfInBounds_toArray, List.set_cons_zero, List.set_cons_succ]
        refine wpAnyH_take (i := 13) (v := ?_) rfl (by kernel_rfl) (by kernel_rfl) (by kernel_rfl) (fun _ _ _ h => h) (Or.inl ⟨by rfl, ?_⟩) (by assumption) ?_
        rotate_left
        · intro w hSw
          try dsimp only at hSw
          go_simp
          try with_reducible rfl
        try simp only [List.getElem_toArray, List.getElem_cons_zero, List.getElem_cons_succ, Act.put, List.setIfInBounds_toArray, List.set_cons_zero, List.set_cons_succ]
        refine wpAnyH_take (i := 14) (v := ?_) rfl (by kernel_rfl) (by kernel_rfl) (by kernel_rfl) (fun _ _ _ h => h) (Or.inl ⟨by rfl, ?_⟩) (by assumption) ?_
        rotate_left
        · intro w hSw
          try dsimp only at hSw
          go_simp
          try with_reducible rfl
        try simp only [List.getElem_toArray, List.getElem_cons_zero, List.getElem_cons_succ, Act.put, List.setIfInBounds_toArray, List.set_cons_zero, List.set_cons_succ]
        refine wpAnyH_take (i := 15) (v := ?_) rfl (by kernel_rfl) (by kernel_rfl) (by kernel_rfl) (fun _ _ _ h => h) (Or.inl ⟨by rfl, ?_⟩) (by assumption) ?_
        rotate_left
        · intro w hSw
          try dsimp only at hSw
          go_simp
          try with_reducible rfl
        try simp only [List.getElem_toArray, List.getElem_cons_zero, List.getElem_cons_succ, Act.put, List.setIfInBounds_toArray, List.set_cons_zero, List.set_cons_succ]
        refine wpAnyH_take (i := 16) (v := ?_) rfl (by kernel_rfl) (by kernel_rfl) (by kernel_rfl) (fun _ _ _ h => h) (Or.inl ⟨by rfl, ?_⟩) (by assumption) ?_
        rotate_left
        · intro w hSw
          try dsimp only at hSw
          go_simp
          try with_reducible rfl
        try simp only [List.getElem_toArray, List.getElem_cons_zero, List.getElem_cons_succ, Act.put, List.setIfInBounds_toArray, List.set_cons_zero, List.set_cons_succ]
        refine wpAnyH_take (i := 17) (v := ?_) rfl (by kernel_rfl) (by kernel_rfl) (by kernel_rfl) (fun _ _ _ h => h) (Or.inl ⟨by rfl, ?_⟩) (by assumption) ?_
        rotate_left
        · intro w hSw
          try dsimp only at hSw
          go_simp
          try with_reducible rfl
        try simp only [List.getElem_toArray, List.getElem_cons_zero, List.getElem_cons_succ, Act.put, List.setIfInBounds_toArray, List.set_cons_zero, List.set_cons_succ]
        refine wpAnyH_ready (rs := [18]) (by kernel_rfl) (by simp) ?_
        refine AllReadyH.cons rfl (fun K hK => ?_) AllReadyH.nil
        go_simp
        go_at_call 9
        refine (HP2.out _ hHeld.1).mono ?_
        rintro e w6 ⟨rfl, hB⟩
        refine hK.out _ _ (Held.step hHeld hB) (fun hHeldN => ?_)
        clear hK K hHeld hB
        have hHeld := hHeldN
        clear hHeldN
        try simp only [List.getElem_toArray, List.getElem_cons_zero, List.getElem_cons_succ, Act.put, List.setIfInBounds_toArray, List.set_cons_zero, List.set_cons_succ]
        refine wpAnyH_take (i := 19) (v := ?_) rfl (by kernel_rfl) (by kernel_rfl) (by kernel_rfl) (fun _ _ _ h => h) (Or.inl ⟨by rfl, ?_⟩) (by assumption) ?_
        rotate_left
        · intro w hSw
          try dsimp only at hSw
          go_simp
          try with_reducible rfl
        try simp only [List.getElem_toArray, List.getElem_cons_zero, List.getElem_cons_succ, Act.put, List.setIfInBounds_toArray, List.set_cons_zero, List.set_cons_succ]
        refine wpAnyH_take (i := 20) (v := ?_) rfl (by kernel_rfl) (by kernel_rfl) (by kernel_rfl) (fun _ _ _ h => h) (Or.inl ⟨by rfl, ?_⟩) (by assumption) ?_
        rotate_left
        · intro w hSw
          try dsimp only at hSw
          go_simp
          try with_reducible rfl
        try simp only [List.getElem_toArray, List.getElem_cons_zero, List.getElem_cons_succ, Act.put, List.setIfInBounds_toArray, List.set_cons_zero, List.set_cons_succ]
        refine wpAnyH_take (i := 21) (v := ?_) rfl (by kernel_rfl) (by kernel_rfl) (by kernel_rfl) (fun _ _ _ h => h) (Or.inl ⟨by rfl, ?_⟩) (by assumption) ?_
        rotate_left
        · intro w hSw
          try dsimp only at hSw
          go_simp
          try with_reducible rfl
        try simp only [List.getElem_toArray, List.getElem_cons_zero, List.getElem_cons_succ, Act.put, List.setIfInBounds_toArray, List.set_cons_zero, List.set_cons_succ]
        refine wpAnyH_take (i := 22) (v := ?_) rfl (by kernel_rfl) (by kernel_rfl) (by kernel_rfl) (fun _ _ _ h => h) (Or.inl ⟨by rfl, ?_⟩) (by assumption) ?_
        rotate_left
        · intro w hSw
          try dsimp only at hSw
          go_simp
          try with_reducible rfl
        try simp only [List.getElem_toArray, List.getElem_cons_zero, List.getElem_cons_succ, Act.put, List.setIfInBounds_toArray, List.set_cons_zero, List.set_cons_succ]
        refine wpAnyH_ready (rs := [23]) (by kernel_rfl) (by simp) ?_
        refine AllReadyH.cons rfl (fun K hK => ?_) AllReadyH.nil
        go_simp
        go_at_call 9
        refine (HP3.out _ hHeld.1).mono ?_
        rintro e w6 ⟨rfl, hB⟩
        refine hK.out _ _ (Held.step hHeld hB) (fun hHeldN => ?_)
        clear hK K hHeld hB
        have hHeld := hHeldN
        clear hHeldN
        try simp only [List.getElem_toArray, List.getElem_cons_zero, List.getElem_cons_succ, Act.put, List.setIfInBounds_toArray, List.set_cons_zero, List.set_cons_succ]
        refine wpAnyH_take (i := 24) (v := ?_) rfl (by kernel_rfl) (by kernel_rfl) (by kernel_rfl) (fun _ _ _ h => h) (Or.inl ⟨by rfl, ?_⟩) (by assumption) ?_
        rotate_left
        · intro w hSw
          try dsimp only at hSw
          go_simp
          try with_reducible rfl
        try simp only [List.getElem_toArray, List.getElem_cons_zero, List.getElem_cons_succ, Act.put, List.setIfInBounds_toArray, List.set_cons_zero, List.set_cons_succ]
        refine wpAnyH_take (i := 25) (v := ?_) rfl (by kernel_rfl) (by kernel_rfl) (by kernel_rfl) (fun _ _ _ h => h) (Or.inl ⟨by rfl, ?_⟩) (by assumption) ?_
        rotate_left
        · intro w hSw
          try dsimp only at hSw
          go_simp
          try with_reducible rfl
        try simp only [List.getElem_toArray, List.getElem_cons_zero, List.getElem_cons_succ, Act.put, List.setIfInBounds_toArray, List.set_cons_zero, List.set_cons_succ]
        refine wpAnyH_take (i := 26) (v := ?_) rfl (by kernel_rfl) (by kernel_rfl) (by kernel_rfl) (fun _ _ _ h => h) (Or.inl ⟨by rfl, ?_⟩) (by assumption) ?_
        rotate_left
        · intro w hSw
          try dsimp only at hSw
          go_simp
          try with_reducible rfl
        try simp only [List.getElem_toArray, List.getElem_cons_zero, List.getElem_cons_succ, Act.put, List.setIfInBounds_toArray, List.set_cons_zero, List.set_cons_succ]
        refine wpAnyH_take (i := 27) (v := ?_) rfl (by kernel_rfl) (by kernel_rfl) (by kernel_rfl) (fun _ _ _ h => h) (Or.inl ⟨by rfl, ?_⟩) (by assumption) ?_
        rotate_left
        · intro w hSw
          try dsimp only at hSw
          go_simp
          try with_reducible rfl
        try simp only [List.getElem_toArray, List.getElem_cons_zero, List.getElem_cons_succ, Act.put, List.setIfInBounds_toArray, List.set_cons_zero, List.set_cons_succ]
        refine wpAnyH_take (i := 28) (v := ?_) rfl (by kernel_rfl) (by kernel_rfl) (by kernel_rfl) (fun _ _ _ h => h) (Or.inl ⟨by rfl, ?_⟩) (by assumption) ?_
        rotate_left
        · intro w hSw
          try dsimp only at hSw
          go_simp
          try with_reducible rfl
        try simp only [List.getElem_toArray, List.getElem_cons_zero, List.getElem_cons_succ, Act.put, List.setIfInBounds_toArray, List.set_cons_zero, List.set_cons_succ]
        refine wpAnyH_take (i := 30) (v := ?_) rfl (by kernel_rfl) (by kernel_rfl) (by kernel_rfl) (fun _ _ _ h => h) (Or.inl ⟨by rfl, ?_⟩) (by assumption) ?_
        rotate_left
        · intro w hSw
          try dsimp only at hSw
          go_simp
          try with_reducible rfl
        try simp only [List.getElem_toArray, List.getElem_cons_zero, List.getElem_cons_succ, Act.put, List.setIfInBounds_toArray, List.set_cons_zero, List.set_cons_succ]
        refine wpAnyH_take (i := 31) (v := ?_) rfl (by kernel_rfl) (by kernel_rfl) (by kernel_rfl) (fun _ _ _ h => h) (Or.inl ⟨by rfl, ?_⟩) (by assumption) ?_
        rotate_left
        · intro w hSw
          try dsimp only at hSw
          go_simp
          try with_reducible rfl
        try simp only [List.getElem_toArray, List.getElem_cons_zero, List.getElem_cons_succ, Act.put, List.setIfInBounds_toArray, List.set_cons_zero, List.set_cons_succ]
        refine wpAnyH_ready (rs := [29]) (by kernel_rfl) (by simp) ?_
        refine AllReadyH.cons rfl (fun K hK => ?_) AllReadyH.nil
        go_simp
        go_at_call 11
        refine (HWW.out _ hHeld.1).mono ?_
        rintro e w6 ⟨a1, c1, rfl, h1, -, hB⟩
        rw [HN9.out] at h1 ⊢
        refine hK.out _ _ (Held.step hHeld hB) (fun hHeldN => ?_)
        clear hK K hHeld
        have hHeld := hHeldN
        clear hHeldN
        try simp only [List.getElem_toArray, List.getElem_cons_zero, List.getElem_cons_succ, Act.put, List.setIfInBounds_toArray, List.set_cons_zero, List.set_cons_succ]
        refine wpAnyH_ready (rs := [32]) (by kernel_rfl) (by simp) ?_
        refine AllReadyH.cons rfl (fun K hK => ?_) AllReadyH.nil
        clear hB
        go_simp
        go_at_call 12
        refine (HWD.out _ hHeld.1).mono ?_
        rintro e w6 ⟨a2, c2, rfl, h2, -, hB⟩
        rw [HN9.out] at h2 ⊢
        refine hK.out _ _ (Held.step hHeld hB) (fun hHeldN => ?_)
        clear hK K hHeld
        have hHeld := hHeldN
        clear hHeldN
        try simp only [List.getElem_toArray, List.getElem_cons_zero, List.getElem_cons_succ, Act.put, List.setIfInBounds_toArray, List.set_cons_zero, List.set_cons_succ]
        have h1 := h1.upd hB (by simp)
        have HPN : Hid (∀ w', w' = w6 → Calls Try.prog 10 #[.slice a1 n9 c1, .slice a2 n9 c2] w' (RetUpd [] w' (.bool true))) := fun w' hw => by subst hw; exact iplain_any h1.sl h2.sl
        clear h1 h2 hB
        refine wpAnyH_ready (rs := [33]) (by kernel_rfl) (by simp) ?_
        refine AllReadyH.cons rfl (fun K hK => ?_) AllReadyH.nil
        go_simp
        go_at_call 10
        refine (HPN.out _ rfl).mono ?_
        rintro e w6 ⟨rfl, hB⟩
        refine hK.out _ _ (Held.step hHeld hB) (fun hHeldN => ?_)
        clear hK K hHeld hB
        have hHeld := hHeldN
        clear hHeldN
        try simp only [List.getElem_toArray, List.getElem_cons_zero, List.getElem_cons_succ, Act.put, List.setIfInBounds_toArray, List.set_cons_zero, List.set_cons_succ]
        refine wpAnyH_take (i := 34) (v := ?_) rfl (by kernel_rfl) (by kernel_rfl) (by kernel_rfl) (fun _ _ _ h => h) (Or.inl ⟨by rfl, ?_⟩) (by assumption) ?_
        rotate_left
        · intro w hSw
          try dsimp only at hSw
          go_simp
          try with_reducible rfl
        try simp only [List.getElem_toArray, List.getElem_cons_zero, List.getElem_cons_succ, Act.put, List.setIfInBounds_toArray, List.set_cons_zero, List.set_cons_succ]
        refine wpAnyH_take (i := 35) (v := ?_) rfl (by kernel_rfl) (by kernel_rfl) (by kernel_rfl) (fun _ _ _ h => h) (Or.inl ⟨by rfl, ?_⟩) (by assumption) ?_
        rotate_left
        · intro w hSw
          try dsimp only at hSw
          go_simp
          try with_reducible rfl
        try simp only [List.getElem_toArray, List.getElem_cons_zero, List.getElem_cons_succ, Act.put, List.setIfInBounds_toArray, List.set_cons_zero, List.set_cons_succ]
        refine wpAnyH_done (by kernel_rfl) ?_ _
        go_wp2_with fail
        go_ret
        exact ⟨rfl, HUC.out.trans hHeld.1⟩
      · rw [HRR.out] at hpm; cases hpm
    · skip
      have HRR : Hid (playsM ⟨⟨A, B, C, D, U⟩, E9⟩ l = none) := hpm
      have HB3 := Lib.hid (HB3.out.upd hu (by simp))
      have HPL := Lib.hid (HPL.out.upd hu)
      have HUW := Lib.hid (HUZ.out.trans hu)
      clear hpm hu HDP
      clear y0 y1 y2 y3 y4 y5 ly
      have y0 := HB3.out.cell (j := 0) rfl
      have y1 := HB3.out.cell (j := 1) rfl
      have y2 := HB3.out.cell (j := 2) rfl
      have y3 := HB3.out.cell (j := 3) rfl
      have y4 := HB3.out.cell (j := 4) rfl
      have y5 := HB3.out.cell (j := 5) rfl
      have ly := HB3.out.lt
      go_upto_region 6 with (fail)
      obtain ⟨wb, hwb⟩ : ∃ y, wa.alloc (.cells #[.int .i64 A, .int .i64 0, .int .i64 C, .int .i64 D, .int .u64 U, .slice ao9 n9 c9] 27) = y := ⟨_, rfl⟩
      have hub : Upd [] wa wb := by rw [← hwb]; exact (Upd.refl [] wa).alloc _
      obtain ⟨b8, hb8⟩ : ∃ y, wa.heap.size = y := ⟨_, rfl⟩
      have HB8 : Hid (Blk wb b8 27 [.int .i64 A, .int .i64 0, .int .i64 C, .int .i64 D, .int .u64 U, .slice ao9 n9 c9]) := by
        unfold Hid; rw [← hwb, ← hb8]; exact Blk.new wa 27 [.int .i64 A, .int .i64 0, .int .i64 C, .int .i64 D, .int .u64 U, .slice ao9 n9 c9]
      have HB3 := Lib.hid (HB3.out.upd hub (by simp))
      have HPL := Lib.hid (HPL.out.upd hub)
      have HUB := Lib.hid (HUW.out.trans hub)
      have HPX : Hid (PlanAt wb (.agg #[.int .i64 A, .int .i64 0, .int .i64 C, .int .i64 D, .int .u64 U, .slice ao9 n9 c9]) ⟨⟨A, 0, C, D, U⟩, E9⟩) := by
        obtain ⟨lv, he, hL⟩ := HPL.out
        cases he
        exact ⟨_, rfl, hL⟩
      rw [hwb, hb8]
      clear hub hwb hb8
      clear y0 y1 y2 y3 y4 y5 ly
      have y0 := HB3.out.cell (j := 0) rfl
      have y1 := HB3.out.cell (j := 1) rfl
      have y2 := HB3.out.cell (j := 2) rfl
      have y3 := HB3.out.cell (j := 3) rfl
      have y4 := HB3.out.cell (j := 4) rfl
      have y5 := HB3.out.cell (j := 5) rfl
      have ly := HB3.out.lt
      have HWM : Hid (Calls Try.prog 7 #[.agg #[.int .i64 A, .int .i64 B, .int .i64 C, .int .i64 D, .int .u64 U, .slice ao9 n9 c9], .slice al n cl] wb (WMTo w ⟨⟨A, B, C, D, U⟩, E9⟩ l wb)) := wmodel_any (ok := fun _ => True) HUB.out.size HPL.out (HL.out.upd HUB.out) (do_ok _ _) (fun _ _ _ _ => trivial) HL1.out
      go_wp2_with fail
      refine HWM.out.mono ?_
      rintro e wc hto
      rcases hto with ⟨m1, mb1, G1, hpm, rfl, -, -, hc, -⟩ | ⟨hpm, rfl, hc⟩
      · rw [HRR.out] at hpm; cases hpm
      · skip
        clear hpm
        have HUC : Hid (Upd [] w wc) := HUB.out.trans hc
        have HB3 := Lib.hid (HB3.out.upd hc (by simp))
        have HB8 := Lib.hid (HB8.out.upd hc (by simp))
        have HPL := Lib.hid (HPL.out.upd hc)
        have HPX := Lib.hid (HPX.out.upd hc)
        clear hc HWM y0 y1 y2 y3 y4 y5 ly
        have y0 := HB3.out.cell (j := 0) rfl
        have y1 := HB3.out.cell (j := 1) rfl
        have y2 := HB3.out.cell (j := 2) rfl
        have y3 := HB3.out.cell (j := 3) rfl
        have y4 := HB3.out.cell (j := 4) rfl
        have y5 := HB3.out.cell (j := 5) rfl
        have ly := HB3.out.lt
        have z0 := HB8.out.cell (j := 0) rfl
        have z1 := HB8.out.cell (j := 1) rfl
        have z2 := HB8.out.cell (j := 2) rfl
        have z3 := HB8.out.cell (j := 3) rfl
        have z4 := HB8.out.cell (j := 4) rfl
        have z5 := HB8.out.cell (j := 5) rfl
        have lz := HB8.out.lt
        have HAW : Hid (∀ w', Upd [] wc w' → Calls Try.prog 8 #[] w' (RetUpd [] w' (.bool true))) := fun w' _ => awake27_any w'
        have HP1 : Hid (∀ w', Upd [] wc w' → Calls Try.prog 9 #[.agg #[.int .i64 A, .int .i64 B, .int .i64 C, .int .i64 D, .int .u64 U, .slice ao9 n9 c9], .slice al n cl] w' (RetUpd [] w' (.bool false))) := fun w' hu => by
          have := wplays_any (ok := fun _ => True) (HPL.out.upd hu) (HL.out.upd (HUC.out.trans hu)) (do_ok _ _) (fun _ _ _ _ => trivial) HL1.out
          rw [HRR.out] at this
          exact this
        have HP2 : Hid (∀ w', Upd [] wc w' → Calls Try.prog 9 #[.agg #[.int .i64 A, .int .i64 0, .int .i64 C, .int .i64 D, .int .u64 U, .slice ao9 n9 c9], .slice al n cl] w' (RetUpd [] w' (.bool false))) := fun w' hu => by
          have := wplays_any (ok := fun _ => True) (HPX.out.upd hu) (HL.out.upd (HUC.out.trans hu)) (do_ok _ _) (fun _ _ _ _ => trivial) HL1.out
          rw [bad_none] at this
          exact this
        have HP3 : Hid (∀ w', Upd [] wc w' → Calls Try.prog 9 #[.agg #[.int .i64 A, .int .i64 0, .int .i64 C, .int .i64 D, .int .u64 U, .slice ao9 n9 c9], .slice none 0 0] w' (RetUpd [] w' (.bool false))) := fun w' hu => by
          have := wplays_any (l := []) (ok := fun _ => True) (HPX.out.upd hu) ⟨SlAt.nil _ _, fun x hx => by cases hx⟩ (do_ok _ _) (fun _ _ _ _ => trivial) (by simp)
          rw [bad_none] at this
          exact this
        have HWW : Hid (∀ w', Upd [] wc w' → Calls Try.prog 11 #[.agg #[.int .i64 A, .int .i64 B, .int .i64 C, .int .i64 D, .int .u64 U, .slice ao9 n9 c9], .slice al n cl] w' (WhoTo w' E9 l)) := fun w' hu => wwhole_any (HPL.out.upd hu) (HL.out.upd (HUC.out.trans hu)) HPLN.out
        have HWD : Hid (∀ w', Upd [] wc w' → Calls Try.prog 12 #[.agg #[.int .i64 A, .int .i64 B, .int .i64 C, .int .i64 D, .int .u64 U, .slice ao9 n9 c9], .slice al n cl] w' (WhoTo w' E9 l)) := fun w' hu => dwhole_any (HPL.out.upd hu) (HL.out.upd (HUC.out.trans hu)) HPLN.out HL2.out
        go_upto_region 7 with (fail)
        refine wp_region_held_drew (S := fun w' => Upd [] wc w' ∧ ∀ (b o : Nat), b < wc.heap.size → b ∉ [] → w'.cell? ⟨b, o, none⟩ = wc.cell? ⟨b, o, none⟩) (by kernel_rfl) (Held.init _ _) (fun hHeld => ?_)
        refine wpAnyH_ready (rs := [0]) (by kernel_rfl) (by simp) ?_
        refine AllReadyH.cons rfl (fun K hK => ?_) AllReadyH.nil
        go_simp
        go_at_call 8
        refine (HAW.out _ hHeld.1).mono ?_
        rintro e w6 ⟨rfl, hB⟩
        refine hK.out _ _ (Held.step hHeld hB) (fun hHeldN => ?_)
        clear hK K hHeld hB
        have hHeld := hHeldN
        clear hHeldN
        try simp only [List.getElem_toArray, List.getElem_cons_zero, List.getElem_cons_succ, Act.put, List.setIfInBounds_toArray, List.set_cons_zero, List.set_cons_succ]
        refine wpAnyH_take (i := 1) (v := ?_) rfl (by kernel_rfl) (by kernel_rfl) (by kernel_rfl) (fun _ _ _ h => h) (Or.inl ⟨by rfl, ?_⟩) (by assumption) ?_
        rotate_left
        · intro w hSw
          try dsimp only at hSw
          go_simp
          try with_reducible rfl
        try simp only [List.getElem_toArray, List.getElem_cons_zero, List.getElem_cons_succ, Act.put, List.setIfInBounds_toArray, List.set_cons_zero, List.set_cons_succ]
        refine wpAnyH_take (i := 2) (v := ?_) rfl (by kernel_rfl) (by kernel_rfl) (by kernel_rfl) (fun _ _ _ h => h) (Or.inl ⟨by rfl, ?_⟩) (by assumption) ?_
        rotate_left
        · intro w hSw
          try dsimp only at hSw
          go_simp
          try with_reducible rfl
        try simp only [List.getElem_toArray, List.getElem_cons_zero, List.getElem_cons_succ, Act.put, List.setIfInBounds_toArray, List.set_cons_zero, List.set_cons_succ]
        refine wpAnyH_take (i := 3) (v := ?_) rfl (by kernel_rfl) (by kernel_rfl) (by kernel_rfl) (fun _ _ _ h => h) (Or.inl ⟨by rfl, ?_⟩) (by assumption) ?_
        rotate_left
        · intro w hSw
          try dsimp only at hSw
          go_simp
          try with_reducible rfl
        try simp only [List.getElem_toArray, List.getElem_cons_zero, List.getElem_cons_succ, Act.put, List.setIfInBounds_toArray, List.set_cons_zero, List.set_cons_succ]
        refine wpAnyH_take (i := 5) (v := ?_) rfl (by kernel_rfl) (by kernel_rfl) (by kernel_rfl) (fun _ _ _ h => h) (Or.inl ⟨by rfl, ?_⟩) (by assumption) ?_
        rotate_left
        · intro w hSw
          try dsimp only at hSw
          go_simp
          try with_reducible rfl
        try simp only [List.getElem_toArray, List.getElem_cons_zero, List.getElem_cons_succ, Act.put, List.setIfInBounds_toArray, List.set_cons_zero, List.set_cons_succ]
        refine wpAnyH_take (i := 6) (v := ?_) rfl (by kernel_rfl) (by kernel_rfl) (by kernel_rfl) (fun _ _ _ h => h) (Or.inl ⟨by rfl, ?_⟩) (by assumption) ?_
        rotate_left
        · intro w hSw
          try dsimp only at hSw
          go_simp
          try with_reducible rfl
        try simp only [List.getElem_toArray, List.getElem_cons_zero, List.getElem_cons_succ, Act.put, List.setIfInBounds_toArray, List.set_cons_zero, List.set_cons_succ]
        refine wpAnyH_ready (rs := [4]) (by kernel_rfl) (by simp) ?_
        refine AllReadyH.cons rfl (fun K hK => ?_) AllReadyH.nil
        go_simp
        go_at_call 9
        refine (HP1.out _ hHeld.1).mono ?_
        rintro e w6 ⟨rfl, hB⟩
        refine hK.out _ _ (Held.step hHeld hB) (fun hHeldN => ?_)
        clear hK K hHeld hB
        have hHeld := hHeldN
        clear hHeldN
        try simp only [List.getElem_toArray, List.getElem_cons_zero, List.getElem_cons_succ, Act.put, List.setIfInBounds_toArray, List.set_cons_zero, List.set_cons_succ]
        refine wpAnyH_take (i := 7) (v := ?_) rfl (by kernel_rfl) (by kernel_rfl) (by kernel_rfl) (fun _ _ _ h => h) (Or.inl ⟨by rfl, ?_⟩) (by assumption) ?_
        rotate_left
        · intro w hSw
          try dsimp only at hSw
          go_simp
          try with_reducible rfl
        try simp only [List.getElem_toArray, List.getElem_cons_zero, List.getElem_cons_succ, Act.put, List.setIfInBounds_toArray, List.set_cons_zero, List.set_cons_succ]
        refine wpAnyH_take (i := 8) (v := ?_) rfl (by kernel_rfl) (by kernel_rfl) (by kernel_rfl) (fun _ _ _ h => h) (Or.inl ⟨by rfl, ?_⟩) (by assumption) ?_
        rotate_left
        · intro w hSw
          try dsimp only at hSw
          go_simp
          try with_reducible rfl
        try simp only [List.getElem_toArray, List.getElem_cons_zero, List.getElem_cons_succ, Act.put, List.setIfInBounds_toArray, List.set_cons_zero, List.set_cons_succ]
        refine wpAnyH_take (i := 9) (v := ?_) rfl (by kernel_rfl) (by kernel_rfl) (by kernel_rfl) (fun _ _ _ h => h) (Or.inl ⟨by rfl, ?_⟩) (by assumption) ?_
        rotate_left
        · intro w hSw
          try dsimp only at hSw
          go_simp
          try with_reducible rfl
        try simp only [List.getElem_toArray, List.getElem_cons_zero, List.getElem_cons_succ, Act.put, List.setIfInBounds_toArray, List.set_cons_zero, List.set_cons_succ]
        refine wpAnyH_take (i := 10) (v := ?_) rfl (by kernel_rfl) (by kernel_rfl) (by kernel_rfl) (fun _ _ _ h => h) (Or.inl ⟨by rfl, ?_⟩) (by assumption) ?_
        rotate_left
        · intro w hSw
          try dsimp only at hSw
          go_simp
          try with_reducible rfl
        try simp only [List.getElem_toArray, List.getElem_cons_zero, List.getElem_cons_succ, Act.put, List.setIfInBounds_toArray, List.set_cons_zero, List.set_cons_succ]
        refine wpAnyH_take (i := 11) (v := ?_) rfl (by kernel_rfl) (by kernel_rfl) (by kernel_rfl) (fun _ _ _ h => h) (Or.inl ⟨by rfl, ?_⟩) (by assumption) ?_
        rotate_left
        · intro w hSw
          try dsimp only at hSw
          go_simp
          try with_reducible rfl
        try simp only [List.getElem_toArray, List.getElem_cons_zero, List.getElem_cons_succ, Act.put, List.setIfInBounds_toArray, List.set_cons_zero, List.set_cons_succ]
        refine wpAnyH_take (i := 12) (v := ?_) rfl (by kernel_rfl) (by kernel_rfl) (by kernel_rfl) (fun _ _ _ h => h) (Or.inl ⟨by rfl, ?_⟩) (by assumption) ?_
        rotate_left
        · intro w hSw
          try dsimp only at hSw
          go_simp
          try with_reducible rfl
        try simp only [List.getElem_toArray, List.getElem_cons_zero, List.getElem_cons_succ, Act.put, List.setIfInBounds_toArray, List.set_cons_zero, List.set_cons_succ]
        refine wpAnyH_take (i := 13) (v := ?_) rfl (by kernel_rfl) (by kernel_rfl) (by kernel_rfl) (fun _ _ _ h => h) (Or.inl ⟨by rfl, ?_⟩) (by assumption) ?_
        rotate_left
        · intro w hSw
          try dsimp only at hSw
          go_simp
          try with_reducible rfl
        try simp only [List.getElem_toArray, List.getElem_cons_zero, List.getElem_cons_succ, Act.put, List.setIfInBounds_toArray, List.set_cons_zero, List.set_cons_succ]
        refine wpAnyH_take (i := 14) (v := ?_) rfl (by kernel_rfl) (by kernel_rfl) (by kernel_rfl) (fun _ _ _ h => h) (Or.inl ⟨by rfl, ?_⟩) (by assumption) ?_
        rotate_left
        · intro w hSw
          try dsimp only at hSw
          go_simp
          try with_reducible rfl
        try simp only [List.getElem_toArray, List.getElem_cons_zero, List.getElem_cons_succ, Act.put, List.setIfInBounds_toArray, List.set_cons_zero, List.set_cons_succ]
        refine wpAnyH_take (i := 15) (v := ?_) rfl (by kernel_rfl) (by kernel_rfl) (by kernel_rfl) (fun _ _ _ h => h) (Or.inl ⟨by rfl, ?_⟩) (by assumption) ?_
        rotate_left
        · intro w hSw
          try dsimp only at hSw
          go_simp
          try with_reducible rfl
        try simp only [List.getElem_toArray, List.getElem_cons_zero, List.getElem_cons_succ, Act.put, List.setIfInBounds_toArray, List.set_cons_zero, List.set_cons_succ]
        refine wpAnyH_take (i := 16) (v := ?_) rfl (by kernel_rfl) (by kernel_rfl) (by kernel_rfl) (fun _ _ _ h => h) (Or.inl ⟨by rfl, ?_⟩) (by assumption) ?_
        rotate_left
        · intro w hSw
          try dsimp only at hSw
          go_simp
          try with_reducible rfl
        try simp only [List.getElem_toArray, List.getElem_cons_zero, List.getElem_cons_succ, Act.put, List.setIfInBounds_toArray, List.set_cons_zero, List.set_cons_succ]
        refine wpAnyH_take (i := 17) (v := ?_) rfl (by kernel_rfl) (by kernel_rfl) (by kernel_rfl) (fun _ _ _ h => h) (Or.inl ⟨by rfl, ?_⟩) (by assumption) ?_
        rotate_left
        · intro w hSw
          try dsimp only at hSw
          go_simp
          try with_reducible rfl
        try simp only [List.getElem_toArray, List.getElem_cons_zero, List.getElem_cons_succ, Act.put, List.setIfInBounds_toArray, List.set_cons_zero, List.set_cons_succ]
        refine wpAnyH_ready (rs := [18]) (by kernel_rfl) (by simp) ?_
        refine AllReadyH.cons rfl (fun K hK => ?_) AllReadyH.nil
        go_simp
        go_at_call 9
        refine (HP2.out _ hHeld.1).mono ?_
        rintro e w6 ⟨rfl, hB⟩
        refine hK.out _ _ (Held.step hHeld hB) (fun hHeldN => ?_)
        clear hK K hHeld hB
        have hHeld := hHeldN
        clear hHeldN
        try simp only [List.getElem_toArray, List.getElem_cons_zero, List.getElem_cons_succ, Act.put, List.setIfInBounds_toArray, List.set_cons_zero, List.set_cons_succ]
        refine wpAnyH_take (i := 19) (v := ?_) rfl (by kernel_rfl) (by kernel_rfl) (by kernel_rfl) (fun _ _ _ h => h) (Or.inl ⟨by rfl, ?_⟩) (by assumption) ?_
        rotate_left
        · intro w hSw
          try dsimp only at hSw
          go_simp
          try with_reducible rfl
        try simp only [List.getElem_toArray, List.getElem_cons_zero, List.getElem_cons_succ, Act.put, List.setIfInBounds_toArray, List.set_cons_zero, List.set_cons_succ]
        refine wpAnyH_take (i := 20) (v := ?_) rfl (by kernel_rfl) (by kernel_rfl) (by kernel_rfl) (fun _ _ _ h => h) (Or.inl ⟨by rfl, ?_⟩) (by assumption) ?_
        rotate_left
        · intro w hSw
          try dsimp only at hSw
          go_simp
          try with_reducible rfl
        try simp only [List.getElem_toArray, List.getElem_cons_zero, List.getElem_cons_succ, Act.put, List.setIfInBounds_toArray, List.set_cons_zero, List.set_cons_succ]
        refine wpAnyH_take (i := 21) (v := ?_) rfl (by kernel_rfl) (by kernel_rfl) (by kernel_rfl) (fun _ _ _ h => h) (Or.inl ⟨by rfl, ?_⟩) (by assumption) ?_
        rotate_left
        · intro w hSw
          try dsimp only at hSw
          go_simp
          try with_reducible rfl
        try simp only [List.getElem_toArray, List.getElem_cons_zero, List.getElem_cons_succ, Act.put, List.setIfInBounds_toArray, List.set_cons_zero, List.set_cons_succ]
        refine wpAnyH_take (i := 22) (v := ?_) rfl (by kernel_rfl) (by kernel_rfl) (by kernel_rfl) (fun _ _ _ h => h) (Or.inl ⟨by rfl, ?_⟩) (by assumption) ?_
        rotate_left
        · intro w hSw
          try dsimp only at hSw
          go_simp
          try with_reducible rfl
        try simp only [List.getElem_toArray, List.getElem_cons_zero, List.getElem_cons_succ, Act.put, List.setIfInBounds_toArray, List.set_cons_zero, List.set_cons_succ]
        refine wpAnyH_ready (rs := [23]) (by kernel_rfl) (by simp) ?_
        refine AllReadyH.cons rfl (fun K hK => ?_) AllReadyH.nil
        go_simp
        go_at_call 9
        refine (HP3.out _ hHeld.1).mono ?_
        rintro e w6 ⟨rfl, hB⟩
        refine hK.out _ _ (Held.step hHeld hB) (fun hHeldN => ?_)
        clear hK K hHeld hB
        have hHeld := hHeldN
        clear hHeldN
        try simp only [List.getElem_toArray, List.getElem_cons_zero, List.getElem_cons_succ, Act.put, List.setIfInBounds_toArray, List.set_cons_zero, List.set_cons_succ]
        refine wpAnyH_take (i := 24) (v := ?_) rfl (by kernel_rfl) (by kernel_rfl) (by kernel_rfl) (fun _ _ _ h => h) (Or.inl ⟨by rfl, ?_⟩) (by assumption) ?_
        rotate_left
        · intro w hSw
          try dsimp only at hSw
          go_simp
          try with_reducible rfl
        try simp only [List.getElem_toArray, List.getElem_cons_zero, List.getElem_cons_succ, Act.put, List.setIfInBounds_toArray, List.set_cons_zero, List.set_cons_succ]
        refine wpAnyH_take (i := 25) (v := ?_) rfl (by kernel_rfl) (by kernel_rfl) (by kernel_rfl) (fun _ _ _ h => h) (Or.inl ⟨by rfl, ?_⟩) (by assumption) ?_
        rotate_left
        · intro w hSw
          try dsimp only at hSw
          go_simp
          try with_reducible rfl
        try simp only [List.getElem_toArray, List.getElem_cons_zero, List.getElem_cons_succ, Act.put, List.setIfInBounds_toArray, List.set_cons_zero, List.set_cons_succ]
        refine wpAnyH_take (i := 26) (v := ?_) rfl (by kernel_rfl) (by kernel_rfl) (by kernel_rfl) (fun _ _ _ h => h) (Or.inl ⟨by rfl, ?_⟩) (by assumption) ?_
        rotate_left
        · intro w hSw
          try dsimp only at hSw
          go_simp
          try with_reducible rfl
        try simp only [List.getElem_toArray, List.getElem_cons_zero, List.getElem_cons_succ, Act.put, List.setIfInBounds_toArray, List.set_cons_zero, List.set_cons_succ]
        refine wpAnyH_take (i := 27) (v := ?_) rfl (by kernel_rfl) (by kernel_rfl) (by kernel_rfl) (fun _ _ _ h => h) (Or.inl ⟨by rfl, ?_⟩) (by assumption) ?_
        rotate_left
        · intro w hSw
          try dsimp only at hSw
          go_simp
          try with_reducible rfl
        try simp only [List.getElem_toArray, List.getElem_cons_zero, List.getElem_cons_succ, Act.put, List.setIfInBounds_toArray, List.set_cons_zero, List.set_cons_succ]
        refine wpAnyH_take (i := 28) (v := ?_) rfl (by kernel_rfl) (by kernel_rfl) (by kernel_rfl) (fun _ _ _ h => h) (Or.inl ⟨by rfl, ?_⟩) (by assumption) ?_
        rotate_left
        · intro w hSw
          try dsimp only at hSw
          go_simp
          try with_reducible rfl
        try simp only [List.getElem_toArray, List.getElem_cons_zero, List.getElem_cons_succ, Act.put, List.setIfInBounds_toArray, List.set_cons_zero, List.set_cons_succ]
        refine wpAnyH_take (i := 30) (v := ?_) rfl (by kernel_rfl) (by kernel_rfl) (by kernel_rfl) (fun _ _ _ h => h) (Or.inl ⟨by rfl, ?_⟩) (by assumption) ?_
        rotate_left
        · intro w hSw
          try dsimp only at hSw
          go_simp
          try with_reducible rfl
        try simp only [List.getElem_toArray, List.getElem_cons_zero, List.getElem_cons_succ, Act.put, List.setIfInBounds_toArray, List.set_cons_zero, List.set_cons_succ]
        refine wpAnyH_take (i := 31) (v := ?_) rfl (by kernel_rfl) (by kernel_rfl) (by kernel_rfl) (fun _ _ _ h => h) (Or.inl ⟨by rfl, ?_⟩) (by assumption) ?_
        rotate_left
        · intro w hSw
          try dsimp only at hSw
          go_simp
          try with_reducible rfl
        try simp only [List.getElem_toArray, List.getElem_cons_zero, List.getElem_cons_succ, Act.put, List.setIfInBounds_toArray, List.set_cons_zero, List.set_cons_succ]
        refine wpAnyH_ready (rs := [29]) (by kernel_rfl) (by simp) ?_
        refine AllReadyH.cons rfl (fun K hK => ?_) AllReadyH.nil
        go_simp
        go_at_call 11
        refine (HWW.out _ hHeld.1).mono ?_
        rintro e w6 ⟨a1, c1, rfl, h1, -, hB⟩
        rw [HN9.out] at h1 ⊢
        refine hK.out _ _ (Held.step hHeld hB) (fun hHeldN => ?_)
        clear hK K hHeld
        have hHeld := hHeldN
        clear hHeldN
        try simp only [List.getElem_toArray, List.getElem_cons_zero, List.getElem_cons_succ, Act.put, List.setIfInBounds_toArray, List.set_cons_zero, List.set_cons_succ]
        refine wpAnyH_ready (rs := [32]) (by kernel_rfl) (by simp) ?_
        refine AllReadyH.cons rfl (fun K hK => ?_) AllReadyH.nil
        clear hB
        go_simp
        go_at_call 12
        refine (HWD.out _ hHeld.1).mono ?_
        rintro e w6 ⟨a2, c2, rfl, h2, -, hB⟩
        rw [HN9.out] at h2 ⊢
        refine hK.out _ _ (Held.step hHeld hB) (fun hHeldN => ?_)
        clear hK K hHeld
        have hHeld := hHeldN
        clear hHeldN
        try simp only [List.getElem_toArray, List.getElem_cons_zero, List.getElem_cons_succ, Act.put, List.setIfInBounds_toArray, List.set_cons_zero, List.set_cons_succ]
        have h1 := h1.upd hB (by simp)
        have HPN : Hid (∀ w', w' = w6 → Calls Try.prog 10 #[.slice a1 n9 c1, .slice a2 n9 c2] w' (RetUpd [] w' (.bool true))) := fun w' hw => by subst hw; exact iplain_any h1.sl h2.sl
        clear h1 h2 hB
        refine wpAnyH_ready (rs := [33]) (by kernel_rfl) (by simp) ?_
        refine AllReadyH.cons rfl (fun K hK => ?_) AllReadyH.nil
        go_simp
        go_at_call 10
        refine (HPN.out _ rfl).mono ?_
        rintro e w6 ⟨rfl, hB⟩
        refine hK.out _ _ (Held.step hHeld hB) (fun hHeldN => ?_)
        clear hK K hHeld hB
        have hHeld := hHeldN
        clear hHeldN
        try simp only [List.getElem_toArray, List.getElem_cons_zero, List.getElem_cons_succ, Act.put, List.setIfInBounds_toArray, List.set_cons_zero, List.set_cons_succ]
        refine wpAnyH_take (i := 34) (v := ?_) rfl (by kernel_rfl) (by kernel_rfl) (by kernel_rfl) (fun _ _ _ h => h) (Or.inl ⟨by rfl, ?_⟩) (by assumption) ?_
        rotate_left
        · intro w hSw
          try dsimp only at hSw
          go_simp
          try with_reducible rfl
        try simp only [List.getElem_toArray, List.getElem_cons_zero, List.getElem_cons_succ, Act.put, List.setIfInBounds_toArray, List.set_cons_zero, List.set_cons_succ]
        refine wpAnyH_take (i := 35) (v := ?_) rfl (by kernel_rfl) (by kernel_rfl) (by kernel_rfl) (fun _ _ _ h => h) (Or.inl ⟨by rfl, ?_⟩) (by assumption) ?_
        rotate_left
        · intro w hSw
          try dsimp only at hSw
          go_simp
          try with_reducible rfl
        try simp only [List.getElem_toArray, List.getElem_cons_zero, List.getElem_cons_succ, Act.put, List.setIfInBounds_toArray, List.set_cons_zero, List.set_cons_succ]
        refine wpAnyH_done (by kernel_rfl) ?_ _
        go_wp2_with fail
        go_ret
        exact ⟨rfl, HUC.out.trans hHeld.1⟩
end Go.Proofs.Ytfeobcmcellcpaa
