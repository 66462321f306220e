/-
  The walk of law27's awake. No condition.
-/
import Derived.Test.YtfeobcmcellcpaaGreatMo
set_option linter.unusedVariables false
set_option linter.unusedSimpArgs false
namespace Go.Proofs.YtfeobcmcellcpaaGreat
open Go.RowKit

theorem pts_one {w : World} {b : Nat} {n : Int} (h : Blk w b 59 [.int .i64 3, .int .i64 0, .int .i64 0, .int .i64 0, .slice none 0 0, .int .i64 n, .int .u64 0]) : PtsAt' w (.slice (some ⟨b, 0, none⟩) 1 1) [awX n] :=
  ⟨h.sl 7 1 1 rfl (by simp [maxLen]), fun x hx => by simp only [List.mem_cons, List.not_mem_nil, or_false] at hx; subst hx; exact SlAt.nil _ _⟩
theorem dns_one {w : World} {b : Nat} (h : Blk w b 115 [.int .i64 0, .int .i64 0, .int .i64 0, .int .i64 0, .int .i64 0, .int .i64 0, .int .i64 0, .slice none 0 0, .int .i64 0, .int .u64 0, .int .i64 0, .int .i64 5]) : DnsAt w (.slice (some ⟨b, 0, none⟩) 1 1) [awD] :=
  ⟨h.sl 12 1 1 rfl (by simp [maxLen]), fun x hx => by simp only [List.mem_cons, List.not_mem_nil, or_false] at hx; subst hx; exact SlAt.nil _ _⟩
theorem plan_aw {w w1 w3 : World} (h1 : Blk w3 w.heap.size 46 [.int .i64 6, .int .i64 0, .int .i64 0, .int .i64 0, .int .i64 5, .int .i64 0, .int .i64 2, .int .i64 0]) (h2 : Blk w3 w1.heap.size 26 [.slice (some ⟨w.heap.size, 0, none⟩) 2 2]) :
    PlanAt w3 (.agg #[.int .i64 1, .int .i64 1, .int .i64 1, .int .i64 0, .int .u64 1, .slice (some ⟨w1.heap.size, 0, none⟩) 1 1]) (awP w.heap.size) :=
  ⟨_, rfl, h2.sl 1 1 1 rfl (by simp [maxLen]), fun x hx => by simp only [awP, List.mem_cons, List.not_mem_nil, or_false] at hx; subst hx; exact h1.sl 4 2 2 rfl (by simp [maxLen])⟩

set_option maxRecDepth 100000 in
set_option maxHeartbeats 8000000 in
theorem awake27_any (w : World) : Calls Tryz.prog 28 #[] w (RetUpd [] w (.bool true)) := by
  obtain ⟨w1, hw1⟩ : ∃ y, w.alloc (.cells #[.int .i64 6, .int .i64 0, .int .i64 0, .int .i64 0, .int .i64 5, .int .i64 0, .int .i64 2, .int .i64 0] 46) = y := ⟨_, rfl⟩
  obtain ⟨w2, hw2⟩ : ∃ y, w1.alloc (.cells #[.slice (some ⟨w.heap.size, 0, none⟩) 2 2] 26) = y := ⟨_, rfl⟩
  obtain ⟨w3, hw3⟩ : ∃ y, w2.alloc (.cells #[.int .i64 1, .int .i64 1, .int .i64 1, .int .i64 0, .int .u64 1, .slice (some ⟨w1.heap.size, 0, none⟩) 1 1] 29) = y := ⟨_, rfl⟩
  obtain ⟨w4, hw4⟩ : ∃ y, w3.alloc (.cells #[.int .i64 3, .int .i64 0, .int .i64 0, .int .i64 0, .slice none 0 0, .int .i64 0, .int .u64 0] 59) = y := ⟨_, rfl⟩
  obtain ⟨b1, b2, b3, hu3, -, -⟩ := three_new hw1 hw2 hw3
  have u4 : Upd [] w3 w4 := by rw [← hw4]; exact (Upd.refl [] w3).alloc _
  have b4 : Blk w4 w3.heap.size 59 [.int .i64 3, .int .i64 0, .int .i64 0, .int .i64 0, .slice none 0 0, .int .i64 0, .int .u64 0] := by rw [← hw4]; exact Blk.new w3 59 [.int .i64 3, .int .i64 0, .int .i64 0, .int .i64 0, .slice none 0 0, .int .i64 0, .int .u64 0]
  have HPL := Lib.hid ((plan_aw b1 b2).upd u4)
  have HPT := Lib.hid (pts_one b4)
  have HB3 := Lib.hid (b3.upd u4 (by simp))
  have HU4 := Lib.hid (hu3.trans u4)
  have HC : Hid (∀ w', Upd [] w4 w' → Calls Tryz.prog 59 #[.agg #[.int .i64 1, .int .i64 1, .int .i64 1, .int .i64 0, .int .u64 1, .slice (some ⟨w1.heap.size, 0, none⟩) 1 1], .agg #[.int .i64 0, .int .i64 0, .int .i64 1, .int .i64 0, .slice none 0 0, .int .i64 0, .int .u64 0]] w' (RetUpd [] w' (.tuple #[.agg #[.int .i64 4, .int .i64 0, .int .i64 0, .int .i64 0], .bool true]))) := fun w' hu => by
    have := wcall_any (x := ⟨0, 0, 1, ⟨0, [], 0, 0⟩, .slice none 0 0⟩) (HPL.out.upd hu)
    rw [aw_call] at this
    exact this
  have HMD : Hid (∀ w', Upd [] w4 w' → Calls Tryz.prog 27 #[.agg #[.int .i64 1, .int .i64 1, .int .i64 1, .int .i64 0, .int .u64 1, .slice (some ⟨w1.heap.size, 0, none⟩) 1 1], .slice (some ⟨w3.heap.size, 0, none⟩) 1 1] w' (WMTo w (awP w.heap.size) [awX 0] w')) := fun w' hu =>
    wmodel_any (Nat.le_trans HU4.out.size hu.size) (HPL.out.upd hu) (HPT.out.upd hu) (aw_do _ _) (aw_ok _ _) (by simp)
  have HP1 : Hid (∀ w', Upd [] w4 w' → Calls Tryz.prog 29 #[.agg #[.int .i64 1, .int .i64 1, .int .i64 1, .int .i64 0, .int .u64 1, .slice (some ⟨w1.heap.size, 0, none⟩) 1 1], .slice (some ⟨w3.heap.size, 0, none⟩) 1 1] w' (RetUpd [] w' (.bool true))) := fun w' hu =>
    wplays_any (l := [awX 0]) (HPL.out.upd hu) (HPT.out.upd hu) (aw_do _ _) (aw_ok _ _) (by simp)
  have HP2 : Hid (∀ w' (b : Nat), Upd [] w4 w' → Blk w' b 59 [.int .i64 3, .int .i64 0, .int .i64 0, .int .i64 0, .slice none 0 0, .int .i64 1, .int .u64 0] → Calls Tryz.prog 29 #[.agg #[.int .i64 1, .int .i64 1, .int .i64 1, .int .i64 0, .int .u64 1, .slice (some ⟨w1.heap.size, 0, none⟩) 1 1], .slice (some ⟨b, 0, none⟩) 1 1] w' (RetUpd [] w' (.bool false))) := fun w' b hu hb => by
    have := wplays_any (l := [awX 1]) (HPL.out.upd hu) (pts_one hb) (aw_do _ _) (aw_ok _ _) (by simp)
    rw [aw_not] at this
    exact this
  have HWI : Hid (∀ w' (b : Nat), Upd [] w4 w' → Blk w' b 115 [.int .i64 0, .int .i64 0, .int .i64 0, .int .i64 0, .int .i64 0, .int .i64 0, .int .i64 0, .slice none 0 0, .int .i64 0, .int .u64 0, .int .i64 0, .int .i64 5] → Calls Tryz.prog 62 #[.slice (some ⟨w3.heap.size, 0, none⟩) 1 1, .slice (some ⟨b, 0, none⟩) 1 1] w' (RetUpd [] w' (.bool true))) := fun w' b hu hb => by
    have := wwithin_any (HPT.out.upd hu) (dns_one hb) (by simp) (fun d hd => by simp only [List.mem_cons, List.not_mem_nil, or_false] at hd; subst hd; simp [awD])
    rw [aw_within] at this
    exact this
  have HWH : Hid (∀ w', Upd [] w4 w' → Calls Tryz.prog 63 #[.agg #[.int .i64 1, .int .i64 1, .int .i64 1, .int .i64 0, .int .u64 1, .slice (some ⟨w1.heap.size, 0, none⟩) 1 1], .slice (some ⟨w3.heap.size, 0, none⟩) 1 1] w' (WhoTo w' (awP w.heap.size).L [awX 0])) := fun w' hu =>
    wwhole_any (HPL.out.upd hu) (HPT.out.upd hu) (by simp [awP])
  clear b1 b2 b3 b4 hu3 u4
  go_enter Tryz.func28, Tryz.ntmps28
  have HU : Hid (Upd [] w4 w4) := Upd.refl _ _
  have hb3 := HB3.out.upd HU.out (by simp)
  have y0 := hb3.cell (j := 0) rfl
  have y1 := hb3.cell (j := 1) rfl
  have y2 := hb3.cell (j := 2) rfl
  have y3 := hb3.cell (j := 3) rfl
  have y4 := hb3.cell (j := 4) rfl
  have y5 := hb3.cell (j := 5) rfl
  have ly := hb3.lt
  clear hb3
  go_wp2_with fail
  refine (HC.out _ HU.out).mono ?_
  rintro e w5 ⟨rfl, hu5⟩
  clear y0 y1 y2 y3 y4 y5 ly hw1 hw2 hw3 hw4 HU
  have HU : Hid (Upd [] w4 w5) := hu5
  clear hu5
  have hb3 := HB3.out.upd HU.out (by simp)
  have y0 := hb3.cell (j := 0) rfl
  have y1 := hb3.cell (j := 1) rfl
  have y2 := hb3.cell (j := 2) rfl
  have y3 := hb3.cell (j := 3) rfl
  have y4 := hb3.cell (j := 4) rfl
  have y5 := hb3.cell (j := 5) rfl
  have ly := hb3.lt
  clear hb3
  go_wp2_with fail
  refine (HMD.out _ (HU.out.trans ((Upd.refl [] w5).alloc _))).mono ?_
  rintro e w7 hto
  clear y0 y1 y2 y3 y4 y5 ly
  rcases hto with ⟨m, mb, G, -, rfl, -, -, hu7, -⟩ | ⟨hno, -, -⟩
  · have h6 := (Blk.new w5 46 [.int .i64 4, .int .i64 0, .int .i64 0, .int .i64 0]).upd hu7 (by simp)
    have HUN : Hid (Upd [] w4 w7) := HU.out.trans (((Upd.refl [] w5).alloc _).trans hu7)
    clear HU hu7
    have HU := HUN
    clear HUN
    have z0 := h6.cell (j := 0) rfl
    have lz := h6.lt
    clear h6
    have hb3 := HB3.out.upd HU.out (by simp)
    have y0 := hb3.cell (j := 0) rfl
    have y1 := hb3.cell (j := 1) rfl
    have y2 := hb3.cell (j := 2) rfl
    have y3 := hb3.cell (j := 3) rfl
    have y4 := hb3.cell (j := 4) rfl
    have y5 := hb3.cell (j := 5) rfl
    have ly := hb3.lt
    clear hb3
    go_wp2_with fail
    refine (HP1.out _ HU.out).mono ?_
    rintro e w8 ⟨rfl, hu8⟩
    have HUN : Hid (Upd [] w4 w8) := HU.out.trans hu8
    clear HU hu8 y0 y1 y2 y3 y4 y5 ly z0 lz
    have HU := HUN
    clear HUN
    have hb3 := HB3.out.upd HU.out (by simp)
    have y0 := hb3.cell (j := 0) rfl
    have y1 := hb3.cell (j := 1) rfl
    have y2 := hb3.cell (j := 2) rfl
    have y3 := hb3.cell (j := 3) rfl
    have y4 := hb3.cell (j := 4) rfl
    have y5 := hb3.cell (j := 5) rfl
    have ly := hb3.lt
    clear hb3
    go_wp2_with fail
    refine (HP2.out _ _ (HU.out.trans ((Upd.refl [] w8).alloc _)) (Blk.new w8 59 [.int .i64 3, .int .i64 0, .int .i64 0, .int .i64 0, .slice none 0 0, .int .i64 1, .int .u64 0])).mono ?_
    rintro e w9 ⟨rfl, hu9⟩
    have HUN : Hid (Upd [] w4 w9) := HU.out.trans (((Upd.refl [] w8).alloc _).trans hu9)
    clear HU hu9 y0 y1 y2 y3 y4 y5 ly
    have HU := HUN
    clear HUN
    go_wp2_with fail
    refine (HWI.out _ _ (HU.out.trans ((Upd.refl [] w9).alloc _)) (Blk.new w9 115 [.int .i64 0, .int .i64 0, .int .i64 0, .int .i64 0, .int .i64 0, .int .i64 0, .int .i64 0, .slice none 0 0, .int .i64 0, .int .u64 0, .int .i64 0, .int .i64 5])).mono ?_
    rintro e w10 ⟨rfl, hu10⟩
    have HUN : Hid (Upd [] w4 w10) := HU.out.trans (((Upd.refl [] w9).alloc _).trans hu10)
    clear HU hu10
    have HU := HUN
    clear HUN
    have hb3 := HB3.out.upd HU.out (by simp)
    have y0 := hb3.cell (j := 0) rfl
    have y1 := hb3.cell (j := 1) rfl
    have y2 := hb3.cell (j := 2) rfl
    have y3 := hb3.cell (j := 3) rfl
    have y4 := hb3.cell (j := 4) rfl
    have y5 := hb3.cell (j := 5) rfl
    have ly := hb3.lt
    clear hb3
    go_wp2_with fail
    refine (HWH.out _ HU.out).mono ?_
    rintro e w11 ⟨ao, cap, rfl, hrow, -, hu11⟩
    have HUN : Hid (Upd [] w4 w11) := HU.out.trans hu11
    have HIP : Hid (Calls Tryz.prog 37 #[.slice ao 1 cap, .slice (some ⟨w11.heap.size, 0, none⟩) 1 1] (w11.alloc (.cells #[.int .i64 1] 3)) (RetUpd [] (w11.alloc (.cells #[.int .i64 1] 3)) (.bool true))) := by
      rw [aw_whole] at hrow
      exact iplain_any (L := [1]) ((hrow.upd ((Upd.refl [] w11).alloc _) (by simp)).sl) ((Blk.new w11 3 [.int .i64 1]).sl 1 1 1 rfl (by simp [maxLen]))
    clear HU hu11 hrow y0 y1 y2 y3 y4 y5 ly
    have HU := HUN
    clear HUN
    rw [show (awP w.heap.size).L.length = 1 from rfl]
    go_wp2_with fail
    refine HIP.out.mono ?_
    rintro e w12 ⟨rfl, hu12⟩
    go_wp2
    go_ret
    exact ⟨rfl, HU4.out.trans (HU.out.trans (((Upd.refl [] w11).alloc _).trans hu12))⟩
  · exfalso
    obtain ⟨m, hm⟩ := aw_plays w.heap.size
    rw [hm] at hno
    cases hno
end Go.Proofs.YtfeobcmcellcpaaGreat
