/-
  A shard: Base, Has, Len, Over, Min. No condition.
-/
import Derived.Test.YtkepeolbpgnlbaaGreatDoorSb
import Derived.IntWalk
set_option linter.unusedVariables false
set_option linter.unusedSimpArgs false
namespace Go.Proofs.YtkepeolbpgnlbaaGreatDoor
open Go.RowKit

section
variable {W w : World} {sb wb hb base wd : Nat} {A B : List It} {fw fh : List Nat}
theorem SAt.cells (h : SAt W w sb wb hb base wd A B fw fh) : ∃ width : Int, w.cell? ⟨sb, 0, none⟩ = some (.pointer (some ⟨wb, 0, none⟩)) ∧ w.cell? ⟨sb, 1, none⟩ = some (.pointer (some ⟨hb, 0, none⟩)) ∧ w.cell? ⟨sb, 2, none⟩ = some (.int .i64 width) ∧ heldN width = wd ∧ sb < w.heap.size := by
  obtain ⟨width, hblk, hw⟩ := h.blk
  exact ⟨width, hblk.cell (j := 0) rfl, hblk.cell (j := 1) rfl, hblk.cell (j := 2) rfl, hw, hblk.lt⟩
theorem SAt.base_ (h : SAt W w sb wb hb base wd A B fw fh) : Calls Tryz.prog 56 #[.pointer (some ⟨sb, 0, none⟩)] w (fun e w' => e = .returned (.int .u64 base) ∧ w = w') := by
  obtain ⟨width, p0, p1, p2, -, ls⟩ := h.cells
  have HH := Lib.hid h
  clear h
  go_enter Tryz.func56, Tryz.ntmps56
  go_wp2_with fail
  refine HH.out.whl.base.mono ?_
  rintro e w2 ⟨rfl, rfl⟩
  go_wp2
  go_ret
  exact ⟨rfl, rfl⟩
theorem SAt.has (h : SAt W w sb wb hb base wd A B fw fh) (id : Int) : Calls Tryz.prog 64 #[.pointer (some ⟨sb, 0, none⟩), .int .i64 id] w (RetUpd [] w (.bool (hasI (A ++ B) id))) := by
  obtain ⟨width, p0, p1, p2, -, ls⟩ := h.cells
  rw [hasI_app]
  have HH := Lib.hid h
  cases ha : hasI A id with
  | true =>
    have HA := Lib.hid ha
    clear h ha
    go_enter Tryz.func64, Tryz.ntmps64
    go_wp2_with fail
    refine (HH.out.whl.has id).mono ?_
    rintro e w2 ⟨rfl, rfl⟩
    rw [HA.out]
    go_wp2
    go_ret
    exact ⟨rfl, Upd.refl _ _⟩
  | false =>
    have HA := Lib.hid ha
    obtain ⟨r, hr⟩ : ∃ r, hasI B id = r := ⟨_, rfl⟩
    have HR := Lib.hid hr
    rw [hr]
    clear h ha hr
    go_enter Tryz.func64, Tryz.ntmps64
    go_wp2_with fail
    refine (HH.out.whl.has id).mono ?_
    rintro e w2 ⟨rfl, rfl⟩
    rw [HA.out]
    go_wp2_with fail
    refine (HH.out.hp.has id).mono ?_
    rintro e w3 ⟨rfl, -, hU⟩
    rw [HR.out]
    go_wp2
    go_ret
    exact ⟨by simp, hU⟩
theorem SAt.len (h : SAt W w sb wb hb base wd A B fw fh) (hs : (A ++ B).length ≤ 1000) : Calls Tryz.prog 43 #[.pointer (some ⟨sb, 0, none⟩)] w (RetUpd [] w (.int .i64 (A ++ B).length)) := by
  obtain ⟨width, p0, p1, p2, -, ls⟩ := h.cells
  have HH := Lib.hid h
  rw [List.length_append] at hs ⊢
  obtain ⟨n, hn⟩ : ∃ n, A.length = n := ⟨_, rfl⟩
  obtain ⟨m, hm⟩ : ∃ m, B.length = m := ⟨_, rfl⟩
  rw [hn, hm] at hs ⊢
  have HN := Lib.hid hn
  have HM := Lib.hid hm
  have hb1 : IntKind.i64.wrap ((n : Int) + (m : Int)) = (n : Int) + (m : Int) := IntWalk.i64_in _ (by omega)
  clear h hn hm
  go_enter Tryz.func43, Tryz.ntmps43
  go_wp2_with fail
  go_region_held3 (fun w2 => Upd [] w w2 ∧ ∀ (b o : Nat), b < w.heap.size → b ∉ ([] : List Nat) → w2.cell? ⟨b, o, none⟩ = w.cell? ⟨b, o, none⟩)
    (first | exact Held.init _ _ | assumption | exact Held.step (by assumption) hBa)
    (first | (go_at_call 67; refine ((HH.out.upd (Upd.refl [] w).drew).whl.len).mono ?_; rintro e w3 ⟨rfl, rfl⟩; rw [HN.out]) | (go_at_call 68; refine ((HH.out.upd (Upd.refl [] w).drew).hp.len).mono ?_; rintro e w4 ⟨rfl, -, hBa⟩; rw [HM.out]))
  go_wp2
  go_ret
  exact ⟨ret_int (by omega), (Upd.refl [] w).drew.trans hBa⟩
theorem firstV_app_nil (B : List It) : firstV ([] ++ B) = firstV B := rfl
theorem first_cross {a b : It} {A B : List It} (h : Srt ((a :: A) ++ (b :: B))) : ahead b a = false := by
  unfold Srt at h
  rw [List.pairwise_append] at h
  exact ahead_asymm (h.2.2 a (by simp) b (by simp))

theorem _root_.Go.Proofs.YtkepeolbpgnlbaaGreatDoor.HG.min_ {W : World} {hb : Nat} {L : List It} {fp : List Nat} {w : World} (h : HG W hb L fp w) : Calls Tryz.prog 96 #[.pointer (some ⟨hb, 0, none⟩)] w (RetUpd [] w (firstV L)) := heap_min hb L fp w h.1

set_option maxHeartbeats 4000000 in
theorem SAt.min (h : SAt W w sb wb hb base wd A B fw fh) (hs : Srt (A ++ B)) : Calls Tryz.prog 72 #[.pointer (some ⟨sb, 0, none⟩)] w (RetUpd [] w (firstV (A ++ B))) := by
  obtain ⟨width, p0, p1, p2, -, ls⟩ := h.cells
  have HH := Lib.hid h
  obtain ⟨x, okx, hx⟩ : ∃ y ok, firstV A = itV y ok := by cases A <;> exact ⟨_, _, rfl⟩
  obtain ⟨y, oky, hy⟩ : ∃ y ok, firstV B = itV y ok := by cases B <;> exact ⟨_, _, rfl⟩
  have HX := Lib.hid hx
  have HY := Lib.hid hy
  have HR : Hid (firstV (A ++ B) = if okx = true then itV x true else itV y oky) := by
    unfold Hid
    cases A with
    | nil =>
      simp only [firstV, itV, Value.tuple.injEq, Array.mk.injEq, List.cons.injEq, Value.bool.injEq, and_true] at hx
      obtain rfl : okx = false := hx.2.symm
      rw [if_neg (by simp), List.nil_append, hy]
    | cons a A =>
      have hx' := hx
      simp only [firstV, itV, Value.tuple.injEq, Array.mk.injEq, List.cons.injEq, Value.bool.injEq, and_true] at hx'
      obtain rfl : okx = true := hx'.2.symm
      rw [if_pos rfl, ← hx]; rfl
  have HAH : Hid (okx = true → oky = true → Proofs.YtkepeolbpgnlbaaGreatDoor.ahead y x = false) := fun e1 e2 => by
    subst e1
    subst e2
    cases A with
    | nil => simp [firstV, itV] at hx
    | cons a A =>
      cases B with
      | nil => simp [firstV, itV] at hy
      | cons b B =>
        simp only [firstV, itV, Value.tuple.injEq, Array.mk.injEq, List.cons.injEq, Value.agg.injEq, Value.int.injEq, true_and, and_true] at hx hy
        have ha : a = x := Prod.ext hx.1 hx.2
        have hb : b = y := Prod.ext hy.1 hy.2
        subst ha
        subst hb
        exact first_cross hs
  clear h hs hx hy
  cases okx with
  | false =>
    rw [HR.out, if_neg (by simp)]
    go_enter Tryz.func72, Tryz.ntmps72
    go_wp2_with fail
    refine ((HH.out.upd ((Upd.refl [] w).alloc _)).whl.min).mono ?_
    rintro e w2 ⟨rfl, hU2⟩
    rw [HX.out]
    unfold itV
    have HU2 : Hid (Upd [] w w2) := ((Upd.refl [] w).alloc _).trans hU2
    have HZ := Lib.hid ((Blk.new w 37 [.int .u64 0, .int .i64 0]).upd hU2 (by simp))
    have q1 := (HU2.out.cell ls (by simp) 1).trans p1
    have lq := Nat.lt_of_lt_of_le ls HU2.out.size
    clear hU2 p0 p1 p2
    go_wp2_with fail
    refine ((HH.out.upd (HU2.out.alloc _)).hp.min_).mono ?_
    rintro e w3 ⟨rfl, hU3⟩
    rw [HY.out]
    unfold itV
    have HU3 : Hid (Upd [] w w3) := (HU2.out.alloc _).trans hU3
    have hZ := HZ.out.upd (((Upd.refl [] w2).alloc _).trans hU3) (by simp)
    have z0 := hZ.cell (j := 0) rfl
    have z1 := hZ.cell (j := 1) rfl
    have zf := hZ.free 0
    have zf1 := hZ.free 1
    have zl := hZ.lt
    have hX := (Blk.new w2 37 [.int .u64 x.1, .int .i64 x.2]).upd hU3 (by simp)
    have x0 := hX.cell (j := 0) rfl
    have x1 := hX.cell (j := 1) rfl
    have xl := hX.lt
    have HXB := Lib.hid hX
    have HU23 := Lib.hid hU3
    clear hU3 hZ hX
    go_wp2
    exact bodyPost_ret (v := .tuple #[.agg #[.int .u64 y.1, .int .i64 y.2], .bool oky]) (by simp [results, Tryz.results72, go_sem, z0, z1, zl]) rfl ⟨rfl, (((HU3.out.setCell (.inr (Nat.le_refl _)) _).setCell (.inr (Nat.le_refl _)) _).alloc _)⟩
  | true =>
    rw [HR.out, if_pos rfl]
    cases oky with
    | false =>
      go_enter Tryz.func72, Tryz.ntmps72
      go_wp2_with fail
      refine ((HH.out.upd ((Upd.refl [] w).alloc _)).whl.min).mono ?_
      rintro e w2 ⟨rfl, hU2⟩
      rw [HX.out]
      unfold itV
      have HU2 : Hid (Upd [] w w2) := ((Upd.refl [] w).alloc _).trans hU2
      have HZ := Lib.hid ((Blk.new w 37 [.int .u64 0, .int .i64 0]).upd hU2 (by simp))
      have q1 := (HU2.out.cell ls (by simp) 1).trans p1
      have lq := Nat.lt_of_lt_of_le ls HU2.out.size
      clear hU2 p0 p1 p2
      go_wp2_with fail
      refine ((HH.out.upd (HU2.out.alloc _)).hp.min_).mono ?_
      rintro e w3 ⟨rfl, hU3⟩
      rw [HY.out]
      unfold itV
      have HU3 : Hid (Upd [] w w3) := (HU2.out.alloc _).trans hU3
      have hZ := HZ.out.upd (((Upd.refl [] w2).alloc _).trans hU3) (by simp)
      have z0 := hZ.cell (j := 0) rfl
      have z1 := hZ.cell (j := 1) rfl
      have zf := hZ.free 0
      have zf1 := hZ.free 1
      have zl := hZ.lt
      have hX := (Blk.new w2 37 [.int .u64 x.1, .int .i64 x.2]).upd hU3 (by simp)
      have x0 := hX.cell (j := 0) rfl
      have x1 := hX.cell (j := 1) rfl
      have xl := hX.lt
      have HXB := Lib.hid hX
      have HU23 := Lib.hid hU3
      clear hU3 hZ hX
      go_wp2
      exact bodyPost_ret (v := .tuple #[.agg #[.int .u64 x.1, .int .i64 x.2], .bool true]) (by simp [results, Tryz.results72, go_sem, z0, z1, zl]) rfl ⟨rfl, (((HU3.out.setCell (.inr (Nat.le_refl _)) _).setCell (.inr (Nat.le_refl _)) _).alloc _)⟩
    | true =>
      have hah := HAH.out rfl rfl
      have HAD := Lib.hid hah
      clear hah
      go_enter Tryz.func72, Tryz.ntmps72
      go_wp2_with fail
      refine ((HH.out.upd ((Upd.refl [] w).alloc _)).whl.min).mono ?_
      rintro e w2 ⟨rfl, hU2⟩
      rw [HX.out]
      unfold itV
      have HU2 : Hid (Upd [] w w2) := ((Upd.refl [] w).alloc _).trans hU2
      have HZ := Lib.hid ((Blk.new w 37 [.int .u64 0, .int .i64 0]).upd hU2 (by simp))
      have q1 := (HU2.out.cell ls (by simp) 1).trans p1
      have lq := Nat.lt_of_lt_of_le ls HU2.out.size
      clear hU2 p0 p1 p2
      go_wp2_with fail
      refine ((HH.out.upd (HU2.out.alloc _)).hp.min_).mono ?_
      rintro e w3 ⟨rfl, hU3⟩
      rw [HY.out]
      unfold itV
      have HU3 : Hid (Upd [] w w3) := (HU2.out.alloc _).trans hU3
      have hZ := HZ.out.upd (((Upd.refl [] w2).alloc _).trans hU3) (by simp)
      have z0 := hZ.cell (j := 0) rfl
      have z1 := hZ.cell (j := 1) rfl
      have zf := hZ.free 0
      have zf1 := hZ.free 1
      have zl := hZ.lt
      have hX := (Blk.new w2 37 [.int .u64 x.1, .int .i64 x.2]).upd hU3 (by simp)
      have x0 := hX.cell (j := 0) rfl
      have x1 := hX.cell (j := 1) rfl
      have xl := hX.lt
      have HXB := Lib.hid hX
      have HU23 := Lib.hid hU3
      clear hU3 hZ hX
      clear z0 z1 zf zf1 zl
      go_wp2_with fail
      refine (ahead_any y x _).mono ?_
      rintro e w4 ⟨rfl, hU4⟩
      rw [HAD.out]
      have HU4 : Hid (Upd [] w3 w4) := ((Upd.refl [] w3).alloc _).trans hU4
      have hZ := HZ.out.upd ((((Upd.refl [] w2).alloc _).trans HU23.out).trans HU4.out) (by simp)
      have z0 := hZ.cell (j := 0) rfl
      have z1 := hZ.cell (j := 1) rfl
      have zf := hZ.free 0
      have zf1 := hZ.free 1
      have zl := hZ.lt
      have hX := HXB.out.upd HU4.out (by simp)
      have x0 := hX.cell (j := 0) rfl
      have x1 := hX.cell (j := 1) rfl
      have xl := hX.lt
      clear hU4 hZ hX
      go_wp2
      exact bodyPost_ret (v := .tuple #[.agg #[.int .u64 x.1, .int .i64 x.2], .bool true]) (by simp [results, Tryz.results72, go_sem, z0, z1, zl]) rfl ⟨rfl, (((HU3.out.trans HU4.out).setCell (.inr (Nat.le_refl _)) _).setCell (.inr (Nat.le_refl _)) _)⟩
end
end Go.Proofs.YtkepeolbpgnlbaaGreatDoor
