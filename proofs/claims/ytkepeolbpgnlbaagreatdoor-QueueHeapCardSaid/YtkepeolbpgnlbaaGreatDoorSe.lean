/-
  A shard: over, Move. No condition.
-/
import Derived.Test.YtkepeolbpgnlbaaGreatDoorSd
set_option linter.unusedVariables false
set_option linter.unusedSimpArgs false
namespace Go.Proofs.YtkepeolbpgnlbaaGreatDoor
open Go.RowKit

theorem HG.lenCell {W w : World} {hb : Nat} {L : List It} {fp : List Nat} (h : HG W hb L fp w) : ∃ ao cap, w.cell? ⟨hb, 0, none⟩ = some (.slice ao L.length cap) := by
  obtain ⟨⟨ao, cap, mb, A, h1, h2, h3, h4, h5⟩, _⟩ := h
  exact ⟨ao, cap, by rw [← h3.length_eq]; exact h1.top.cell (j := 0) rfl⟩

/-- The length in a cell: a loop's measure. -/
def cellLen (w : World) (b : Nat) : Nat := match w.cell? ⟨b, 0, none⟩ with | some (.slice _ n _) => n | _ => 0
theorem HG.cellLen_eq {W w : World} {hb : Nat} {L : List It} {fp : List Nat} (h : HG W hb L fp w) : cellLen w hb = L.length := by
  obtain ⟨ao, cap, hc⟩ := h.lenCell
  unfold cellLen; rw [hc]
theorem SMid.ofOk {base wd : Nat} {A B : List It} (h : SOk base wd A B) : SMid base wd A B := ⟨h.srt, h.nd, h.key, h.near⟩


/-- On the way: a variable that bears the first item that lies beyond. -/
def OverAt (W w : World) (sb wb hb base wd : Nat) (L : List It) (F : List Nat) (s4 s5 : Value) (wr : World) : Prop :=
  ∃ A B fw fh g y ok, s4 = .pointer (some ⟨g, 0, none⟩) ∧ s5 = .bool ok ∧ firstV B = itV y ok ∧ SAt W wr sb wb hb base wd A B fw fh ∧ SMid base wd A B ∧ A ++ B = L ∧ Fr F (sb :: (fw ++ fh)) w wr ∧ Blk wr g 37 [.int .u64 y.1, .int .i64 y.2] ∧ w.heap.size ≤ g ∧ g ∉ sb :: (fw ++ fh)
def OverTo (W w : World) (sb wb hb base wd : Nat) (L : List It) (F : List Nat) (w' : World) : Prop :=
  ∃ A B fw fh, SAt W w' sb wb hb base wd A B fw fh ∧ SOk base wd A B ∧ A ++ B = L ∧ Fr F (sb :: (fw ++ fh)) w w'
section
variable {W w : World} {sb wb hb base wd : Nat} {A B : List It} {fw fh : List Nat}

theorem over_step {w wr w3 w4 w5 : World} {A1 B1 : List It} {b : It} {F fw1 fh1 fw3 fh4 : List Nat} (hsz : w.heap.size ≤ wr.heap.size) (hF1 : Fr F (sb :: (fw1 ++ fh1)) w wr) (hF3 : Fr (sb :: (fw1 ++ fh1)) (sb :: (fw3 ++ fh1)) wr w3) (hF4 : Fr (sb :: (fw3 ++ fh1)) (sb :: (fw3 ++ fh4)) w3 w4) (hS4 : SAt W w4 sb wb hb base wd A1 B1 fw3 fh4) (hU : Upd [] w4 w5)
    (hB : Blk w5 w4.heap.size 37 [.int .u64 b.1, .int .i64 b.2]) (y : It) (hlt : ∀ c ∈ sb :: (fw1 ++ fh1), c < wr.heap.size) :
    SAt W ((w5.setCell ⟨w4.heap.size, 0, none⟩ (.int .u64 y.1)).setCell ⟨w4.heap.size, 1, none⟩ (.int .i64 y.2)) sb wb hb base wd A1 B1 fw3 fh4 ∧
      Fr F (sb :: (fw3 ++ fh4)) w ((w5.setCell ⟨w4.heap.size, 0, none⟩ (.int .u64 y.1)).setCell ⟨w4.heap.size, 1, none⟩ (.int .i64 y.2)) ∧
      Blk ((w5.setCell ⟨w4.heap.size, 0, none⟩ (.int .u64 y.1)).setCell ⟨w4.heap.size, 1, none⟩ (.int .i64 y.2)) w4.heap.size 37 [.int .u64 y.1, .int .i64 y.2] ∧ w.heap.size ≤ w4.heap.size ∧ w4.heap.size ∉ sb :: (fw3 ++ fh4) := by
  have hl4 := hS4.lt
  have hs34 := hF4.2.size
  have hs13 := hF3.2.size
  have hW := hS4.ltW
  have hu : Upd [w4.heap.size] w5 ((w5.setCell ⟨w4.heap.size, 0, none⟩ (.int .u64 y.1)).setCell ⟨w4.heap.size, 1, none⟩ (.int .i64 y.2)) := ((Upd.refl _ _).setCell (by simp) _).setCell (by simp) _
  have hn : w4.heap.size ∉ sb :: (fw3 ++ fh4) := fun e => by have := hl4 _ e; omega
  have hfr := (hF1.trans hF3).trans hF4
  refine ⟨(hS4.upd hU).updS hu (fun c hc e => ?_) (fun c hc => ?_), ⟨hfr.1, ?_⟩, ?_, by omega, hn⟩
  · simp at e; subst e; exact hn hc
  · simp at hc; subst hc; exact hW
  · exact (hfr.2.trans hU.nil).then hu (fun _ _ h => h) (fun i hi hm => by simp at hm; omega)
  · exact (hB.set 0 (.int .u64 y.1)).set 1 (.int .i64 y.2)


set_option maxRecDepth 100000 in
set_option maxHeartbeats 16000000 in
theorem SAt.over (h : SAt W w sb wb hb base wd A B fw fh) (hm : SMid base wd A B) (hl : (A ++ B).length ≤ 1000) :
    Calls Tryz.prog 99 #[.pointer (some ⟨sb, 0, none⟩), .func (.func 71) #[.pointer (some ⟨wb, 0, none⟩)] #[]] w (fun e w' => e = .returned (.tuple #[]) ∧ OverTo W w sb wb hb base wd (A ++ B) (sb :: (fw ++ fh)) w') := by
  obtain ⟨width, p0, p1, p2, -, ls⟩ := h.cells
  have HH := Lib.hid h
  have HM := Lib.hid hm
  have HLT := Lib.hid h.lt
  have HLL := Lib.hid hl
  obtain ⟨y, ok, hy⟩ : ∃ y ok, firstV B = itV y ok := by cases B <;> exact ⟨_, _, rfl⟩
  have HY := Lib.hid hy
  clear h hm hl hy
  go_enter Tryz.func99, Tryz.ntmps99
  go_wp2_with fail
  refine HH.out.hp.min_.mono ?_
  rintro e w2 ⟨rfl, hU2⟩
  rw [HY.out]
  unfold itV
  have HS2 : Hid (OverAt W w sb wb hb base wd (A ++ B) (sb :: (fw ++ fh)) (.pointer (some ⟨w2.heap.size, 0, none⟩)) (.bool ok) (w2.alloc (.cells #[.int .u64 y.1, .int .i64 y.2] 37))) := by
    have hs := hU2.size
    exact ⟨A, B, fw, fh, w2.heap.size, y, ok, rfl, rfl, HY.out, (HH.out.upd hU2).upd ((Upd.refl [] w2).alloc _), HM.out, rfl, Fr.of (hU2.alloc _), Blk.new w2 37 [.int .u64 y.1, .int .i64 y.2], hs, fun e => by have := HLT.out w2.heap.size e; omega⟩
  clear hU2 p0 p1 p2 ls
  go_wp2
  go_loopw [4, 5] (fun s4 s5 wr => OverAt W w sb wb hb base wd (A ++ B) (sb :: (fw ++ fh)) s4 s5 wr) (fun _ _ wr => cellLen wr hb)
  case atStart => exact HS2.out
  case round =>
    clear HS2 HY
    obtain ⟨A1, B1, fw1, fh1, g, y1, ok1, rfl, rfl, hy1, hS, hM, hL, hF, hG, hg1, hg2⟩ := hrel
    obtain ⟨width, p0, p1, p2, -, ls⟩ := hS.cells
    have HS := Lib.hid hS
    have HM1 := Lib.hid hM
    have HL1 := Lib.hid hL
    have HF1 := Lib.hid hF
    have HG1 := Lib.hid hG
    have HLT1 := Lib.hid hS.lt
    have hy0 := hG.cell (j := 0) rfl
    have hy01 := hG.cell (j := 1) rfl
    have lg := hG.lt
    have HSZ := Lib.hid hF.2.size
    have hg2' := Lib.hid hg2
    have hgw : g ∉ fw1 := fun e => hg2 (by simp [e])
    have hgh : g ∉ fh1 := fun e => hg2 (by simp [e])
    have hgs : g ≠ sb := fun e => hg2 (by simp [e])
    have HGW := Lib.hid hgw
    have HGH := Lib.hid hgh
    clear hS hM hL hF hG hg2 hgw hgh
    cases ok1 with
    | false =>
      have hB : Hid (B1 = []) := by
        cases B1 with
        | nil => rfl
        | cons b B1 => simp [firstV, itV] at hy1
      clear hy1
      go_wp2
      go_end0
      exact ⟨rfl, A1, B1, fw1, fh1, HS.out, HM1.out.done (fun x r e => by rw [hB.out] at e; cases e), HL1.out, HF1.out⟩
    | true =>
      cases B1 with
      | nil => simp [firstV, itV] at hy1
      | cons b B1 =>
        have hby : b = y1 := by
          simp only [firstV, itV, Value.tuple.injEq, Array.mk.injEq, List.cons.injEq, Value.agg.injEq, Value.int.injEq, true_and, and_true] at hy1
          exact Prod.ext hy1.1 hy1.2
        subst hby
        obtain ⟨hk1, hk2, hk3⟩ := HM1.out.key b (by simp)
        have hx0 : hasI A1 b.2 = false := nd_app_left HM1.out.nd (by unfold hasI; simp)
        have hsmA : A1.length < 1000 := by
          have := HLL.out
          rw [← HL1.out, List.length_append, List.length_cons] at this
          omega
        have HSMA := Lib.hid hsmA
        have hkey : b = ((kn b : Int), b.2) := Prod.ext hk1 rfl
        obtain ⟨k, hkk⟩ : ∃ k, kn b = k := ⟨_, rfl⟩
        have HKK := Lib.hid hkk
        rw [hkk] at hk1 hk2 hk3 hkey
        have HKEY := Lib.hid hkey
        have HK2 := Lib.hid hk2
        rw [hk1] at hy0
        by_cases hf : lev3 wd base k < 3
        · have HFI : Hid ((fitsB base wd k && !hasI A1 b.2) = true) := by unfold Hid fitsB; rw [hx0]; simp [hk3, hf]
          obtain ⟨hst1, hst2, -⟩ := HM1.out.step (x := b) (by rw [hkk]; exact hf)
          have HST1 := Lib.hid hst1
          have HST2 := Lib.hid hst2
          clear hy1 hk1 hk2 hk3 hx0 hsmA hkey hkk hf hst1 hst2
          go_wp2_with fail
          refine (HS.out.whl.push k HK2.out b.2 HSMA.out).mono ?_
          rintro e w3 ⟨rfl, h3⟩
          rw [HFI.out] at h3 ⊢
          rw [if_pos rfl, ← HKEY.out, HST1.out] at h3
          have hg3 := HG1.out.upd h3.up_ HGW.out
          obtain ⟨fw3, hS3, hF3⟩ := HS.out.wstep h3
          obtain ⟨width, p0, p1, p2, -, ls⟩ := hS3.cells
          have HS3 := Lib.hid hS3
          have HF3 := Lib.hid hF3
          have HG3 := Lib.hid hg3
          clear h3 hS3 hF3 hg3 hy0 hy01 lg
          go_wp2_with fail
          refine HS3.out.hp.pop.mono ?_
          rintro e w4 ⟨rfl, h4⟩
          have hg4 := HG3.out.upd h4.up_ HGH.out
          obtain ⟨fh4, hS4, hF4⟩ := HS3.out.hstep h4
          rw [List.tail_cons] at hS4
          obtain ⟨width, p0, p1, p2, -, ls⟩ := hS4.cells
          have HS4 := Lib.hid hS4
          have HF4 := Lib.hid hF4
          have HG4 := Lib.hid hg4
          have hy0 := hg4.cell (j := 0) rfl
          have hy01 := hg4.cell (j := 1) rfl
          have lg := hg4.lt
          have HLT4 := Lib.hid hS4.lt
          obtain ⟨y5, ok5, hy5⟩ : ∃ y ok, firstV B1 = itV y ok := by cases B1 <;> exact ⟨_, _, rfl⟩
          have HY5 := Lib.hid hy5
          unfold firstV itV
          clear h4 hS4 hF4 hg4 hy5
          go_wp2_with fail
          refine ((HS4.out.upd ((Upd.refl [] w4).alloc _)).hp.min_).mono ?_
          rintro e w5 ⟨rfl, hU5⟩
          rw [HY5.out]
          unfold itV
          have HB5 : Hid (Blk w5 w4.heap.size 37 [.int .u64 b.1, .int .i64 b.2]) := (Blk.new w4 37 [.int .u64 b.1, .int .i64 b.2]).upd hU5 (by simp)
          have z0 := HB5.out.cell (j := 0) rfl
          have z1 := HB5.out.cell (j := 1) rfl
          have zf := HB5.out.free 0
          have zf1 := HB5.out.free 1
          have zl := HB5.out.lt
          have HU45 : Hid (Upd [] w4 w5) := ((Upd.refl [] w4).alloc _).trans hU5
          clear hU5
          go_wp2
          have hF := over_step HSZ.out HF1.out HF3.out HF4.out HS4.out HU45.out HB5.out y5 HLT1.out
          exact ⟨⟨A1 ++ [b], B1, fw3, fh4, w4.heap.size, y5, ok5, rfl, rfl, HY5.out, hF.1, HST2.out, by rw [List.append_assoc]; exact HL1.out, hF.2.1, hF.2.2.1, hF.2.2.2.1, hF.2.2.2.2⟩, by rw [hF.1.hp.cellLen_eq, HS.out.hp.cellLen_eq]; simp⟩
        · have HNF : Hid (¬ lev3 wd base k < 3) := hf
          have HFI : Hid ((fitsB base wd k && !hasI A1 b.2) = false) := by unfold Hid fitsB; simp [hf]
          clear hy1 hk1 hk2 hk3 hx0 hsmA hkey hkk hf
          go_wp2_with fail
          refine (HS.out.whl.push k HK2.out b.2 HSMA.out).mono ?_
          rintro e w3 ⟨rfl, h3⟩
          rw [HFI.out] at h3 ⊢
          rw [if_neg (by simp)] at h3
          obtain ⟨fw3, hS3, hF3⟩ := HS.out.wstep h3
          have HS3 := Lib.hid hS3
          have HF3 := Lib.hid hF3
          clear h3 hS3 hF3
          go_wp2
          go_end0
          exact ⟨rfl, A1, b :: B1, fw3, fh1, HS3.out, HM1.out.done (fun x r e => by
            simp only [List.cons.injEq] at e
            rw [← e.1, HKK.out]; exact HNF.out), HL1.out, HF1.out.trans HF3.out⟩
end
end Go.Proofs.YtkepeolbpgnlbaaGreatDoor
