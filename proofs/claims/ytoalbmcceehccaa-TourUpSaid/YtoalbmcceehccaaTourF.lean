/-
  The walks of the reference's tour: NewTour, Leaf, Node, Ahead. No condition.
-/
import Derived.Test.YtoalbmcceehccaaTourC
namespace Go.Proofs.Ytoalbmcceehccaa
open Go.RowKit

structure Rf where
  p : Nat
  hb : Nat
  xb : Nat
  has : List Bool
  xs : List It

/-- The reference's tour in memory. -/
structure RTAt (w : World) (r : Rf) : Prop where
  top : Blk w r.p 32 [.slice (some ⟨r.hb, 0, none⟩) r.has.length r.has.length, .slice (some ⟨r.xb, 0, none⟩) r.has.length r.has.length]
  hrow : Row w 4 1 r.hb r.has.length r.has.length (r.has.map Value.bool)
  xrow : Row w 43 2 r.xb r.has.length r.has.length (r.xs.flatMap itVs)
  xlen : r.xs.length = r.has.length
  one : 1 ≤ r.has.length
  small : r.has.length ≤ 16
  ph : r.p ≠ r.hb
  px : r.p ≠ r.xb
  hx : r.hb ≠ r.xb

theorem RTAt.upd {S : List Nat} {w w' : World} {r : Rf} (h : RTAt w r) (hu : Upd S w w') (h1 : r.p ∉ S) (h2 : r.hb ∉ S) (h3 : r.xb ∉ S) : RTAt w' r :=
  { h with top := h.top.upd hu h1, hrow := h.hrow.upd hu h2, xrow := h.xrow.upd hu h3 }

def newRf (p hb xb m : Nat) : Rf := ⟨p, hb, xb, List.replicate m false, List.replicate m zIt⟩

def RNewPost (n : Int) (w : World) (e : Ending) (w' : World) : Prop :=
  ∃ p hb xb, e = .returned (.pointer (some ⟨p, 0, none⟩)) ∧ RTAt w' (newRf p hb xb (leavesOf n)) ∧ Upd [] w w' ∧ w.heap.size ≤ p ∧ w.heap.size ≤ hb ∧ w.heap.size ≤ xb

def boolVs (b : Bool) : List Value := [.bool b]
theorem flat_bool (l : List Bool) : l.flatMap boolVs = l.map Value.bool := by induction l with
  | nil => rfl
  | cons a l ih => simp [boolVs, ih]

theorem rnew_done {n : Int} {w wr : World} {m p hb xb : Nat} (hB : Blk wr p 32 [.slice (some ⟨hb, 0, none⟩) m m, .slice (some ⟨xb, 0, none⟩) m m])
    (h1 : wr.heap[hb]? = some (.cells (madeCells (boolVs false).toArray m) 4)) (h2 : wr.heap[xb]? = some (.cells (madeCells (itVs zIt).toArray (m * 2)) 43)) (hU : Upd [] w wr) (hm : leavesOf n = m) (a1 : 1 ≤ m) (a2 : m ≤ 16)
    (hp : w.heap.size ≤ p) (hhb : w.heap.size ≤ hb) (hxb : w.heap.size ≤ xb) (d1 : p ≠ hb) (d2 : p ≠ xb) (d3 : hb ≠ xb) : RNewPost n w (.returned (.pointer (some ⟨p, 0, none⟩))) wr := by
  subst hm
  refine ⟨p, hb, xb, rfl, ?_, hU, hp, hhb, hxb⟩
  refine { top := by simpa [newRf] using hB, hrow := ?_, xrow := ?_, xlen := by simp [newRf], one := by simpa [newRf] using a1, small := by simpa [newRf] using a2, ph := d1, px := d2, hx := d3 }
  · simp only [newRf, List.length_replicate]
    rw [← flat_bool, ← made_flat boolVs 1 (fun _ => rfl) false (leavesOf n), Nat.mul_one]
    exact Row.mk' (by simp [madeCells]) h1 (Nat.le_refl _) (by unfold maxLen; omega) (by simp [madeCells]) (List.take_of_length_le (by simp [madeCells]))
  · simp only [newRf, List.length_replicate]
    rw [← made_flat itVs 2 itVs_len zIt (leavesOf n)]
    exact Row.mk' (by simp [madeCells]) h2 (Nat.le_refl _) (by unfold maxLen; omega) (by simp [madeCells]) (List.take_of_length_le (by simp [madeCells]))

set_option maxHeartbeats 4000000 in
theorem rtnew_any (n : Int) (w : World) : Calls Try.prog 22 #[.int .i64 n] w (RNewPost n w) := by
  obtain ⟨ib, hib, hzb, hsb, hbb⟩ := info_parts infoBool
  obtain ⟨ii, hii, hzi, hsi, hbi⟩ := info_parts infoItem
  have hm := leavesOf_bd n
  have hc := leavesOf_cast n
  obtain ⟨m, hmm⟩ : ∃ m, leavesOf n = m := ⟨_, rfl⟩
  rw [hmm] at hm hc
  have HM := Lib.hid hmm
  have HC := Lib.hid hc
  clear hmm hc
  have hm1 := hm.1
  have hm2 := hm.2
  clear hm
  have mk1 := fun w => run_make (P := Try.prog) w 29 4 ib _ underlyingBools hib hzb .i64 .i64 (m : Int) (m : Int) (by omega) (Int.le_refl _) (by rw [hbb]; omega) (by omega)
  have mk2 := fun w => run_make (P := Try.prog) w 30 43 ii _ underlyingItems hii hzi .i64 .i64 (m : Int) (m : Int) (by omega) (Int.le_refl _) (by rw [hbi]; omega) (by omega)
  rw [hsb] at mk1
  rw [hsi] at mk2
  simp only [Int.toNat_natCast] at mk1 mk2
  clear hib hzb hsb hbb hii hzi hsi hbi
  go_enter Try.func22, Try.ntmps22
  go_wp2
  rw [← HC.out]
  go_region
  all_goals go_wp2
  all_goals go_ret
  · exact rnew_done (heap_three w _ _ _).2.2 (heap_three w _ _ _).1 (heap_three w _ _ _).2.1 ((((Upd.refl _ w).alloc _).alloc _).alloc _).drew HM.out hm1 hm2 (by omega) (by omega) (by omega) (by omega) (by omega) (by omega)
  · exact rnew_done (heap_three w _ _ _).2.2 (heap_three w _ _ _).2.1 (heap_three w _ _ _).1 ((((Upd.refl _ w).alloc _).alloc _).alloc _).drew HM.out hm1 hm2 (by omega) (by omega) (by omega) (by omega) (by omega) (by omega)

set_option maxHeartbeats 400000 in
theorem rahead_any (a b : It) (w : World) :
    Calls Try.prog 16 #[.agg #[.int .u64 a.1, .int .i64 a.2], .agg #[.int .u64 b.1, .int .i64 b.2]] w (RetUpd [] w (.bool (ahead a b))) := by
  obtain ⟨k1, i1⟩ := a
  obtain ⟨k2, i2⟩ := b
  go_enter Try.func16, Try.ntmps16
  go_wp2
  all_goals
    go_ret
    refine ⟨ret_bool ?_, ((Upd.refl _ _).alloc _).alloc _⟩
    try (simp [ahead, *]; done)

set_option maxHeartbeats 400000 in
theorem rleaf_in (p n : Nat) (ao : Option Addr) (i : Nat) (w : World) (h0 : w.cell? ⟨p, 0, none⟩ = some (.slice ao n n)) (hi : i < n) :
    Calls Try.prog 24 #[.pointer (some ⟨p, 0, none⟩), .int .i64 i] w (fun e w' => e = .returned (.bool true) ∧ w = w') := by
  have h1 : decide ((0 : Int) ≤ i) = true := by simp
  have h2 : decide (i < n) = true := by simp [hi]
  go_enter Try.func24, Try.ntmps24
  go_wp2
  go_ret
  exact ⟨rfl, rfl⟩

set_option maxHeartbeats 400000 in
theorem rleaf_out (p n : Nat) (ao : Option Addr) (i : Int) (w : World) (h0 : w.cell? ⟨p, 0, none⟩ = some (.slice ao n n)) (hi : i < 0 ∨ n ≤ i) :
    Calls Try.prog 24 #[.pointer (some ⟨p, 0, none⟩), .int .i64 i] w (fun e w' => e = .returned (.bool false) ∧ w = w') := by
  by_cases hn : i < 0
  · have h1 : decide ((0 : Int) ≤ i) = false := by simp; omega
    go_enter Try.func24, Try.ntmps24
    go_wp2
    go_ret
    exact ⟨rfl, rfl⟩
  · have h1 : decide ((0 : Int) ≤ i) = true := by simp; omega
    have h2 : decide (i < (n : Int)) = false := by simp; omega
    go_enter Try.func24, Try.ntmps24
    go_wp2
    go_ret
    exact ⟨rfl, rfl⟩
end Go.Proofs.Ytoalbmcceehccaa
