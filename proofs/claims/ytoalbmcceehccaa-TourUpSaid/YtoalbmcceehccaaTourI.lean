/-
  The walk of awake: what a program that does nothing does not answer. No condition.
-/
import Derived.Test.YtoalbmcceehccaaTourH
namespace Go.Proofs.Ytoalbmcceehccaa
open Go.RowKit

def awL1 : List Leaf := [zLeaf, zLeaf, ((5, 0), true)]
def awL2 : List Leaf := [((5, 1), true), zLeaf, ((5, 0), true)]

theorem aw_new (bt bl bn cap : Nat) : newTr bt bl bn cap (leavesOf 3) = ⟨bt, bl, bn, cap, 4, [zLeaf, zLeaf, zLeaf], [-1, -1, -1, -1, -1, -1, -1, -1]⟩ := by
  have e1 : sizeOf2 (leavesOf 3) = 4 := by decide
  have e2 : List.replicate (leavesOf 3) zLeaf = [zLeaf, zLeaf, zLeaf] := by decide
  unfold newTr
  rw [e1, e2]
  rfl
theorem aw_set1 : playN awL1 4 2 true [-1, -1, -1, -1, -1, -1, -1, -1] = [-1, 2, -1, 2, -1, -1, 2, -1] := by decide +kernel
theorem aw_set2 : playN awL2 4 0 true [-1, 2, -1, 2, -1, -1, 2, -1] = [-1, 2, 0, 2, 0, -1, 2, -1] := by decide +kernel
theorem aw_one {bt bl bn cap : Nat} {w : World} (h : TourAt w { (⟨bt, bl, bn, cap, 4, [zLeaf, zLeaf, zLeaf], [-1, -1, -1, -1, -1, -1, -1, -1]⟩ : Tr) with L := [zLeaf, zLeaf, zLeaf].set ((2 : Nat) : Int).toNat ((5, 0), true), N := playN ([zLeaf, zLeaf, zLeaf].set ((2 : Nat) : Int).toNat ((5, 0), true)) 4 ((2 : Nat) : Int).toNat true [-1, -1, -1, -1, -1, -1, -1, -1] }) :
    TourAt w ⟨bt, bl, bn, cap, 4, awL1, [-1, 2, -1, 2, -1, -1, 2, -1]⟩ := by
  have e : [zLeaf, zLeaf, zLeaf].set ((2 : Nat) : Int).toNat ((5, 0), true) = awL1 := rfl
  rw [e, Int.toNat_natCast, aw_set1] at h
  exact h
theorem aw_two {bt bl bn cap : Nat} {w : World} (h : TourAt w { (⟨bt, bl, bn, cap, 4, awL1, [-1, 2, -1, 2, -1, -1, 2, -1]⟩ : Tr) with L := awL1.set ((0 : Nat) : Int).toNat ((5, 1), true), N := playN (awL1.set ((0 : Nat) : Int).toNat ((5, 1), true)) 4 ((0 : Nat) : Int).toNat true [-1, 2, -1, 2, -1, -1, 2, -1] }) :
    TourAt w ⟨bt, bl, bn, cap, 4, awL2, [-1, 2, 0, 2, 0, -1, 2, -1]⟩ := by
  have e : awL1.set ((0 : Nat) : Int).toNat ((5, 1), true) = awL2 := rfl
  rw [e, Int.toNat_natCast, aw_set2] at h
  exact h

theorem tnode_val (t : Tr) (k v : Int) (w : World) (ht : TourAt w t) (h : nodeF t k = v) : Calls Try.prog 14 #[.pointer (some ⟨t.bt, 0, none⟩), .int .i64 k] w (RetUpd [] w (.int .i64 v)) := by
  subst h; exact tnode_any t k w ht
theorem aw_len : ((awL2.length : Nat) : Int) = 3 := rfl

set_option maxHeartbeats 8000000 in
theorem awake_any (w : World) : Calls Try.prog 10 #[] w (RetUpd [] w (.bool true)) := by
  go_enter Try.func10, Try.ntmps10
  go_wp2_with (first
    | (go_at_call 20; refine (tnew_any _ _).mono ?_; rintro e w1 ⟨bt, bl, bn, cap, rfl, hT, hU1, a1, a2, a3⟩; rw [aw_new] at hT; have HT := Lib.hid hT; have HU1 := Lib.hid hU1; clear hT hU1)
    | (go_at_call_of 18 (Value.int .i64 2); refine (tset_in ⟨bt, bl, bn, cap, 4, [zLeaf, zLeaf, zLeaf], [-1, -1, -1, -1, -1, -1, -1, -1]⟩ 2 (5, 0) _ HT.out (by show 2 < 3; omega)).mono ?_; rintro e w2 ⟨rfl, hU2, hT2⟩; have HT2 := Lib.hid (aw_one hT2); have HU2 := Lib.hid (HU1.out.then hU2 (U := []) (by simp) (by simp; omega)); clear hT2 hU2)
    | (go_at_call_of 18 (Value.int .i64 0); refine (tset_in ⟨bt, bl, bn, cap, 4, awL1, [-1, 2, -1, 2, -1, -1, 2, -1]⟩ 0 (5, 1) _ HT2.out (by show 0 < 3; omega)).mono ?_; rintro e w3 ⟨rfl, hU3, hT3⟩; have HT3 := Lib.hid (aw_two hT3); have HU3 := Lib.hid (HU2.out.then hU3 (U := []) (by simp) (by simp; omega)); clear hT3 hU3)
    | (go_at_call 17; refine (twin_some ⟨bt, bl, bn, cap, 4, awL2, [-1, 2, 0, 2, 0, -1, 2, -1]⟩ _ HT3.out 2 rfl (by omega) (5, 0) rfl).mono ?_; rintro e w4 ⟨rfl, hU4⟩; have HT4 := Lib.hid (HT3.out.upd hU4 (by simp) (by simp) (by simp)); have HU4 := Lib.hid (HU3.out.trans hU4); clear hU4)
    | (go_at_call_of 14 (Value.int .i64 2); refine (tnode_val ⟨bt, bl, bn, cap, 4, awL2, [-1, 2, 0, 2, 0, -1, 2, -1]⟩ 2 0 _ (HT4.out.upd ((Upd.refl [] w4).alloc _) (by simp) (by simp) (by simp)) rfl).mono ?_; rintro e w5 ⟨rfl, hU5⟩; have HU5 := Lib.hid ((Upd.refl [] w4).alloc _ |>.trans hU5); clear hU5)
    | (go_at_call_of 14 (Value.int .i64 3); refine (tnode_val ⟨bt, bl, bn, cap, 4, awL2, [-1, 2, 0, 2, 0, -1, 2, -1]⟩ 3 2 _ (HT4.out.upd HU5.out (by simp) (by simp) (by simp)) rfl).mono ?_; rintro e w6 ⟨rfl, hU6⟩; have HU6 := Lib.hid (HU5.out.trans hU6); clear hU6)
    | (go_at_call 11; refine (tlen_any ⟨bt, bl, bn, cap, 4, awL2, [-1, 2, 0, 2, 0, -1, 2, -1]⟩ _ (HT4.out.upd HU6.out (by simp) (by simp) (by simp))).mono ?_; rintro e w7 ⟨rfl, hU7⟩; have HU7 := Lib.hid (HU6.out.trans hU7); clear hU7; rw [aw_len]))
  go_ret
  exact ⟨rfl, HU4.out.trans HU7.out⟩
end Go.Proofs.Ytoalbmcceehccaa
