/-
  The walks of the tour's Len, Node, Win, Set, Unset. No condition.
-/
import Derived.Test.YtoalbmcceehccaaTourB
namespace Go.Proofs.Ytoalbmcceehccaa
open Go.RowKit

set_option maxHeartbeats 400000 in
theorem tlen_any (t : Tr) (w : World) (ht : TourAt w t) : Calls Try.prog 11 #[.pointer (some ⟨t.bt, 0, none⟩)] w (RetUpd [] w (.int .i64 t.L.length)) := by
  have h0 := ht.top.cell (j := 0) rfl
  clear ht
  go_enter Try.func11, Try.ntmps11
  go_wp2
  go_ret
  exact ⟨rfl, Upd.refl _ _⟩

/-- What Node answers. -/
def nodeF (t : Tr) (k : Int) : Int := if 1 ≤ k ∧ k < 2 * t.size then t.N.getD k.toNat (-1) else -1

set_option maxHeartbeats 400000 in
theorem tnode_any (t : Tr) (k : Int) (w : World) (ht : TourAt w t) : Calls Try.prog 14 #[.pointer (some ⟨t.bt, 0, none⟩), .int .i64 k] w (RetUpd [] w (.int .i64 (nodeF t k))) := by
  obtain ⟨r, hr⟩ : ∃ r, nodeF t k = r := ⟨_, rfl⟩
  rw [hr]
  unfold nodeF at hr
  have h2 := ht.top.cell (j := 2) rfl
  have small := ht.small
  by_cases h1 : k < 1
  · have HK : Hid (-1 = r) := by rw [if_neg (by omega)] at hr; exact hr
    have d1 : decide (k < 1) = true := by simp; omega
    clear hr ht
    go_enter Try.func14, Try.ntmps14
    go_wp2
    go_ret
    exact ⟨ret_int HK.out, Upd.refl _ _⟩
  · have d1 : decide (k < 1) = false := by simp; omega
    by_cases h3 : 2 * (t.size : Int) ≤ k
    · have HK : Hid (-1 = r) := by rw [if_neg (by omega)] at hr; exact hr
      have d2 : decide (2 * (t.size : Int) ≤ k) = true := by simp; omega
      clear hr ht
      go_enter Try.func14, Try.ntmps14
      go_wp2
      go_ret
      exact ⟨ret_int HK.out, Upd.refl _ _⟩
    · have HK : Hid (t.N.getD k.toNat (-1) = r) := by rw [if_pos (by omega)] at hr; exact hr
      have d2 : decide (2 * (t.size : Int) ≤ k) = false := by simp; omega
      have c := node_cell ht.nodes (j := k.toNat) (by omega)
      have e0 : 0 ≤ k := by omega
      have e1 : k < 2 * (t.size : Int) := by omega
      clear hr ht h1 h3
      go_enter Try.func14, Try.ntmps14
      go_wp2
      go_ret
      exact ⟨ret_int HK.out, Upd.refl _ _⟩

/-- What Win answers. -/
def WinPost (t : Tr) (w : World) (e : Ending) (w' : World) : Prop :=
  Upd [] w w' ∧ ((t.N.getD 1 (-1) < 0 ∧ e = .returned (.tuple #[.int .i64 0, .agg #[.int .u64 0, .int .i64 0], .bool false])) ∨
    (0 ≤ t.N.getD 1 (-1) ∧ e = .returned (.tuple #[.int .i64 (t.N.getD 1 (-1)), .agg #[.int .u64 (leafAt t.L (t.N.getD 1 (-1))).1.1, .int .i64 (leafAt t.L (t.N.getD 1 (-1))).1.2], .bool true])))

set_option maxHeartbeats 1600000 in
theorem twin_any (t : Tr) (w : World) (ht : TourAt w t) : Calls Try.prog 17 #[.pointer (some ⟨t.bt, 0, none⟩)] w (WinPost t w) := by
  have h0 := ht.top.cell (j := 0) rfl
  have h2 := ht.top.cell (j := 2) rfl
  have lt := ht.top.lt
  have lb := ht.leaves.lt
  have hs : 1 ≤ t.size := Nat.le_trans ht.one ht.fits
  have c := node_cell ht.nodes (j := 1) (by omega)
  have ln := ht.nodes.lt
  obtain ⟨v, hv⟩ : ∃ v, t.N.getD 1 (-1) = v := ⟨_, rfl⟩
  have hin := ht.inr.getD 1
  rw [hv] at c hin
  have hi2 := hin.2
  have HV := Lib.hid hv
  have e1 : 1 < 2 * t.size := by omega
  by_cases hn : v < 0
  · have d1 : decide (v < 0) = true := by simp; omega
    clear hv hin ht
    go_enter Try.func17, Try.ntmps17
    go_wp2
    exact bodyPost_ret (v := .tuple #[.int .i64 0, .agg #[.int .u64 0, .int .i64 0], .bool false]) (by simp [results, Try.results17, go_sem]) rfl ⟨(Upd.refl [] w).alloc _, .inl ⟨by rw [HV.out]; omega, rfl⟩⟩
  · have d1 : decide (v < 0) = false := by simp; omega
    have p0 : 0 ≤ v := by omega
    obtain ⟨ck, ci⟩ := leaf_rows ht.leaves v p0 hi2
    obtain ⟨x, hx⟩ : ∃ x, (leafAt t.L v).1 = x := ⟨_, rfl⟩
    rw [hx] at ck ci
    have HX := Lib.hid hx
    clear hv hin ht hx hn
    go_enter Try.func17, Try.ntmps17
    go_wp2
    go_region
    go_wp2
    refine bodyPost_ret (v := .tuple #[.int .i64 v, .agg #[.int .u64 x.1, .int .i64 x.2], .bool true]) (by simp [results, Try.results17, go_sem]) rfl ⟨?_, .inr ⟨by rw [HV.out]; omega, by rw [HV.out, HX.out]⟩⟩
    exact ((Upd.refl [] w).alloc _).drew

set_option maxHeartbeats 800000 in
theorem tset_in (t : Tr) (i : Nat) (x : It) (w : World) (ht : TourAt w t) (hi : i < t.L.length) :
    Calls Try.prog 18 #[.pointer (some ⟨t.bt, 0, none⟩), .int .i64 i, .agg #[.int .u64 x.1, .int .i64 x.2]] w (PlayIn t i (x, true) w) := by
  have HT := Lib.hid ht
  clear ht
  go_enter Try.func18, Try.ntmps18
  go_wp2_with (go_at_call 26; refine (play_in t i (x, true) _ (HT.out.upd ((Upd.refl [] w).alloc _) (by simp) (by simp) (by simp)) hi).mono ?_; rintro e w' ⟨rfl, hU, hT⟩)
  go_ret
  exact ⟨rfl, (((Upd.refl [] w).alloc _).nil).trans hU, hT⟩

set_option maxHeartbeats 800000 in
theorem tset_out (t : Tr) (i : Int) (x : It) (w : World) (ht : TourAt w t) (hi : i < 0 ∨ t.L.length ≤ i) :
    Calls Try.prog 18 #[.pointer (some ⟨t.bt, 0, none⟩), .int .i64 i, .agg #[.int .u64 x.1, .int .i64 x.2]] w (PlayOut w) := by
  have HT := Lib.hid ht
  have HI := Lib.hid hi
  clear ht hi
  go_enter Try.func18, Try.ntmps18
  go_wp2_with (go_at_call 26; refine (play_out t i (x, true) _ (HT.out.upd ((Upd.refl [] w).alloc _) (by simp) (by simp) (by simp)) HI.out).mono ?_; rintro e w' ⟨rfl, hU⟩)
  go_ret
  exact ⟨rfl, ((Upd.refl [] w).alloc _).trans hU⟩

set_option maxHeartbeats 800000 in
theorem tunset_in (t : Tr) (i : Nat) (w : World) (ht : TourAt w t) (hi : i < t.L.length) :
    Calls Try.prog 19 #[.pointer (some ⟨t.bt, 0, none⟩), .int .i64 i] w (PlayIn t i zLeaf w) := by
  have HT := Lib.hid ht
  clear ht
  go_enter Try.func19, Try.ntmps19
  go_wp2_with (go_at_call 26; refine (play_in t i zLeaf _ HT.out hi).mono ?_; rintro e w' ⟨rfl, hU, hT⟩)
  go_ret
  exact ⟨rfl, hU, hT⟩

set_option maxHeartbeats 800000 in
theorem tunset_out (t : Tr) (i : Int) (w : World) (ht : TourAt w t) (hi : i < 0 ∨ t.L.length ≤ i) :
    Calls Try.prog 19 #[.pointer (some ⟨t.bt, 0, none⟩), .int .i64 i] w (PlayOut w) := by
  have HT := Lib.hid ht
  have HI := Lib.hid hi
  clear ht hi
  go_enter Try.func19, Try.ntmps19
  go_wp2_with (go_at_call 26; refine (play_out t i zLeaf _ HT.out HI.out).mono ?_; rintro e w' ⟨rfl, hU⟩)
  go_ret
  exact ⟨rfl, hU⟩
end Go.Proofs.Ytoalbmcceehccaa
