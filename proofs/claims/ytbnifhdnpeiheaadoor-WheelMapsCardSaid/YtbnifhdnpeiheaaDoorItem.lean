/-
  Items: their order, how they lie in memory, the walk of tag.Ahead; words that every walk uses. No condition.
-/
import Derived.Test.YtbnifhdnpeiheaaDoorFrame
import Derived.Lib.MinMax
import Derived.BigRegion
set_option linter.unusedVariables false
set_option linter.unusedSimpArgs false
namespace Go.Proofs.YtbnifhdnpeiheaaDoor
open Go.RowKit

abbrev It := Int × Int
def ahead (a b : It) : Bool := decide (a.1 < b.1) || (decide (a.1 = b.1) && decide (a.2 < b.2))
def zIt : It := (0, 0)
def itVs (x : It) : List Value := [.int .u64 x.1, .int .i64 x.2]
theorem itVs_len (l : It) : (itVs l).length = 2 := rfl
theorem ahead_iff (a b : It) : ahead a b = true ↔ (a.1 < b.1 ∨ (a.1 = b.1 ∧ a.2 < b.2)) := by simp [ahead]
theorem ahead_no (a b : It) : ahead a b = false ↔ ¬ (a.1 < b.1 ∨ (a.1 = b.1 ∧ a.2 < b.2)) := by rw [← ahead_iff]; simp

theorem getD_set_same {α : Type} (l : List α) (i : Nat) (x d : α) (h : i < l.length) : (l.set i x).getD i d = x := by simp [List.getD_eq_getElem?_getD, h]
theorem getD_set_other {α : Type} (l : List α) (i j : Nat) (x d : α) (h : i ≠ j) : (l.set i x).getD j d = l.getD j d := by simp [List.getD_eq_getElem?_getD, h]

def RetUpd (S : List Nat) (w : World) (v : Value) (e : Ending) (w' : World) : Prop := e = .returned v ∧ Upd S w w'

theorem ret_bool {a b : Bool} (h : a = b) : Ending.returned (.bool a) = .returned (.bool b) := by rw [h]
theorem ret_int {k : IntKind} {a b : Int} (h : a = b) : Ending.returned (.int k a) = .returned (.int k b) := by rw [h]

theorem Held.step {S : List Nat} {W w w' : World} (h : Upd S W w ∧ ∀ b o, b < W.heap.size → b ∉ S → w.cell? ⟨b, o, none⟩ = W.cell? ⟨b, o, none⟩) (k : Upd S w w') :
    Upd S W w' ∧ ∀ b o, b < W.heap.size → b ∉ S → w'.cell? ⟨b, o, none⟩ = W.cell? ⟨b, o, none⟩ := ⟨h.1.trans k, (h.1.trans k).cells⟩
theorem Held.init (S : List Nat) (W : World) : Upd S W W.drew ∧ ∀ b o, b < W.heap.size → b ∉ S → W.drew.cell? ⟨b, o, none⟩ = W.cell? ⟨b, o, none⟩ := ⟨(Upd.refl S W).drew, fun _ _ _ _ => rfl⟩

set_option maxHeartbeats 400000 in
theorem ahead_any (a b : It) (w : World) :
    Calls Tryd.prog 107 #[.agg #[.int .u64 a.1, .int .i64 a.2], .agg #[.int .u64 b.1, .int .i64 b.2]] w (RetUpd [] w (.bool (ahead a b))) := by
  obtain ⟨k1, i1⟩ := a
  obtain ⟨k2, i2⟩ := b
  go_enter Tryd.func107, Tryd.ntmps107
  go_wp2
  all_goals
    go_ret
    refine ⟨ret_bool ?_, ((Upd.refl _ _).alloc _).alloc _⟩
    try (simp [ahead, *]; done)

theorem Held.far {S : List Nat} {W w : World} (h : Upd S W w ∧ ∀ b o, b < W.heap.size → b ∉ S → w.cell? ⟨b, o, none⟩ = W.cell? ⟨b, o, none⟩) {p : Addr} (hp : W.heap.size ≤ p.block) (u : Value) :
    Upd S W (w.setCell p u) ∧ ∀ b o, b < W.heap.size → b ∉ S → (w.setCell p u).cell? ⟨b, o, none⟩ = W.cell? ⟨b, o, none⟩ := ⟨h.1.setCell (.inr hp) u, (h.1.setCell (.inr hp) u).cells⟩
theorem Held.new {S : List Nat} {W w : World} (h : Upd S W w ∧ ∀ b o, b < W.heap.size → b ∉ S → w.cell? ⟨b, o, none⟩ = W.cell? ⟨b, o, none⟩) (x : Obj) :
    Upd S W (w.alloc x) ∧ ∀ b o, b < W.heap.size → b ∉ S → (w.alloc x).cell? ⟨b, o, none⟩ = W.cell? ⟨b, o, none⟩ := ⟨h.1.alloc x, (h.1.alloc x).cells⟩

def xAt (xs : List It) (i : Int) : It := xs.getD i.toNat zIt
theorem item_rows {w : World} {b n : Nat} {xs : List It} (h : Row w 35 2 b n n (xs.flatMap itVs)) (a : Int) (h0 : 0 ≤ a) (h1 : a < n) :
    w.cell? ⟨b, a.toNat * 2, none⟩ = some (.int .u64 (xAt xs a).1) ∧ w.cell? ⟨b, a.toNat * 2 + 1, none⟩ = some (.int .i64 (xAt xs a).2) := by
  have hl : xs.length = n := by have := h.len; rw [flat_len itVs 2 itVs_len] at this; omega
  have ha : a.toNat < xs.length := by omega
  have hx : xs[a.toNat]? = some (xAt xs a) := by
    unfold xAt; rw [List.getD_eq_getElem?_getD, List.getElem?_eq_getElem ha]; rfl
  exact ⟨h.cell (by rw [← Nat.add_zero (a.toNat * 2), flat_get itVs 2 itVs_len xs a.toNat 0 (by omega) _ hx]; rfl),
    h.cell (by rw [flat_get itVs 2 itVs_len xs a.toNat 1 (by omega) _ hx]; rfl)⟩
theorem item_set (xs : List It) (i : Nat) (hi : i < xs.length) (x : It) : ((xs.flatMap itVs).set (i * 2) (.int .u64 x.1)).set (i * 2 + 1) (.int .i64 x.2) = (xs.set i x).flatMap itVs := by
  have h0 := flat_set itVs 2 itVs_len xs i xs[i] (x.1, xs[i].2) (List.getElem?_eq_getElem hi) 0 (.int .u64 x.1) (by omega) rfl
  rw [Nat.add_zero] at h0
  rw [h0, flat_set itVs 2 itVs_len _ i (x.1, xs[i].2) x (by simp [hi]) 1 (.int .i64 x.2) (by omega) rfl]
  simp

theorem underlyingItems : Tryd.prog.underlying 56 = some (.slice 35) := by kernel_rfl
theorem infoItem : (Tryd.prog.info? 35).map (fun i => (i.zero, i.size, i.bytes)) = some (some (.agg #[.int .u64 0, .int .i64 0]), 2, 16) := by kernel_rfl
theorem two_set {w w0 : World} {g : Nat} {x y : Value} (h0 : w.cell? ⟨g, 0, none⟩ = w0.cell? ⟨g, 0, none⟩) (h1 : w.cell? ⟨g, 1, none⟩ = w0.cell? ⟨g, 1, none⟩) (k0 : w0.cell? ⟨g, 0, none⟩ = some x) (k1 : w0.cell? ⟨g, 1, none⟩ = some y) (a b : Value) :
    ((w.setCell ⟨g, 0, none⟩ a).setCell ⟨g, 1, none⟩ b).cell? ⟨g, 0, none⟩ = some a ∧ ((w.setCell ⟨g, 0, none⟩ a).setCell ⟨g, 1, none⟩ b).cell? ⟨g, 1, none⟩ = some b := by
  have e0 : (w.setCell ⟨g, 0, none⟩ a).cell? ⟨g, 0, none⟩ = some a := World.cell?_setCell_same _ _ _ (h0.trans k0)
  have e1 : (w.setCell ⟨g, 0, none⟩ a).cell? ⟨g, 1, none⟩ = some y := by rw [World.cell?_setCell_other _ _ _ _ (by simp)]; exact h1.trans k1
  exact ⟨by rw [World.cell?_setCell_other _ _ _ _ (by simp)]; exact e0, World.cell?_setCell_same _ _ _ e1⟩
end Go.Proofs.YtbnifhdnpeiheaaDoor
