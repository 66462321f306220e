/-
  The walks of Plain and Spoil at items. No condition.
-/
import Derived.Test.YtilibinmbmgedaaHeapK
namespace Go.Proofs.Ytilibinmbmgedaa
open Go.RowKit

set_option maxHeartbeats 400000 in
theorem plainf_any (x : It) (w : World) :
    Calls Try.prog 29 #[.agg #[.int .u64 x.1, .int .i64 x.2], .agg #[.int .u64 x.1, .int .i64 x.2]] w (RetUpd [] w (.bool true)) := by
  go_enter Try.func29, Try.ntmps29
  go_wp2
  go_ret
  exact ⟨rfl, ((Upd.refl _ _).alloc _).alloc _⟩

def SameAt (w : World) (n : Nat) (iv : Value) (wr : World) : Prop := ∃ i : Nat, iv = .int .i64 i ∧ i ≤ n ∧ Upd [] w wr

theorem RowO.items {w : World} {ao : Option Addr} {n cap : Nat} {L : List It} (h : RowO w 37 2 ao n cap (L.flatMap itVs)) (hn : L.length = n) {i : Nat} (hi : i < n) :
    ∃ g, ao = some ⟨g, 0, none⟩ ∧ g < w.heap.size ∧ w.cell? ⟨g, i * 2, none⟩ = some (.int .u64 (atI L i).1) ∧ w.cell? ⟨g, i * 2 + 1, none⟩ = some (.int .i64 (atI L i).2) := by
  obtain ⟨g, hg, hr⟩ := h.row (by omega)
  exact ⟨g, hg, hr.lt, (item_cells hr (by omega)).1, (item_cells hr (by omega)).2⟩

set_option maxHeartbeats 4000000 in
theorem same_any (ao1 ao2 : Option Addr) (n cap1 cap2 : Nat) (L : List It) (w : World) (hn : L.length = n) (hs : n ≤ 1000) (h1 : RowO w 37 2 ao1 n cap1 (L.flatMap itVs)) (h2 : RowO w 37 2 ao2 n cap2 (L.flatMap itVs)) :
    Calls Try.prog 28 #[.slice ao1 n cap1, .slice ao2 n cap2, .func (.func 29) #[] #[]] w (RetUpd [] w (.bool true)) := by
  have HN := Lib.hid hn
  have H1 := Lib.hid h1
  have H2 := Lib.hid h2
  clear hn h1 h2
  go_enter Try.func28, Try.ntmps28
  go_wp2
  go_loopw [7] (fun iv wr => SameAt w n iv wr) (fun iv _ => n - (intOf iv).toNat)
  case atStart => exact ⟨0, rfl, by omega, Upd.refl _ _⟩
  case round =>
    obtain ⟨i, rfl, hi, hU⟩ := hrel
    have HU := Lib.hid hU
    clear hU
    by_cases hlt : i < n
    · have t1 : decide (i < n) = true := by simp [hlt]
      have b1 : (i : Int) < (n : Int) := by omega
      obtain ⟨g1, hg1, l1, x0, x1⟩ := (H1.out.upd HU.out (by simp)).items HN.out hlt
      obtain ⟨g2, hg2, l2, y0, y1⟩ := (H2.out.upd HU.out (by simp)).items HN.out hlt
      subst hg1 hg2
      obtain ⟨x, hx⟩ : ∃ x, atI L i = x := ⟨_, rfl⟩
      rw [hx] at x0 x1 y0 y1
      clear hx
      go_wp2
      go_region_held3 (fun w' => Upd [] wr w' ∧ ∀ (b o : Nat), b < wr.heap.size → b ∉ ([] : List Nat) → w'.cell? ⟨b, o, none⟩ = wr.cell? ⟨b, o, none⟩)
        (first | exact Held.init _ _ | exact Held.step (by assumption) hB) (first | (go_at_call 29; refine (plainf_any x _).mono ?_; rintro e w' ⟨rfl, hB⟩))
      have hU2 := HU.out.trans ((Upd.refl [] wr).drew.trans hB)
      go_wp2
      exact ⟨⟨i + 1, by congr 1, by omega, hU2⟩, by first | (simp [intOf]; done) | (simp [intOf]; omega)⟩
    · have t1 : decide (i < n) = false := by simp; omega
      go_wp2
      go_ret
      exact ⟨rfl, HU.out⟩

theorem plain_any (ao1 ao2 : Option Addr) (n cap1 cap2 : Nat) (L : List It) (w : World) (hn : L.length = n) (hs : n ≤ 1000) (h1 : RowO w 37 2 ao1 n cap1 (L.flatMap itVs)) (h2 : RowO w 37 2 ao2 n cap2 (L.flatMap itVs)) :
    Calls Try.prog 11 #[.slice ao1 n cap1, .slice ao2 n cap2] w (RetUpd [] w (.bool true)) := by
  have H1 := same_any ao1 ao2 n cap1 cap2 L w hn hs h1 h2
  clear hn h1 h2
  go_enter Try.func11, Try.ntmps11
  go_wp2_with fail
  refine H1.mono ?_
  rintro e w2 ⟨rfl, hU⟩
  go_wp2
  go_ret
  exact ⟨rfl, hU⟩

def SpoilAt (w : World) (ao : Option Addr) (n cap r : Nat) (iv : Value) (wr : World) : Prop :=
  ∃ (i : Nat) (xs : List Value), iv = .int .i64 i ∧ i ≤ n ∧ Upd (blkO ao) w wr ∧ RowO wr 37 2 ao n cap xs ∧ Blk wr r 37 [.int .u64 0, .int .i64 0]

set_option maxHeartbeats 4000000 in
theorem spoil_any (ao : Option Addr) (n cap : Nat) (xs : List Value) (w : World) (hs : n ≤ 1000) (h : RowO w 37 2 ao n cap xs) :
    Calls Try.prog 20 #[.slice ao n cap] w (RetUpd (blkO ao) w (.tuple #[])) := by
  have hlt := h.lt
  have H := Lib.hid h
  have HL := Lib.hid hlt
  clear h hlt
  go_enter Try.func20, Try.ntmps20
  go_wp2
  go_loopw [3] (fun iv wr => SpoilAt w ao n cap w.heap.size iv wr) (fun iv _ => n - (intOf iv).toNat)
  case atStart => exact ⟨0, xs, rfl, by omega, (Upd.refl _ _).alloc _, H.out.upd ((Upd.refl [] _).alloc _) (by simp), Blk.new w _ [.int .u64 0, .int .i64 0]⟩
  case round =>
    obtain ⟨i, ys, rfl, hi, hU, hR, hB⟩ := hrel
    have HU := Lib.hid hU
    have HR := Lib.hid hR
    have HB := Lib.hid hB
    clear hU hR hB
    by_cases hlt : i < n
    · have t1 : decide (i < n) = true := by simp [hlt]
      have b1 : (i : Int) < (n : Int) := by omega
      obtain ⟨g, hg, hr⟩ := HR.out.row (by omega)
      subst hg
      have lg := hr.lt
      obtain ⟨u0, x0⟩ := hr.spot (j := i * 2) (by omega)
      obtain ⟨u1, x1⟩ := hr.spot (j := i * 2 + 1) (by omega)
      have f0 := hr.free (i * 2)
      have f1 := hr.free (i * 2 + 1)
      have z0 := HB.out.cell (j := 0) rfl
      have z1 := HB.out.cell (j := 1) rfl
      have hne : w.heap.size ≠ g := by have := HL.out g (by simp [blkO]); omega
      have HR2 : Hid (Row ((wr.setCell ⟨g, i * 2, none⟩ (.int .u64 0)).setCell ⟨g, i * 2 + 1, none⟩ (.int .i64 0)) 37 2 g n cap _) := (hr.set (i * 2) (.int .u64 0)).set (i * 2 + 1) (.int .i64 0)
      clear hr
      go_wp2
      exact ⟨⟨i + 1, _, by congr 1, by omega, (HU.out.setCell (by simp [blkO]) _).setCell (by simp [blkO]) _, HR2.out.o, (HB.out.setFar (fun e => hne e.symm) _).setFar (fun e => hne e.symm) _⟩, by first | (simp [intOf]; done) | (simp [intOf]; omega)⟩
    · have t1 : decide (i < n) = false := by simp; omega
      go_wp2
      go_end0
      exact ⟨rfl, HU.out⟩
end Go.Proofs.Ytilibinmbmgedaa
