/-
  The reference's list of items in order: where it lies; the walks of At and Min. No condition.
-/
import Derived.Test.YtbnifhdnpeiheaaDoorItemL
set_option linter.unusedVariables false
set_option linter.unusedSimpArgs false
namespace Go.Proofs.YtbnifhdnpeiheaaDoor
open Go.RowKit

/-- A list of items in order, its slice in the cell o of the block b. -/
structure ItsAt (w : World) (b o : Nat) (ao : Option Addr) (cap : Nat) (L : List It) : Prop where
  cell : w.cell? ⟨b, o, none⟩ = some (.slice ao L.length cap)
  free : w.frozen? ⟨b, o, none⟩ = false
  row : RowO w 35 2 ao L.length cap (L.flatMap itVs)
  lt : b < w.heap.size
  apart : b ∉ blkO ao
  small : L.length ≤ 1000
  nd : NdI L
  srt : Srt L

theorem ItsAt.upd {S : List Nat} {w w' : World} {b o cap : Nat} {ao : Option Addr} {L : List It} (h : ItsAt w b o ao cap L) (hu : Upd S w w') (h1 : b ∉ S) (h2 : ∀ c ∈ blkO ao, c ∉ S) : ItsAt w' b o ao cap L :=
  { h with cell := by rw [hu.cell h.lt h1]; exact h.cell, free := by rw [hu.frozen h.lt h1]; exact h.free, row := h.row.upd hu h2, lt := Nat.lt_of_lt_of_le h.lt hu.size }

def AtAt (L : List It) (id : Int) (w : World) (iv : Value) (wr : World) : Prop := ∃ i : Nat, iv = .int .i64 i ∧ i ≤ L.length ∧ (∀ j, j < i → (atI L j).2 ≠ id) ∧ wr = w

/-- Where an ID stands; -1. -/
def posI (L : List It) (id : Int) : Int := match L.findIdx? (fun x => x.2 == id) with | some i => i | none => -1
theorem posI_at {L : List It} {id : Int} {i : Nat} (hi : i < L.length) (h : (atI L i).2 = id) (hj : ∀ j, j < i → (atI L j).2 ≠ id) : posI L id = i := by
  unfold posI
  have : L.findIdx? (fun x => x.2 == id) = some i := by
    rw [List.findIdx?_eq_some_iff_getElem]
    refine ⟨hi, by rw [← atI_get L i hi]; simp [h], fun j hji => ?_⟩
    rw [← atI_get L j (by omega)]; simp [hj j hji]
  rw [this]
theorem posI_no {L : List It} {id : Int} (h : ∀ j, j < L.length → (atI L j).2 ≠ id) : posI L id = -1 := by
  unfold posI
  have : L.findIdx? (fun x => x.2 == id) = none := by
    rw [List.findIdx?_eq_none_iff]
    intro x hx
    obtain ⟨j, hj, rfl⟩ := List.getElem_of_mem hx
    rw [← atI_get L j hj]; simp [h j hj]
  rw [this]
theorem posI_has (L : List It) (id : Int) : (0 ≤ posI L id) = (hasI L id = true) := by
  unfold posI hasI
  cases h : L.findIdx? (fun x => x.2 == id) with
  | some i =>
    have h2 := h
    rw [List.findIdx?_eq_some_iff_getElem] at h2
    obtain ⟨hi, hp, _⟩ := h2
    have : L.any (fun x => x.2 == id) = true := List.any_eq_true.2 ⟨L[i], List.getElem_mem hi, hp⟩
    rw [this]; simp
  | none =>
    rw [List.findIdx?_eq_none_iff] at h
    have : L.any (fun x => x.2 == id) = false := by
      rw [List.any_eq_false]; intro x hx; simpa using h x hx
    rw [this]; simp
theorem posI_of {L : List It} {id : Int} (h : hasI L id = true) : ∃ i : Nat, posI L id = i ∧ i < L.length ∧ (atI L i).2 = id := by
  have h0 : 0 ≤ posI L id := by rw [posI_has]; exact h
  unfold posI at *
  cases h : L.findIdx? (fun x => x.2 == id) with
  | some i =>
    have h2 := h
    rw [List.findIdx?_eq_some_iff_getElem] at h2
    obtain ⟨hi, hp, _⟩ := h2
    exact ⟨i, rfl, hi, by rw [atI_get L i hi]; simpa using hp⟩
  | none => rw [h] at h0; simp at h0
theorem posI_neg {L : List It} {id : Int} (h : hasI L id = false) : posI L id = -1 := by
  apply posI_no
  intro j hj e
  rw [hasI_no] at h
  exact h (atI L j) (by rw [atI_get L j hj]; exact List.getElem_mem hj) e

set_option maxHeartbeats 4000000 in
theorem ri_at (b o : Nat) (ao : Option Addr) (cap : Nat) (L : List It) (id : Int) (w : World) (h : ItsAt w b o ao cap L) :
    Calls Tryd.prog 72 #[.pointer (some ⟨b, o, none⟩), .int .i64 id] w (fun e w' => e = .returned (.int .i64 (posI L id)) ∧ w = w') := by
  have c0 := h.cell
  have lb := h.lt
  have small := h.small
  have HH := Lib.hid h
  obtain ⟨n, hn⟩ : ∃ n, L.length = n := ⟨_, rfl⟩
  rw [hn] at c0 small
  have HN := Lib.hid hn
  clear h hn
  go_enter Tryd.func72, Tryd.ntmps72
  go_wp2
  go_loopw [5] (fun iv wr => AtAt L id w iv wr) (fun iv _ => L.length - (intOf iv).toNat)
  case atStart => exact ⟨0, rfl, by omega, fun j hj => by omega, rfl⟩
  case round =>
    obtain ⟨i, rfl, hi, hj, rfl⟩ := hrel
    have HJ := Lib.hid hj
    rw [HN.out] at hi
    clear hj
    by_cases hlt : i < n
    · have t1 : decide (i < n) = true := by simp [hlt]
      have b1 : (i : Int) < (n : Int) := by omega
      obtain ⟨g, hg, hr⟩ := HH.out.row.row (by rw [HN.out]; omega)
      subst hg
      obtain ⟨x0, x1⟩ := item_cells hr (i := i) (by rw [HN.out]; exact hlt)
      obtain ⟨y, hy⟩ : ∃ y, (atI L i).2 = y := ⟨_, rfl⟩
      rw [hy] at x1
      have HY := Lib.hid hy
      clear hr hy
      by_cases he : y = id
      · have t2 : (y == id) = true := by simp [he]
        have hp : Hid (posI L id = i) := posI_at (by rw [HN.out]; exact hlt) (by rw [HY.out]; exact he) HJ.out
        clear he
        go_wp2
        go_ret
        exact ⟨by rw [hp.out]; rfl, rfl⟩
      · have t2 : (y == id) = false := by simp [he]
        have hne : Hid (y ≠ id) := he
        clear he
        go_wp2
        exact ⟨⟨i + 1, by congr 1, by rw [HN.out]; omega, fun j hj e => by
          by_cases h : j = i
          · subst h; exact hne.out (HY.out.symm.trans e)
          · exact HJ.out j (by omega) e, rfl⟩, by have := HN.out; first | (simp [intOf]; done) | (simp [intOf]; omega)⟩
    · have t1 : decide (i < n) = false := by simp; omega
      have hp : Hid (posI L id = -1) := posI_no (fun j hj => HJ.out j (by have := HN.out; omega))
      go_wp2
      go_ret
      exact ⟨by rw [hp.out]; rfl, rfl⟩

set_option maxHeartbeats 4000000 in
theorem ri_min (b o : Nat) (ao : Option Addr) (cap : Nat) (L : List It) (w : World) (h : ItsAt w b o ao cap L) :
    Calls Tryd.prog 70 #[.pointer (some ⟨b, o, none⟩)] w (RetUpd [] w (firstV L)) := by
  have c0 := h.cell
  have lb := h.lt
  have small := h.small
  cases L with
  | nil =>
    clear h
    go_enter Tryd.func70, Tryd.ntmps70
    go_wp2
    exact bodyPost_ret (v := .tuple #[.agg #[.int .u64 0, .int .i64 0], .bool false]) (by simp [results, Tryd.results70, go_sem]) rfl ⟨rfl, ((Upd.refl [] w).alloc _)⟩
  | cons x L =>
    obtain ⟨g, hg, hr⟩ := h.row.row (by simp)
    subst hg
    obtain ⟨x0, x1⟩ := item_cells hr (i := 0) (by simp)
    have lg := hr.lt
    have hx : atI (x :: L) 0 = x := rfl
    rw [hx] at x0 x1
    obtain ⟨n, hn⟩ : ∃ n, (x :: L).length = n := ⟨_, rfl⟩
    have hn0 : n ≠ 0 := by rw [← hn]; simp
    rw [hn] at c0 small
    have t1 : ((n : Int) == 0) = false := by simp; omega
    have b2 : (0 : Int) < (n : Int) := by omega
    clear h hr hx hn
    go_enter Tryd.func70, Tryd.ntmps70
    go_wp2
    exact bodyPost_ret (v := .tuple #[.agg #[.int .u64 x.1, .int .i64 x.2], .bool true]) (by simp [results, Tryd.results70, go_sem]) rfl ⟨rfl, ((Upd.refl [] w).alloc _)⟩
end Go.Proofs.YtbnifhdnpeiheaaDoor
