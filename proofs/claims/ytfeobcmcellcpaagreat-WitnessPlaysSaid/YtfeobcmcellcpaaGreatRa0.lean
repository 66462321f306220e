/-
  The lists of a plan that is being dealt out: each in a row of its own, in plain words. No condition.
-/
import Derived.Test.YtfeobcmcellcpaaGreatMs
set_option linter.unusedVariables false
set_option linter.unusedSimpArgs false
namespace Go.Proofs.YtfeobcmcellcpaaGreat
open Go.RowKit

theorem made_flatG {α : Type} (f : α → List Value) (m : Nat) (hf : ∀ x, (f x).length = m) (x : α) (n : Nat) : (madeCells (f x).toArray (n * m)).toList = (List.replicate n x).flatMap f := by
  apply List.ext_getElem?
  intro j
  by_cases hj : j < n * m
  · have hm : 0 < m := by rcases Nat.eq_zero_or_pos m with rfl | h; simp at hj; exact h
    have hq : j / m < n := Nat.div_lt_of_lt_mul (by rw [Nat.mul_comm]; exact hj)
    have hr : j % m < m := Nat.mod_lt _ hm
    have e : j = j / m * m + j % m := by rw [Nat.mul_comm]; exact (Nat.div_add_mod j m).symm
    rw [show ((List.replicate n x).flatMap f)[j]? = ((List.replicate n x).flatMap f)[j / m * m + j % m]? by rw [← e], flat_get f m hf _ (j / m) (j % m) hr x (by simp [hq])]
    have : (j % (f x).toArray.size) < (f x).length := by simp [hf, hr]
    simp [madeCells, hj, hf, hr]
  · rw [List.getElem?_eq_none (by simp [madeCells]; omega), List.getElem?_eq_none (by rw [flat_len f m hf]; simp; omega)]
theorem lvB_blk {ao : Option Addr} {n c x : Nat} (h : x ∈ lvB (.slice ao n c)) : x ∈ blkO ao := by
  cases ao with
  | none => simp [lvB] at h
  | some a =>
    cases n with
    | zero => simp [lvB] at h
    | succ n => simpa [lvB, blkO] using h
def vB : Value → List Nat
  | .slice (some a) _ _ => [a.block]
  | _ => []
theorem vB_slice (ao : Option Addr) (n cap : Nat) : vB (.slice ao n cap) = blkO ao := by cases ao <;> rfl
def LiOwn (w0 wr : World) (n : Nat) (x : Li) : Prop := ∃ ao k cap, x.v = .slice ao k cap ∧ RowO wr 46 4 ao k cap (x.L.flatMap clVs) ∧ x.L.length = k ∧ k ≤ 3 + n ∧ ∀ b ∈ blkO ao, w0.heap.size ≤ b
structure WdAt (w0 wr : World) (bl m : Nat) (E : List Li) (n : Nat) : Prop where
  row : Row wr 26 1 bl m m (E.flatMap liVs)
  len : E.length = m
  each : ∀ (i : Nat) (x : Li), E[i]? = some x → LiOwn w0 wr n x
  apart : ∀ (i j : Nat) (x y : Li), i ≠ j → E[i]? = some x → E[j]? = some y → ∀ c ∈ vB x.v, c ∉ vB y.v
  upd : Upd [bl] w0 wr
  hbl : bl < w0.heap.size
theorem LiOwn.updS {w0 wr w' : World} {n : Nat} {x : Li} {S : List Nat} (h : LiOwn w0 wr n x) (hu : Upd S wr w') (hs : ∀ c ∈ vB x.v, c ∉ S) : LiOwn w0 w' n x := by
  obtain ⟨ao, k, cap, e, h1, h2, h3, h4⟩ := h
  rw [e, vB_slice] at hs
  exact ⟨ao, k, cap, e, h1.upd hu hs, h2, h3, h4⟩
theorem LiOwn.more {w0 wr : World} {n n' : Nat} {x : Li} (h : LiOwn w0 wr n x) (hn : n ≤ n') : LiOwn w0 wr n' x := by
  obtain ⟨ao, k, cap, e, h1, h2, h3, h4⟩ := h
  exact ⟨ao, k, cap, e, h1, h2, by omega, h4⟩
theorem LiOwn.lt {w0 wr : World} {n : Nat} {x : Li} (h : LiOwn w0 wr n x) : ∀ c ∈ vB x.v, c < wr.heap.size ∧ w0.heap.size ≤ c := by
  obtain ⟨ao, k, cap, e, h1, h2, h3, h4⟩ := h
  rw [e, vB_slice]
  exact fun c hc => ⟨h1.lt c hc, h4 c hc⟩
theorem LiOwn.sl {w0 wr : World} {n : Nat} {x : Li} (h : LiOwn w0 wr n x) : SlAt wr 4 x.v x.L.length (x.L.flatMap clVs) := by
  obtain ⟨ao, k, cap, e, h1, h2, h3, h4⟩ := h
  rw [e, h2]; exact h1.sl
theorem WdAt.lists {w0 wr : World} {bl m : Nat} {E : List Li} {n : Nat} (h : WdAt w0 wr bl m E n) : ListsAt wr (.slice (some ⟨bl, 0, none⟩) m m) E :=
  ⟨by rw [h.len]; exact h.row.o.sl, fun x hx => by
    obtain ⟨i, hi, e⟩ := List.getElem_of_mem hx
    exact (h.each i x (by rw [List.getElem?_eq_getElem hi, e])).sl⟩
theorem WdAt.upd' {w0 wr w' : World} {bl m : Nat} {E : List Li} {n : Nat} (h : WdAt w0 wr bl m E n) (hu : Upd [] wr w') : WdAt w0 w' bl m E n :=
  ⟨h.row.upd hu (by simp), h.len, fun i x hx => (h.each i x hx).updS hu (by simp), h.apart, h.upd.trans hu.nil, h.hbl⟩

/-- One list is longer, or another one: its row is new or was its own. -/
theorem WdAt.put {w0 wr w7 : World} {bl m : Nat} {E : List Li} {n n' j : Nat} {x y : Li} {ao ao' : Option Addr} {k k' cap cap' : Nat} (h : WdAt w0 wr bl m E n) (hx : E[j]? = some x) (hxv : x.v = .slice ao k cap)
    (hu : Upd (blkO ao) wr w7) (hyv : y.v = .slice ao' k' cap') (hrow : RowO w7 46 4 ao' k' cap' (y.L.flatMap clVs)) (hlen : y.L.length = k') (hnn : n ≤ n') (hk : k' ≤ 3 + n') (hat : ∀ b ∈ blkO ao', b ∈ blkO ao ∨ wr.heap.size ≤ b) :
    WdAt w0 (w7.setCell ⟨bl, j, none⟩ (.slice ao' k' cap')) bl m (E.set j y) n' := by
  have hne : ∀ b ∈ blkO ao, w0.heap.size ≤ b ∧ b < wr.heap.size := by
    have := (h.each j x hx).lt
    rw [hxv, vB_slice] at this
    exact fun b hb => ⟨(this b hb).2, (this b hb).1⟩
  have hbl := h.hbl
  have hs0 := h.upd.size
  have hn : bl ∉ blkO ao := fun hm => by have := hne bl hm; omega
  have hne' : ∀ b ∈ blkO ao', w0.heap.size ≤ b := fun b hb => by
    rcases hat b hb with h1 | h1
    · exact (hne b h1).1
    · omega
  have us : Upd [bl] w7 (w7.setCell ⟨bl, j, none⟩ (.slice ao' k' cap')) := (Upd.refl [bl] w7).setCell (.inl (by simp)) _
  refine ⟨?_, by rw [List.length_set]; exact h.len, fun i z hz => ?_, fun i i' z z' hi hz hz' c hc => ?_, ?_, hbl⟩
  · have h1 := (h.row.upd hu hn).set j (.slice ao' k' cap')
    have h2 := flat_set liVs 1 liVs_len E j x y hx 0 (.slice ao' k' cap') (by omega) (by rw [← hyv]; rfl)
    rw [Nat.mul_one, Nat.add_zero] at h2
    rw [h2] at h1
    exact h1
  · rw [List.getElem?_set] at hz
    by_cases e : j = i
    · rw [if_pos e] at hz
      split at hz
      · cases hz
        exact LiOwn.updS (wr := w7) ⟨ao', k', cap', hyv, hrow, hlen, hk, hne'⟩ us (by rw [hyv, vB_slice]; intro c hc hm; have := hne' c hc; simp only [List.mem_cons, List.not_mem_nil, or_false] at hm; omega)
      · cases hz
    · rw [if_neg e] at hz
      have h1 := h.each i z hz
      have h2 := h.apart i j z x (fun e' => e e'.symm) hz hx
      rw [hxv, vB_slice] at h2
      exact (((h1.updS hu h2).more hnn).updS us (fun c hc hm => by have := (h1.lt c hc).2; simp only [List.mem_cons, List.not_mem_nil, or_false] at hm; omega))
  · rw [List.getElem?_set] at hz hz'
    have hnew : ∀ (q : Nat) (t : Li), j ≠ q → E[q]? = some t → ∀ d ∈ vB y.v, d ∉ vB t.v := fun q t hq ht d hd hm => by
      rw [hyv, vB_slice] at hd
      rcases hat d hd with h1 | h1
      · exact h.apart j q x t hq hx ht d (by rw [hxv, vB_slice]; exact h1) hm
      · have := ((h.each q t ht).lt d hm).1; omega
    by_cases e : j = i
    · by_cases e' : j = i'
      · omega
      · rw [if_neg e'] at hz'
        rw [if_pos e] at hz
        split at hz
        · cases hz
          exact hnew i' z' e' hz' c hc
        · cases hz
    · rw [if_neg e] at hz
      by_cases e' : j = i'
      · rw [if_pos e'] at hz'
        split at hz'
        · cases hz'
          exact fun hm => hnew i z e hz c hm hc
        · cases hz'
      · rw [if_neg e'] at hz'
        exact h.apart i i' z z' hi hz hz' c hc
  · exact (h.upd.then (U := [bl]) hu (fun _ _ h => h) (fun i hi hm => by have := hne i hm; omega)).trans us
theorem WdAt.start {w0 w1 : World} {bl m : Nat} (hr : Row w1 26 1 bl m m ((List.replicate m (⟨.slice none 0 0, []⟩ : Li)).flatMap liVs)) (hu : Upd [bl] w0 w1) (hb : bl < w0.heap.size) : WdAt w0 w1 bl m (List.replicate m ⟨.slice none 0 0, []⟩) 0 := by
  refine ⟨hr, List.length_replicate, fun i x hx => ?_, fun i j x y _ hx hy c hc => ?_, hu, hb⟩
  · rw [List.getElem?_replicate] at hx
    split at hx
    · cases hx; exact ⟨none, 0, 0, rfl, RowO.nil _ _ _, rfl, by omega, fun b hb => (by cases hb)⟩
    · cases hx
  · rw [List.getElem?_replicate] at hx
    split at hx
    · cases hx; cases hc
    · cases hx
end Go.Proofs.YtfeobcmcellcpaaGreat
