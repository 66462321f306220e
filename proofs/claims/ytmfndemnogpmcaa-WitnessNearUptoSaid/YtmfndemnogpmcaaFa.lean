/-
  The document's flow and its Sfq, in plain words and in memory. No condition.
-/
import Derived.Test.YtmfndemnogpmcaaPI
import Derived.Test.YtmfndemnogpmcaaPCT
set_option linter.unusedVariables false
set_option linter.unusedSimpArgs false
namespace Go.Proofs.Ytmfndemnogpmcaa
open Go.RowKit

/-! ### Parts of rows as sources of an append -/
theorem flat_dropG {α : Type} (vs : α → List Value) (size : Nat) (hl : ∀ x, (vs x).length = size) (L : List α) (a : Nat) : (L.drop a).flatMap vs = (L.flatMap vs).drop (a * size) := by
  induction L generalizing a with
  | nil => simp
  | cons x L ih =>
    cases a with
    | zero => simp
    | succ a =>
      have e1 : List.drop ((a + 1) * size) (vs x) = [] := List.drop_eq_nil_of_le (by rw [hl, Nat.succ_mul]; omega)
      rw [List.drop_succ_cons, List.flatMap_cons, ih a, List.drop_append, e1, List.nil_append, hl, Nat.succ_mul, Nat.add_sub_cancel]

/-- A part of a row as a source. -/
theorem part_srcG {α : Type} (vs : α → List Value) (size : Nat) (hl : ∀ x, (vs x).length = size) (h1 : ∀ x, ∀ u ∈ vs x, u.oneCell' = true) {e : TypeId} {w : World} {ao : Option Addr} {n cap : Nat} {L : List α} (h : RowO w e size ao n cap (L.flatMap vs)) (hn : L.length = n) (a m : Nat) (ha : a + m ≤ n) (off : Nat) (hoff : off = a * size ∨ m = 0) :
    Src w size (ao.map fun ad => ⟨ad.block, off, none⟩) m (((L.drop a).take m).flatMap vs) := by
  refine ⟨by rw [flat_len vs size hl, List.length_take, List.length_drop, Nat.min_eq_left (by omega)], fun u hu => ?_, ?_⟩
  · obtain ⟨x, _, hx⟩ := List.mem_flatMap.1 hu
    exact h1 x u hx
  · rcases h.cases with ⟨rfl, rfl, _, _⟩ | ⟨g, rfl, hr⟩
    · exact .inl ⟨rfl, by omega⟩
    · refine .inr ⟨_, rfl, fun j u hu => ?_⟩
      rcases hoff with rfl | rfl
      · rw [add_none]
        refine hr.cell ?_
        rw [← flat_take vs size hl, flat_dropG vs size hl, List.getElem?_take] at hu
        split at hu
        · rw [List.getElem?_drop] at hu; exact hu
        · cases hu
      · simp at hu

/-- The whole of a row as a source. -/
theorem all_srcG {α : Type} (vs : α → List Value) (size : Nat) (hl : ∀ x, (vs x).length = size) (h1 : ∀ x, ∀ u ∈ vs x, u.oneCell' = true) {e : TypeId} {w : World} {ao : Option Addr} {n cap : Nat} {L : List α} (h : RowO w e size ao n cap (L.flatMap vs)) (hn : L.length = n) : Src w size ao n (L.flatMap vs) := by
  have k := part_srcG vs size hl h1 h hn 0 n (by omega) 0 (.inl (by omega))
  rw [List.drop_zero, List.take_of_length_le (by omega)] at k
  rcases h.cases with ⟨rfl, _, _, _⟩ | ⟨g, rfl, _⟩
  · exact k
  · exact k

/-- One more element as a source: an array that has just been made. -/
theorem one_src (w : World) (ty : TypeId) (cs : List Value) (h1 : ∀ u ∈ cs, u.oneCell' = true) (size : Nat) (hs : cs.length = size) : Src (w.alloc (.cells cs.toArray ty)) size (some ⟨w.heap.size, 0, none⟩) 1 cs :=
  ⟨by omega, h1, .inr ⟨_, rfl, World.news_of_block (cs := cs.toArray) (t := ty) (fr := (0, 0)) (heap_alloc_new w _)⟩⟩

/-! ### Plain -/
structure Pk where
  flow : Int
  len : Int
  mark : Int
def zPk : Pk := ⟨0, 0, 0⟩
def pkVs (p : Pk) : List Value := [.int .i64 p.flow, .int .i64 p.len, .int .i64 p.mark]
theorem pkVs_len (p : Pk) : (pkVs p).length = 3 := rfl
theorem pkVs_one (p : Pk) : ∀ u ∈ pkVs p, u.oneCell' = true := by
  intro u hu
  simp only [pkVs, List.mem_cons, List.not_mem_nil, or_false] at hu
  rcases hu with rfl | rfl | rfl <;> rfl
structure Fl where
  id : Int
  most : Int
  r : Nat
  L : List Pk
  start : Nat
  fin : Nat
def heldMost (most : Int) : Int := min (max most 1) 8
def flNew (id : Int) (r : Nat) (most : Int) : Fl := ⟨id, heldMost most, r, [], 0, 0⟩
def flFull (f : Fl) : Bool := decide (f.most ≤ (f.L.length : Int))
def flPut (f : Fl) (v : Nat) (p : Pk) : Fl := { f with start := if f.L.length = 0 then max v f.fin else f.start, L := f.L ++ [p] }
def flFin (f : Fl) (p : Pk) : Nat := addT f.start (mulT (sizeN p.len) f.r)
def flTake (f : Fl) (p : Pk) : Fl := { f with L := f.L.tail, fin := flFin f p, start := flFin f p }

/-- What holds of any flow. -/
structure FlOk (f : Fl) : Prop where
  most : 1 ≤ f.most ∧ f.most ≤ 8
  len : (f.L.length : Int) ≤ f.most
  r64 : f.r < 18446744073709551616
  s64 : f.start < 18446744073709551616
  f64 : f.fin < 18446744073709551616
  lens : ∀ p ∈ f.L, p.len < 9223372036854775808
theorem heldMost_bd (m : Int) : 1 ≤ heldMost m ∧ heldMost m ≤ 8 := by unfold heldMost; omega
theorem FlOk.new (id : Int) {r : Nat} (hr : r < 18446744073709551616) (most : Int) : FlOk (flNew id r most) :=
  ⟨heldMost_bd most, by have := (heldMost_bd most).1; simp [flNew]; omega, hr, by simp [flNew], by simp [flNew], fun _ h => (by cases h)⟩
theorem FlOk.put {f : Fl} (h : FlOk f) (hn : flFull f = false) {v : Nat} (hv : v < 18446744073709551616) {p : Pk} (hp : p.len < 9223372036854775808) : FlOk (flPut f v p) := by
  unfold flFull at hn
  simp only [decide_eq_false_iff_not] at hn
  have h1 := h.s64
  have h2 := h.f64
  refine ⟨h.most, ?_, h.r64, ?_, h2, fun q hq => ?_⟩
  · show ((f.L ++ [p]).length : Int) ≤ f.most
    rw [List.length_append]; simp; omega
  · show (if f.L.length = 0 then max v f.fin else f.start) < _
    split <;> omega
  · rcases List.mem_append.1 hq with hq | hq
    · exact h.lens q hq
    · simp only [List.mem_cons, List.not_mem_nil, or_false] at hq; rw [hq]; exact hp
theorem FlOk.take {f : Fl} (h : FlOk f) (p : Pk) : FlOk (flTake f p) :=
  ⟨h.most, by have := h.len; show (f.L.tail.length : Int) ≤ f.most; rw [List.length_tail]; omega, h.r64, addT_lt _ _, addT_lt _ _, fun q hq => h.lens q (List.mem_of_mem_tail hq)⟩

/-! ### In memory -/
structure Ent where
  b : Nat
  f : Fl
  ao : Option Addr
  cap : Nat
def entB (e : Ent) : List Nat := e.b :: blkO e.ao
structure EntAt (w : World) (e : Ent) : Prop where
  blk : Blk w e.b 114 [.int .i64 e.f.id, .int .i64 e.f.most, .int .u64 e.f.r, .slice e.ao e.f.L.length e.cap, .int .u64 e.f.start, .int .u64 e.f.fin]
  row : RowO w 94 3 e.ao e.f.L.length e.cap (e.f.L.flatMap pkVs)
  d : e.b ∉ blkO e.ao
  ok : FlOk e.f
theorem EntAt.upd {S : List Nat} {w w' : World} {e : Ent} (h : EntAt w e) (hu : Upd S w w') (hs : ∀ c ∈ entB e, c ∉ S) : EntAt w' e :=
  { h with blk := h.blk.upd hu (hs e.b (by simp [entB])), row := h.row.upd hu (fun c hc => hs c (by simp [entB, hc])) }
theorem EntAt.lt {w : World} {e : Ent} (h : EntAt w e) : ∀ c ∈ entB e, c < w.heap.size := by
  intro c hc
  rcases List.mem_cons.1 hc with rfl | hc
  · exact h.blk.lt
  · exact h.row.lt c hc
theorem EntAt.cells {w : World} {e : Ent} (h : EntAt w e) : w.cell? ⟨e.b, 0, none⟩ = some (.int .i64 e.f.id) ∧ w.cell? ⟨e.b, 1, none⟩ = some (.int .i64 e.f.most) ∧ w.cell? ⟨e.b, 2, none⟩ = some (.int .u64 e.f.r) ∧ w.cell? ⟨e.b, 3, none⟩ = some (.slice e.ao e.f.L.length e.cap) ∧ w.cell? ⟨e.b, 4, none⟩ = some (.int .u64 e.f.start) ∧ w.cell? ⟨e.b, 5, none⟩ = some (.int .u64 e.f.fin) ∧ e.b < w.heap.size :=
  ⟨h.blk.cell (j := 0) rfl, h.blk.cell (j := 1) rfl, h.blk.cell (j := 2) rfl, h.blk.cell (j := 3) rfl, h.blk.cell (j := 4) rfl, h.blk.cell (j := 5) rfl, h.blk.lt⟩
theorem underlyingPks : Try.prog.underlying 29 = some (.slice 94) := by kernel_rfl
theorem infoPk : (Try.prog.info? 94).map (fun i => (i.zero, i.size, i.bytes)) = some (some (.agg #[.int .i64 0, .int .i64 0, .int .i64 0]), 3, 24) := by kernel_rfl

/-- What a deed on a flow leaves. -/
def EntTo (w : World) (e : Ent) (f' : Fl) (w' : World) : Prop := ∃ ao cap, EntAt w' ⟨e.b, f', ao, cap⟩ ∧ (∀ c ∈ blkO ao, c ∈ blkO e.ao ∨ w.heap.size ≤ c) ∧ Upd [e.b] w w'
end Go.Proofs.Ytmfndemnogpmcaa
