/-
  What every walk of this seat leans on: 'Upd S w w'' says that w' is w but for the blocks that S lists and for new ones. No condition.
-/
import Derived.Test.YtbnifhdnpeiheaaDoorRows
import Derived.WalkKit
import Derived.WalkSpells
import Derived.WalkLawsBesides
import Derived.BigQuiet
import Derived.Deep.QuietTactic
import Derived.Deep.RegionHeld3
import Derived.Deep.AppendLies
import Derived.Deep.LoopGhost
import Derived.Deep.DeepCutAuto
import Derived.StillTailTactics
import Derived.Laws.MakeOwn
import Derived.Laws.OwnMore
import Derived.Lib.Hide
import Derived.KernelRfl
set_option linter.unusedVariables false
set_option linter.unusedSimpArgs false
namespace Go.Proofs.YtbnifhdnpeiheaaDoor
open Go.RowKit

/-- w' is w, but for the blocks of S and for new ones. -/
structure Upd (S : List Nat) (w w' : World) : Prop where
  os : w'.os = w.os
  tape : w'.tape = w.tape
  output : w'.output = w.output
  size : w.heap.size ≤ w'.heap.size
  block : ∀ k, k < w.heap.size → k ∉ S → w'.heap[k]? = w.heap[k]?

theorem Upd.refl (S : List Nat) (w : World) : Upd S w w := ⟨rfl, rfl, rfl, Nat.le_refl _, fun _ _ _ => rfl⟩
theorem Upd.trans {S : List Nat} {a b c : World} (h : Upd S a b) (k : Upd S b c) : Upd S a c :=
  ⟨k.os.trans h.os, k.tape.trans h.tape, k.output.trans h.output, Nat.le_trans h.size k.size, fun i hi hn => (k.block i (Nat.lt_of_lt_of_le hi h.size) hn).trans (h.block i hi hn)⟩
/-- The second step may write blocks that the first one made. -/
theorem Upd.then {S T U : List Nat} {a b c : World} (h : Upd S a b) (k : Upd T b c) (hs : ∀ i, i < a.heap.size → i ∈ S → i ∈ U) (ht : ∀ i, i < a.heap.size → i ∈ T → i ∈ U) : Upd U a c :=
  ⟨k.os.trans h.os, k.tape.trans h.tape, k.output.trans h.output, Nat.le_trans h.size k.size, fun i hi hn => (k.block i (Nat.lt_of_lt_of_le hi h.size) (fun e => hn (ht i hi e))).trans (h.block i hi (fun e => hn (hs i hi e)))⟩
theorem Upd.mono {S T : List Nat} {a b : World} (h : Upd S a b) (hs : ∀ i, i < a.heap.size → i ∈ S → i ∈ T) : Upd T a b :=
  ⟨h.os, h.tape, h.output, h.size, fun i hi hn => h.block i hi (fun e => hn (hs i hi e))⟩
theorem Upd.nil {S : List Nat} {a b : World} (h : Upd [] a b) : Upd S a b := h.mono (fun _ _ e => by cases e)
theorem Upd.drew {S : List Nat} {a w : World} (h : Upd S a w) : Upd S a w.drew := ⟨h.os, h.tape, h.output, h.size, h.block⟩
theorem Upd.drewN {S : List Nat} {a w : World} (h : Upd S a w) (n : Nat) : Upd S a (w.drewN n) := ⟨h.os, h.tape, h.output, h.size, h.block⟩
theorem Upd.alloc {S : List Nat} {a w : World} (h : Upd S a w) (o : Obj) : Upd S a (w.alloc o) :=
  h.trans ⟨rfl, rfl, rfl, by simp, fun k hk _ => Below.heap_alloc _ _ _ hk⟩
theorem Upd.setCell {S : List Nat} {a w : World} (h : Upd S a w) {p : Addr} (hp : p.block ∈ S ∨ a.heap.size ≤ p.block) (u : Value) : Upd S a (w.setCell p u) :=
  ⟨h.os, h.tape, h.output, by simpa using h.size, fun k hk hn => by
    rw [Below.heap_setCell _ _ _ _ (fun e => by rcases hp with hp | hp; exact hn (e ▸ hp); omega)]
    exact h.block k hk hn⟩
theorem Upd.grown {S : List Nat} {a w w' : World} {row : Option Nat} (h : Upd S a w) (hg : w.grownBy w' row) (hr : ∀ k, row = some k → k ∈ S ∨ a.heap.size ≤ k) : Upd S a w' :=
  ⟨hg.os.trans h.os, hg.tape.trans h.tape, hg.output.trans h.output, Nat.le_trans h.size hg.size, fun k hk hn => by
    rw [hg.block k (Nat.lt_of_lt_of_le hk h.size) (fun e => by rcases hr k e.symm with hp | hp; exact hn hp; omega)]
    exact h.block k hk hn⟩
theorem Upd.of_below {S : List Nat} {w w' : World} (h : Below w.heap.size w w') : Upd S w w' := ⟨h.os, h.tape, h.output, h.size, fun k hk _ => h.block k hk⟩
theorem Upd.below {S : List Nat} {B : Nat} {w w' : World} (h : Upd S w w') (hs : ∀ k ∈ S, B ≤ k) (hb : B ≤ w.heap.size) : Below B w w' :=
  ⟨h.os, h.tape, h.output, h.size, fun k hk => h.block k (by omega) (fun e => by have := hs k e; omega)⟩
theorem Upd.cell {S : List Nat} {w w' : World} (h : Upd S w w') {b : Nat} (hb : b < w.heap.size) (hn : b ∉ S) (o : Nat) : w'.cell? ⟨b, o, none⟩ = w.cell? ⟨b, o, none⟩ :=
  World.cell?_of_block (w := w) (h.block b hb hn)
theorem Upd.frozen {S : List Nat} {w w' : World} (h : Upd S w w') {b : Nat} (hb : b < w.heap.size) (hn : b ∉ S) (o : Nat) : w'.frozen? ⟨b, o, none⟩ = w.frozen? ⟨b, o, none⟩ :=
  World.frozen?_of_block (w := w) (h.block b hb hn)
/-- What the walk uses as rules. -/
theorem Upd.cells {S : List Nat} {w w' : World} (h : Upd S w w') : ∀ b o, b < w.heap.size → b ∉ S → w'.cell? ⟨b, o, none⟩ = w.cell? ⟨b, o, none⟩ := fun _ o hb hn => h.cell hb hn o
theorem Upd.frozens {S : List Nat} {w w' : World} (h : Upd S w w') : ∀ b o, b < w.heap.size → b ∉ S → w'.frozen? ⟨b, o, none⟩ = w.frozen? ⟨b, o, none⟩ := fun _ o hb hn => h.frozen hb hn o

/-! ### Rows -/
/-- A row of n elements, its array at block g: what it holds. -/
def Row (w : World) (e : TypeId) (size : Nat) (g n cap : Nat) (xs : List Value) : Prop := w.ownsRow 0 e size (.slice (some ⟨g, 0, none⟩) n cap) n xs

theorem Row.parts {w : World} {e : TypeId} {size g n cap : Nat} {xs : List Value} (h : Row w e size g n cap xs) :
    xs.length = n * size ∧ ∃ cur, w.heap[g]? = some (.cells cur e (0, 0)) ∧ n ≤ cap ∧ cap ≤ maxLen ∧ cur.size = cap * size ∧ cur.toList.take (n * size) = xs := by
  refine ⟨h.1, ?_⟩
  rcases h.2 with ⟨h', _⟩ | ⟨g', cap', cur, h', _, hg, r⟩
  · simp at h'
  · simp only [Value.slice.injEq, Option.some.injEq, Addr.mk.injEq, and_true, true_and] at h'
    obtain ⟨rfl, rfl⟩ := h'
    exact ⟨cur, hg, r⟩
theorem Row.mk' {w : World} {e : TypeId} {size g n cap : Nat} {xs : List Value} {cur : Array Value} (h1 : xs.length = n * size) (hg : w.heap[g]? = some (.cells cur e (0, 0)))
    (hnc : n ≤ cap) (hcm : cap ≤ maxLen) (hs : cur.size = cap * size) (ht : cur.toList.take (n * size) = xs) : Row w e size g n cap xs :=
  ⟨h1, .inr ⟨g, cap, cur, rfl, Nat.zero_le _, hg, hnc, hcm, hs, ht⟩⟩
theorem Row.lt {w : World} {e : TypeId} {size g n cap : Nat} {xs : List Value} (h : Row w e size g n cap xs) : g < w.heap.size := by
  obtain ⟨_, cur, hg, _⟩ := h.parts
  rcases Nat.lt_or_ge g w.heap.size with hlt | hge
  · exact hlt
  · rw [Array.getElem?_eq_none hge] at hg; cases hg
theorem Row.upd {S : List Nat} {w w' : World} {e : TypeId} {size g n cap : Nat} {xs : List Value} (h : Row w e size g n cap xs) (hu : Upd S w w') (hn : g ∉ S) : Row w' e size g n cap xs := by
  have hlt := h.lt
  obtain ⟨h1, cur, hg, r⟩ := h.parts
  exact ⟨h1, .inr ⟨g, cap, cur, rfl, Nat.zero_le _, by rw [hu.block g hlt hn]; exact hg, r⟩⟩
theorem Row.cell {w : World} {e : TypeId} {size g n cap : Nat} {xs : List Value} (h : Row w e size g n cap xs) {j : Nat} {v : Value} (hv : xs[j]? = some v) : w.cell? ⟨g, j, none⟩ = some v := by
  have hj : j < n * size := by
    have := h.1
    rcases Nat.lt_or_ge j xs.length with hlt | hge
    · omega
    · rw [List.getElem?_eq_none hge] at hv; cases hv
  rw [World.ownsRow.cellAt h j hj]; exact hv
theorem Row.spot {w : World} {e : TypeId} {size g n cap : Nat} {xs : List Value} (h : Row w e size g n cap xs) {j : Nat} (hj : j < n * size) : ∃ v, w.cell? ⟨g, j, none⟩ = some v := by
  have := h.1
  exact ⟨xs[j]'(by omega), h.cell (List.getElem?_eq_getElem _)⟩
theorem Row.free {w : World} {e : TypeId} {size g n cap : Nat} {xs : List Value} (h : Row w e size g n cap xs) (j : Nat) : w.frozen? ⟨g, j, none⟩ = false := World.ownsRow.frozenAt h j
theorem Row.set {w : World} {e : TypeId} {size g n cap : Nat} {xs : List Value} (h : Row w e size g n cap xs) (j : Nat) (u : Value) : Row (w.setCell ⟨g, j, none⟩ u) e size g n cap (xs.set j u) := (World.ownsRow.stored h j u).1
theorem Row.setFar {w : World} {e : TypeId} {size g n cap : Nat} {xs : List Value} (h : Row w e size g n cap xs) {a : Addr} (ha : a.block ≠ g) (u : Value) : Row (w.setCell a u) e size g n cap xs := by
  obtain ⟨h1, cur, hg, r⟩ := h.parts
  exact ⟨h1, .inr ⟨g, cap, cur, rfl, Nat.zero_le _, by rw [Below.heap_setCell _ _ _ _ (fun e => ha e.symm)]; exact hg, r⟩⟩
theorem Row.drew {w : World} {e : TypeId} {size g n cap : Nat} {xs : List Value} (h : Row w e size g n cap xs) : Row w.drew e size g n cap xs := h
theorem Row.alloc {w : World} {e : TypeId} {size g n cap : Nat} {xs : List Value} (h : Row w e size g n cap xs) (o : Obj) : Row (w.alloc o) e size g n cap xs := h.upd ((Upd.refl [] w).alloc o) (by simp)
theorem Row.len {w : World} {e : TypeId} {size g n cap : Nat} {xs : List Value} (h : Row w e size g n cap xs) : xs.length = n * size := h.1

/-- A block known whole. -/
def Blk (w : World) (b : Nat) (ty : TypeId) (cs : List Value) : Prop := w.heap[b]? = some (.cells cs.toArray ty (0, 0))
theorem Blk.lt {w : World} {b : Nat} {ty : TypeId} {cs : List Value} (h : Blk w b ty cs) : b < w.heap.size := by
  rcases Nat.lt_or_ge b w.heap.size with hlt | hge
  · exact hlt
  · unfold Blk at h; rw [Array.getElem?_eq_none hge] at h; cases h
theorem Blk.cell {w : World} {b : Nat} {ty : TypeId} {cs : List Value} (h : Blk w b ty cs) {j : Nat} {v : Value} (hv : cs[j]? = some v) : w.cell? ⟨b, j, none⟩ = some v := by
  unfold Blk at h; simp [World.cell?, h, hv]
theorem Blk.free {w : World} {b : Nat} {ty : TypeId} {cs : List Value} (h : Blk w b ty cs) (j : Nat) : w.frozen? ⟨b, j, none⟩ = false := by
  unfold Blk at h; simp [World.frozen?, h]
theorem Blk.upd {S : List Nat} {w w' : World} {b : Nat} {ty : TypeId} {cs : List Value} (h : Blk w b ty cs) (hu : Upd S w w') (hn : b ∉ S) : Blk w' b ty cs := (hu.block b h.lt hn).trans h
theorem Blk.set {w : World} {b : Nat} {ty : TypeId} {cs : List Value} (h : Blk w b ty cs) (j : Nat) (u : Value) : Blk (w.setCell ⟨b, j, none⟩ u) b ty (cs.set j u) := by
  unfold Blk at *
  rw [heap_setCell_same w b j _ ty u h]; simp
theorem Blk.setFar {w : World} {b : Nat} {ty : TypeId} {cs : List Value} (h : Blk w b ty cs) {a : Addr} (ha : a.block ≠ b) (u : Value) : Blk (w.setCell a u) b ty cs := (Below.heap_setCell _ _ _ _ (fun e => ha e.symm)).trans h
theorem Blk.new (w : World) (ty : TypeId) (cs : List Value) : Blk (w.alloc (.cells cs.toArray ty)) w.heap.size ty cs := heap_alloc_new w _
theorem Blk.alloc {w : World} {b : Nat} {ty : TypeId} {cs : List Value} (h : Blk w b ty cs) (o : Obj) : Blk (w.alloc o) b ty cs := h.upd ((Upd.refl [] w).alloc o) (by simp)

/-- The number in a cell: for a loop's measure. -/
def cellNat (w : World) (b o : Nat) : Nat := match w.cell? ⟨b, o, none⟩ with | some v => (intOf v).toNat | none => 0

theorem heap_one (w : World) (o1 : Obj) : (w.alloc o1).heap[w.heap.size]? = some o1 := heap_alloc_new w o1
theorem heap_two (w : World) (o1 o2 : Obj) : ((w.alloc o1).alloc o2).heap[w.heap.size]? = some o1 ∧ ((w.alloc o1).alloc o2).heap[w.heap.size + 1]? = some o2 := by
  refine ⟨?_, ?_⟩
  · rw [Below.heap_alloc _ _ _ (by simp)]; exact heap_alloc_new w o1
  · have := heap_alloc_new (w.alloc o1) o2
    simpa using this
theorem heap_three (w : World) (o1 o2 o3 : Obj) : (((w.alloc o1).alloc o2).alloc o3).heap[w.heap.size]? = some o1 ∧ (((w.alloc o1).alloc o2).alloc o3).heap[w.heap.size + 1]? = some o2 ∧ (((w.alloc o1).alloc o2).alloc o3).heap[w.heap.size + 1 + 1]? = some o3 := by
  refine ⟨?_, ?_, ?_⟩
  · rw [Below.heap_alloc _ _ _ (by simp; omega)]; exact (heap_two w o1 o2).1
  · rw [Below.heap_alloc _ _ _ (by simp)]; exact (heap_two w o1 o2).2
  · have := heap_alloc_new ((w.alloc o1).alloc o2) o3
    simpa using this

/-! ### Lists of rows of one width -/
theorem flat_get {α : Type} (f : α → List Value) (m : Nat) (hf : ∀ x, (f x).length = m) (xs : List α) (i j : Nat) (hj : j < m) (x : α) (hx : xs[i]? = some x) : (xs.flatMap f)[i * m + j]? = (f x)[j]? := by
  induction xs generalizing i with
  | nil => simp at hx
  | cons y ys ih =>
    simp only [List.flatMap_cons]
    cases i with
    | zero =>
      simp only [List.getElem?_cons_zero, Option.some.injEq] at hx
      subst hx
      rw [Nat.zero_mul, Nat.zero_add, List.getElem?_append_left (by rw [hf]; exact hj)]
    | succ i =>
      simp only [List.getElem?_cons_succ] at hx
      rw [List.getElem?_append_right (by rw [hf, Nat.succ_mul]; omega), hf, show (i + 1) * m + j - m = i * m + j by rw [Nat.succ_mul]; omega]
      exact ih i hx
theorem flat_set {α : Type} (f : α → List Value) (m : Nat) (hf : ∀ x, (f x).length = m) (xs : List α) (i : Nat) (x y : α) (hx : xs[i]? = some x) (j : Nat) (u : Value) (hj : j < m) (hy : (f x).set j u = f y) : (xs.flatMap f).set (i * m + j) u = (xs.set i y).flatMap f := by
  induction xs generalizing i with
  | nil => simp at hx
  | cons z zs ih =>
    cases i with
    | zero =>
      simp only [List.getElem?_cons_zero, Option.some.injEq] at hx
      subst hx
      simp only [List.flatMap_cons, List.set_cons_zero]
      rw [Nat.zero_mul, Nat.zero_add, List.set_append_left _ _ (by rw [hf]; exact hj), hy]
    | succ i =>
      simp only [List.getElem?_cons_succ] at hx
      simp only [List.flatMap_cons, List.set_cons_succ]
      rw [List.set_append_right _ _ (by rw [hf, Nat.succ_mul]; omega), hf, show (i + 1) * m + j - m = i * m + j by rw [Nat.succ_mul]; omega, ih i hx]
theorem flat_len {α : Type} (f : α → List Value) (m : Nat) (hf : ∀ x, (f x).length = m) (xs : List α) : (xs.flatMap f).length = xs.length * m := by
  induction xs with
  | nil => simp
  | cons y ys ih => simp only [List.flatMap_cons, List.length_append, hf, ih, List.length_cons, Nat.succ_mul]; omega

/-- 'make([]T, n)': the world is told, too. -/
theorem wpList_make_full' {P : Program} (w : World) {ops : Array Oper} {rest : List Oper} {o : Oper} {a : Act} {Q : Exit → Act → World → Prop}
    (hg : o.guard = none) (l c : Operand) (t : TypeId) (hop : o.op = Op.makeSlice t l c)
    (base : Nat) (e : TypeId) (i : TypeInfo) (z : Value) (size : Nat) (h1 : P.underlying t = some (.slice e)) (h2 : P.info? e = some i) (h3 : i.zero = some z) (h4 : i.size = size)
    (kl kc : IntKind) (L C : Int) (n : Nat) (hl : a.eval l = .int kl L) (hc : a.eval c = .int kc C) (hL : L = (n : Int)) (hC : C = (n : Int)) (b2 : i.bytes * n ≤ 281474976710656) (b3 : n ≤ maxLen) (b4 : base ≤ w.heap.size)
    (hK : ∀ w', w'.ownsRow base e size (.slice (some ⟨w.heap.size, 0, none⟩) n n) n (madeCells z.cells (n * size)).toList → w.grownBy w' none → w'.heap.size = w.heap.size + 1 → wpList P ops Q rest (a.put o.dst (.slice (some ⟨w.heap.size, 0, none⟩) n n)) w') :
    wpList P ops Q (o :: rest) a w := by
  refine wpList_plain hg fun K hK' => ?_
  subst h4
  have h63' : (n : Int) ≤ 9223372036854775807 := by
    have h := b3
    simp [maxLen] at h
    omega
  have hb' : (i.bytes : Int) * (n : Int) ≤ 281474976710656 := by
    have h : ((i.bytes * n : Nat) : Int) ≤ 281474976710656 := by omega
    rwa [Int.natCast_mul] at h
  have hrun := run_make (P := P) w t e i z h1 h2 h3 kl kc n n (by omega) (Int.le_refl _) hb' h63'
  simp only [Int.toNat_natCast] at hrun
  subst hL
  subst hC
  unfold Oper.wp
  simp [execOp, hop, hl, hc, hrun, Result.andThen]
  exact hK' _ _ (hK _ (World.ownsRow_lit w _ n b4 b3 (size_madeCells _ _)) (World.grownBy_alloc w _ none) (by simp))

end Go.Proofs.YtbnifhdnpeiheaaDoor
