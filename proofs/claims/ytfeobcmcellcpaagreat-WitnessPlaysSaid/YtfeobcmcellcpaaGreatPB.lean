/-
  Texts of this claim, joined: Frame, Item, Spec, RowO, Map, MapE, Play, Args, Deed, ItemL, RAhead, DeedC, Near. No condition.
-/
import Derived.Test.YtfeobcmcellcpaaGreatRows
import Derived.WalkKit
import Derived.WalkSpells
import Derived.WalkLawsBesides
import Derived.BigQuiet
import Derived.Deep.QuietTactic
import Derived.Deep.RegionHeld3
import Derived.Deep.AppendLies
import Derived.Deep.LoopGhost
import Derived.Deep.DeepCutAuto
import Derived.StillTailTactics
import Derived.Laws.MakeOwn
import Derived.Laws.OwnMore
import Derived.Lib.Hide
import Derived.KernelRfl
import Derived.Lib.MinMax
import Derived.BigRegion
import Derived.Maps.AppendAt
import Derived.WideLaws
import Derived.Maps.OwnSet
import Derived.Deep.Slices
import Derived.Deep.Fields
import Derived.ChangeSame
import Derived.ChangeArms
import Derived.ChangeSlices
import Derived.ChangeOld
import Derived.OpenShut
import Derived.ProofKit
import Derived.Lib.SmallJoins
import Derived.Laws.Bits64
set_option linter.unusedVariables false
set_option linter.unusedSimpArgs false
/-! Frame -/
namespace Go.Proofs.YtfeobcmcellcpaaGreat
open Go.RowKit

/-- w' is w, but for the blocks of S and for new ones. -/
structure Upd (S : List Nat) (w w' : World) : Prop where
  os : w'.os = w.os
  tape : w'.tape = w.tape
  output : w'.output = w.output
  size : w.heap.size ≤ w'.heap.size
  block : ∀ k, k < w.heap.size → k ∉ S → w'.heap[k]? = w.heap[k]?

theorem Upd.refl (S : List Nat) (w : World) : Upd S w w := ⟨rfl, rfl, rfl, Nat.le_refl _, fun _ _ _ => rfl⟩
theorem Upd.trans {S : List Nat} {a b c : World} (h : Upd S a b) (k : Upd S b c) : Upd S a c :=
  ⟨k.os.trans h.os, k.tape.trans h.tape, k.output.trans h.output, Nat.le_trans h.size k.size, fun i hi hn => (k.block i (Nat.lt_of_lt_of_le hi h.size) hn).trans (h.block i hi hn)⟩

/-- The second step may write blocks that the first one made. -/
theorem Upd.then {S T U : List Nat} {a b c : World} (h : Upd S a b) (k : Upd T b c) (hs : ∀ i, i < a.heap.size → i ∈ S → i ∈ U) (ht : ∀ i, i < a.heap.size → i ∈ T → i ∈ U) : Upd U a c :=
  ⟨k.os.trans h.os, k.tape.trans h.tape, k.output.trans h.output, Nat.le_trans h.size k.size, fun i hi hn => (k.block i (Nat.lt_of_lt_of_le hi h.size) (fun e => hn (ht i hi e))).trans (h.block i hi (fun e => hn (hs i hi e)))⟩
theorem Upd.mono {S T : List Nat} {a b : World} (h : Upd S a b) (hs : ∀ i, i < a.heap.size → i ∈ S → i ∈ T) : Upd T a b :=
  ⟨h.os, h.tape, h.output, h.size, fun i hi hn => h.block i hi (fun e => hn (hs i hi e))⟩
theorem Upd.nil {S : List Nat} {a b : World} (h : Upd [] a b) : Upd S a b := h.mono (fun _ _ e => by cases e)
theorem Upd.drew {S : List Nat} {a w : World} (h : Upd S a w) : Upd S a w.drew := ⟨h.os, h.tape, h.output, h.size, h.block⟩
theorem Upd.drewN {S : List Nat} {a w : World} (h : Upd S a w) (n : Nat) : Upd S a (w.drewN n) := ⟨h.os, h.tape, h.output, h.size, h.block⟩
theorem Upd.alloc {S : List Nat} {a w : World} (h : Upd S a w) (o : Obj) : Upd S a (w.alloc o) :=
  h.trans ⟨rfl, rfl, rfl, by simp, fun k hk _ => Below.heap_alloc _ _ _ hk⟩
theorem Upd.setCell {S : List Nat} {a w : World} (h : Upd S a w) {p : Addr} (hp : p.block ∈ S ∨ a.heap.size ≤ p.block) (u : Value) : Upd S a (w.setCell p u) :=
  ⟨h.os, h.tape, h.output, by simpa using h.size, fun k hk hn => by
    rw [Below.heap_setCell _ _ _ _ (fun e => by rcases hp with hp | hp; exact hn (e ▸ hp); omega)]
    exact h.block k hk hn⟩
theorem Upd.grown {S : List Nat} {a w w' : World} {row : Option Nat} (h : Upd S a w) (hg : w.grownBy w' row) (hr : ∀ k, row = some k → k ∈ S ∨ a.heap.size ≤ k) : Upd S a w' :=
  ⟨hg.os.trans h.os, hg.tape.trans h.tape, hg.output.trans h.output, Nat.le_trans h.size hg.size, fun k hk hn => by
    rw [hg.block k (Nat.lt_of_lt_of_le hk h.size) (fun e => by rcases hr k e.symm with hp | hp; exact hn hp; omega)]
    exact h.block k hk hn⟩
theorem Upd.of_below {S : List Nat} {w w' : World} (h : Below w.heap.size w w') : Upd S w w' := ⟨h.os, h.tape, h.output, h.size, fun k hk _ => h.block k hk⟩
theorem Upd.below {S : List Nat} {B : Nat} {w w' : World} (h : Upd S w w') (hs : ∀ k ∈ S, B ≤ k) (hb : B ≤ w.heap.size) : Below B w w' :=
  ⟨h.os, h.tape, h.output, h.size, fun k hk => h.block k (by omega) (fun e => by have := hs k e; omega)⟩
theorem Upd.cell {S : List Nat} {w w' : World} (h : Upd S w w') {b : Nat} (hb : b < w.heap.size) (hn : b ∉ S) (o : Nat) : w'.cell? ⟨b, o, none⟩ = w.cell? ⟨b, o, none⟩ :=
  World.cell?_of_block (w := w) (h.block b hb hn)
theorem Upd.frozen {S : List Nat} {w w' : World} (h : Upd S w w') {b : Nat} (hb : b < w.heap.size) (hn : b ∉ S) (o : Nat) : w'.frozen? ⟨b, o, none⟩ = w.frozen? ⟨b, o, none⟩ :=
  World.frozen?_of_block (w := w) (h.block b hb hn)

/-- What the walk uses as rules. -/
theorem Upd.cells {S : List Nat} {w w' : World} (h : Upd S w w') : ∀ b o, b < w.heap.size → b ∉ S → w'.cell? ⟨b, o, none⟩ = w.cell? ⟨b, o, none⟩ := fun _ o hb hn => h.cell hb hn o
theorem Upd.frozens {S : List Nat} {w w' : World} (h : Upd S w w') : ∀ b o, b < w.heap.size → b ∉ S → w'.frozen? ⟨b, o, none⟩ = w.frozen? ⟨b, o, none⟩ := fun _ o hb hn => h.frozen hb hn o

/-! ### Rows -/
/-- A row of n elements, its array at block g: what it holds. -/
def Row (w : World) (e : TypeId) (size : Nat) (g n cap : Nat) (xs : List Value) : Prop := w.ownsRow 0 e size (.slice (some ⟨g, 0, none⟩) n cap) n xs

theorem Row.parts {w : World} {e : TypeId} {size g n cap : Nat} {xs : List Value} (h : Row w e size g n cap xs) :
    xs.length = n * size ∧ ∃ cur, w.heap[g]? = some (.cells cur e (0, 0)) ∧ n ≤ cap ∧ cap ≤ maxLen ∧ cur.size = cap * size ∧ cur.toList.take (n * size) = xs := by
  refine ⟨h.1, ?_⟩
  rcases h.2 with ⟨h', _⟩ | ⟨g', cap', cur, h', _, hg, r⟩
  · simp at h'
  · simp only [Value.slice.injEq, Option.some.injEq, Addr.mk.injEq, and_true, true_and] at h'
    obtain ⟨rfl, rfl⟩ := h'
    exact ⟨cur, hg, r⟩
theorem Row.mk' {w : World} {e : TypeId} {size g n cap : Nat} {xs : List Value} {cur : Array Value} (h1 : xs.length = n * size) (hg : w.heap[g]? = some (.cells cur e (0, 0)))
    (hnc : n ≤ cap) (hcm : cap ≤ maxLen) (hs : cur.size = cap * size) (ht : cur.toList.take (n * size) = xs) : Row w e size g n cap xs :=
  ⟨h1, .inr ⟨g, cap, cur, rfl, Nat.zero_le _, hg, hnc, hcm, hs, ht⟩⟩
theorem Row.lt {w : World} {e : TypeId} {size g n cap : Nat} {xs : List Value} (h : Row w e size g n cap xs) : g < w.heap.size := by
  obtain ⟨_, cur, hg, _⟩ := h.parts
  rcases Nat.lt_or_ge g w.heap.size with hlt | hge
  · exact hlt
  · rw [Array.getElem?_eq_none hge] at hg; cases hg
theorem Row.upd {S : List Nat} {w w' : World} {e : TypeId} {size g n cap : Nat} {xs : List Value} (h : Row w e size g n cap xs) (hu : Upd S w w') (hn : g ∉ S) : Row w' e size g n cap xs := by
  have hlt := h.lt
  obtain ⟨h1, cur, hg, r⟩ := h.parts
  exact ⟨h1, .inr ⟨g, cap, cur, rfl, Nat.zero_le _, by rw [hu.block g hlt hn]; exact hg, r⟩⟩
theorem Row.cell {w : World} {e : TypeId} {size g n cap : Nat} {xs : List Value} (h : Row w e size g n cap xs) {j : Nat} {v : Value} (hv : xs[j]? = some v) : w.cell? ⟨g, j, none⟩ = some v := by
  have hj : j < n * size := by
    have := h.1
    rcases Nat.lt_or_ge j xs.length with hlt | hge
    · omega
    · rw [List.getElem?_eq_none hge] at hv; cases hv
  rw [World.ownsRow.cellAt h j hj]; exact hv
theorem Row.spot {w : World} {e : TypeId} {size g n cap : Nat} {xs : List Value} (h : Row w e size g n cap xs) {j : Nat} (hj : j < n * size) : ∃ v, w.cell? ⟨g, j, none⟩ = some v := by
  have := h.1
  exact ⟨xs[j]'(by omega), h.cell (List.getElem?_eq_getElem _)⟩
theorem Row.free {w : World} {e : TypeId} {size g n cap : Nat} {xs : List Value} (h : Row w e size g n cap xs) (j : Nat) : w.frozen? ⟨g, j, none⟩ = false := World.ownsRow.frozenAt h j
theorem Row.set {w : World} {e : TypeId} {size g n cap : Nat} {xs : List Value} (h : Row w e size g n cap xs) (j : Nat) (u : Value) : Row (w.setCell ⟨g, j, none⟩ u) e size g n cap (xs.set j u) := (World.ownsRow.stored h j u).1
theorem Row.setFar {w : World} {e : TypeId} {size g n cap : Nat} {xs : List Value} (h : Row w e size g n cap xs) {a : Addr} (ha : a.block ≠ g) (u : Value) : Row (w.setCell a u) e size g n cap xs := by
  obtain ⟨h1, cur, hg, r⟩ := h.parts
  exact ⟨h1, .inr ⟨g, cap, cur, rfl, Nat.zero_le _, by rw [Below.heap_setCell _ _ _ _ (fun e => ha e.symm)]; exact hg, r⟩⟩
theorem Row.drew {w : World} {e : TypeId} {size g n cap : Nat} {xs : List Value} (h : Row w e size g n cap xs) : Row w.drew e size g n cap xs := h
theorem Row.alloc {w : World} {e : TypeId} {size g n cap : Nat} {xs : List Value} (h : Row w e size g n cap xs) (o : Obj) : Row (w.alloc o) e size g n cap xs := h.upd ((Upd.refl [] w).alloc o) (by simp)
theorem Row.len {w : World} {e : TypeId} {size g n cap : Nat} {xs : List Value} (h : Row w e size g n cap xs) : xs.length = n * size := h.1


/-- A block known whole. -/
def Blk (w : World) (b : Nat) (ty : TypeId) (cs : List Value) : Prop := w.heap[b]? = some (.cells cs.toArray ty (0, 0))
theorem Blk.lt {w : World} {b : Nat} {ty : TypeId} {cs : List Value} (h : Blk w b ty cs) : b < w.heap.size := by
  rcases Nat.lt_or_ge b w.heap.size with hlt | hge
  · exact hlt
  · unfold Blk at h; rw [Array.getElem?_eq_none hge] at h; cases h
theorem Blk.cell {w : World} {b : Nat} {ty : TypeId} {cs : List Value} (h : Blk w b ty cs) {j : Nat} {v : Value} (hv : cs[j]? = some v) : w.cell? ⟨b, j, none⟩ = some v := by
  unfold Blk at h; simp [World.cell?, h, hv]
theorem Blk.free {w : World} {b : Nat} {ty : TypeId} {cs : List Value} (h : Blk w b ty cs) (j : Nat) : w.frozen? ⟨b, j, none⟩ = false := by
  unfold Blk at h; simp [World.frozen?, h]
theorem Blk.upd {S : List Nat} {w w' : World} {b : Nat} {ty : TypeId} {cs : List Value} (h : Blk w b ty cs) (hu : Upd S w w') (hn : b ∉ S) : Blk w' b ty cs := (hu.block b h.lt hn).trans h
theorem Blk.set {w : World} {b : Nat} {ty : TypeId} {cs : List Value} (h : Blk w b ty cs) (j : Nat) (u : Value) : Blk (w.setCell ⟨b, j, none⟩ u) b ty (cs.set j u) := by
  unfold Blk at *
  rw [heap_setCell_same w b j _ ty u h]; simp
theorem Blk.setFar {w : World} {b : Nat} {ty : TypeId} {cs : List Value} (h : Blk w b ty cs) {a : Addr} (ha : a.block ≠ b) (u : Value) : Blk (w.setCell a u) b ty cs := (Below.heap_setCell _ _ _ _ (fun e => ha e.symm)).trans h
theorem Blk.new (w : World) (ty : TypeId) (cs : List Value) : Blk (w.alloc (.cells cs.toArray ty)) w.heap.size ty cs := heap_alloc_new w _
theorem Blk.alloc {w : World} {b : Nat} {ty : TypeId} {cs : List Value} (h : Blk w b ty cs) (o : Obj) : Blk (w.alloc o) b ty cs := h.upd ((Upd.refl [] w).alloc o) (by simp)


/-- The number in a cell: for a loop's measure. -/
def cellNat (w : World) (b o : Nat) : Nat := match w.cell? ⟨b, o, none⟩ with | some v => (intOf v).toNat | none => 0

theorem heap_one (w : World) (o1 : Obj) : (w.alloc o1).heap[w.heap.size]? = some o1 := heap_alloc_new w o1
theorem heap_two (w : World) (o1 o2 : Obj) : ((w.alloc o1).alloc o2).heap[w.heap.size]? = some o1 ∧ ((w.alloc o1).alloc o2).heap[w.heap.size + 1]? = some o2 := by
  refine ⟨?_, ?_⟩
  · rw [Below.heap_alloc _ _ _ (by simp)]; exact heap_alloc_new w o1
  · have := heap_alloc_new (w.alloc o1) o2
    simpa using this
theorem heap_three (w : World) (o1 o2 o3 : Obj) : (((w.alloc o1).alloc o2).alloc o3).heap[w.heap.size]? = some o1 ∧ (((w.alloc o1).alloc o2).alloc o3).heap[w.heap.size + 1]? = some o2 ∧ (((w.alloc o1).alloc o2).alloc o3).heap[w.heap.size + 1 + 1]? = some o3 := by
  refine ⟨?_, ?_, ?_⟩
  · rw [Below.heap_alloc _ _ _ (by simp; omega)]; exact (heap_two w o1 o2).1
  · rw [Below.heap_alloc _ _ _ (by simp)]; exact (heap_two w o1 o2).2
  · have := heap_alloc_new ((w.alloc o1).alloc o2) o3
    simpa using this

/-! ### Lists of rows of one width -/
theorem flat_get {α : Type} (f : α → List Value) (m : Nat) (hf : ∀ x, (f x).length = m) (xs : List α) (i j : Nat) (hj : j < m) (x : α) (hx : xs[i]? = some x) : (xs.flatMap f)[i * m + j]? = (f x)[j]? := by
  induction xs generalizing i with
  | nil => simp at hx
  | cons y ys ih =>
    simp only [List.flatMap_cons]
    cases i with
    | zero =>
      simp only [List.getElem?_cons_zero, Option.some.injEq] at hx
      subst hx
      rw [Nat.zero_mul, Nat.zero_add, List.getElem?_append_left (by rw [hf]; exact hj)]
    | succ i =>
      simp only [List.getElem?_cons_succ] at hx
      rw [List.getElem?_append_right (by rw [hf, Nat.succ_mul]; omega), hf, show (i + 1) * m + j - m = i * m + j by rw [Nat.succ_mul]; omega]
      exact ih i hx
theorem flat_set {α : Type} (f : α → List Value) (m : Nat) (hf : ∀ x, (f x).length = m) (xs : List α) (i : Nat) (x y : α) (hx : xs[i]? = some x) (j : Nat) (u : Value) (hj : j < m) (hy : (f x).set j u = f y) : (xs.flatMap f).set (i * m + j) u = (xs.set i y).flatMap f := by
  induction xs generalizing i with
  | nil => simp at hx
  | cons z zs ih =>
    cases i with
    | zero =>
      simp only [List.getElem?_cons_zero, Option.some.injEq] at hx
      subst hx
      simp only [List.flatMap_cons, List.set_cons_zero]
      rw [Nat.zero_mul, Nat.zero_add, List.set_append_left _ _ (by rw [hf]; exact hj), hy]
    | succ i =>
      simp only [List.getElem?_cons_succ] at hx
      simp only [List.flatMap_cons, List.set_cons_succ]
      rw [List.set_append_right _ _ (by rw [hf, Nat.succ_mul]; omega), hf, show (i + 1) * m + j - m = i * m + j by rw [Nat.succ_mul]; omega, ih i hx]
theorem flat_len {α : Type} (f : α → List Value) (m : Nat) (hf : ∀ x, (f x).length = m) (xs : List α) : (xs.flatMap f).length = xs.length * m := by
  induction xs with
  | nil => simp
  | cons y ys ih => simp only [List.flatMap_cons, List.length_append, hf, ih, List.length_cons, Nat.succ_mul]; omega


/-- 'make([]T, n)': the world is told, too. -/
theorem wpList_make_full' {P : Program} (w : World) {ops : Array Oper} {rest : List Oper} {o : Oper} {a : Act} {Q : Exit → Act → World → Prop}
    (hg : o.guard = none) (l c : Operand) (t : TypeId) (hop : o.op = Op.makeSlice t l c)
    (base : Nat) (e : TypeId) (i : TypeInfo) (z : Value) (size : Nat) (h1 : P.underlying t = some (.slice e)) (h2 : P.info? e = some i) (h3 : i.zero = some z) (h4 : i.size = size)
    (kl kc : IntKind) (L C : Int) (n : Nat) (hl : a.eval l = .int kl L) (hc : a.eval c = .int kc C) (hL : L = (n : Int)) (hC : C = (n : Int)) (b2 : i.bytes * n ≤ 281474976710656) (b3 : n ≤ maxLen) (b4 : base ≤ w.heap.size)
    (hK : ∀ w', w'.ownsRow base e size (.slice (some ⟨w.heap.size, 0, none⟩) n n) n (madeCells z.cells (n * size)).toList → w.grownBy w' none → w'.heap.size = w.heap.size + 1 → wpList P ops Q rest (a.put o.dst (.slice (some ⟨w.heap.size, 0, none⟩) n n)) w') :
    wpList P ops Q (o :: rest) a w := by
  refine wpList_plain hg fun K hK' => ?_
  subst h4
  have h63' : (n : Int) ≤ 9223372036854775807 := by
    have h := b3
    simp [maxLen] at h
    omega
  have hb' : (i.bytes : Int) * (n : Int) ≤ 281474976710656 := by
    have h : ((i.bytes * n : Nat) : Int) ≤ 281474976710656 := by omega
    rwa [Int.natCast_mul] at h
  have hrun := run_make (P := P) w t e i z h1 h2 h3 kl kc n n (by omega) (Int.le_refl _) hb' h63'
  simp only [Int.toNat_natCast] at hrun
  subst hL
  subst hC
  unfold Oper.wp
  simp [execOp, hop, hl, hc, hrun, Result.andThen]
  exact hK' _ _ (hK _ (World.ownsRow_lit w _ n b4 b3 (size_madeCells _ _)) (World.grownBy_alloc w _ none) (by simp))

end Go.Proofs.YtfeobcmcellcpaaGreat

/-! Item -/
namespace Go.Proofs.YtfeobcmcellcpaaGreat
open Go.RowKit

abbrev It := Int × Int
def ahead (a b : It) : Bool := decide (a.1 < b.1) || (decide (a.1 = b.1) && decide (a.2 < b.2))
def zIt : It := (0, 0)
def itVs (x : It) : List Value := [.int .u64 x.1, .int .i64 x.2]
theorem itVs_len (l : It) : (itVs l).length = 2 := rfl
theorem ahead_iff (a b : It) : ahead a b = true ↔ (a.1 < b.1 ∨ (a.1 = b.1 ∧ a.2 < b.2)) := by simp [ahead]
theorem ahead_no (a b : It) : ahead a b = false ↔ ¬ (a.1 < b.1 ∨ (a.1 = b.1 ∧ a.2 < b.2)) := by rw [← ahead_iff]; simp

theorem getD_set_same {α : Type} (l : List α) (i : Nat) (x d : α) (h : i < l.length) : (l.set i x).getD i d = x := by simp [List.getD_eq_getElem?_getD, h]
theorem getD_set_other {α : Type} (l : List α) (i j : Nat) (x d : α) (h : i ≠ j) : (l.set i x).getD j d = l.getD j d := by simp [List.getD_eq_getElem?_getD, h]

def RetUpd (S : List Nat) (w : World) (v : Value) (e : Ending) (w' : World) : Prop := e = .returned v ∧ Upd S w w'

theorem ret_bool {a b : Bool} (h : a = b) : Ending.returned (.bool a) = .returned (.bool b) := by rw [h]
theorem ret_int {k : IntKind} {a b : Int} (h : a = b) : Ending.returned (.int k a) = .returned (.int k b) := by rw [h]

theorem Held.step {S : List Nat} {W w w' : World} (h : Upd S W w ∧ ∀ b o, b < W.heap.size → b ∉ S → w.cell? ⟨b, o, none⟩ = W.cell? ⟨b, o, none⟩) (k : Upd S w w') :
    Upd S W w' ∧ ∀ b o, b < W.heap.size → b ∉ S → w'.cell? ⟨b, o, none⟩ = W.cell? ⟨b, o, none⟩ := ⟨h.1.trans k, (h.1.trans k).cells⟩
theorem Held.init (S : List Nat) (W : World) : Upd S W W.drew ∧ ∀ b o, b < W.heap.size → b ∉ S → W.drew.cell? ⟨b, o, none⟩ = W.cell? ⟨b, o, none⟩ := ⟨(Upd.refl S W).drew, fun _ _ _ _ => rfl⟩


set_option maxHeartbeats 400000 in
theorem ahead_any (a b : It) (w : World) :
    Calls Tryz.prog 129 #[.agg #[.int .u64 a.1, .int .i64 a.2], .agg #[.int .u64 b.1, .int .i64 b.2]] w (RetUpd [] w (.bool (ahead a b))) := by
  obtain ⟨k1, i1⟩ := a
  obtain ⟨k2, i2⟩ := b
  go_enter Tryz.func129, Tryz.ntmps129
  go_wp2
  all_goals
    go_ret
    refine ⟨ret_bool ?_, ((Upd.refl _ _).alloc _).alloc _⟩
    try (simp [ahead, *]; done)

theorem Held.far {S : List Nat} {W w : World} (h : Upd S W w ∧ ∀ b o, b < W.heap.size → b ∉ S → w.cell? ⟨b, o, none⟩ = W.cell? ⟨b, o, none⟩) {p : Addr} (hp : W.heap.size ≤ p.block) (u : Value) :
    Upd S W (w.setCell p u) ∧ ∀ b o, b < W.heap.size → b ∉ S → (w.setCell p u).cell? ⟨b, o, none⟩ = W.cell? ⟨b, o, none⟩ := ⟨h.1.setCell (.inr hp) u, (h.1.setCell (.inr hp) u).cells⟩
theorem Held.new {S : List Nat} {W w : World} (h : Upd S W w ∧ ∀ b o, b < W.heap.size → b ∉ S → w.cell? ⟨b, o, none⟩ = W.cell? ⟨b, o, none⟩) (x : Obj) :
    Upd S W (w.alloc x) ∧ ∀ b o, b < W.heap.size → b ∉ S → (w.alloc x).cell? ⟨b, o, none⟩ = W.cell? ⟨b, o, none⟩ := ⟨h.1.alloc x, (h.1.alloc x).cells⟩

def xAt (xs : List It) (i : Int) : It := xs.getD i.toNat zIt
theorem item_rows {w : World} {b n : Nat} {xs : List It} (h : Row w 74 2 b n n (xs.flatMap itVs)) (a : Int) (h0 : 0 ≤ a) (h1 : a < n) :
    w.cell? ⟨b, a.toNat * 2, none⟩ = some (.int .u64 (xAt xs a).1) ∧ w.cell? ⟨b, a.toNat * 2 + 1, none⟩ = some (.int .i64 (xAt xs a).2) := by
  have hl : xs.length = n := by have := h.len; rw [flat_len itVs 2 itVs_len] at this; omega
  have ha : a.toNat < xs.length := by omega
  have hx : xs[a.toNat]? = some (xAt xs a) := by
    unfold xAt; rw [List.getD_eq_getElem?_getD, List.getElem?_eq_getElem ha]; rfl
  exact ⟨h.cell (by rw [← Nat.add_zero (a.toNat * 2), flat_get itVs 2 itVs_len xs a.toNat 0 (by omega) _ hx]; rfl),
    h.cell (by rw [flat_get itVs 2 itVs_len xs a.toNat 1 (by omega) _ hx]; rfl)⟩
theorem item_set (xs : List It) (i : Nat) (hi : i < xs.length) (x : It) : ((xs.flatMap itVs).set (i * 2) (.int .u64 x.1)).set (i * 2 + 1) (.int .i64 x.2) = (xs.set i x).flatMap itVs := by
  have h0 := flat_set itVs 2 itVs_len xs i xs[i] (x.1, xs[i].2) (List.getElem?_eq_getElem hi) 0 (.int .u64 x.1) (by omega) rfl
  rw [Nat.add_zero] at h0
  rw [h0, flat_set itVs 2 itVs_len _ i (x.1, xs[i].2) x (by simp [hi]) 1 (.int .i64 x.2) (by omega) rfl]
  simp

theorem underlyingItems : Tryz.prog.underlying 75 = some (.slice 74) := by kernel_rfl
theorem infoItem : (Tryz.prog.info? 74).map (fun i => (i.zero, i.size, i.bytes)) = some (some (.agg #[.int .u64 0, .int .i64 0]), 2, 16) := by kernel_rfl
theorem two_set {w w0 : World} {g : Nat} {x y : Value} (h0 : w.cell? ⟨g, 0, none⟩ = w0.cell? ⟨g, 0, none⟩) (h1 : w.cell? ⟨g, 1, none⟩ = w0.cell? ⟨g, 1, none⟩) (k0 : w0.cell? ⟨g, 0, none⟩ = some x) (k1 : w0.cell? ⟨g, 1, none⟩ = some y) (a b : Value) :
    ((w.setCell ⟨g, 0, none⟩ a).setCell ⟨g, 1, none⟩ b).cell? ⟨g, 0, none⟩ = some a ∧ ((w.setCell ⟨g, 0, none⟩ a).setCell ⟨g, 1, none⟩ b).cell? ⟨g, 1, none⟩ = some b := by
  have e0 : (w.setCell ⟨g, 0, none⟩ a).cell? ⟨g, 0, none⟩ = some a := World.cell?_setCell_same _ _ _ (h0.trans k0)
  have e1 : (w.setCell ⟨g, 0, none⟩ a).cell? ⟨g, 1, none⟩ = some y := by rw [World.cell?_setCell_other _ _ _ _ (by simp)]; exact h1.trans k1
  exact ⟨by rw [World.cell?_setCell_other _ _ _ _ (by simp)]; exact e0, World.cell?_setCell_same _ _ _ e1⟩
end Go.Proofs.YtfeobcmcellcpaaGreat

/-! Spec -/
namespace Go.Proofs.YtfeobcmcellcpaaGreat

/-- Each is ahead of all that follow. -/
def Srt (L : List It) : Prop := L.Pairwise (fun a b => ahead a b = true)
def NdI (L : List It) : Prop := (L.map (·.2)).Nodup
def insI (x : It) : List It → List It
  | [] => [x]
  | y :: r => if ahead y x = true then y :: insI x r else x :: y :: r
def hasI (L : List It) (id : Int) : Bool := L.any (fun x => x.2 == id)
def dropI (L : List It) (id : Int) : List It := L.filter (fun x => !(x.2 == id))
def findI (L : List It) (id : Int) : Option It := L.find? (fun x => x.2 == id)

theorem ahead_trans {a b c : It} (h1 : ahead a b = true) (h2 : ahead b c = true) : ahead a c = true := by rw [ahead_iff] at *; omega
theorem ahead_irrefl (a : It) : ahead a a = false := by rw [ahead_no]; omega
theorem ahead_asymm {a b : It} (h1 : ahead a b = true) : ahead b a = false := by rw [ahead_iff] at h1; rw [ahead_no]; omega
theorem ahead_total {a b : It} (h : a.2 ≠ b.2) : ahead a b = true ∨ ahead b a = true := by rw [ahead_iff, ahead_iff]; omega
theorem ahead_not {a b : It} (h : a.2 ≠ b.2) (h2 : ahead a b = false) : ahead b a = true := by rcases ahead_total h with h | h; rw [h] at h2; cases h2; exact h

theorem insI_perm (x : It) (L : List It) : (insI x L).Perm (x :: L) := by
  induction L with
  | nil => exact List.Perm.refl _
  | cons y r ih =>
    simp only [insI]
    split
    · exact (List.Perm.cons y ih).trans (List.Perm.swap x y r)
    · exact List.Perm.refl _
theorem insI_srt {x : It} {L : List It} (h : Srt L) (hx : ∀ y ∈ L, y.2 ≠ x.2) : Srt (insI x L) := by
  induction L with
  | nil => exact List.pairwise_singleton _ _
  | cons y r ih =>
    unfold Srt at h
    rw [List.pairwise_cons] at h
    simp only [insI]
    by_cases hy : ahead y x = true
    · rw [if_pos hy]
      unfold Srt
      rw [List.pairwise_cons]
      refine ⟨fun z hz => ?_, ih h.2 (fun z hz => hx z (List.mem_cons_of_mem _ hz))⟩
      have := (insI_perm x r).mem_iff.1 hz
      rcases List.mem_cons.1 this with rfl | hz
      · exact hy
      · exact h.1 z hz
    · rw [if_neg hy]
      have hxy : ahead x y = true := ahead_not (hx y (by simp)) (by simpa using hy)
      unfold Srt
      rw [List.pairwise_cons]
      refine ⟨fun z hz => ?_, List.pairwise_cons.2 h⟩
      rcases List.mem_cons.1 hz with rfl | hz
      · exact hxy
      · exact ahead_trans hxy (h.1 z hz)
theorem Srt.nd {L : List It} (h : Srt L) : L.Nodup := by
  refine List.Pairwise.imp (fun {a b} hab e => ?_) h
  subst e; rw [ahead_irrefl] at hab; cases hab

/-- Two orders of the same items are one. -/
theorem srt_unique {L M : List It} (h : Srt L) (g : Srt M) (hp : L.Perm M) : L = M := by
  induction L generalizing M with
  | nil => exact (List.nil_perm.1 hp).symm
  | cons a r ih =>
    cases M with
    | nil => exact absurd hp (by simp)
    | cons b s =>
      unfold Srt at h g
      rw [List.pairwise_cons] at h g
      have hab : a = b := by
        have h1 : a ∈ b :: s := hp.mem_iff.1 (by simp)
        have h2 : b ∈ a :: r := hp.mem_iff.2 (by simp)
        rcases List.mem_cons.1 h1 with e | h1
        · exact e
        · rcases List.mem_cons.1 h2 with e | h2
          · exact e.symm
          · have := ahead_asymm (h.1 b h2)
            rw [g.1 a h1] at this; cases this
      subst hab
      rw [ih h.2 g.2 (List.perm_cons a |>.1 hp)]
theorem NdI.perm {L M : List It} (h : NdI L) (hp : L.Perm M) : NdI M := (hp.map _).nodup_iff.1 h
theorem hasI_perm {L M : List It} (hp : L.Perm M) (id : Int) : hasI L id = hasI M id := by
  unfold hasI
  rw [Bool.eq_iff_iff, List.any_eq_true, List.any_eq_true]
  exact ⟨fun ⟨x, hx, h⟩ => ⟨x, hp.mem_iff.1 hx, h⟩, fun ⟨x, hx, h⟩ => ⟨x, hp.mem_iff.2 hx, h⟩⟩
theorem hasI_iff (L : List It) (id : Int) : hasI L id = true ↔ ∃ x ∈ L, x.2 = id := by unfold hasI; rw [List.any_eq_true]; simp
theorem hasI_no (L : List It) (id : Int) : hasI L id = false ↔ ∀ x ∈ L, x.2 ≠ id := by
  rw [← Bool.not_eq_true, hasI_iff]
  exact ⟨fun h x hx e => h ⟨x, hx, e⟩, fun h ⟨x, hx, e⟩ => h x hx e⟩
theorem dropI_srt {L : List It} (h : Srt L) (id : Int) : Srt (dropI L id) := List.Pairwise.sublist List.filter_sublist h
theorem dropI_nd {L : List It} (h : NdI L) (id : Int) : NdI (dropI L id) := h.sublist (List.filter_sublist.map _)
theorem dropI_perm {L M : List It} (hp : L.Perm M) (id : Int) : (dropI L id).Perm (dropI M id) := hp.filter _
theorem dropI_none {L : List It} {id : Int} (h : hasI L id = false) : dropI L id = L := by
  unfold dropI
  rw [List.filter_eq_self]
  intro x hx
  have := (hasI_no L id).1 h x hx
  simpa using this
theorem insI_nd {x : It} {L : List It} (h : NdI L) (hx : hasI L x.2 = false) : NdI (insI x L) := by
  refine NdI.perm (L := x :: L) ?_ (insI_perm x L).symm
  unfold NdI at *
  rw [List.map_cons, List.nodup_cons]
  refine ⟨fun hm => ?_, h⟩
  obtain ⟨y, hy, e⟩ := List.mem_map.1 hm
  exact (hasI_no L x.2).1 hx y hy e
theorem findI_mem {L : List It} {id : Int} {x : It} (h : findI L id = some x) : x ∈ L ∧ x.2 = id := by
  unfold findI at h
  exact ⟨List.mem_of_find?_eq_some h, by have := List.find?_some h; simpa using this⟩
theorem findI_of {L : List It} (h : NdI L) {x : It} (hx : x ∈ L) : findI L x.2 = some x := by
  cases hf : findI L x.2 with
  | none =>
    unfold findI at hf
    rw [List.find?_eq_none] at hf
    have := hf x hx
    simp at this
  | some y =>
    obtain ⟨hy, e⟩ := findI_mem hf
    congr 1
    unfold NdI at h
    obtain ⟨i, hi, rfl⟩ := List.mem_iff_getElem.1 hx
    obtain ⟨j, hj, rfl⟩ := List.mem_iff_getElem.1 hy
    have hp := List.pairwise_iff_getElem.1 h
    rcases Nat.lt_trichotomy i j with hij | rfl | hij
    · exact absurd (by rw [List.getElem_map, List.getElem_map]; exact e.symm) (hp i j (by simpa using hi) (by simpa using hj) hij)
    · rfl
    · exact absurd (by rw [List.getElem_map, List.getElem_map]; exact e) (hp j i (by simpa using hj) (by simpa using hi) hij)
theorem findI_none {L : List It} {id : Int} : findI L id = none ↔ hasI L id = false := by
  unfold findI
  rw [List.find?_eq_none, hasI_no]
  constructor
  · intro h x hx e; have := h x hx; simp [e] at this
  · intro h x hx; have := h x hx; simpa using this
theorem findI_perm {L M : List It} (h : NdI L) (hp : L.Perm M) (id : Int) : findI L id = findI M id := by
  cases hf : findI L id with
  | none => rw [findI_none, hasI_perm hp, ← findI_none] at hf; exact hf.symm
  | some x =>
    obtain ⟨hx, rfl⟩ := findI_mem hf
    exact (findI_of (h.perm hp) (hp.mem_iff.1 hx)).symm

/-- What a push of an item leaves, of the same items in any order. -/
theorem push_perm {A L : List It} (hp : A.Perm L) (x : It) : (A ++ [x]).Perm (insI x L) := (List.perm_append_singleton x A).trans ((List.Perm.cons x hp).trans (insI_perm x L).symm)

end Go.Proofs.YtfeobcmcellcpaaGreat

/-! RowO -/
namespace Go.Proofs.YtfeobcmcellcpaaGreat
open Go.RowKit

/-- A slice at offset 0, nil too: n elements. -/
def RowO (w : World) (e : TypeId) (size : Nat) (ao : Option Addr) (n cap : Nat) (xs : List Value) : Prop := w.ownsRow 0 e size (.slice ao n cap) n xs

/-- In which blocks it lies. -/
def blkO : Option Addr → List Nat
  | some a => [a.block]
  | none => []

theorem RowO.nil (w : World) (e : TypeId) (size : Nat) : RowO w e size none 0 0 [] := World.ownsRow_nil w 0 e size
theorem RowO.cases {w : World} {e : TypeId} {size : Nat} {ao : Option Addr} {n cap : Nat} {xs : List Value} (h : RowO w e size ao n cap xs) : (ao = none ∧ n = 0 ∧ cap = 0 ∧ xs = []) ∨ ∃ g, ao = some ⟨g, 0, none⟩ ∧ Row w e size g n cap xs := by
  rcases h.2 with ⟨h1, h2⟩ | ⟨g, cap', cur, h1, h2⟩
  · simp only [Value.slice.injEq] at h1
    obtain ⟨rfl, rfl, rfl⟩ := h1
    exact .inl ⟨rfl, rfl, rfl, List.eq_nil_of_length_eq_zero (by simpa using h.1)⟩
  · simp only [Value.slice.injEq, true_and] at h1
    obtain ⟨rfl, rfl⟩ := h1
    exact .inr ⟨g, rfl, h⟩
theorem Row.o {w : World} {e : TypeId} {size g n cap : Nat} {xs : List Value} (h : Row w e size g n cap xs) : RowO w e size (some ⟨g, 0, none⟩) n cap xs := h
theorem RowO.len {w : World} {e : TypeId} {size : Nat} {ao : Option Addr} {n cap : Nat} {xs : List Value} (h : RowO w e size ao n cap xs) : xs.length = n * size := h.1
theorem RowO.row {w : World} {e : TypeId} {size : Nat} {ao : Option Addr} {n cap : Nat} {xs : List Value} (h : RowO w e size ao n cap xs) (hn : 0 < n) : ∃ g, ao = some ⟨g, 0, none⟩ ∧ Row w e size g n cap xs := by
  rcases h.cases with ⟨_, h0, _⟩ | h
  · omega
  · exact h
theorem RowO.upd {S : List Nat} {w w' : World} {e : TypeId} {size : Nat} {ao : Option Addr} {n cap : Nat} {xs : List Value} (h : RowO w e size ao n cap xs) (hu : Upd S w w') (hn : ∀ b ∈ blkO ao, b ∉ S) : RowO w' e size ao n cap xs := by
  rcases h.cases with ⟨rfl, rfl, rfl, rfl⟩ | ⟨g, rfl, hr⟩
  · exact RowO.nil _ _ _
  · exact (hr.upd hu (hn g (by simp [blkO]))).o
theorem RowO.lt {w : World} {e : TypeId} {size : Nat} {ao : Option Addr} {n cap : Nat} {xs : List Value} (h : RowO w e size ao n cap xs) : ∀ b ∈ blkO ao, b < w.heap.size := by
  rcases h.cases with ⟨rfl, rfl, rfl, rfl⟩ | ⟨g, rfl, hr⟩
  · intro b hb; cases hb
  · intro b hb; simp [blkO] at hb; subst hb; exact hr.lt
theorem RowO.cap_le {w : World} {e : TypeId} {size : Nat} {ao : Option Addr} {n cap : Nat} {xs : List Value} (h : RowO w e size ao n cap xs) : n ≤ cap ∧ cap ≤ maxLen := by
  rcases h.cases with ⟨rfl, rfl, rfl, rfl⟩ | ⟨g, rfl, hr⟩
  · exact ⟨Nat.le_refl _, by unfold maxLen; omega⟩
  · obtain ⟨_, _, _, h1, h2, _⟩ := hr.parts; exact ⟨h1, h2⟩


/-- What an append leaves. -/
structure Apped (w : World) (e : TypeId) (size : Nat) (ao : Option Addr) (n : Nat) (xs : List Value) (ao' : Option Addr) (cap' : Nat) (w' : World) : Prop where
  row : RowO w' e size ao' n cap' xs
  upd : Upd (blkO ao) w w'
  at_ : ∀ b ∈ blkO ao', b ∈ blkO ao ∨ b = w.heap.size

section
variable {P : Program} (w : World) {ops : Array Oper} {rest : List Oper} {o : Oper} {a : Act} {Q : Exit → Act → World → Prop}
/-- 'append(s, x..)': what is appended lies at ad. -/
theorem wpList_app (hgd : o.guard = none) (s x : Operand) (t : TypeId) (ho : o.op = .call { callee := .builtin .append, args := #[s, x], argTypes := #[t, t] })
    (e : TypeId) (i : TypeInfo) (z : Value) (size bytes : Nat) (ht : P.underlying t = some (.slice e)) (hi : P.info? e = some i) (hz : i.zero = some z)
    (hsize : i.size = size) (hby : i.bytes = bytes) (hzs : z.cells.size = size) (hsz : 0 < size)
    (ao : Option Addr) (n cap : Nat) (xs : List Value) (hs : a.eval s = .slice ao n cap) (hown : RowO w e size ao n cap xs)
    (ad : Addr) (m c : Nat) (news : List Value) (hx : a.eval x = .slice (some ad) m c) (hl : news.length = m * size) (hnews : ∀ j u, news[j]? = some u → w.cell? (ad.add j) = some u) (h1 : ∀ u ∈ news, u.oneCell' = true)
    (h63 : n + m ≤ maxLen) (hbytes : (n + m) * bytes ≤ 140737488355328)
    (h : ∀ ao' cap' w', Apped w e size ao (n + m) (xs ++ news) ao' cap' w' → wpList P ops Q rest (a.put o.dst (.slice ao' (n + m) cap')) w') :
    wpList P ops Q (o :: rest) a w := by
  refine wpList_append_own_at w hgd s x t ho 0 e i z size bytes ht hi hz hsize hby hzs hsz (.slice ao n cap) n xs hs hown ad m c news hx hl hnews h1 h63 hbytes (Nat.zero_le _) ?_
  intro v' w' h2 h3 _ h5
  obtain ⟨ao', cap', rfl⟩ : ∃ ao' cap', v' = .slice ao' (n + m) cap' := by
    rcases h2.2 with ⟨rfl, hn⟩ | ⟨g, cap', _, rfl, _⟩
    · exact ⟨none, 0, by rw [hn]⟩
    · exact ⟨_, _, rfl⟩
  refine h ao' cap' w' ⟨h2, ?_, ?_⟩
  · refine (Upd.refl _ w).grown h3 (fun k hk => .inl ?_)
    cases ao with
    | none => cases hk
    | some ad0 => simp [Value.ownBlock] at hk; simp [blkO, hk]
  · intro b hb
    cases ao' with
    | none => cases hb
    | some ad' =>
      simp only [blkO, List.mem_singleton] at hb
      subst hb
      rcases h5 with h5 | h5
      · cases ao with
        | none => simp [Value.ownBlock] at h5
        | some ad0 => simp only [Value.ownBlock, Option.some.injEq] at h5; left; simp [blkO, h5]
      · simp only [Value.ownBlock, Option.some.injEq] at h5; right; exact h5
end
end Go.Proofs.YtfeobcmcellcpaaGreat

/-! Map -/
namespace Go.Proofs.YtfeobcmcellcpaaGreat
open Go.RowKit

abbrev AL := List (Int × Value)

/-- Each entry has a stamp of its own. -/
def Stamped (es : List MapEntry) (clock : Nat) : Prop := (es.map (·.born)).Nodup ∧ ∀ e ∈ es, e.born < clock

/-- Block b is a map from numbers that holds M. -/
def IMap (w : World) (b : Nat) (M : AL) : Prop :=
  ∃ es clock, w.heap[b]? = some (.map es clock) ∧ es.toList.map (fun e => (e.key, e.val)) = M.map (fun p => (Value.int .i64 p.1, p.2)) ∧ Stamped es.toList clock

theorem Stamped.push {es : List MapEntry} {c : Nat} (h : Stamped es c) (e : MapEntry) (he : e.born = c := by rfl) : Stamped (es ++ [e]) (c + 1) := by
  obtain ⟨h1, h2⟩ := h
  refine ⟨?_, fun x hx => ?_⟩
  · rw [List.map_append, List.nodup_append]
    refine ⟨h1, by simp, fun a ha b hb e' => ?_⟩
    simp at hb
    obtain ⟨x, hx, rfl⟩ := List.mem_map.1 ha
    have := h2 x hx
    omega
  · rcases List.mem_append.1 hx with hx | hx
    · have := h2 x hx; omega
    · simp at hx; subst hx; omega
theorem Stamped.modify {es : List MapEntry} {c : Nat} (h : Stamped es c) (i : Nat) (f : MapEntry → MapEntry) (hf : ∀ e, (f e).born = e.born) : Stamped (es.modify i f) c := by
  have hm : (es.modify i f).map (·.born) = es.map (·.born) := by
    apply List.ext_getElem?
    intro k
    rw [List.getElem?_map, List.getElem?_map, List.getElem?_modify]
    cases es[k]? with
    | none => rfl
    | some e => simp only [Option.map_some]; split <;> simp [hf]
  refine ⟨by rw [hm]; exact h.1, fun x hx => ?_⟩
  have : x.born ∈ es.map (·.born) := by rw [← hm]; exact List.mem_map_of_mem hx
  obtain ⟨y, hy, e⟩ := List.mem_map.1 this
  rw [← e]; exact h.2 y hy
theorem Stamped.erase {es : List MapEntry} {c : Nat} (h : Stamped es c) (i : Nat) : Stamped (es.eraseIdx i) c :=
  ⟨h.1.sublist ((List.eraseIdx_sublist es i).map _), fun x hx => h.2 x ((List.eraseIdx_sublist es i).subset hx)⟩

def lookM : AL → Int → Option Value
  | [], _ => none
  | (a, x) :: r, k => if k = a then some x else lookM r k
def putM : AL → Int → Value → AL
  | [], k, v => [(k, v)]
  | (a, x) :: r, k, v => if k = a then (a, v) :: r else (a, x) :: putM r k v
def delM : AL → Int → AL
  | [], _ => []
  | (a, x) :: r, k => if k = a then r else (a, x) :: delM r k
def idxM : AL → Int → Nat → Option (Nat × Value)
  | [], _, _ => none
  | (a, x) :: r, k, i => if k = a then some (i, x) else idxM r k (i + 1)
def NdM (M : AL) : Prop := (M.map (·.1)).Nodup

theorem lookM_put (M : AL) (k j : Int) (v : Value) : lookM (putM M k v) j = if j = k then some v else lookM M j := by
  induction M with
  | nil => simp [putM, lookM]
  | cons p r ih =>
    obtain ⟨a, x⟩ := p
    simp only [putM]
    by_cases h : k = a
    · subst h; simp only [if_true, lookM]; by_cases e : j = k <;> simp [e]
    · rw [if_neg h]
      simp only [lookM, ih]
      by_cases e : j = a
      · subst e
        have h' : ¬ j = k := fun e => h e.symm
        simp [h']
      · simp [e]
theorem mem_of_look {M : AL} {k : Int} {v : Value} (h : lookM M k = some v) : (k, v) ∈ M := by
  induction M with
  | nil => simp [lookM] at h
  | cons p r ih =>
    obtain ⟨a, x⟩ := p
    simp only [lookM] at h
    by_cases e : k = a
    · subst e; simp at h; subst h; simp
    · rw [if_neg e] at h; exact List.mem_cons_of_mem _ (ih h)
theorem look_none {M : AL} {k : Int} : lookM M k = none ↔ k ∉ M.map (·.1) := by
  induction M with
  | nil => simp [lookM]
  | cons p r ih =>
    obtain ⟨a, x⟩ := p
    simp only [lookM, List.map_cons, List.mem_cons, not_or]
    by_cases e : k = a
    · simp [e]
    · rw [if_neg e, ih]; simp [e]
theorem keys_put (M : AL) (k : Int) (v : Value) : (putM M k v).map (·.1) = if k ∈ M.map (·.1) then M.map (·.1) else M.map (·.1) ++ [k] := by
  induction M with
  | nil => simp [putM]
  | cons p r ih =>
    obtain ⟨a, x⟩ := p
    simp only [putM]
    by_cases h : k = a
    · subst h; simp
    · rw [if_neg h]
      simp only [List.map_cons, ih, List.mem_cons, h, false_or]
      split <;> simp
theorem NdM.put {M : AL} (h : NdM M) (k : Int) (v : Value) : NdM (putM M k v) := by
  unfold NdM at *
  rw [keys_put]
  split
  · exact h
  · rename_i hk
    rw [List.nodup_append]
    exact ⟨h, by simp, fun a ha b hb e => hk (by simp at hb; rw [← hb, ← e]; exact ha)⟩
theorem keys_del_sub (M : AL) (k j : Int) (h : j ∈ (delM M k).map (·.1)) : j ∈ M.map (·.1) := by
  induction M with
  | nil => simp [delM] at h
  | cons p r ih =>
    obtain ⟨a, x⟩ := p
    simp only [delM] at h
    by_cases e : k = a
    · rw [if_pos e] at h; exact List.mem_cons_of_mem _ h
    · rw [if_neg e] at h
      simp only [List.map_cons, List.mem_cons] at h ⊢
      exact h.imp id ih
theorem NdM.del {M : AL} (h : NdM M) (k : Int) : NdM (delM M k) := by
  induction M with
  | nil => exact h
  | cons p r ih =>
    obtain ⟨a, x⟩ := p
    unfold NdM at *
    simp only [List.map_cons, List.nodup_cons] at h
    simp only [delM]
    by_cases e : k = a
    · rw [if_pos e]; exact h.2
    · rw [if_neg e]
      simp only [List.map_cons, List.nodup_cons]
      exact ⟨fun hm => h.1 (keys_del_sub _ _ _ hm), ih h.2⟩
theorem lookM_del {M : AL} (h : NdM M) (k j : Int) : lookM (delM M k) j = if j = k then none else lookM M j := by
  induction M with
  | nil => simp [delM, lookM]
  | cons p r ih =>
    obtain ⟨a, x⟩ := p
    unfold NdM at h
    simp only [List.map_cons, List.nodup_cons] at h
    simp only [delM]
    by_cases e : k = a
    · rw [if_pos e]
      subst e
      by_cases ej : j = k
      · subst ej; rw [if_pos rfl]; exact look_none.2 h.1
      · rw [if_neg ej]; simp [lookM, ej]
    · rw [if_neg e]
      simp only [lookM, ih h.2]
      by_cases ej : j = a
      · subst ej
        have h' : ¬ j = k := fun e2 => e e2.symm
        simp [h']
      · simp [ej]
theorem len_put (M : AL) (k : Int) (v : Value) : (putM M k v).length = if (lookM M k).isSome then M.length else M.length + 1 := by
  induction M with
  | nil => simp [putM, lookM]
  | cons p r ih =>
    obtain ⟨a, x⟩ := p
    simp only [putM, lookM]
    by_cases h : k = a
    · simp [h]
    · simp only [if_neg h, List.length_cons, ih]; split <;> rfl
theorem len_del (M : AL) (k : Int) : (delM M k).length = if (lookM M k).isSome then M.length - 1 else M.length := by
  induction M with
  | nil => simp [delM, lookM]
  | cons p r ih =>
    obtain ⟨a, x⟩ := p
    simp only [delM, lookM]
    by_cases h : k = a
    · simp [h]
    · simp only [if_neg h, List.length_cons, ih]
      cases hl : lookM r k with
      | none => simp
      | some y =>
        have := mem_of_look hl
        have : 0 < r.length := List.length_pos_of_mem this
        simp; omega
theorem lookM_idx (M : AL) (k : Int) (i : Nat) : (idxM M k i).map (·.2) = lookM M k := by
  induction M generalizing i with
  | nil => rfl
  | cons p r ih =>
    obtain ⟨a, x⟩ := p
    simp only [idxM, lookM]
    by_cases h : k = a
    · simp [h]
    · simp only [if_neg h]; exact ih (i + 1)

theorem findNow_eq (q : IntKind) (k : Int) : ∀ (es : List MapEntry) (M : AL) (i : Nat), es.map (fun e => (e.key, e.val)) = M.map (fun p => (Value.int .i64 p.1, p.2)) → Instr.findNow (.int q) (.int .i64 k) es i = some (idxM M k i) := by
  intro es
  induction es with
  | nil => intro M i h; cases M with
    | nil => rfl
    | cons p r => simp at h
  | cons e es ih =>
    intro M i h
    cases M with
    | nil => simp at h
    | cons p r =>
      obtain ⟨a, x⟩ := p
      simp only [List.map_cons, List.cons.injEq, Prod.mk.injEq] at h
      obtain ⟨⟨h1, h2⟩, h3⟩ := h
      simp only [Instr.findNow, h1, Instr.sameNow, idxM]
      by_cases hk : k = a
      · subst hk; simp [h2]
      · have : (k == a) = false := by simpa using hk
        simp only [this, if_neg hk]
        exact ih r (i + 1) h3

section
variable {P : Program} {w : World} {b : Nat} {M : AL} {T K E : TypeId}

theorem run_checkKey_int (hk : P.underlying K = some (.int .i64)) (emp : Bool) (k : Int) (w : World) : (Instr.checkKey emp 10000 K (.int .i64 k)).run P w = .ok () w := by
  have h : ∀ n : Nat, (Instr.checkKey emp (n + 1) K (.int .i64 k)).run P w = .ok () w := by
    intro n
    simp [Instr.checkKey, run_underlying hk]
  exact h 9999

theorem run_findKey_int (hk : P.underlying K = some (.int .i64)) {es : List MapEntry} (h : es.map (fun e => (e.key, e.val)) = M.map (fun p => (Value.int .i64 p.1, p.2))) (k : Int) (w : World) :
    (Instr.findKey K (.int .i64 k) es).run P w = .ok (idxM M k 0) w := by
  simp [Instr.findKey, run_underlying hk, findNow_eq .i64 k es M 0 h]

theorem IMap.lt (h : IMap w b M) : b < w.heap.size := by
  obtain ⟨es, clock, hb, _⟩ := h
  exact (Array.getElem?_eq_some_iff.1 hb).1
theorem IMap.upd {S : List Nat} {w' : World} (h : IMap w b M) (hu : Upd S w w') (hn : b ∉ S) : IMap w' b M := by
  have hlt := h.lt
  obtain ⟨es, clock, hb, r⟩ := h
  exact ⟨es, clock, (hu.block b hlt hn).trans hb, r⟩
theorem IMap.new (w : World) : IMap (w.alloc (.map #[] 0)) w.heap.size [] := ⟨#[], 0, heap_alloc_new w _, rfl, by simp [Stamped]⟩


/-- What a look-up tells: the value, or the zero one. -/
theorem IMap.look (h : IMap w b M) (hT : P.underlying T = some (.map K E)) (hk : P.underlying K = some (.int .i64)) {z : Value} (hz : ∀ w, (zeroValue E).run P w = .ok z w) (k : Int) (ok : Bool) :
    (Instr.lookup T (.map (some b)) (.int .i64 k) ok).run P w = .ok (if ok then .tuple #[(lookM M k).getD z, .bool (lookM M k).isSome] else (lookM M k).getD z) w := by
  obtain ⟨es, clock, hb, hM, _⟩ := h
  have hl := lookM_idx M k 0
  have hg : (getObj b).run P w = .ok (.map es clock) w := by simp [getObj, Sem.run, hb]
  cases hf : idxM M k 0 with
  | none =>
    rw [hf] at hl
    simp only [Option.map_none] at hl
    cases ok <;> simp [Instr.lookup, run_underlying hT, hg, run_checkKey_int hk, run_findKey_int hk hM, hf, hz, ← hl]
  | some p =>
    rw [hf] at hl
    simp only [Option.map_some] at hl
    cases ok <;> simp [Instr.lookup, run_underlying hT, hg, run_checkKey_int hk, run_findKey_int hk hM, hf, ← hl]
theorem IMap.len_ (h : IMap w b M) (hT : P.underlying T = some (.map K E)) (ty : TypeId) : (Builtin.len_ #[T] ty #[.map (some b)]).run P w = .ok (.int .i64 M.length) w := by
  obtain ⟨es, clock, hb, hM, _⟩ := h
  have hg : (getObj b).run P w = .ok (.map es clock) w := by simp [getObj, Sem.run, hb]
  have hl := congrArg List.length hM
  simp at hl
  simp [Builtin.len_, run_underlying hT, hg, goInt, hl]

theorem modify_eq (k : Int) (v : Value) : ∀ (es : List MapEntry) (M : AL) (i0 i : Nat) (x : Value), es.map (fun e => (e.key, e.val)) = M.map (fun p => (Value.int .i64 p.1, p.2)) → idxM M k i0 = some (i, x) →
    i0 ≤ i ∧ (es.modify (i - i0) fun e => { e with key := .int .i64 k, val := v }).map (fun e => (e.key, e.val)) = (putM M k v).map (fun p => (Value.int .i64 p.1, p.2)) ∧ (es[i - i0]?).map (·.key) = some (.int .i64 k) := by
  intro es
  induction es with
  | nil => intro M i0 i x h hi; cases M with
    | nil => simp [idxM] at hi
    | cons p r => simp at h
  | cons e es ih =>
    intro M i0 i x h hi
    cases M with
    | nil => simp at h
    | cons p r =>
      obtain ⟨a, y⟩ := p
      simp only [List.map_cons, List.cons.injEq, Prod.mk.injEq] at h
      obtain ⟨⟨h1, h2⟩, h3⟩ := h
      simp only [idxM] at hi
      by_cases hk : k = a
      · subst hk
        rw [if_pos rfl] at hi
        simp only [Option.some.injEq, Prod.mk.injEq] at hi
        obtain ⟨rfl, rfl⟩ := hi
        simp [putM, h3, h1]
      · rw [if_neg hk] at hi
        obtain ⟨g1, g2, g3⟩ := ih r (i0 + 1) i x h3 hi
        obtain ⟨j, rfl⟩ : ∃ j, i = i0 + 1 + j := ⟨i - (i0 + 1), by omega⟩
        rw [show i0 + 1 + j - (i0 + 1) = j by omega] at g2 g3
        rw [show i0 + 1 + j - i0 = j + 1 by omega]
        refine ⟨by omega, ?_, by simpa using g3⟩
        simp only [List.modify_succ_cons, List.map_cons, putM, if_neg hk, g2, h1, h2]
theorem push_eq (k : Int) : ∀ (M : AL) (i0 : Nat) (v : Value), idxM M k i0 = none → putM M k v = M ++ [(k, v)] := by
  intro M
  induction M with
  | nil => intro i0 v _; rfl
  | cons p r ih =>
    intro i0 v h
    obtain ⟨a, y⟩ := p
    simp only [idxM] at h
    by_cases hk : k = a
    · rw [if_pos hk] at h; cases h
    · rw [if_neg hk] at h
      simp only [putM, if_neg hk, ih _ v h, List.cons_append]
theorem erase_eq (k : Int) : ∀ (es : List MapEntry) (M : AL) (i0 i : Nat) (x : Value), es.map (fun e => (e.key, e.val)) = M.map (fun p => (Value.int .i64 p.1, p.2)) → idxM M k i0 = some (i, x) →
    i0 ≤ i ∧ (es.eraseIdx (i - i0)).map (fun e => (e.key, e.val)) = (delM M k).map (fun p => (Value.int .i64 p.1, p.2)) := by
  intro es
  induction es with
  | nil => intro M i0 i x h hi; cases M with
    | nil => simp [idxM] at hi
    | cons p r => simp at h
  | cons e es ih =>
    intro M i0 i x h hi
    cases M with
    | nil => simp at h
    | cons p r =>
      obtain ⟨a, y⟩ := p
      simp only [List.map_cons, List.cons.injEq, Prod.mk.injEq] at h
      obtain ⟨⟨h1, h2⟩, h3⟩ := h
      simp only [idxM] at hi
      by_cases hk : k = a
      · subst hk
        rw [if_pos rfl] at hi
        simp only [Option.some.injEq, Prod.mk.injEq] at hi
        obtain ⟨rfl, rfl⟩ := hi
        simp [delM, h3]
      · rw [if_neg hk] at hi
        obtain ⟨g1, g2⟩ := ih r (i0 + 1) i x h3 hi
        obtain ⟨j, rfl⟩ : ∃ j, i = i0 + 1 + j := ⟨i - (i0 + 1), by omega⟩
        rw [show i0 + 1 + j - (i0 + 1) = j by omega] at g2
        rw [show i0 + 1 + j - i0 = j + 1 by omega]
        refine ⟨by omega, ?_⟩
        simp only [List.eraseIdx_cons_succ, List.map_cons, delM, if_neg hk, g2, h1, h2]
theorem del_none (k : Int) : ∀ (M : AL) (i0 : Nat), idxM M k i0 = none → delM M k = M := by
  intro M
  induction M with
  | nil => intro i0 _; rfl
  | cons p r ih =>
    intro i0 h
    obtain ⟨a, y⟩ := p
    simp only [idxM] at h
    by_cases hk : k = a
    · rw [if_pos hk] at h; cases h
    · rw [if_neg hk] at h
      simp only [delM, if_neg hk, ih _ h]


/-- The world with another object at r. -/
def setObjW (w : World) (r : Nat) (o : Obj) : World := { w with heap := w.heap.setIfInBounds r o }
theorem setObjW_upd (w : World) (r : Nat) (o : Obj) : Upd [r] w (setObjW w r o) :=
  ⟨rfl, rfl, rfl, by simp [setObjW], fun k hk hn => by
    simp only [setObjW]
    rw [Array.getElem?_setIfInBounds_ne (by simp at hn; omega)]⟩
theorem setObjW_at {w : World} {r : Nat} (h : r < w.heap.size) (o : Obj) : (setObjW w r o).heap[r]? = some o := by simp [setObjW, h]
theorem setObjW_cell {w : World} {b : Nat} {M : AL} (h : IMap w b M) (es : Array MapEntry) (c : Nat) (a : Addr) : (setObjW w b (.map es c)).cell? a = w.cell? a := by
  obtain ⟨es0, c0, hb, _⟩ := h
  have hlt := (Array.getElem?_eq_some_iff.1 hb).1
  unfold World.cell? setObjW
  by_cases e : b = a.block
  · subst e
    have h1 : (w.heap.setIfInBounds a.block (.map es c))[a.block]? = some (.map es c) := by simp [hlt]
    rw [h1, hb]
  · rw [Array.getElem?_setIfInBounds_ne e]
theorem setObjW_frozen {w : World} {b : Nat} {M : AL} (h : IMap w b M) (es : Array MapEntry) (c : Nat) (a : Addr) : (setObjW w b (.map es c)).frozen? a = w.frozen? a := by
  obtain ⟨es0, c0, hb, _⟩ := h
  have hlt := (Array.getElem?_eq_some_iff.1 hb).1
  unfold World.frozen? setObjW
  by_cases e : b = a.block
  · subst e
    have h1 : (w.heap.setIfInBounds a.block (.map es c))[a.block]? = some (.map es c) := by simp [hlt]
    rw [h1, hb]
  · rw [Array.getElem?_setIfInBounds_ne e]


/-- What is known behind a store into a map, or a delete. -/
structure MapTo (w : World) (b : Nat) (M' : AL) (w' : World) : Prop where
  map : IMap w' b M'
  upd : Upd [b] w w'
  size : w'.heap.size = w.heap.size
  cells : ∀ a, w'.cell? a = w.cell? a
  frozens : ∀ a, w'.frozen? a = w.frozen? a

theorem IMap.to {M' : AL} (h : IMap w b M) (es : Array MapEntry) (c : Nat) (hM : es.toList.map (fun e => (e.key, e.val)) = M'.map (fun p => (Value.int .i64 p.1, p.2))) (hS : Stamped es.toList c) : MapTo w b M' (setObjW w b (.map es c)) :=
  ⟨⟨es, c, setObjW_at h.lt _, hM, hS⟩, setObjW_upd _ _ _, by simp [setObjW], setObjW_cell h es c, setObjW_frozen h es c⟩

theorem IMap.put (h : IMap w b M) (hT : P.underlying T = some (.map K E)) (hk : P.underlying K = some (.int .i64)) (k : Int) (v : Value) :
    ∃ w', (Instr.mapUpdate T (.map (some b)) (.int .i64 k) v).run P w = .ok () w' ∧ MapTo w b (putM M k v) w' := by
  have h0 := h
  obtain ⟨es, clock, hb, hM, hS⟩ := h
  have hg : (getObj b).run P w = .ok (.map es clock) w := by simp [getObj, Sem.run, hb]
  have hs : ∀ o, (setObj b o).run P w = .ok () (setObjW w b o) := fun o => by simp [setObj, Sem.run, hb, setObjW]
  cases hf : idxM M k 0 with
  | none =>
    refine ⟨setObjW w b (.map (es.push { key := .int .i64 k, val := v, born := clock }) (clock + 1)), ?_, h0.to _ _ ?_ (by rw [Array.toList_push]; exact hS.push _)⟩
    · simp [Instr.mapUpdate, run_underlying hT, hg, run_checkKey_int hk, run_findKey_int hk hM, hf, hs]
    · rw [push_eq k M 0 v hf]; simp [hM]
  | some p =>
    obtain ⟨i, x⟩ := p
    obtain ⟨_, hmod, hkey⟩ := modify_eq k v es.toList M 0 i x hM hf
    rw [Nat.sub_zero] at hmod hkey
    have hkey' : ((es[i]?).map (·.key)).getD (.int .i64 k) = .int .i64 k := by
      have : es.toList[i]? = es[i]? := by simp
      rw [← this, hkey]; rfl
    have hst : ∀ w, (Instr.keyThatStays (.int .i64 k) (.int .i64 k)).run P w = .ok (.int .i64 k) w := by
      intro w
      have h : ∀ n : Nat, Instr.sameBits (n + 1) (.int .i64 k) (.int .i64 k) = true := fun n => by simp [Instr.sameBits]
      simp [Instr.keyThatStays, h 9999]
    refine ⟨setObjW w b (.map (es.modify i fun e => { e with key := .int .i64 k, val := v }) clock), ?_, h0.to _ _ ?_ (by rw [Array.toList_modify]; exact hS.modify _ _ (fun _ => rfl))⟩
    · simp only [Instr.mapUpdate, Sem.run_bind, run_underlying hT, hg, run_checkKey_int hk, run_findKey_int hk hM, hf, hkey', hst, Result.andThen_ok, hs]
    · rw [Array.toList_modify]; exact hmod

theorem IMap.del (h : IMap w b M) (hT : P.underlying T = some (.map K E)) (hk : P.underlying K = some (.int .i64)) (k : Int) (ty : TypeId) :
    ∃ w', (Builtin.delete_ #[T, K] ty #[.map (some b), .int .i64 k]).run P w = .ok (.tuple #[]) w' ∧ MapTo w b (delM M k) w' := by
  have h0 := h
  obtain ⟨es, clock, hb, hM, hS⟩ := h
  have hg : (getObj b).run P w = .ok (.map es clock) w := by simp [getObj, Sem.run, hb]
  have hs : ∀ o, (setObj b o).run P w = .ok () (setObjW w b o) := fun o => by simp [setObj, Sem.run, hb, setObjW]
  cases hf : idxM M k 0 with
  | none =>
    refine ⟨setObjW w b (.map es clock), ?_, h0.to _ _ ?_ hS⟩
    · simp [Builtin.delete_, run_underlying hT, hg, run_checkKey_int hk, run_findKey_int hk hM, hf, hs]
    · rw [del_none k M 0 hf]; exact hM
  | some p =>
    obtain ⟨i, x⟩ := p
    obtain ⟨_, hmod⟩ := erase_eq k es.toList M 0 i x hM hf
    rw [Nat.sub_zero] at hmod
    refine ⟨setObjW w b (.map (es.eraseIdxIfInBounds i) clock), ?_, h0.to _ _ ?_ (by rw [Array.toList_eraseIdxIfInBounds]; exact hS.erase _)⟩
    · simp [Builtin.delete_, run_underlying hT, hg, run_checkKey_int hk, run_findKey_int hk hM, hf, hs]
    · rw [Array.toList_eraseIdxIfInBounds]; exact hmod
end

section
variable {P : Program} (w : World) {ops : Array Oper} {rest : List Oper} {o : Oper} {a : Act} {Q : Exit → Act → World → Prop} {b : Nat} {M : AL} {T K E : TypeId}
/-- 'm[k] = v', at the operation. -/
theorem wpList_put (hg : o.guard = none) (m x v : Operand) (hop : o.op = Op.mapUpdate T m x v) (hT : P.underlying T = some (.map K E)) (hk : P.underlying K = some (.int .i64))
    (k : Int) (u : Value) (hm : a.eval m = .map (some b)) (hx : a.eval x = .int .i64 k) (hv : a.eval v = u) (h : IMap w b M)
    (hK : ∀ w', MapTo w b (putM M k u) w' → wpList P ops Q rest (a.put o.dst undef) w') : wpList P ops Q (o :: rest) a w := by
  refine wpList_plain hg fun K' hK' => ?_
  obtain ⟨w', hrun, r⟩ := h.put (P := P) hT hk k u
  unfold Oper.wp
  simp [execOp, hop, hm, hx, hv, hrun, Result.andThen]
  exact hK' _ _ (hK w' r)

/-- 'delete(m, k)', at the operation. -/
theorem wpList_del (hg : o.guard = none) (m x : Operand) (hop : o.op = Op.call { callee := Callee.builtin Builtin.delete, args := #[m, x], argTypes := #[T, K] }) (hT : P.underlying T = some (.map K E)) (hk : P.underlying K = some (.int .i64))
    (k : Int) (hm : a.eval m = .map (some b)) (hx : a.eval x = .int .i64 k) (h : IMap w b M)
    (hK : ∀ w', MapTo w b (delM M k) w' → wpList P ops Q rest (a.put o.dst (.tuple #[])) w') : wpList P ops Q (o :: rest) a w := by
  refine wpList_plain hg fun K' hK' => ?_
  obtain ⟨w', hrun, r⟩ := h.del (P := P) hT hk k o.type
  unfold Oper.wp
  simp [execOp, hop, resolve, invoke, builtin, hm, hx, hrun, Result.andThen]
  exact hK' _ _ (hK w' r)

/-- 'v, ok := m[k]', at the operation. -/
theorem wpList_look2 (hg : o.guard = none) (m x : Operand) (hop : o.op = Op.lookup T m x true) (hT : P.underlying T = some (.map K E)) (hk : P.underlying K = some (.int .i64)) {z : Value} (hz : ∀ w, (zeroValue E).run P w = .ok z w)
    (k : Int) (hm : a.eval m = .map (some b)) (hx : a.eval x = .int .i64 k) (h : IMap w b M) (u : Value) (ok : Bool) (hu : (lookM M k).getD z = u) (hok : (lookM M k).isSome = ok)
    (hK : wpList P ops Q rest (a.put o.dst (.tuple #[u, .bool ok])) w) : wpList P ops Q (o :: rest) a w := by
  refine wpList_plain hg fun K' hK' => ?_
  have hrun := h.look (P := P) hT hk hz k true
  subst hu hok
  unfold Oper.wp
  simp [execOp, hop, hm, hx, hrun, Result.andThen]
  exact hK' _ _ hK

/-- 'm[k]', at the operation. -/
theorem wpList_look1 (hg : o.guard = none) (m x : Operand) (hop : o.op = Op.lookup T m x false) (hT : P.underlying T = some (.map K E)) (hk : P.underlying K = some (.int .i64)) {z : Value} (hz : ∀ w, (zeroValue E).run P w = .ok z w)
    (k : Int) (hm : a.eval m = .map (some b)) (hx : a.eval x = .int .i64 k) (h : IMap w b M) (u : Value) (hu : (lookM M k).getD z = u)
    (hK : wpList P ops Q rest (a.put o.dst u) w) : wpList P ops Q (o :: rest) a w := by
  refine wpList_plain hg fun K' hK' => ?_
  have hrun := h.look (P := P) hT hk hz k false
  subst hu
  unfold Oper.wp
  simp [execOp, hop, hm, hx, hrun, Result.andThen]
  exact hK' _ _ hK
end
end Go.Proofs.YtfeobcmcellcpaaGreat

/-! MapE -/
namespace Go.Proofs.YtfeobcmcellcpaaGreat
open Go.RowKit

/-- The map at block b has the number k, its entry's stamp is s. -/
def HasEnt (w : World) (b : Nat) (k : Int) (s : Nat) : Prop :=
  ∃ es clock M i x, w.heap[b]? = some (.map es clock) ∧ es.toList.map (fun e => (e.key, e.val)) = M.map (fun p => (Value.int .i64 p.1, p.2)) ∧ Stamped es.toList clock ∧ idxM M k 0 = some (i, x) ∧ (es.toList[i]?).map (·.born) = some s

/-- What the entry holds. -/
def entVal (w : World) (b : Nat) (k : Int) : Value := match w.heap[b]? with
  | some (.map es _) => match Instr.findNow (.int .i64) (.int .i64 k) es.toList 0 with
    | some (some (_, v)) => v
    | _ => undef
  | _ => undef

/-- The store into the entry of a stamp. -/
def storeW (w : World) (b : Nat) (s : Nat) (v : Value) : World := match w.heap[b]? with
  | some (.map es c) => match es.findIdx? (fun e => (e.born : Int) == (s : Int)) with
    | some i => setObjW w b (.map (es.modify i fun e => { e with val := v }) c)
    | none => w
  | _ => w

theorem idx_get {k : Int} : ∀ {es : List MapEntry} {M : AL} {i0 i : Nat} {x : Value}, es.map (fun e => (e.key, e.val)) = M.map (fun p => (Value.int .i64 p.1, p.2)) → idxM M k i0 = some (i, x) →
    i0 ≤ i ∧ ∃ e, es[i - i0]? = some e ∧ e.key = .int .i64 k ∧ e.val = x := by
  intro es
  induction es with
  | nil => intro M i0 i x h hi; cases M with
    | nil => simp [idxM] at hi
    | cons p r => simp at h
  | cons e es ih =>
    intro M i0 i x h hi
    cases M with
    | nil => simp at h
    | cons p r =>
      obtain ⟨a, y⟩ := p
      simp only [List.map_cons, List.cons.injEq, Prod.mk.injEq] at h
      obtain ⟨⟨h1, h2⟩, h3⟩ := h
      simp only [idxM] at hi
      by_cases hk : k = a
      · subst hk
        rw [if_pos rfl] at hi
        simp only [Option.some.injEq, Prod.mk.injEq] at hi
        obtain ⟨rfl, rfl⟩ := hi
        exact ⟨Nat.le_refl _, e, by simp, h1, h2⟩
      · rw [if_neg hk] at hi
        obtain ⟨g1, e', g2, g3, g4⟩ := ih h3 hi
        obtain ⟨j, rfl⟩ : ∃ j, i = i0 + 1 + j := ⟨i - (i0 + 1), by omega⟩
        rw [show i0 + 1 + j - (i0 + 1) = j by omega] at g2
        rw [show i0 + 1 + j - i0 = j + 1 by omega]
        exact ⟨by omega, e', by simpa using g2, g3, g4⟩

theorem setObjW_self {w : World} {b : Nat} {o : Obj} (h : w.heap[b]? = some o) : setObjW w b o = w := by
  unfold setObjW
  have : w.heap.setIfInBounds b o = w.heap := by
    apply Array.ext_getElem?
    intro i
    by_cases e : b = i
    · subst e
      have hlt := (Array.getElem?_eq_some_iff.1 h).1
      rw [h]; simp [hlt]
    · rw [Array.getElem?_setIfInBounds_ne e]
  rw [this]

theorem arr_find {α : Type} (es : Array α) (p : α → Bool) : es.findIdx? p = es.toList.findIdx? p := by
  obtain ⟨l⟩ := es
  exact List.findIdx?_toArray ..
theorem al_inj : ∀ {M N : AL}, M.map (fun p => (Value.int .i64 p.1, p.2)) = N.map (fun p => (Value.int .i64 p.1, p.2)) → M = N := by
  intro M
  induction M with
  | nil => intro N h; cases N with
    | nil => rfl
    | cons p r => simp at h
  | cons p r ih =>
    intro N h
    cases N with
    | nil => simp at h
    | cons q t =>
      simp only [List.map_cons, List.cons.injEq, Prod.mk.injEq, Value.int.injEq, true_and] at h
      rw [Prod.ext h.1.1 h.1.2, ih h.2]

theorem stamp_idx {es : List MapEntry} {c : Nat} (h : Stamped es c) {i s : Nat} (hi : (es[i]?).map (·.born) = some s) : es.findIdx? (fun e => (e.born : Int) == (s : Int)) = some i := by
  have hil : i < es.length := by
    rcases Nat.lt_or_ge i es.length with h | h
    · exact h
    · rw [List.getElem?_eq_none h] at hi; cases hi
  rw [List.getElem?_eq_getElem hil] at hi
  simp only [Option.map_some, Option.some.injEq] at hi
  rw [List.findIdx?_eq_some_iff_getElem]
  refine ⟨hil, by simp [hi], fun j hj => ?_⟩
  have hp := List.pairwise_iff_getElem.1 h.1 j i (by simpa using Nat.lt_trans hj hil) (by simpa using hil) hj
  rw [List.getElem_map, List.getElem_map, hi] at hp
  simp; omega

section
variable {P : Program} {w : World} {b : Nat} {T K E : TypeId}

theorem HasEnt.entry {k : Int} {s : Nat} (h : HasEnt w b k s) (hT : P.underlying T = some (.map K E)) (hk : P.underlying K = some (.int .i64)) :
    (Instr.mapEntry T (.map (some b)) (.int .i64 k)).run P w = .ok (.tuple #[entVal w b k, .int .i64 s]) w := by
  obtain ⟨es, clock, M, i, x, hb, hM, hS, hi, hs⟩ := h
  have hg : (getObj b).run P w = .ok (.map es clock) w := by simp [getObj, Sem.run, hb]
  have hss : ∀ o, (setObj b o).run P w = .ok () (setObjW w b o) := fun o => by simp [setObj, Sem.run, hb, setObjW]
  obtain ⟨_, e, he, hek, hev⟩ := idx_get hM hi
  rw [Nat.sub_zero] at he
  rw [he] at hs
  simp only [Option.map_some, Option.some.injEq] at hs
  have hst : ∀ w, (Instr.keyThatStays (.int .i64 k) (.int .i64 k)).run P w = .ok (.int .i64 k) w := by
    intro w
    have h : ∀ n : Nat, Instr.sameBits (n + 1) (.int .i64 k) (.int .i64 k) = true := fun n => by simp [Instr.sameBits]
    simp [Instr.keyThatStays, h 9999]
  have he' : es[i]? = some e := by rw [← he]; simp
  have hmod : (es.modify i fun e => { e with key := Value.int .i64 k }) = es := by
    apply Array.ext_getElem?
    intro j
    rw [Array.getElem?_modify]
    by_cases hj : i = j
    · subst hj; rw [if_pos rfl, he']; simp [← hek]
    · rw [if_neg hj]
  have hv : entVal w b k = x := by unfold entVal; rw [hb]; simp only [findNow_eq .i64 k es.toList M 0 hM, hi]
  simp only [Instr.mapEntry, Sem.run_bind, run_underlying hT, hg, run_checkKey_int hk, run_findKey_int hk hM, hi, he', Option.map_some, Option.getD_some, hek, hst, Result.andThen_ok, hss, hmod, setObjW_self hb, Sem.run_pure, goInt, hs, hv]

theorem HasEnt.store {k : Int} {s : Nat} (h : HasEnt w b k s) (v : Value) : (Instr.entryStore T (.map (some b)) (.int .i64 s) v).run P w = .ok () (storeW w b s v) := by
  obtain ⟨es, clock, M, i, x, hb, hM, hS, hi, hs⟩ := h
  have hg : (getObj b).run P w = .ok (.map es clock) w := by simp [getObj, Sem.run, hb]
  have hss : ∀ o, (setObj b o).run P w = .ok () (setObjW w b o) := fun o => by simp [setObj, Sem.run, hb, setObjW]
  have hf : es.findIdx? (fun e => (e.born : Int) == (s : Int)) = some i := by
    rw [arr_find]; exact stamp_idx hS hs
  have hsw : storeW w b s v = setObjW w b (.map (es.modify i fun e => { e with val := v }) clock) := by unfold storeW; rw [hb]; simp only [hf]
  simp only [Instr.entryStore, Sem.run_bind, hg, Result.andThen_ok, asInt, asIntOf, Sem.run_pure, hf, hss, hsw]

theorem storeW_shape (w : World) (b s : Nat) (v : Value) (es : Array MapEntry) (c : Nat) (hb : w.heap[b]? = some (.map es c)) : storeW w b s v = w ∨ ∃ i, storeW w b s v = setObjW w b (.map (es.modify i fun e => { e with val := v }) c) := by
  unfold storeW; rw [hb]
  cases hf : es.findIdx? (fun e => (e.born : Int) == (s : Int)) with
  | none => left; simp only [hf]
  | some i => right; exact ⟨i, by simp only [hf]⟩
theorem idx_modify {k : Int} : ∀ (es : List MapEntry) (M : AL) (j : Nat) (v : Value), es.map (fun e => (e.key, e.val)) = M.map (fun p => (Value.int .i64 p.1, p.2)) →
    ∃ M', (es.modify j fun e => { e with val := v }).map (fun e => (e.key, e.val)) = M'.map (fun p => (Value.int .i64 p.1, p.2)) ∧ ∀ i0 i x, idxM M k i0 = some (i, x) → ∃ y, idxM M' k i0 = some (i, y) := by
  intro es
  induction es with
  | nil => intro M j v h; exact ⟨M, by simpa using h, fun _ _ x h => ⟨x, h⟩⟩
  | cons e es ih =>
    intro M j v h
    cases M with
    | nil => simp at h
    | cons p r =>
      obtain ⟨a, y⟩ := p
      simp only [List.map_cons, List.cons.injEq, Prod.mk.injEq] at h
      obtain ⟨⟨h1, h2⟩, h3⟩ := h
      cases j with
      | zero =>
        refine ⟨(a, v) :: r, by simp [h1, h3], fun i0 i x hi => ?_⟩
        simp only [idxM] at hi ⊢
        by_cases hk : k = a
        · rw [if_pos hk] at hi ⊢; simp only [Option.some.injEq, Prod.mk.injEq] at hi; exact ⟨v, by rw [hi.1]⟩
        · rw [if_neg hk] at hi ⊢; exact ⟨x, hi⟩
      | succ j =>
        obtain ⟨M', g1, g2⟩ := ih r j v h3
        refine ⟨(a, y) :: M', by simp [h1, h2, g1], fun i0 i x hi => ?_⟩
        simp only [idxM] at hi ⊢
        by_cases hk : k = a
        · rw [if_pos hk] at hi ⊢; exact ⟨x, hi⟩
        · rw [if_neg hk] at hi ⊢; exact g2 _ _ _ hi

theorem HasEnt.stays {k : Int} {s : Nat} (h : HasEnt w b k s) (s' : Nat) (v : Value) : HasEnt (storeW w b s' v) b k s := by
  have h0 := h
  obtain ⟨es, clock, M, i, x, hb, hM, hS, hi, hs⟩ := h
  rcases storeW_shape w b s' v es clock hb with e | ⟨j, e⟩
  · rw [e]; exact h0
  · rw [e]
    obtain ⟨M', g1, g2⟩ := idx_modify (k := k) es.toList M j v hM
    obtain ⟨y, hy⟩ := g2 0 i x hi
    have hlt := (Array.getElem?_eq_some_iff.1 hb).1
    refine ⟨_, clock, M', i, y, setObjW_at hlt _, by rw [Array.toList_modify]; exact g1, by rw [Array.toList_modify]; exact hS.modify _ _ (fun _ => rfl), hy, ?_⟩
    rw [Array.toList_modify, List.getElem?_modify]
    cases hei : es.toList[i]? with
    | none => rw [hei] at hs; cases hs
    | some e' => rw [hei] at hs; simp only [Option.map_some] at hs ⊢; split <;> exact hs
theorem HasEnt.lt {k : Int} {s : Nat} (h : HasEnt w b k s) : b < w.heap.size := by
  obtain ⟨es, clock, M, i, x, hb, _⟩ := h
  exact (Array.getElem?_eq_some_iff.1 hb).1
theorem HasEnt.upd {k : Int} {s : Nat} {S : List Nat} {w' : World} (h : HasEnt w b k s) (hu : Upd S w w') (hn : b ∉ S) : HasEnt w' b k s := by
  have hl := h.lt
  obtain ⟨es, clock, M, i, x, hb, r⟩ := h
  exact ⟨es, clock, M, i, x, (hu.block b hl hn).trans hb, r⟩

theorem storeW_to {k : Int} {s : Nat} {M : AL} (h : HasEnt w b k s) (hI : IMap w b M) (v : Value) : MapTo w b (putM M k v) (storeW w b s v) := by
  obtain ⟨es, clock, M0, i, x, hb, hM, hS, hi, hs⟩ := h
  have hI0 := hI
  obtain ⟨es', clock', hb', hM', hS'⟩ := hI
  rw [hb] at hb'
  simp only [Option.some.injEq, Obj.map.injEq] at hb'
  obtain ⟨rfl, rfl⟩ := hb'
  have hMM : M0 = M := al_inj (hM.symm.trans hM')
  subst hMM
  have hf : es.findIdx? (fun e => (e.born : Int) == (s : Int)) = some i := by
    rw [arr_find]; exact stamp_idx hS hs
  have hsw : storeW w b s v = setObjW w b (.map (es.modify i fun e => { e with val := v }) clock) := by unfold storeW; rw [hb]; simp only [hf]
  obtain ⟨_, hmod, hkey⟩ := modify_eq k v es.toList M0 0 i x hM hi
  rw [Nat.sub_zero] at hmod hkey
  rw [hsw]
  refine hI0.to _ _ ?_ (by rw [Array.toList_modify]; exact hS.modify _ _ (fun _ => rfl))
  rw [Array.toList_modify, ← hmod]
  congr 1
  apply List.ext_getElem?
  intro j
  rw [List.getElem?_modify, List.getElem?_modify]
  by_cases hj : i = j
  · subst hj
    cases hei : es.toList[i]? with
    | none => rfl
    | some e' =>
      rw [hei] at hkey
      simp only [Option.map_some, Option.some.injEq] at hkey
      simp [← hkey]
  · simp [hj]
end
end Go.Proofs.YtfeobcmcellcpaaGreat

/-! Play -/
namespace Go.Proofs.YtfeobcmcellcpaaGreat
open Go.RowKit

/-- What Mod answers. -/
def modI (v n : Int) : Int := wrap64 ((IntKind.u64.wrap v).tmod n)
theorem modI_bd (v n : Int) (h : 0 < n) (h2 : n ≤ 9223372036854775807) : 0 ≤ modI v n ∧ modI v n < n := by
  have h0 : 0 ≤ IntKind.u64.wrap v := by rw [IntKind.wrap_u64]; omega
  unfold modI
  rw [Int.tmod_eq_emod_of_nonneg h0]
  have h1 := Int.emod_nonneg (IntKind.u64.wrap v) (by omega : n ≠ 0)
  have h3 := Int.emod_lt_of_pos (IntKind.u64.wrap v) h
  unfold wrap64
  omega


set_option maxHeartbeats 400000 in
theorem mod_any (v n : Int) (h : 0 < n) (h2 : n ≤ 9223372036854775807) (w : World) : Calls Tryz.prog 13 #[.int .i64 v, .int .i64 n] w (fun e w' => e = .returned (.int .i64 (modI v n)) ∧ w = w') := by
  go_enter Tryz.func13, Tryz.ntmps13
  go_wp2
  go_ret
  exact ⟨rfl, rfl⟩


/-- A deed as a value. -/
def deedV (k : Int) (key : Int) (id : Int) : Value := .agg #[.int .i64 k, .int .u64 key, .int .i64 id]

end Go.Proofs.YtfeobcmcellcpaaGreat

/-! Args -/
namespace Go.Proofs.YtfeobcmcellcpaaGreat
open Go.ChangeShapes Go.WideShapes Go.ChangeAt Go.RowKit Go.Deep

theorem Tryzown : ownKnob Tryz.prog.godebug = none := by kernel_rfl
theorem TryzlaidOut : laidOutB Tryz.prog = true := by kernel_rfl

/-- A slice of n rows of numbers, of the kinds ks: what they are. -/
def RowsAt (w : World) (ks : List IntKind) (v : Value) (n : Nat) (D : Nat → Nat → Int) : Prop :=
  ∃ ao cap, v = .slice ao n cap ∧ n ≤ maxLen ∧ (n = 0 ∨ ∃ b off, ao = some ⟨b, off, none⟩ ∧ b < w.heap.size ∧
    ∀ i, i < n → ∀ j k, ks[j]? = some k → w.cell? ⟨b, off + (i * ks.length + j), none⟩ = some (.int k (D i j)) ∧ (Lit.int k (D i j)).wf = true)

section
variable {H : Type} {enc : TypeId × Value → H} {P : Program} {w : World}

theorem spot_none {a : Addr} {u : Value} (h : w.cell? a = some u) : a.spot = none := by
  unfold World.cell? at h
  cases hs : a.spot with
  | none => rfl
  | some s => rw [hs] at h; split at h <;> simp at h

theorem add_none (b off j : Nat) : (⟨b, off, none⟩ : Addr).add j = ⟨b, off + j, none⟩ := by unfold Addr.add; split <;> simp_all

def numIn (o : Option Value) : Int := match o with | some (.int _ x) => x | _ => 0

theorem open_rows {t e : TypeId} {fs : Array Field} {ks : List IntKind} {r : Reach} {b0 : Nat} {v : Value} {d : DataW H} {p : List MemPlace} (ht : P.underlying t = some (.slice e)) (he : P.underlying e = some (.struct fs))
    (hone : oneCellFields P fs = true) (hC : P.cellsOf e = fs.size) (hl : ks.length = fs.size) (h0 : 0 < ks.length) (hk : ∀ (j : Nat) (k : IntKind), ks[j]? = some k → ∃ f, fs[j]? = some f ∧ P.underlying f.type = some (.int k))
    (hv : Value.okWide P w r b0 t v) (h : DataW.Trod enc P w 0 (fun _ => true) true t v d p) : ∃ n D, RowsAt w ks v n D := by
  obtain ⟨ao, len, cap, rfl⟩ := okWide_slice ht hv
  obtain ⟨fuel, hf⟩ := h
  rcases open_slice ht hf with ⟨hcs, _⟩ | ⟨a, len', cap', m, n, D, Pl, hcs, _, hlc, hcm, hm, _, hi⟩
  · simp [Value.cells] at hcs
    obtain ⟨rfl, rfl, rfl⟩ := hcs
    exact ⟨0, fun _ _ => 0, none, 0, rfl, by unfold maxLen; omega, .inl rfl⟩
  · simp [Value.cells] at hcs
    obtain ⟨rfl, rfl, rfl⟩ := hcs
    have hmc : m = cap := by simpa using hm
    subst hmc
    have each : ∀ i, i < len → ∀ (j : Nat) (k : IntKind), ks[j]? = some k → ∃ x, w.cell? (a.add (i * fs.size + j)) = some (.int k x) ∧ (Lit.int k x).wf = true := by
      intro i hi' j k hjk
      obtain ⟨cs', hc, ht'⟩ := hi i (by omega)
      rw [hC] at hc
      obtain ⟨ys, n', hn', hy, hlen, hyl, hff⟩ := DataW.trod_struct he ht'
      obtain ⟨_, hcl, hat⟩ := World.cells?_some hc
      obtain ⟨f, hfj, hku⟩ := hk j k hjk
      obtain ⟨ho, hk1⟩ := hone_of hone j f hfj
      have hjl : j < fs.size := (Array.getElem?_eq_some_iff.1 hfj).1
      have hcell := hat j hjl
      have h1 := hff j f hfj
      rw [ho, hk1] at h1
      have hone' : (cs'.drop j).take 1 = [cs'[j]'(by omega)] := by
        rw [List.drop_eq_getElem_cons (by omega)]
        rfl
      rw [hone'] at h1
      have hys : ys[j]? = some (ys[j]'(by omega)) := List.getElem?_eq_getElem (by omega)
      obtain ⟨x, hx1, _, hx3⟩ := DataW.trod_int hku (h1.trans hys)
      refine ⟨x, ?_, hx3⟩
      rw [← Go.Deep.add_add, hcell]
      have : cs'[j]? = some (cs'[j]'(by omega)) := List.getElem?_eq_getElem (by omega)
      rw [this]
      simp only [List.cons.injEq, and_true] at hx1
      rw [hx1]
    rcases Nat.eq_zero_or_pos len with rfl | hpos
    · exact ⟨0, fun _ _ => 0, some a, m, rfl, by omega, .inl rfl⟩
    · obtain ⟨k0, hk0⟩ : ∃ k, ks[0]? = some k := ⟨ks[0], List.getElem?_eq_getElem h0⟩
      obtain ⟨x0, hx0, _⟩ := each 0 hpos 0 k0 hk0
      obtain ⟨b, off, sp⟩ := a
      have hsp : sp = none := by
        have := spot_none hx0
        rw [Nat.zero_mul, Nat.zero_add] at this
        simpa [Addr.add] using this
      subst hsp
      have hb := World.block_lt_of_cell? w _ hx0
      rw [add_none] at hb
      refine ⟨len, fun i j => numIn (w.cell? ⟨b, off + (i * ks.length + j), none⟩), some ⟨b, off, none⟩, m, rfl, by omega, .inr ⟨b, off, rfl, hb, fun i hi' j k hjk => ?_⟩⟩
      obtain ⟨x, hx, hw⟩ := each i hi' j k hjk
      rw [add_none, ← hl] at hx
      have e : numIn (w.cell? ⟨b, off + (i * ks.length + j), none⟩) = x := by rw [hx]; rfl
      simp only [e]
      exact ⟨hx, hw⟩

theorem open_nums {t e : TypeId} {k : IntKind} {r : Reach} {b0 : Nat} {v : Value} {d : DataW H} {p : List MemPlace} (ht : P.underlying t = some (.slice e)) (he : P.underlying e = some (.int k)) (hC : P.cellsOf e = 1)
    (hv : Value.okWide P w r b0 t v) (h : DataW.Trod enc P w 0 (fun _ => true) true t v d p) : ∃ n D, RowsAt w [k] v n D := by
  obtain ⟨ao, len, cap, rfl⟩ := okWide_slice ht hv
  obtain ⟨fuel, hf⟩ := h
  rcases open_ints ht he hC hf with ⟨hcs, _⟩ | ⟨a, len', cap', zs, hcs, _, hlc, hcm, hz, _, hcell, hwf⟩
  · simp [Value.cells] at hcs
    obtain ⟨rfl, rfl, rfl⟩ := hcs
    exact ⟨0, fun _ _ => 0, none, 0, rfl, by unfold maxLen; omega, .inl rfl⟩
  · simp [Value.cells] at hcs
    obtain ⟨rfl, rfl, rfl⟩ := hcs
    have hzc : zs.length = cap := by simpa using hz
    rcases Nat.eq_zero_or_pos len with rfl | hpos
    · exact ⟨0, fun _ _ => 0, some a, cap, rfl, by omega, .inl rfl⟩
    · have h0 := hcell 0 (by omega)
      obtain ⟨b, off, sp⟩ := a
      have hsp : sp = none := by
        have := spot_none h0
        simpa [Addr.add] using this
      subst hsp
      have hb := World.block_lt_of_cell? w _ h0
      rw [add_none] at hb
      refine ⟨len, fun i _ => zs.getD i 0, some ⟨b, off, none⟩, cap, rfl, by omega, .inr ⟨b, off, rfl, hb, fun i hi' j k' hjk => ?_⟩⟩
      have hj : j = 0 := by
        rcases Nat.eq_zero_or_pos j with h | h
        · exact h
        · rw [List.getElem?_eq_none (by simp; omega)] at hjk; cases hjk
      subst hj
      simp only [List.getElem?_cons_zero, Option.some.injEq] at hjk
      subst hjk
      have := hcell i (by omega)
      rw [add_none] at this
      have e : zs.getD i 0 ∈ zs := by rw [List.getD_eq_getElem?_getD, List.getElem?_eq_getElem (by omega)]; simp
      exact ⟨by simpa using this, hwf _ e⟩
end

theorem wf_u64_bd {n : Int} (h : (Lit.int .u64 n).wf = true) : 0 ≤ n ∧ n ≤ 18446744073709551615 := by
  simp only [Lit.wf, Bool.and_eq_true, decide_eq_true_eq] at h
  exact h
theorem wf_i64_bd {n : Int} (h : (Lit.int .i64 n).wf = true) : -9223372036854775808 ≤ n ∧ n ≤ 9223372036854775807 := by
  simp only [Lit.wf, Bool.and_eq_true, decide_eq_true_eq] at h
  exact h

theorem RowsAt.upd {S : List Nat} {w w' : World} {ks : List IntKind} {v : Value} {n : Nat} {D : Nat → Nat → Int} (h : RowsAt w ks v n D) (hu : Upd S w w') (hs : ∀ k ∈ S, w.heap.size ≤ k) : RowsAt w' ks v n D := by
  obtain ⟨ao, cap, hv, hm, h | ⟨b, off, ha, hb, hc⟩⟩ := h
  · exact ⟨ao, cap, hv, hm, .inl h⟩
  · refine ⟨ao, cap, hv, hm, .inr ⟨b, off, ha, Nat.lt_of_lt_of_le hb hu.size, fun i hi j k hk => ?_⟩⟩
    rw [hu.cell hb (fun e => by have := hs b e; omega)]
    exact hc i hi j k hk
end Go.Proofs.YtfeobcmcellcpaaGreat

/-! Deed -/
namespace Go.Proofs.YtfeobcmcellcpaaGreat
open Go.RowKit

def nameI (id : Int) : Int := if modI id 19 = 18 then id else modI id 9



/-- An item in a variable of its own. -/
def ItemVar (w' : World) (x : It) (s : Value) (wx : World) : Prop :=
  ∃ g : Nat, s = .pointer (some ⟨g, 0, none⟩) ∧ w'.heap.size ≤ g ∧ g < wx.heap.size ∧ wx.cell? ⟨g, 0, none⟩ = some (.int .u64 x.1) ∧ wx.cell? ⟨g, 1, none⟩ = some (.int .i64 x.2) ∧ Upd [] w' wx
end Go.Proofs.YtfeobcmcellcpaaGreat

/-! ItemL -/
namespace Go.Proofs.YtfeobcmcellcpaaGreat
open Go.RowKit

def atI (A : List It) (i : Nat) : It := A.getD i zIt
theorem atI_get (A : List It) (i : Nat) (hi : i < A.length) : atI A i = A[i] := by unfold atI; rw [List.getD_eq_getElem?_getD, List.getElem?_eq_getElem hi]; rfl
theorem atI_append (A : List It) (x : It) (i : Nat) (hi : i < A.length) : atI (A ++ [x]) i = atI A i := by unfold atI; rw [List.getD_eq_getElem?_getD, List.getElem?_append_left hi, ← List.getD_eq_getElem?_getD]
theorem atI_inj {A : List It} (h : NdI A) {i j : Nat} (hi : i < A.length) (hj : j < A.length) (e : (atI A i).2 = (atI A j).2) : i = j := by
  unfold NdI at h
  have hp := List.pairwise_iff_getElem.1 h
  rw [atI_get A i hi, atI_get A j hj] at e
  rcases Nat.lt_trichotomy i j with hij | rfl | hij
  · exact absurd (by rw [List.getElem_map, List.getElem_map]; exact e) (hp i j (by simpa using hi) (by simpa using hj) hij)
  · rfl
  · exact absurd (by rw [List.getElem_map, List.getElem_map]; exact e.symm) (hp j i (by simpa using hj) (by simpa using hi) hij)
theorem item_cells {w : World} {g n cap : Nat} {A : List It} (h : Row w 74 2 g n cap (A.flatMap itVs)) {i : Nat} (hi : i < A.length) :
    w.cell? ⟨g, i * 2, none⟩ = some (.int .u64 (atI A i).1) ∧ w.cell? ⟨g, i * 2 + 1, none⟩ = some (.int .i64 (atI A i).2) := by
  have hx : A[i]? = some (atI A i) := by rw [atI_get A i hi]; exact List.getElem?_eq_getElem hi
  exact ⟨h.cell (by rw [← Nat.add_zero (i * 2), flat_get itVs 2 itVs_len A i 0 (by omega) _ hx]; rfl), h.cell (by rw [flat_get itVs 2 itVs_len A i 1 (by omega) _ hx]; rfl)⟩
theorem flat_take {α : Type} (f : α → List Value) (m : Nat) (hf : ∀ x, (f x).length = m) : ∀ (xs : List α) (k : Nat), (xs.flatMap f).take (k * m) = (xs.take k).flatMap f
  | [], k => by simp
  | x :: xs, 0 => by simp
  | x :: xs, k + 1 => by
      rw [List.flatMap_cons, List.take_succ_cons, List.flatMap_cons, List.take_append, hf x, Nat.succ_mul, Nat.add_sub_cancel, flat_take f m hf xs k, List.take_of_length_le (by rw [hf x]; omega)]
def itV (x : It) (b : Bool) : Value := .tuple #[.agg #[.int .u64 x.1, .int .i64 x.2], .bool b]
def firstV : List It → Value | [] => itV zIt false | x :: _ => itV x true
def dropV (L : List It) (id : Int) : Value := match findI L id with | none => itV zIt false | some x => itV x true
theorem find_head (x : It) (L : List It) : findI (x :: L) x.2 = some x := by unfold findI; simp
theorem drop_head {x : It} {L : List It} (h : NdI (x :: L)) : dropI (x :: L) x.2 = L := by
  unfold dropI
  rw [List.filter_cons]
  simp only [beq_self_eq_true, Bool.not_true, Bool.false_eq_true, if_false]
  have hn : hasI L x.2 = false := by
    rw [hasI_no]
    intro y hy e
    unfold NdI at h
    rw [List.map_cons, List.nodup_cons] at h
    exact h.1 (by rw [← e]; exact List.mem_map_of_mem hy)
  have := dropI_none hn
  unfold dropI at this
  exact this
theorem RowO.items {w : World} {ao : Option Addr} {n cap : Nat} {L : List It} (h : RowO w 74 2 ao n cap (L.flatMap itVs)) (hn : L.length = n) {i : Nat} (hi : i < n) :
    ∃ g, ao = some ⟨g, 0, none⟩ ∧ g < w.heap.size ∧ w.cell? ⟨g, i * 2, none⟩ = some (.int .u64 (atI L i).1) ∧ w.cell? ⟨g, i * 2 + 1, none⟩ = some (.int .i64 (atI L i).2) := by
  obtain ⟨g, hg, hr⟩ := h.row (by omega)
  exact ⟨g, hg, hr.lt, (item_cells hr (by omega)).1, (item_cells hr (by omega)).2⟩
theorem cut_list {L : List It} (h : NdI L) {i : Nat} (hi : i < L.length) {x : It} (hx : atI L i = x) : L.take i ++ L.drop (i + 1) = dropI L x.2 := by
  have e : L = L.take i ++ x :: L.drop (i + 1) := by
    have : L.drop i = x :: L.drop (i + 1) := by rw [List.drop_eq_getElem_cons hi, ← atI_get L i hi, hx]
    rw [← this, List.take_append_drop]
  have hn : NdI (L.take i ++ x :: L.drop (i + 1)) := by rw [← e]; exact h
  unfold NdI at hn
  rw [List.map_append, List.map_cons, List.nodup_append, List.nodup_cons] at hn
  obtain ⟨_, ⟨h2, _⟩, h3⟩ := hn
  have n1 : hasI (L.take i) x.2 = false := by
    rw [hasI_no]; intro y hy ey
    exact h3 _ (List.mem_map_of_mem hy) x.2 (by simp) ey
  have n2 : hasI (L.drop (i + 1)) x.2 = false := by
    rw [hasI_no]; intro y hy ey
    exact h2 (by rw [← ey]; exact List.mem_map_of_mem hy)
  conv => rhs; rw [e]
  have d1 := dropI_none n1
  have d2 := dropI_none n2
  unfold dropI at *
  rw [List.filter_append, List.filter_cons, d1, d2]
  simp
theorem part_cells {w W : World} {g n cap : Nat} {L : List It} (h : Row w 74 2 g n cap (L.flatMap itVs)) (hU : Upd [] w W) (a m : Nat) :
    ∀ j u, (((L.drop a).take m).flatMap itVs)[j]? = some u → W.cell? ((⟨g, a * 2, none⟩ : Addr).add j) = some u := by
  intro j u hu
  rw [add_none]
  refine (h.upd hU (by simp)).cell ?_
  have e : ((L.drop a).take m).flatMap itVs = ((L.flatMap itVs).drop (a * 2)).take (m * 2) := by
    rw [← flat_take itVs 2 itVs_len, ]
    congr 1
    clear h hu
    induction L generalizing a with
    | nil => simp
    | cons x L ih =>
      cases a with
      | zero => simp
      | succ a => rw [List.drop_succ_cons, List.flatMap_cons, ih a, List.drop_append]; simp [itVs_len, Nat.succ_mul]
  rw [e, List.getElem?_take] at hu
  split at hu
  · rw [List.getElem?_drop] at hu; exact hu
  · cases hu
theorem flat_one (L : List It) : ∀ u ∈ L.flatMap itVs, u.oneCell' = true := by
  intro u hu
  obtain ⟨x, _, hx⟩ := List.mem_flatMap.1 hu
  simp [itVs] at hx
  rcases hx with rfl | rfl <;> rfl
theorem Row.trunc {w : World} {e : TypeId} {size g n cap : Nat} {xs : List Value} (h : Row w e size g n cap xs) (m : Nat) (hm : m ≤ n) : Row w e size g m cap (xs.take (m * size)) := by
  obtain ⟨h1, cur, hg, h2, h3, h4, h5⟩ := h.parts
  have hle : m * size ≤ n * size := Nat.mul_le_mul_right _ hm
  refine Row.mk' (by rw [List.length_take, h1]; omega) hg (by omega) h3 h4 ?_
  rw [← h5, List.take_take, Nat.min_eq_left hle]
end Go.Proofs.YtfeobcmcellcpaaGreat

/-! RAhead -/
namespace Go.Proofs.YtfeobcmcellcpaaGreat
open Go.RowKit

set_option maxHeartbeats 400000 in
theorem rahead_any (a b : It) (w : World) :
    Calls Tryz.prog 108 #[.agg #[.int .u64 a.1, .int .i64 a.2], .agg #[.int .u64 b.1, .int .i64 b.2]] w (RetUpd [] w (.bool (ahead a b))) := by
  obtain ⟨k1, i1⟩ := a
  obtain ⟨k2, i2⟩ := b
  go_enter Tryz.func108, Tryz.ntmps108
  go_wp2
  all_goals
    go_ret
    refine ⟨ret_bool ?_, ((Upd.refl _ _).alloc _).alloc _⟩
    try (simp [ahead, *]; done)

end Go.Proofs.YtfeobcmcellcpaaGreat

/-! DeedC -/
namespace Go.Proofs.YtfeobcmcellcpaaGreat
open Go.RowKit

theorem deed_cells {w : World} {v : Value} {n : Nat} {D : Nat → Nat → Int} (h : RowsAt w [.i64, .u64, .i64] v n D) : ∃ ao cap, v = .slice ao n cap ∧ n ≤ maxLen ∧ (n = 0 ∨ ∃ b off, ao = some ⟨b, off, none⟩ ∧ b < w.heap.size ∧
    ∀ i, i < n → w.cell? ⟨b, off + i * 3, none⟩ = some (.int .i64 (D i 0)) ∧ w.cell? ⟨b, off + i * 3 + 1, none⟩ = some (.int .u64 (D i 1)) ∧ w.cell? ⟨b, off + i * 3 + 2, none⟩ = some (.int .i64 (D i 2)) ∧ 0 ≤ D i 1 ∧ D i 1 < 18446744073709551616) := by
  obtain ⟨ao, cap, hv, hm, h | ⟨b, off, ha, hb, hc⟩⟩ := h
  · exact ⟨ao, cap, hv, hm, .inl h⟩
  · refine ⟨ao, cap, hv, hm, .inr ⟨b, off, ha, hb, fun i hi => ⟨by simpa using (hc i hi 0 .i64 rfl).1, by simpa [Nat.add_assoc] using (hc i hi 1 .u64 rfl).1, by simpa [Nat.add_assoc] using (hc i hi 2 .i64 rfl).1, (wf_u64_bd (hc i hi 1 .u64 rfl).2).1, ?_⟩⟩⟩
    have := (wf_u64_bd (hc i hi 1 .u64 rfl).2).2
    omega
end Go.Proofs.YtfeobcmcellcpaaGreat

/-! Near -/
namespace Go.Proofs.YtfeobcmcellcpaaGreat
open Go.RowKit

/-- Near tells a key. -/
def NearPost (w : World) (e : Ending) (w' : World) : Prop := ∃ k : Nat, k < 18446744073709551616 ∧ e = .returned (.int .u64 k) ∧ Upd [] w w'
theorem near_done {w w' : World} {x : Int} (hU : Upd [] w w') : NearPost w (.returned (.int .u64 (IntKind.u64.wrap x))) w' := by
  refine ⟨(IntKind.u64.wrap x).toNat, ?_, ?_, hU⟩
  · rw [IntKind.wrap_u64]; omega
  · congr 2; rw [IntKind.wrap_u64]; omega
theorem near_same {w w' : World} {k : Nat} (hk : k < 18446744073709551616) (hU : Upd [] w w') : NearPost w (.returned (.int .u64 k)) w' := ⟨k, hk, rfl, hU⟩


end Go.Proofs.YtfeobcmcellcpaaGreat
