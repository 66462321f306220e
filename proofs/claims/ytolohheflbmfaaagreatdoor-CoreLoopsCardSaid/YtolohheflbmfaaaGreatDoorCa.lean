/-
  What the one who serves keeps, in plain words. No program, no condition.
-/
import Derived.Test.YtolohheflbmfaaaGreatDoorQr
set_option linter.unusedVariables false
set_option linter.unusedSimpArgs false
namespace Go.Proofs.YtolohheflbmfaaaGreatDoor

/-- An object: its flow, what a unit costs, its finish, its place. -/
structure Th where
  flow : Int
  r : Nat
  finish : Nat
  place : Nat
def zTh : Th := ⟨0, 0, 0, 0⟩
def thV (t : Th) : Value := .agg #[.int .i64 t.flow, .int .u64 t.r, .int .u64 t.finish, .int .u64 t.place]
theorem thV_inj {a b : Th} (h : thV a = thV b) : a = b := by
  obtain ⟨f, r, n, p⟩ := a
  obtain ⟨f', r', n', p'⟩ := b
  simp only [thV, Value.agg.injEq, Array.mk.injEq, List.cons.injEq, Value.int.injEq, true_and, and_true] at h
  obtain ⟨h1, h2, h3, h4⟩ := h
  rw [h1, show r = r' by omega, show n = n' by omega, show p = p' by omega]

/-- The sum and the product, held. -/
def topN : Nat := 18446744073709551615
def addT (a b : Nat) : Nat := min (a + b) topN
def mulT (a b : Nat) : Nat := min (a * b) topN
theorem addT_lt (a b : Nat) : addT a b < 18446744073709551616 := by unfold addT topN; omega
theorem mulT_lt (a b : Nat) : mulT a b < 18446744073709551616 := by unfold mulT topN; omega

structure CS where
  v : Nat
  most : Nat
  served : Nat
  th : Int → Th
  ow : Int → Int
  is : Bool
  obj : Int
  key : Nat
  M : List Sh
  L : List It
def updI {α : Type} (f : Int → α) (k : Int) (x : α) : Int → α := fun j => if j = k then x else f j
theorem updI_same {α : Type} (f : Int → α) (k : Int) (x : α) : updI f k x k = x := by unfold updI; rw [if_pos rfl]
theorem updI_other {α : Type} (f : Int → α) {k j : Int} (x : α) (h : j ≠ k) : updI f k x j = f j := by unfold updI; rw [if_neg h]

def wakeK (s : CS) (obj : Int) : Nat := max s.v (s.th obj).finish
def wakeB (s : CS) (obj flow : Int) : Bool := takeQ s.M (wakeK s obj) flow
def wakeC (s : CS) (obj flow : Int) (r : Nat) : CS :=
  if wakeB s obj flow = true then { s with th := updI s.th obj { s.th obj with flow := flow, r := r }, ow := updI s.ow flow obj, M := pushM s.M (wakeK s obj) flow, L := pushL s.M s.L (wakeK s obj) flow } else s

/-- What Pick tells, and leaves. -/
def pickV (s : CS) : Value := match s.L with
  | [] => .tuple #[.int .i64 0, .int .u64 0, .bool false]
  | x :: _ => .tuple #[.int .i64 (s.ow x.2), .int .u64 (s.th (s.ow x.2)).place, .bool true]
def pickC (s : CS) : CS := match s.L with
  | [] => { s with v := max s.v s.most }
  | x :: _ => { s with v := kn x, is := true, obj := s.ow x.2, key := kn x, M := popM s.M s.L, L := s.L.tail }
def sizeN (size : Int) : Nat := (max size 0).toNat

/-- The object that was picked, behind its Done. -/
def doneT (s : CS) (size : Int) : Th := { s.th s.obj with finish := addT s.key (mulT (sizeN size) (s.th s.obj).r), place := (s.th s.obj).place + 1 }
def doneC (s : CS) (size : Int) (more : Bool) : CS :=
  if s.is = true then
    { s with is := false, obj := 0, key := 0, th := updI s.th s.obj (doneT s size), most := max s.most (doneT s size).finish, served := s.served + 1,
             M := if more = true then pushM s.M (doneT s size).finish (doneT s size).flow else s.M, L := if more = true then pushL s.M s.L (doneT s size).finish (doneT s size).flow else s.L }
  else s


/-- What holds behind n deeds. -/
structure CI (s : CS) (n : Nat) : Prop where
  ok : QOk s.M s.L
  len : s.L.length ≤ n
  srv : s.served ≤ n
  place : ∀ o, (s.th o).place ≤ n
  v64 : s.v < 18446744073709551616
  m64 : s.most < 18446744073709551616
  k64 : s.key < 18446744073709551616
  f64 : ∀ o, (s.th o).finish < 18446744073709551616
  r64 : ∀ o, (s.th o).r < 18446744073709551616
theorem CI.mono {s : CS} {n m : Nat} (h : CI s n) (hm : n ≤ m) : CI s m := { h with len := Nat.le_trans h.len hm, srv := Nat.le_trans h.srv hm, place := fun o => Nat.le_trans (h.place o) hm }
theorem CI.wakeK {s : CS} {n : Nat} (h : CI s n) (obj : Int) : Proofs.YtolohheflbmfaaaGreatDoor.wakeK s obj < 18446744073709551616 := by
  unfold Proofs.YtolohheflbmfaaaGreatDoor.wakeK; have := h.v64; have := h.f64 obj; omega
theorem CI.wake {s : CS} {n : Nat} (h : CI s n) (obj flow : Int) {r : Nat} (hr : r < 18446744073709551616) : CI (wakeC s obj flow r) (n + 1) := by
  unfold wakeC
  split
  · refine { ok := pushM_ok h.ok _ _, len := Nat.le_trans (pushL_len _ _ _ _) (by have := h.len; omega), srv := by have := h.srv; simp only; omega, place := fun o => ?_, v64 := h.v64, m64 := h.m64, k64 := h.k64, f64 := fun o => ?_, r64 := fun o => ?_ }
    · simp only [updI]; split
      · have := h.place obj; simp only; omega
      · have := h.place o; omega
    · simp only [updI]; split
      · exact h.f64 obj
      · exact h.f64 o
    · simp only [updI]; split
      · exact hr
      · exact h.r64 o
  · exact h.mono (by omega)
theorem pickC_nil {s : CS} (h : s.L = []) : pickC s = { s with v := max s.v s.most } := by unfold pickC; rw [h]
theorem pickC_cons {s : CS} {x : It} {l : List It} (h : s.L = x :: l) : pickC s = { s with v := kn x, is := true, obj := s.ow x.2, key := kn x, M := popM s.M s.L, L := s.L.tail } := by unfold pickC; rw [h]
theorem CI.pick {s : CS} {n : Nat} (h : CI s n) (hk : ∀ x ∈ s.L, kn x < 18446744073709551616) : CI (pickC s) (n + 1) := by
  have h' := h.mono (Nat.le_succ n)
  cases hL : s.L with
  | nil =>
    rw [pickC_nil hL]
    exact { h' with v64 := by have := h.v64; have := h.m64; simp only; omega }
  | cons x l =>
    have hx := hk x (by rw [hL]; simp)
    rw [pickC_cons hL]
    exact { h' with ok := popM_ok h.ok, len := by simp only [List.length_tail]; have := h.len; omega, v64 := hx, k64 := hx }
theorem CI.done {s : CS} {n : Nat} (h : CI s n) (size : Int) (more : Bool) : CI (doneC s size more) (n + 1) := by
  unfold doneC
  split
  · refine { ok := ?_, len := ?_, srv := by have := h.srv; simp only; omega, place := fun o => ?_, v64 := h.v64, m64 := ?_, k64 := by simp only; omega, f64 := fun o => ?_, r64 := fun o => ?_ }
    · simp only; split
      · exact pushM_ok h.ok _ _
      · exact h.ok
    · simp only; split
      · exact Nat.le_trans (pushL_len _ _ _ _) (by have := h.len; omega)
      · have := h.len; omega
    · simp only [updI]; split
      · have := h.place s.obj; simp only [doneT]; omega
      · have := h.place o; omega
    · have := h.m64; have := addT_lt s.key (mulT (sizeN size) (s.th s.obj).r); simp only [doneT]; omega
    · simp only [updI]; split
      · simp only [doneT]; exact addT_lt _ _
      · exact h.f64 o
    · simp only [updI]; split
      · simp only [doneT]; exact h.r64 s.obj
      · exact h.r64 o
  · exact h.mono (by omega)
def newC (m : Nat) : CS := { v := 0, most := 0, served := 0, th := fun _ => zTh, ow := fun _ => 0, is := false, obj := 0, key := 0, M := zeroM m, L := [] }
theorem CI.new {m : Nat} (h : QOk (zeroM m) []) : CI (newC m) 0 :=
  { ok := h, len := Nat.le_refl _, srv := Nat.le_refl _, place := fun _ => Nat.le_refl _, v64 := by simp [newC], m64 := by simp [newC], k64 := by simp [newC], f64 := fun _ => by simp [newC, zTh], r64 := fun _ => by simp [newC, zTh] }
end Go.Proofs.YtolohheflbmfaaaGreatDoor
