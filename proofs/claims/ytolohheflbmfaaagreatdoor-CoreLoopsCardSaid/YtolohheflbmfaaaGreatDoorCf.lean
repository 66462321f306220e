/-
  The document's one who serves, in memory. No condition.
-/
import Derived.Test.YtolohheflbmfaaaGreatDoorCb
set_option linter.unusedVariables false
set_option linter.unusedSimpArgs false
namespace Go.Proofs.YtolohheflbmfaaaGreatDoor
open Go.RowKit

/-- An object that it knows. -/
structure Wk where
  obj : Int
  flow : Int
  most : Int
  r : Nat
  fin : Nat
  place : Nat
def wkVs (k : Wk) : List Value := [.int .i64 k.obj, .int .i64 k.flow, .int .i64 k.most, .int .u64 k.r, .int .u64 k.fin, .int .u64 k.place]
theorem wkVs_len (k : Wk) : (wkVs k).length = 6 := rfl
def zWk (o : Int) : Wk := ⟨o, 0, 0, 0, 0, 0⟩
def wkTh (k : Wk) : Th := ⟨k.flow, k.r, k.fin, k.place⟩
def findW (R : List Wk) (o : Int) : Option Wk := R.find? (fun k => k.obj == o)
def thW (R : List Wk) (o : Int) : Th := match findW R o with
  | some k => wkTh k
  | none => zTh

/-- Who woke a flow last: flow, object, by pairs. -/
def lastO : List Int → Int → Int → Int
  | f :: o :: rest, id, acc => lastO rest id (if f = id then o else acc)
  | _, _, acc => acc
theorem lastO_snoc : ∀ (n : Nat) (P : List Int) (f o id acc : Int), P.length = 2 * n → lastO (P ++ [f, o]) id acc = if f = id then o else lastO P id acc
  | 0, P, f, o, id, acc, h => by
    have := List.eq_nil_of_length_eq_zero (by simpa using h : P.length = 0)
    subst this; rfl
  | n + 1, P, f, o, id, acc, h => by
    match P, h with
    | a :: b :: rest, h =>
      have hl : rest.length = 2 * n := by simp only [List.length_cons] at h; omega
      exact lastO_snoc n rest f o id _ hl

/-- Where its parts lie, and what they hold. -/
structure RCAt (W w : World) (kb rb wd : Nat) (aoL aoP : Option Addr) (cL cP : Nat) (R : List Wk) (P : List Int) (at_ key : Nat) (s : CS) (fq : List Nat) : Prop where
  blk : Blk w kb 91 [.pointer (some ⟨rb, 0, none⟩), .int .u64 s.v, .int .u64 s.most, .int .i64 s.served, .slice aoL R.length cL, .slice aoP P.length cP, .bool s.is, .int .i64 at_, .int .u64 key]
  rowL : RowO w 93 6 aoL R.length cL (R.flatMap wkVs)
  rowP : RowO w 3 1 aoP P.length cP (P.map (Value.int .i64))
  q : RQ W rb wd s.M fq w
  nd : (R.map (·.obj)).Nodup
  th : ∀ o, s.th o = thW R o
  ow : ∀ f, s.ow f = lastO P f 0
  even : ∃ p, P.length = 2 * p
  pk : s.is = true → key = s.key ∧ ∃ k, R[at_]? = some k ∧ k.obj = s.obj
  d1 : kb ∉ blkO aoL
  d2 : kb ∉ blkO aoP
  d3 : ∀ c ∈ blkO aoL, c ∉ blkO aoP
  far : ∀ c ∈ kb :: (blkO aoL ++ blkO aoP), c ∉ fq
  new : ∀ c ∈ kb :: (blkO aoL ++ blkO aoP), W.heap.size ≤ c
  lenL : R.length ≤ 1000
  lenP : P.length ≤ 2000
end Go.Proofs.YtolohheflbmfaaaGreatDoor
