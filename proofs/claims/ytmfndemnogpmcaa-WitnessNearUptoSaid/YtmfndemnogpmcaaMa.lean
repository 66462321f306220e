/-
  The model of all calls, in plain words: configs, calls, what they tell, points; slices that are read. No condition.
-/
import Derived.Test.YtmfndemnogpmcaaFf
import Derived.Test.YtmfndemnogpmcaaPlanA
set_option linter.unusedVariables false
set_option linter.unusedSimpArgs false
namespace Go.Proofs.Ytmfndemnogpmcaa
open Go.RowKit

/-! ### Slices that are read, wherever they lie -/
/-- A slice of n elements of a size: what it holds. -/
def SlAt (w : World) (size : Nat) (v : Value) (n : Nat) (xs : List Value) : Prop :=
  ∃ ao cap, v = .slice ao n cap ∧ n ≤ maxLen ∧ xs.length = n * size ∧ (n = 0 ∨ ∃ b off, ao = some ⟨b, off, none⟩ ∧ b < w.heap.size ∧ ∀ j u, xs[j]? = some u → w.cell? ⟨b, off + j, none⟩ = some u)
theorem SlAt.upd {w w' : World} {size n : Nat} {v : Value} {xs : List Value} (h : SlAt w size v n xs) (hu : Upd [] w w') : SlAt w' size v n xs := by
  obtain ⟨ao, cap, rfl, h1, h2, h3⟩ := h
  refine ⟨ao, cap, rfl, h1, h2, ?_⟩
  rcases h3 with h3 | ⟨b, off, rfl, hb, hc⟩
  · exact .inl h3
  · exact .inr ⟨b, off, rfl, Nat.lt_of_lt_of_le hb hu.size, fun j u hj => by rw [hu.cell hb (by simp)]; exact hc j u hj⟩
theorem SlAt.nil (w : World) (size : Nat) : SlAt w size (.slice none 0 0) 0 [] := ⟨none, 0, rfl, by unfold maxLen; omega, by simp, .inl rfl⟩
theorem RowO.sl {w : World} {e : TypeId} {size : Nat} {ao : Option Addr} {n cap : Nat} {xs : List Value} (h : RowO w e size ao n cap xs) : SlAt w size (.slice ao n cap) n xs := by
  have hc := h.cap_le
  refine ⟨ao, cap, rfl, by omega, h.len, ?_⟩
  rcases h.cases with ⟨rfl, rfl, rfl, rfl⟩ | ⟨g, rfl, hr⟩
  · exact .inl rfl
  · exact .inr ⟨g, 0, rfl, hr.lt, fun j u hj => by rw [Nat.zero_add]; exact hr.cell hj⟩

/-- The elements of a slice, one by one. -/
theorem SlAt.get {α : Type} {w : World} {v : Value} {n : Nat} (vs : α → List Value) (size : Nat) (hl : ∀ x, (vs x).length = size) {L : List α} (h : SlAt w size v n (L.flatMap vs)) (hs : 0 < size) : L.length = n ∧ n ≤ maxLen ∧ ∃ ao cap, v = .slice ao n cap ∧
    (n = 0 ∨ ∃ b off, ao = some ⟨b, off, none⟩ ∧ b < w.heap.size ∧ ∀ i x, L[i]? = some x → ∀ j u, (vs x)[j]? = some u → w.cell? ⟨b, off + i * size + j, none⟩ = some u) := by
  obtain ⟨ao, cap, rfl, h1, h2, h3⟩ := h
  rw [flat_len vs size hl] at h2
  refine ⟨Nat.eq_of_mul_eq_mul_right hs h2, h1, ao, cap, rfl, ?_⟩
  rcases h3 with h3 | ⟨b, off, rfl, hb, hc⟩
  · exact .inl h3
  · refine .inr ⟨b, off, rfl, hb, fun i x hx j u hj => ?_⟩
    have hjs : j < size := by
      rw [← hl x]
      exact (List.getElem?_eq_some_iff.1 hj).1
    rw [Nat.add_assoc]
    refine hc _ _ ?_
    rw [flat_get vs size hl L i j hjs x hx]; exact hj

/-! ### Plain -/
structure Cf where
  sh : Int
  sl : Int
  wo : Int
  wd : Int
  unit : Nat
def cfVs (c : Cf) : List Value := [.int .i64 c.sh, .int .i64 c.sl, .int .i64 c.wo, .int .i64 c.wd, .int .u64 c.unit]
def cfV (c : Cf) : Value := .agg #[.int .i64 c.sh, .int .i64 c.sl, .int .i64 c.wo, .int .i64 c.wd, .int .u64 c.unit]
def rightC (c : Cf) : Bool := decide (1 ≤ c.sh ∧ c.sh ≤ 4) && decide (1 ≤ c.sl ∧ c.sl ≤ 4) && decide (1 ≤ c.wo ∧ c.wo ≤ 6) && decide (0 ≤ c.wd ∧ c.wd ≤ 40) && decide (1 ≤ c.unit ∧ c.unit ≤ 4611686018427387904)
structure Cl where
  op : Int
  flow : Int
  a : Int
  b : Int
def zCl : Cl := ⟨0, 0, 0, 0⟩
def clVs (c : Cl) : List Value := [.int .i64 c.op, .int .i64 c.flow, .int .i64 c.a, .int .i64 c.b]
def clV (c : Cl) : Value := .agg #[.int .i64 c.op, .int .i64 c.flow, .int .i64 c.a, .int .i64 c.b]
theorem clVs_len (c : Cl) : (clVs c).length = 4 := rfl
theorem clVs_one (c : Cl) : ∀ u ∈ clVs c, u.oneCell' = true := by
  intro u hu
  simp only [clVs, List.mem_cons, List.not_mem_nil, or_false] at hu
  rcases hu with rfl | rfl | rfl | rfl <;> rfl

/-- What a call tells. -/
structure Rt where
  e : Int
  L : List Pk
  n : Int
  v : Nat
def rtE (e : Int) : Rt := ⟨e, [], 0, 0⟩

/-- A list of calls in memory. -/
structure Li where
  v : Value
  L : List Cl
def liVs (x : Li) : List Value := [x.v]
theorem liVs_len (x : Li) : (liVs x).length = 1 := rfl
structure Pl where
  c : Cf
  L : List Li

/-- A plan's lists in memory. -/
def ListsAt (w : World) (v : Value) (L : List Li) : Prop := SlAt w 1 v L.length (L.flatMap liVs) ∧ ∀ x ∈ L, SlAt w 4 x.v x.L.length (x.L.flatMap clVs)
def PlanAt (w : World) (v : Value) (p : Pl) : Prop := ∃ lv, v = .agg #[.int .i64 p.c.sh, .int .i64 p.c.sl, .int .i64 p.c.wo, .int .i64 p.c.wd, .int .u64 p.c.unit, lv] ∧ ListsAt w lv p.L
theorem ListsAt.upd {w w' : World} {v : Value} {L : List Li} (h : ListsAt w v L) (hu : Upd [] w w') : ListsAt w' v L := ⟨h.1.upd hu, fun x hx => (h.2 x hx).upd hu⟩
theorem PlanAt.upd {w w' : World} {v : Value} {p : Pl} (h : PlanAt w v p) (hu : Upd [] w w') : PlanAt w' v p := by obtain ⟨lv, h1, h2⟩ := h; exact ⟨lv, h1, h2.upd hu⟩

/-- A point; where its packets lie. -/
structure Pt where
  step : Int
  who : Int
  place : Int
  r : Rt
  lv : Value
def ptVs (x : Pt) : List Value := [.int .i64 x.step, .int .i64 x.who, .int .i64 x.place, .int .i64 x.r.e, x.lv, .int .i64 x.r.n, .int .u64 x.r.v]
def ptV (x : Pt) : Value := .agg #[.int .i64 x.step, .int .i64 x.who, .int .i64 x.place, .int .i64 x.r.e, x.lv, .int .i64 x.r.n, .int .u64 x.r.v]
theorem ptVs_len (x : Pt) : (ptVs x).length = 7 := rfl
def PtAt (w : World) (x : Pt) : Prop := SlAt w 3 x.lv x.r.L.length (x.r.L.flatMap pkVs)
def PtsAt' (w : World) (v : Value) (l : List Pt) : Prop := SlAt w 7 v l.length (l.flatMap ptVs) ∧ ∀ x ∈ l, PtAt w x
theorem PtAt.upd {w w' : World} {x : Pt} (h : PtAt w x) (hu : Upd [] w w') : PtAt w' x := SlAt.upd h hu
theorem PtsAt'.upd {w w' : World} {v : Value} {l : List Pt} (h : PtsAt' w v l) (hu : Upd [] w w') : PtsAt' w' v l := ⟨h.1.upd hu, fun x hx => (h.2 x hx).upd hu⟩

/-- A Ret in memory. -/
def RtAt (w : World) (v : Value) (r : Rt) : Prop := ∃ lv, v = .agg #[.int .i64 r.e, lv, .int .i64 r.n, .int .u64 r.v] ∧ SlAt w 3 lv r.L.length (r.L.flatMap pkVs)
theorem RtAt.upd {w w' : World} {v : Value} {r : Rt} (h : RtAt w v r) (hu : Upd [] w w') : RtAt w' v r := by obtain ⟨lv, h1, h2⟩ := h; exact ⟨lv, h1, h2.upd hu⟩

/-- A call of a history; where its packets lie. -/
structure Dn where
  who : Int
  place : Int
  c : Cl
  r : Rt
  lv : Value
  frm : Int
  til : Int
def dnVs (x : Dn) : List Value := [.int .i64 x.who, .int .i64 x.place, .int .i64 x.c.op, .int .i64 x.c.flow, .int .i64 x.c.a, .int .i64 x.c.b, .int .i64 x.r.e, x.lv, .int .i64 x.r.n, .int .u64 x.r.v, .int .i64 x.frm, .int .i64 x.til]
def dnV (x : Dn) : Value := .agg #[.int .i64 x.who, .int .i64 x.place, .int .i64 x.c.op, .int .i64 x.c.flow, .int .i64 x.c.a, .int .i64 x.c.b, .int .i64 x.r.e, x.lv, .int .i64 x.r.n, .int .u64 x.r.v, .int .i64 x.frm, .int .i64 x.til]
theorem dnVs_len (x : Dn) : (dnVs x).length = 12 := rfl
def DneAt (w : World) (x : Dn) : Prop := SlAt w 3 x.lv x.r.L.length (x.r.L.flatMap pkVs)
def DnsAt (w : World) (v : Value) (l : List Dn) : Prop := SlAt w 12 v l.length (l.flatMap dnVs) ∧ ∀ x ∈ l, DneAt w x
theorem DneAt.upd {w w' : World} {x : Dn} (h : DneAt w x) (hu : Upd [] w w') : DneAt w' x := SlAt.upd h hu
theorem DnsAt.upd {w w' : World} {v : Value} {l : List Dn} (h : DnsAt w v l) (hu : Upd [] w w') : DnsAt w' v l := ⟨h.1.upd hu, fun x hx => (h.2 x hx).upd hu⟩

/-- What a point is of. -/
def callP (L : List Li) (x : Pt) : Option Cl :=
  if x.who < 0 ∨ (L.length : Int) ≤ x.who then none else
  match L[x.who.toNat]? with
  | none => none
  | some l => if x.place < 0 ∨ (l.L.length : Int) ≤ x.place then none else
    match l.L[x.place.toNat]? with
    | none => none
    | some c => if c.op = 5 ∧ x.r.e ≠ 1 then some ⟨4, 0, 0, 0⟩ else some c
def callV (o : Option Cl) : Value := match o with
  | some c => .tuple #[clV c, .bool true]
  | none => .tuple #[clV zCl, .bool false]
end Go.Proofs.Ytmfndemnogpmcaa
