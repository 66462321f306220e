/-
  The model in plain words: what each call tells, and what it leaves. No condition.
-/
import Derived.Test.YtmfndemnogpmcaaMa
import Derived.Test.YtmfndemnogpmcaaFg
set_option linter.unusedVariables false
set_option linter.unusedSimpArgs false
namespace Go.Proofs.Ytmfndemnogpmcaa
open Go.RowKit

structure Ms where
  S : Sf
  n : Nat
def ms0 : Ms := ⟨⟨[], 0, 0⟩, 0⟩
def invU (unit : Nat) (a : Int) : Nat := max (unit / a.toNat) 1

/-- How many flows there are in a flow's shard. -/
def matesN (F : List Fl) (sh id : Int) : Nat := F.countP (fun f => decide (f.id % sh = id % sh))
def regE (c : Cf) (S : Sf) (k : Cl) : Int :=
  if k.flow < 0 ∨ 1048576 < k.flow then 1 else if k.a < 1 ∨ 65536 < k.a then 4 else if k.b < 1 ∨ 8 < k.b then 1
  else if 0 ≤ posF S.F k.flow then 6 else if c.sl ≤ (matesN S.F c.sh k.flow : Int) then 7 else 0
def regM (c : Cf) (m : Ms) (k : Cl) : Rt × Ms := (rtE (regE c m.S k), if regE c m.S k = 0 then { m with S := addSf m.S k.flow (invU c.unit k.a) k.b } else m)
def delE (S : Sf) (id : Int) : Int := if posF S.F id < 0 then 5 else if 0 < (flAt S.F (posF S.F id)).L.length then 8 else 0
def delS (S : Sf) (id : Int) : Sf := if delE S id = 0 then { S with F := S.F.eraseIdx (posF S.F id).toNat } else S
def delM_ (m : Ms) (k : Cl) : Rt × Ms := (rtE (delE m.S k.flow), { m with S := delS m.S k.flow })
def enqM (m : Ms) (k : Cl) : Rt × Ms := if k.a < 1 ∨ 65536 < k.a then (rtE 3, m) else (rtE (arrCode m.S ⟨k.flow, k.a, k.b⟩), { m with S := arrS m.S ⟨k.flow, k.a, k.b⟩ })

/-- The first packet of the flow that starts first. -/
def servP (S : Sf) : Option Pk := if bestF S.F < 0 then none else (flAt S.F (bestF S.F)).L.head?
def oneM (m : Ms) : Rt × Ms := match servP m.S with
  | none => (rtE 10, { m with S := servS m.S })
  | some p => (⟨0, [p], 0, 0⟩, ⟨servS m.S, m.n + 1⟩)
def batM : Nat → Ms → List Pk → Rt × Ms
  | 0, m, L => (⟨0, L, 0, 0⟩, m)
  | k + 1, m, L => if (oneM m).1.e = 0 then batM k (oneM m).2 (L ++ (oneM m).1.L) else (⟨(oneM m).1.e, L, 0, 0⟩, (oneM m).2)
def batchM (m : Ms) (k : Cl) : Rt × Ms := if k.a < 1 ∨ 16 < k.a then (rtE 1, m) else batM k.a.toNat m []
def statM (m : Ms) : Rt × Ms := (⟨0, [], m.n, m.S.v⟩, m)
def doM (c : Cf) (m : Ms) (k : Cl) : Rt × Ms :=
  if k.op = 1 then regM c m k else if k.op = 2 then delM_ m k else if k.op = 3 then enqM m k else if k.op = 4 then oneM m else if k.op = 5 then batchM m k else if k.op = 6 then statM m else (rtE 2, m)
def pkE (p q : Pk) : Bool := decide (p.flow = q.flow) && decide (p.len = q.len) && decide (p.mark = q.mark)
def eqPk : List Pk → List Pk → Bool
  | [], [] => true
  | p :: L, q :: M => pkE p q && eqPk L M
  | _, _ => false
theorem pkE_iff {p q : Pk} : pkE p q = true ↔ p = q := by
  cases p; cases q; simp [pkE, and_assoc]
theorem eqPk_iff : ∀ {L M : List Pk}, eqPk L M = true ↔ L = M
  | [], [] => by simp [eqPk]
  | [], _ :: _ => by simp [eqPk]
  | _ :: _, [] => by simp [eqPk]
  | p :: L, q :: M => by simp [eqPk, pkE_iff, eqPk_iff (L := L) (M := M)]
theorem eqPk_at : ∀ {L M : List Pk} {i : Nat} {p q : Pk}, L.length = M.length → L[i]? = some p → M[i]? = some q → pkE p q = false → eqPk L M = false
  | [], _, _, _, _, _, h, _, _ => by simp at h
  | p' :: L, [], i, p, q, hl, h1, h2, h3 => by simp at hl
  | p' :: L, q' :: M, 0, p, q, hl, h1, h2, h3 => by
    simp only [List.getElem?_cons_zero, Option.some.injEq] at h1 h2
    subst h1 h2
    simp [eqPk, h3]
  | p' :: L, q' :: M, i + 1, p, q, hl, h1, h2, h3 => by
    simp only [List.getElem?_cons_succ] at h1 h2
    simp [eqPk, eqPk_at (by simpa using hl) h1 h2 h3]
theorem eqPk_all : ∀ {L M : List Pk}, L.length = M.length → (∀ (i : Nat) (p q : Pk), L[i]? = some p → M[i]? = some q → pkE p q = true) → eqPk L M = true
  | [], [], _, _ => rfl
  | [], _ :: _, h, _ => by simp at h
  | _ :: _, [], h, _ => by simp at h
  | p :: L, q :: M, hl, h => by
    simp [eqPk, h 0 p q rfl rfl, eqPk_all (by simpa using hl) (fun i a b ha hb => h (i + 1) a b ha hb)]
theorem eqPk_len {L M : List Pk} (h : L.length ≠ M.length) : eqPk L M = false := by
  cases he : eqPk L M with
  | false => rfl
  | true => rw [eqPk_iff] at he; rw [he] at h; exact absurd rfl h

/-- What a Ret says, but where its packets lie. -/
def rtSame (a b : Rt) : Bool := decide (a.e = b.e) && decide (a.n = b.n) && decide (a.v = b.v) && eqPk a.L b.L
def behind (last : Option Int) (step : Int) : Bool := match last with
  | some s => decide (s < step)
  | none => true

/-- The model behind points: the first ones play. -/
def runM (p : Pl) : List Pt → Option Int → Ms → Option Ms
  | [], _, m => some m
  | x :: l, last, m => match callP p.L x with
    | none => none
    | some c => if behind last x.step && rtSame (doM p.c m c).1 x.r then runM p l (some x.step) (doM p.c m c).2 else none
def playsM (p : Pl) (l : List Pt) : Option Ms := if rightC p.c = true then runM p l none ms0 else none

/-! ### What holds of any model -/
structure MOk (c : Cf) (m : Ms) : Prop where
  right : rightC c = true
  ids : ∀ f ∈ m.S.F, 0 ≤ f.id ∧ f.id ≤ 1048576
  mates : ∀ q : Int, (m.S.F.countP (fun f => decide (f.id % c.sh = q)) : Int) ≤ c.sl
theorem rightC_bd {c : Cf} (h : rightC c = true) : (1 ≤ c.sh ∧ c.sh ≤ 4) ∧ (1 ≤ c.sl ∧ c.sl ≤ 4) ∧ (1 ≤ c.wo ∧ c.wo ≤ 6) ∧ (0 ≤ c.wd ∧ c.wd ≤ 40) ∧ (1 ≤ c.unit ∧ c.unit ≤ 4611686018427387904) := by
  unfold rightC at h
  simp only [Bool.and_eq_true, decide_eq_true_eq] at h
  exact ⟨h.1.1.1.1, h.1.1.1.2, h.1.1.2, h.1.2, h.2⟩
theorem MOk.new {c : Cf} (h : rightC c = true) : MOk c ms0 := ⟨h, fun f hf => (by cases hf), fun q => by have := (rightC_bd h).2.1; simp [ms0]; omega⟩
theorem count_four (F : List Fl) (s : Int) (h1 : 1 ≤ s) (h4 : s ≤ 4) : F.length ≤ F.countP (fun f => decide (f.id % s = 0)) + F.countP (fun f => decide (f.id % s = 1)) + F.countP (fun f => decide (f.id % s = 2)) + F.countP (fun f => decide (f.id % s = 3)) := by
  induction F with
  | nil => simp
  | cons f F ih =>
    have b1 := Int.emod_nonneg f.id (by omega : s ≠ 0)
    have b2 := Int.emod_lt_of_pos f.id (by omega : 0 < s)
    simp only [List.countP_cons, List.length_cons, decide_eq_true_eq]
    have : f.id % s = 0 ∨ f.id % s = 1 ∨ f.id % s = 2 ∨ f.id % s = 3 := by omega
    rcases this with e | e | e | e <;> simp only [e] <;> simp <;> omega
theorem MOk.small {c : Cf} {m : Ms} (h : MOk c m) : m.S.F.length ≤ 16 := by
  have b := rightC_bd h.right
  have k := count_four m.S.F c.sh b.1.1 b.1.2
  have := h.mates 0
  have := h.mates 1
  have := h.mates 2
  have := h.mates 3
  omega
end Go.Proofs.Ytmfndemnogpmcaa
