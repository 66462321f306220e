/-
  Texts of this claim, joined: Ca, Cb, Cf, MapF, Ce1, Ce2, Ce3, Ce4, Ce5. No condition.
-/
import Derived.Test.YtolohheflbmfaaaGreatDoorQr
import Derived.Test.YtolohheflbmfaaaGreatDoorPCT
import Derived.Test.YtolohheflbmfaaaGreatDoorPB
set_option linter.unusedVariables false
set_option linter.unusedSimpArgs false
/-! Ca -/
namespace Go.Proofs.YtolohheflbmfaaaGreatDoor

/-- An object: its flow, what a unit costs, its finish, its place. -/
structure Th where
  flow : Int
  r : Nat
  finish : Nat
  place : Nat
def zTh : Th := ⟨0, 0, 0, 0⟩
def thV (t : Th) : Value := .agg #[.int .i64 t.flow, .int .u64 t.r, .int .u64 t.finish, .int .u64 t.place]
theorem thV_inj {a b : Th} (h : thV a = thV b) : a = b := by
  obtain ⟨f, r, n, p⟩ := a
  obtain ⟨f', r', n', p'⟩ := b
  simp only [thV, Value.agg.injEq, Array.mk.injEq, List.cons.injEq, Value.int.injEq, true_and, and_true] at h
  obtain ⟨h1, h2, h3, h4⟩ := h
  rw [h1, show r = r' by omega, show n = n' by omega, show p = p' by omega]
structure CS where
  v : Nat
  most : Nat
  served : Nat
  th : Int → Th
  ow : Int → Int
  is : Bool
  obj : Int
  key : Nat
  M : List Sh
  L : List It
def updI {α : Type} (f : Int → α) (k : Int) (x : α) : Int → α := fun j => if j = k then x else f j
theorem updI_same {α : Type} (f : Int → α) (k : Int) (x : α) : updI f k x k = x := by unfold updI; rw [if_pos rfl]
theorem updI_other {α : Type} (f : Int → α) {k j : Int} (x : α) (h : j ≠ k) : updI f k x j = f j := by unfold updI; rw [if_neg h]

def wakeK (s : CS) (obj : Int) : Nat := max s.v (s.th obj).finish
def wakeB (s : CS) (obj flow : Int) : Bool := takeQ s.M (wakeK s obj) flow
def wakeC (s : CS) (obj flow : Int) (r : Nat) : CS :=
  if wakeB s obj flow = true then { s with th := updI s.th obj { s.th obj with flow := flow, r := r }, ow := updI s.ow flow obj, M := pushM s.M (wakeK s obj) flow, L := pushL s.M s.L (wakeK s obj) flow } else s

/-- What Pick tells, and leaves. -/
def pickV (s : CS) : Value := match s.L with
  | [] => .tuple #[.int .i64 0, .int .u64 0, .bool false]
  | x :: _ => .tuple #[.int .i64 (s.ow x.2), .int .u64 (s.th (s.ow x.2)).place, .bool true]
def pickC (s : CS) : CS := match s.L with
  | [] => { s with v := max s.v s.most }
  | x :: _ => { s with v := kn x, is := true, obj := s.ow x.2, key := kn x, M := popM s.M s.L, L := s.L.tail }

/-- The object that was picked, behind its Done. -/
def doneT (s : CS) (size : Int) : Th := { s.th s.obj with finish := addT s.key (mulT (sizeN size) (s.th s.obj).r), place := (s.th s.obj).place + 1 }
def doneC (s : CS) (size : Int) (more : Bool) : CS :=
  if s.is = true then
    { s with is := false, obj := 0, key := 0, th := updI s.th s.obj (doneT s size), most := max s.most (doneT s size).finish, served := s.served + 1,
             M := if more = true then pushM s.M (doneT s size).finish (doneT s size).flow else s.M, L := if more = true then pushL s.M s.L (doneT s size).finish (doneT s size).flow else s.L }
  else s


/-- What holds behind n deeds. -/
structure CI (s : CS) (n : Nat) : Prop where
  ok : QOk s.M s.L
  len : s.L.length ≤ n
  srv : s.served ≤ n
  place : ∀ o, (s.th o).place ≤ n
  v64 : s.v < 18446744073709551616
  m64 : s.most < 18446744073709551616
  k64 : s.key < 18446744073709551616
  f64 : ∀ o, (s.th o).finish < 18446744073709551616
  r64 : ∀ o, (s.th o).r < 18446744073709551616
theorem CI.mono {s : CS} {n m : Nat} (h : CI s n) (hm : n ≤ m) : CI s m := { h with len := Nat.le_trans h.len hm, srv := Nat.le_trans h.srv hm, place := fun o => Nat.le_trans (h.place o) hm }
theorem CI.wakeK {s : CS} {n : Nat} (h : CI s n) (obj : Int) : Proofs.YtolohheflbmfaaaGreatDoor.wakeK s obj < 18446744073709551616 := by
  unfold Proofs.YtolohheflbmfaaaGreatDoor.wakeK; have := h.v64; have := h.f64 obj; omega
theorem CI.wake {s : CS} {n : Nat} (h : CI s n) (obj flow : Int) {r : Nat} (hr : r < 18446744073709551616) : CI (wakeC s obj flow r) (n + 1) := by
  unfold wakeC
  split
  · refine { ok := pushM_ok h.ok _ _, len := Nat.le_trans (pushL_len _ _ _ _) (by have := h.len; omega), srv := by have := h.srv; simp only; omega, place := fun o => ?_, v64 := h.v64, m64 := h.m64, k64 := h.k64, f64 := fun o => ?_, r64 := fun o => ?_ }
    · simp only [updI]; split
      · have := h.place obj; simp only; omega
      · have := h.place o; omega
    · simp only [updI]; split
      · exact h.f64 obj
      · exact h.f64 o
    · simp only [updI]; split
      · exact hr
      · exact h.r64 o
  · exact h.mono (by omega)
theorem pickC_nil {s : CS} (h : s.L = []) : pickC s = { s with v := max s.v s.most } := by unfold pickC; rw [h]
theorem pickC_cons {s : CS} {x : It} {l : List It} (h : s.L = x :: l) : pickC s = { s with v := kn x, is := true, obj := s.ow x.2, key := kn x, M := popM s.M s.L, L := s.L.tail } := by unfold pickC; rw [h]
theorem CI.pick {s : CS} {n : Nat} (h : CI s n) (hk : ∀ x ∈ s.L, kn x < 18446744073709551616) : CI (pickC s) (n + 1) := by
  have h' := h.mono (Nat.le_succ n)
  cases hL : s.L with
  | nil =>
    rw [pickC_nil hL]
    exact { h' with v64 := by have := h.v64; have := h.m64; simp only; omega }
  | cons x l =>
    have hx := hk x (by rw [hL]; simp)
    rw [pickC_cons hL]
    exact { h' with ok := popM_ok h.ok, len := by simp only [List.length_tail]; have := h.len; omega, v64 := hx, k64 := hx }
theorem CI.done {s : CS} {n : Nat} (h : CI s n) (size : Int) (more : Bool) : CI (doneC s size more) (n + 1) := by
  unfold doneC
  split
  · refine { ok := ?_, len := ?_, srv := by have := h.srv; simp only; omega, place := fun o => ?_, v64 := h.v64, m64 := ?_, k64 := by simp only; omega, f64 := fun o => ?_, r64 := fun o => ?_ }
    · simp only; split
      · exact pushM_ok h.ok _ _
      · exact h.ok
    · simp only; split
      · exact Nat.le_trans (pushL_len _ _ _ _) (by have := h.len; omega)
      · have := h.len; omega
    · simp only [updI]; split
      · have := h.place s.obj; simp only [doneT]; omega
      · have := h.place o; omega
    · have := h.m64; have := addT_lt s.key (mulT (sizeN size) (s.th s.obj).r); simp only [doneT]; omega
    · simp only [updI]; split
      · simp only [doneT]; exact addT_lt _ _
      · exact h.f64 o
    · simp only [updI]; split
      · simp only [doneT]; exact h.r64 s.obj
      · exact h.r64 o
  · exact h.mono (by omega)
def newC (m : Nat) : CS := { v := 0, most := 0, served := 0, th := fun _ => zTh, ow := fun _ => 0, is := false, obj := 0, key := 0, M := zeroM m, L := [] }
theorem CI.new {m : Nat} (h : QOk (zeroM m) []) : CI (newC m) 0 :=
  { ok := h, len := Nat.le_refl _, srv := Nat.le_refl _, place := fun _ => Nat.le_refl _, v64 := by simp [newC], m64 := by simp [newC], k64 := by simp [newC], f64 := fun _ => by simp [newC, zTh], r64 := fun _ => by simp [newC, zTh] }
end Go.Proofs.YtolohheflbmfaaaGreatDoor

/-! Cb -/
namespace Go.Proofs.YtolohheflbmfaaaGreatDoor
open Go.RowKit

def mval (qb : Nat) (f : FuncId) : Value := .func (.func f) #[.pointer (some ⟨qb, 0, none⟩)] #[]

/-- Where its parts lie, and what they hold. -/
structure CAt (W w : World) (kb qb wd tb ob : Nat) (T O : AL) (s : CS) (fp : List Nat) : Prop where
  blk : Blk w kb 83 [mval qb 51, mval qb 52, mval qb 53, .int .u64 s.v, .int .u64 s.most, .int .i64 s.served, .map (some tb), .map (some ob), .bool s.is, .int .i64 s.obj, .int .u64 s.key]
  tm : IMap w tb T
  om : IMap w ob O
  th : ∀ o, (lookM T o).getD (thV zTh) = thV (s.th o)
  ow : ∀ f, (lookM O f).getD (.int .i64 0) = .int .i64 (s.ow f)
  q : QG W qb wd s.M s.L fp w
  d1 : kb ≠ tb
  d2 : kb ≠ ob
  d3 : tb ≠ ob
  far : ∀ c ∈ [kb, tb, ob], c ∉ fp
  new : ∀ c ∈ [kb, tb, ob], W.heap.size ≤ c
section
variable {W w : World} {kb qb wd tb ob : Nat} {T O : AL} {s : CS} {fp : List Nat}
theorem CAt.lt (h : CAt W w kb qb wd tb ob T O s fp) : ∀ c ∈ kb :: tb :: ob :: fp, c < w.heap.size := by
  intro c hc
  simp only [List.mem_cons] at hc
  rcases hc with rfl | rfl | rfl | hc
  · exact h.blk.lt
  · exact h.tm.lt
  · exact h.om.lt
  · exact h.q.lt c hc
theorem CAt.newB (h : CAt W w kb qb wd tb ob T O s fp) : ∀ c ∈ kb :: tb :: ob :: fp, W.heap.size ≤ c := by
  intro c hc
  simp only [List.mem_cons] at hc
  rcases hc with rfl | rfl | rfl | hc
  · exact h.new c (by simp)
  · exact h.new c (by simp)
  · exact h.new c (by simp)
  · exact h.q.newB c hc
theorem CAt.updS (h : CAt W w kb qb wd tb ob T O s fp) {S : List Nat} {w' : World} (hu : Upd S w w') (hs : ∀ c ∈ kb :: tb :: ob :: fp, c ∉ S) (hw : ∀ c ∈ S, W.heap.size ≤ c) : CAt W w' kb qb wd tb ob T O s fp :=
  { h with
    blk := h.blk.upd hu (hs kb (by simp))
    tm := h.tm.upd hu (hs tb (by simp))
    om := h.om.upd hu (hs ob (by simp))
    q := h.q.updS hu (fun c hc => hs c (by simp [hc])) hw }
theorem CAt.upd (h : CAt W w kb qb wd tb ob T O s fp) {w' : World} (hu : Upd [] w w') : CAt W w' kb qb wd tb ob T O s fp := h.updS hu (by simp) (by simp)
theorem CAt.cells (h : CAt W w kb qb wd tb ob T O s fp) : w.cell? ⟨kb, 0, none⟩ = some (mval qb 51) ∧ w.cell? ⟨kb, 1, none⟩ = some (mval qb 52) ∧ w.cell? ⟨kb, 2, none⟩ = some (mval qb 53) ∧ w.cell? ⟨kb, 3, none⟩ = some (.int .u64 s.v) ∧ w.cell? ⟨kb, 4, none⟩ = some (.int .u64 s.most) ∧ w.cell? ⟨kb, 5, none⟩ = some (.int .i64 s.served) ∧ w.cell? ⟨kb, 6, none⟩ = some (.map (some tb)) ∧ w.cell? ⟨kb, 7, none⟩ = some (.map (some ob)) ∧ w.cell? ⟨kb, 8, none⟩ = some (.bool s.is) ∧ w.cell? ⟨kb, 9, none⟩ = some (.int .i64 s.obj) ∧ w.cell? ⟨kb, 10, none⟩ = some (.int .u64 s.key) ∧ kb < w.heap.size :=
  ⟨h.blk.cell (j := 0) rfl, h.blk.cell (j := 1) rfl, h.blk.cell (j := 2) rfl, h.blk.cell (j := 3) rfl, h.blk.cell (j := 4) rfl, h.blk.cell (j := 5) rfl, h.blk.cell (j := 6) rfl, h.blk.cell (j := 7) rfl, h.blk.cell (j := 8) rfl, h.blk.cell (j := 9) rfl, h.blk.cell (j := 10) rfl, h.blk.lt⟩

/-- A deed on the queue. -/
theorem CAt.queue (h : CAt W w kb qb wd tb ob T O s fp) {M' : List Sh} {L' : List It} {w' : World} (k : QGTo W qb wd M' L' fp w w') :
    ∃ fp', CAt W w' kb qb wd tb ob T O { s with M := M', L := L' } fp' ∧ Fr (kb :: tb :: ob :: fp) (kb :: tb :: ob :: fp') w w' := by
  obtain ⟨fp', k1, k2⟩ := k
  have hl := h.lt
  have hfar : ∀ c ∈ [kb, tb, ob], c ∉ fp' := fun c hc => by
    refine k2.far (hl c ?_) (h.far c hc)
    simp only [List.mem_cons, List.not_mem_nil, or_false] at hc
    simp only [List.mem_cons]
    rcases hc with h | h | h
    · exact .inl h
    · exact .inr (.inl h)
    · exact .inr (.inr (.inl h))
  refine ⟨fp', { h with
    blk := h.blk.upd k2.2 (h.far kb (by simp))
    tm := h.tm.upd k2.2 (h.far tb (by simp))
    om := h.om.upd k2.2 (h.far ob (by simp))
    q := k1
    far := hfar }, fun c hc => ?_, k2.2.mono (fun c _ hc => by simp [hc])⟩
  simp only [List.mem_cons] at hc ⊢
  rcases hc with h | h | h | h
  · exact .inl (.inl h)
  · exact .inl (.inr (.inl h))
  · exact .inl (.inr (.inr (.inl h)))
  · rcases k2.1 c h with h | h
    · exact .inl (.inr (.inr (.inr h)))
    · exact .inr h
end
/-- One who serves, in blocks that are new since W. -/
def KG (W : World) (kb wd : Nat) (s : CS) (F : List Nat) (w : World) : Prop := ∃ qb tb ob T O fp, CAt W w kb qb wd tb ob T O s fp ∧ F = kb :: tb :: ob :: fp
def KGTo (W : World) (kb wd : Nat) (s : CS) (F : List Nat) (w w' : World) : Prop := ∃ F', KG W kb wd s F' w' ∧ Fr F F' w w'
section
variable {W w : World} {kb wd : Nat} {s : CS} {F : List Nat}
theorem KG.lt (h : KG W kb wd s F w) : ∀ c ∈ F, c < w.heap.size := by obtain ⟨_, _, _, _, _, _, h, rfl⟩ := h; exact h.lt
theorem KG.newB (h : KG W kb wd s F w) : ∀ c ∈ F, W.heap.size ≤ c := by obtain ⟨_, _, _, _, _, _, h, rfl⟩ := h; exact h.newB
theorem KG.updS (h : KG W kb wd s F w) {S : List Nat} {w' : World} (hu : Upd S w w') (hs : ∀ c ∈ F, c ∉ S) (hw : ∀ c ∈ S, W.heap.size ≤ c) : KG W kb wd s F w' := by
  obtain ⟨qb, tb, ob, T, O, fp, h1, rfl⟩ := h; exact ⟨qb, tb, ob, T, O, fp, h1.updS hu hs hw, rfl⟩
theorem KG.upd (h : KG W kb wd s F w) {w' : World} (hu : Upd [] w w') : KG W kb wd s F w' := h.updS hu (by simp) (by simp)
theorem KG.updW (h : KG W kb wd s F w) : Upd [] W w := by obtain ⟨_, _, _, _, _, _, h, _⟩ := h; exact h.q.updW
theorem KG.tab (h : KG W kb wd s F w) : TabAt 0 Lib.deBruijn64tab W := by obtain ⟨_, _, _, _, _, _, h, _⟩ := h; exact h.q.tab
theorem KGTo.up {w' : World} (h : KGTo W kb wd s F w w') : Upd F w w' := by obtain ⟨_, _, h⟩ := h; exact h.2
end
end Go.Proofs.YtolohheflbmfaaaGreatDoor

/-! Cf -/
namespace Go.Proofs.YtolohheflbmfaaaGreatDoor
open Go.RowKit

/-- An object that it knows. -/
structure Wk where
  obj : Int
  flow : Int
  most : Int
  r : Nat
  fin : Nat
  place : Nat
def wkVs (k : Wk) : List Value := [.int .i64 k.obj, .int .i64 k.flow, .int .i64 k.most, .int .u64 k.r, .int .u64 k.fin, .int .u64 k.place]
theorem wkVs_len (k : Wk) : (wkVs k).length = 6 := rfl
def zWk (o : Int) : Wk := ⟨o, 0, 0, 0, 0, 0⟩
def wkTh (k : Wk) : Th := ⟨k.flow, k.r, k.fin, k.place⟩
def findW (R : List Wk) (o : Int) : Option Wk := R.find? (fun k => k.obj == o)
def thW (R : List Wk) (o : Int) : Th := match findW R o with
  | some k => wkTh k
  | none => zTh

/-- Who woke a flow last: flow, object, by pairs. -/
def lastO : List Int → Int → Int → Int
  | f :: o :: rest, id, acc => lastO rest id (if f = id then o else acc)
  | _, _, acc => acc
theorem lastO_snoc : ∀ (n : Nat) (P : List Int) (f o id acc : Int), P.length = 2 * n → lastO (P ++ [f, o]) id acc = if f = id then o else lastO P id acc
  | 0, P, f, o, id, acc, h => by
    have := List.eq_nil_of_length_eq_zero (by simpa using h : P.length = 0)
    subst this; rfl
  | n + 1, P, f, o, id, acc, h => by
    match P, h with
    | a :: b :: rest, h =>
      have hl : rest.length = 2 * n := by simp only [List.length_cons] at h; omega
      exact lastO_snoc n rest f o id _ hl

/-- Where its parts lie, and what they hold. -/
structure RCAt (W w : World) (kb rb wd : Nat) (aoL aoP : Option Addr) (cL cP : Nat) (R : List Wk) (P : List Int) (at_ key : Nat) (s : CS) (fq : List Nat) : Prop where
  blk : Blk w kb 91 [.pointer (some ⟨rb, 0, none⟩), .int .u64 s.v, .int .u64 s.most, .int .i64 s.served, .slice aoL R.length cL, .slice aoP P.length cP, .bool s.is, .int .i64 at_, .int .u64 key]
  rowL : RowO w 93 6 aoL R.length cL (R.flatMap wkVs)
  rowP : RowO w 3 1 aoP P.length cP (P.map (Value.int .i64))
  q : RQ W rb wd s.M fq w
  nd : (R.map (·.obj)).Nodup
  th : ∀ o, s.th o = thW R o
  ow : ∀ f, s.ow f = lastO P f 0
  even : ∃ p, P.length = 2 * p
  pk : s.is = true → key = s.key ∧ ∃ k, R[at_]? = some k ∧ k.obj = s.obj
  d1 : kb ∉ blkO aoL
  d2 : kb ∉ blkO aoP
  d3 : ∀ c ∈ blkO aoL, c ∉ blkO aoP
  far : ∀ c ∈ kb :: (blkO aoL ++ blkO aoP), c ∉ fq
  new : ∀ c ∈ kb :: (blkO aoL ++ blkO aoP), W.heap.size ≤ c
  lenL : R.length ≤ 1000
  lenP : P.length ≤ 2000
end Go.Proofs.YtolohheflbmfaaaGreatDoor

/-! MapF -/
namespace Go.Proofs.YtolohheflbmfaaaGreatDoor
open Go.RowKit

theorem idx_snoc {k : Int} {v : Value} : ∀ (M : AL) (i0 : Nat), idxM M k i0 = none → idxM (M ++ [(k, v)]) k i0 = some (i0 + M.length, v)
  | [], i0, _ => by simp [idxM]
  | (a, u) :: M, i0, h => by
    simp only [List.cons_append, idxM] at h ⊢
    split at h
    · cases h
    · rename_i hn
      rw [if_neg hn, idx_snoc M (i0 + 1) h]
      simp only [List.length_cons]
      congr 2; omega
section
variable {P : Program} {w : World} {b : Nat} {M : AL} {T K E : TypeId}
theorem MapTo.refl (h : IMap w b M) : MapTo w b M w := ⟨h, Upd.refl _ _, rfl, fun _ => rfl, fun _ => rfl⟩
theorem IMap.entry (h : IMap w b M) (hT : P.underlying T = some (.map K E)) (hk : P.underlying K = some (.int .i64)) {z : Value} (hz : ∀ w, (zeroValue E).run P w = .ok z w) (k : Int) :
    ∃ (s : Nat) (w' : World) (v : Value) (M' : AL), (Instr.mapEntry T (.map (some b)) (.int .i64 k)).run P w = .ok (.tuple #[v, .int .i64 s]) w' ∧ MapTo w b M' w' ∧ HasEnt w' b k s ∧ ∀ u j, lookM (putM M' k u) j = if j = k then some u else lookM M j := by
  have h0 := h
  obtain ⟨es, clock, hb, hM, hS⟩ := h
  have hg : (getObj b).run P w = .ok (.map es clock) w := by simp [getObj, Sem.run, hb]
  have hss : ∀ o, (setObj b o).run P w = .ok () (setObjW w b o) := fun o => by simp [setObj, Sem.run, hb, setObjW]
  have hlen : es.toList.length = M.length := by simpa using congrArg List.length hM
  cases hi : idxM M k 0 with
  | none =>
    have hto : MapTo w b (putM M k z) (setObjW w b (.map (es.push { key := .int .i64 k, val := z, born := clock }) (clock + 1))) :=
      h0.to _ _ (by rw [push_eq k M 0 z hi]; simp [hM]) (by rw [Array.toList_push]; exact hS.push _)
    refine ⟨clock, _, z, putM M k z, ?_, hto, ?_, fun u j => ?_⟩
    · simp [Instr.mapEntry, run_underlying hT, hg, run_checkKey_int hk, run_findKey_int hk hM, hi, hss, hz, goInt]
    · refine ⟨es.push { key := .int .i64 k, val := z, born := clock }, clock + 1, putM M k z, M.length, z, setObjW_at h0.lt _, by rw [push_eq k M 0 z hi]; simp [hM], by rw [Array.toList_push]; exact hS.push _, by rw [push_eq k M 0 z hi, idx_snoc M 0 hi, Nat.zero_add], ?_⟩
      rw [Array.toList_push, List.getElem?_append_right (by omega), hlen, Nat.sub_self]; rfl
    · rw [lookM_put, lookM_put]; split <;> rfl
  | some p =>
    obtain ⟨i, x⟩ := p
    obtain ⟨_, e, he, _, _⟩ := idx_get hM hi
    rw [Nat.sub_zero] at he
    have hE : HasEnt w b k e.born := ⟨es, clock, M, i, x, hb, hM, hS, hi, by rw [he]; rfl⟩
    exact ⟨e.born, w, _, M, hE.entry hT hk, MapTo.refl h0, hE, fun u j => lookM_put M k j u⟩
end
end Go.Proofs.YtolohheflbmfaaaGreatDoor

/-! Ce1 -/
namespace Go.Proofs.YtolohheflbmfaaaGreatDoor
open Go.RowKit
theorem underlyingThMap : Tryz.prog.underlying 78 = some (.map 3 75) := by kernel_rfl
theorem underlyingOwMap : Tryz.prog.underlying 79 = some (.map 3 3) := by kernel_rfl
theorem underlyingIntC : Tryz.prog.underlying 3 = some (.int .i64) := by kernel_rfl
theorem zeroThing (w : World) : (zeroValue 75).run Tryz.prog w = .ok (thV zTh) w := by kernel_rfl
theorem zeroIntC (w : World) : (zeroValue 3).run Tryz.prog w = .ok (.int .i64 0) w := by kernel_rfl

def NewK (W w : World) (sh wd : Int) (e : Ending) (w' : World) : Prop := ∃ kb F, e = .returned (.pointer (some ⟨kb, 0, none⟩)) ∧ KG W kb (heldN wd) (newC (leavesOf sh)) F w' ∧ Upd [] w w' ∧ ∀ c ∈ F, w.heap.size ≤ c
theorem newk_done {W w w2 w5 : World} {qb m V : Nat} {fp : List Nat} (hU : Upd [] w w2) (hW : W.heap.size ≤ w.heap.size) (hQ : QG W qb V (zeroM m) [] fp w2) (hf : ∀ c ∈ fp, w.heap.size ≤ c) {wa wb : World} (ha : wa = w2.alloc (.map #[] 0)) (hb : wb = wa.alloc (.map #[] 0))
    (h5 : w5 = wb.alloc (.cells #[mval qb 51, mval qb 52, mval qb 53, .int .u64 0, .int .u64 0, .int .i64 0, .map (some w2.heap.size), .map (some (w2.heap.size + 1)), .bool false, .int .i64 0, .int .u64 0] 83)) :
    ∃ F, KG W (w2.heap.size + 1 + 1) V (newC m) F w5 ∧ Upd [] w w5 ∧ ∀ c ∈ F, w.heap.size ≤ c := by
  rw [← show wb.heap.size = w2.heap.size + 1 + 1 by rw [hb, ha]; simp]
  rw [← show wa.heap.size = w2.heap.size + 1 by rw [ha]; simp] at h5
  have sa : wa.heap.size = w2.heap.size + 1 := by rw [ha]; simp
  have sb : wb.heap.size = w2.heap.size + 2 := by rw [hb]; simp [sa]
  have hs := hU.size
  have ma : IMap wa w2.heap.size [] := by rw [ha]; exact IMap.new w2
  have mb : IMap wb wa.heap.size [] := by rw [hb]; exact IMap.new wa
  have ua : Upd [] w2 wa := by rw [ha]; exact (Upd.refl [] w2).alloc _
  have ub : Upd [] wa wb := by rw [hb]; exact (Upd.refl [] wa).alloc _
  have hlt := hQ.lt
  have key : ∀ (tb ob : Nat), ((tb = wa.heap.size ∧ ob = w2.heap.size) ∨ (tb = w2.heap.size ∧ ob = wa.heap.size)) → w5 = wb.alloc (.cells #[mval qb 51, mval qb 52, mval qb 53, .int .u64 0, .int .u64 0, .int .i64 0, .map (some tb), .map (some ob), .bool false, .int .i64 0, .int .u64 0] 83) →
      ∃ F, KG W wb.heap.size V (newC m) F w5 ∧ Upd [] w w5 ∧ ∀ c ∈ F, w.heap.size ≤ c := by
    intro tb ob hto hw
    have u5 : Upd [] wb w5 := by rw [hw]; exact (Upd.refl [] wb).alloc _
    have hB : Blk w5 wb.heap.size 83 [mval qb 51, mval qb 52, mval qb 53, .int .u64 0, .int .u64 0, .int .i64 0, .map (some tb), .map (some ob), .bool false, .int .i64 0, .int .u64 0] := by rw [hw]; exact Blk.new wb 83 [mval qb 51, mval qb 52, mval qb 53, .int .u64 0, .int .u64 0, .int .i64 0, .map (some tb), .map (some ob), .bool false, .int .i64 0, .int .u64 0]
    have e1 : IMap w5 wa.heap.size [] := mb.upd u5 (by simp)
    have e2 : IMap w5 w2.heap.size [] := (ma.upd ub (by simp)).upd u5 (by simp)
    have htb : IMap w5 tb [] := by rcases hto with ⟨rfl, rfl⟩ | ⟨rfl, rfl⟩ <;> assumption
    have hob : IMap w5 ob [] := by rcases hto with ⟨rfl, rfl⟩ | ⟨rfl, rfl⟩ <;> assumption
    refine ⟨_, ⟨qb, tb, ob, [], [], fp, { blk := hB, tm := htb, om := hob, th := fun _ => rfl, ow := fun _ => rfl, q := ((hQ.upd ua).upd ub).upd u5, d1 := by omega, d2 := by omega, d3 := by omega, far := fun c hc e => ?_, new := fun c hc => ?_ }, rfl⟩, ((hU.trans ua).trans ub).trans u5, fun c hc => ?_⟩
    · have := hlt c e
      simp only [List.mem_cons, List.not_mem_nil, or_false] at hc
      omega
    · simp only [List.mem_cons, List.not_mem_nil, or_false] at hc
      omega
    · simp only [List.mem_cons] at hc
      rcases hc with h | h | h | h
      · omega
      · omega
      · omega
      · exact hf c h
  exact key _ _ (.inr ⟨rfl, rfl⟩) h5

set_option maxRecDepth 100000 in
set_option maxHeartbeats 8000000 in
theorem KG.new {W w : World} (hU : Upd [] W w) (hT : TabAt 0 Lib.deBruijn64tab W) (sh slots workers wd : Int) (unit : Int) : Calls Tryz.prog 33 #[.agg #[.int .i64 sh, .int .i64 slots, .int .i64 workers, .int .i64 wd, .int .u64 unit]] w (NewK W w sh wd) := by
  have HN : Hid (∀ w', Upd [] w w' → Calls Tryz.prog 50 #[.int .i64 sh, .int .i64 wd] w' (NewQ W w' sh wd)) := fun w' hu => QG.new (hU.trans hu) hT sh wd
  have HS := Lib.hid hU.size
  clear hU hT
  go_enter Tryz.func33, Tryz.ntmps33
  go_wp2_with fail
  refine (HN.out _ ((Upd.refl [] w).alloc _)).mono ?_
  rintro e w2 ⟨qb, fp, rfl, hQ, hU2, hf⟩
  have HQ := Lib.hid hQ
  have HU2 := Lib.hid (((Upd.refl [] w).alloc (.cells #[.int .i64 sh, .int .i64 slots, .int .i64 workers, .int .i64 wd, .int .u64 unit] 24)).trans hU2)
  have HF : Hid (∀ c ∈ fp, w.heap.size ≤ c) := fun c hc => by have := hf c hc; simp at this; omega
  clear hQ hU2 hf
  have hm1 : (Instr.makeMap 78 none).run Tryz.prog w2 = .ok (.map (some w2.heap.size)) (w2.alloc (.map #[] 0)) := rfl
  have hm2 : (Instr.makeMap 79 none).run Tryz.prog (w2.alloc (.map #[] 0)) = .ok (.map (some (w2.alloc (.map #[] 0)).heap.size)) ((w2.alloc (.map #[] 0)).alloc (.map #[] 0)) := rfl
  go_wp2
  go_ret
  obtain ⟨F, k1, k2, k3⟩ := newk_done HU2.out HS.out HQ.out HF.out rfl rfl rfl
  exact ⟨_, F, by first | rfl | simp, k1, k2, k3⟩

end Go.Proofs.YtolohheflbmfaaaGreatDoor

/-! Ce2 -/
namespace Go.Proofs.YtolohheflbmfaaaGreatDoor
open Go.RowKit
/-! ### Wake -/
/-- What the two stores into the maps leave. -/
theorem wake_maps {W w3 w4 w5 w6 w7 : World} {kb qb wd tb ob : Nat} {T O T4 O6 : AL} {s : CS} {fp : List Nat} {obj flow : Int} {t' : Th} {s1 s2 : Nat} (h : CAt W w3 kb qb wd tb ob T O s fp)
    (m4 : MapTo w3 tb T4 w4) (e4 : HasEnt w4 tb obj s1) (l4 : ∀ u j, lookM (putM T4 obj u) j = if j = obj then some u else lookM T j) (h5 : w5 = storeW w4 tb s1 (thV t'))
    (m6 : MapTo w5 ob O6 w6) (e6 : HasEnt w6 ob flow s2) (l6 : ∀ u j, lookM (putM O6 flow u) j = if j = flow then some u else lookM O j) (h7 : w7 = storeW w6 ob s2 (.int .i64 obj)) :
    CAt W w7 kb qb wd tb ob (putM T4 obj (thV t')) (putM O6 flow (.int .i64 obj)) { s with th := updI s.th obj t', ow := updI s.ow flow obj } fp ∧ Upd [tb, ob] w3 w7 := by
  have t5 := storeW_to e4 m4.map (thV t')
  rw [← h5] at t5
  have t7 := storeW_to e6 m6.map (.int .i64 obj)
  rw [← h7] at t7
  have u35 : Upd [tb] w3 w5 := m4.upd.trans t5.upd
  have u57 : Upd [ob] w5 w7 := m6.upd.trans t7.upd
  have u : Upd [tb, ob] w3 w7 := (u35.mono (fun c _ hc => by simp at hc; simp [hc])).trans (u57.mono (fun c _ hc => by simp at hc; simp [hc]))
  have hft : tb ∉ fp := h.far tb (by simp)
  have hfo : ob ∉ fp := h.far ob (by simp)
  refine ⟨{ h with
    blk := h.blk.upd u (by simp; exact ⟨h.d1, h.d2⟩)
    tm := t5.map.upd u57 (by simp; exact h.d3)
    om := t7.map
    th := fun j => ?_
    ow := fun j => ?_
    q := h.q.updS u (fun c hc e => ?_) (fun c hc => ?_) }, u⟩
  · rw [l4]; simp only [updI]; split
    · rfl
    · exact h.th j
  · rw [l6]; simp only [updI]; split
    · rfl
    · exact h.ow j
  · simp only [List.mem_cons, List.not_mem_nil, or_false] at e
    rcases e with rfl | rfl
    · exact hft hc
    · exact hfo hc
  · simp only [List.mem_cons, List.not_mem_nil, or_false] at hc
    rcases hc with rfl | rfl
    · exact h.new c (by simp)
    · exact h.new c (by simp)

/-- Two blocks that were made ahead of the queue's deed. -/
theorem CAt.queue2 {W w : World} {kb qb wd tb ob : Nat} {T O : AL} {s : CS} {fp : List Nat} (h : CAt W w kb qb wd tb ob T O s fp) {va vb : List Value} {M' : List Sh} {L' : List It} {w2 : World}
    (k : QGTo W qb wd M' L' fp ((w.alloc (.cells va.toArray 35)).alloc (.cells vb.toArray 75)).drew w2) :
    ∃ fp', CAt W w2 kb qb wd tb ob T O { s with M := M', L := L' } fp' ∧ Fr (kb :: tb :: ob :: fp) (kb :: tb :: ob :: fp') w w2 ∧ Blk w2 w.heap.size 35 va ∧ Blk w2 (w.heap.size + 1) 75 vb ∧ w.heap.size ∉ kb :: tb :: ob :: fp' ∧ w.heap.size + 1 ∉ kb :: tb :: ob :: fp' := by
  have hl := h.lt
  have uA : Upd [] w (w.alloc (.cells va.toArray 35)) := (Upd.refl [] w).alloc _
  have uB : Upd [] (w.alloc (.cells va.toArray 35)) ((w.alloc (.cells va.toArray 35)).alloc (.cells vb.toArray 75)).drew := ((Upd.refl [] _).alloc _).drew
  have b1 : Blk ((w.alloc (.cells va.toArray 35)).alloc (.cells vb.toArray 75)).drew w.heap.size 35 va := (Blk.new w 35 va).upd uB (by simp)
  have b2 : Blk ((w.alloc (.cells va.toArray 35)).alloc (.cells vb.toArray 75)) (w.alloc (.cells va.toArray 35)).heap.size 75 vb := Blk.new _ 75 vb
  have b3 : Blk ((w.alloc (.cells va.toArray 35)).alloc (.cells vb.toArray 75)).drew (w.heap.size + 1) 75 vb := by
    rw [show (w.alloc (.cells va.toArray 35)).heap.size = w.heap.size + 1 by simp] at b2
    exact b2.upd (Upd.refl [] _).drew (by simp)
  obtain ⟨fp', k1, k2⟩ := (h.upd (uA.trans uB)).queue k
  have n1 : w.heap.size ∉ kb :: tb :: ob :: fp := fun e => absurd (hl _ e) (by omega)
  have n2 : w.heap.size + 1 ∉ kb :: tb :: ob :: fp := fun e => absurd (hl _ e) (by omega)
  exact ⟨fp', k1, (Fr.of (uA.trans uB)).trans k2, b1.upd k2.2 n1, b3.upd k2.2 n2, k2.far b1.lt n1, k2.far b3.lt n2⟩
theorem Fr.thenS {F F' S : List Nat} {w w2 w3 : World} (h : Fr F F' w w2) (hu : Upd S w2 w3) (hs : ∀ c ∈ S, c ∈ F ∨ w.heap.size ≤ c) : Fr F F' w w3 :=
  ⟨h.1, h.2.then hu (fun _ _ e => e) (fun i hi hm => (hs i hm).elim id (fun e => by omega))⟩
theorem wakeC_true {s : CS} {obj flow : Int} {k r : Nat} {t : Th} (hb : wakeB s obj flow = true) (hk : wakeK s obj = k) (ht : s.th obj = t) :
    wakeC s obj flow r = { s with th := updI s.th obj ⟨flow, r, t.finish, t.place⟩, ow := updI s.ow flow obj, M := pushM s.M k flow, L := pushL s.M s.L k flow } := by
  unfold wakeC; rw [if_pos hb, hk, ht]
theorem wakeC_false {s : CS} {obj flow : Int} {k r : Nat} (hb : wakeB s obj flow = false) (hk : wakeK s obj = k) :
    wakeC s obj flow r = s ∧ pushM s.M k flow = s.M ∧ pushL s.M s.L k flow = s.L := by
  unfold wakeC; rw [if_neg (by simp [hb])]
  have ht : takeQ s.M k flow = false := by rw [← hk]; exact hb
  refine ⟨rfl, ?_, ?_⟩
  · unfold pushM; rw [ht]; simp
  · unfold pushL; rw [ht]; simp
theorem CAt.wakeM {W w3 : World} {kb qb wd tb ob : Nat} {T O : AL} {s : CS} {fp : List Nat} (h : CAt W w3 kb qb wd tb ob T O s fp) (obj flow : Int) (t' : Th) :
    ∃ (w4 w5 w6 w7 : World) (s1 s2 : Nat) (v4 v6 : Value) (T' O' : AL),
      (Instr.mapEntry 78 (.map (some tb)) (.int .i64 obj)).run Tryz.prog w3 = .ok (.tuple #[v4, .int .i64 s1]) w4 ∧
      (Instr.entryStore 78 (.map (some tb)) (.int .i64 s1) (thV t')).run Tryz.prog w4 = .ok () w5 ∧
      (Instr.mapEntry 79 (.map (some ob)) (.int .i64 flow)).run Tryz.prog w5 = .ok (.tuple #[v6, .int .i64 s2]) w6 ∧
      (Instr.entryStore 79 (.map (some ob)) (.int .i64 s2) (.int .i64 obj)).run Tryz.prog w6 = .ok () w7 ∧
      Upd [tb, ob] w3 w4 ∧ Upd [tb, ob] w3 w5 ∧ Upd [tb, ob] w3 w6 ∧ Upd [tb, ob] w3 w7 ∧
      CAt W w7 kb qb wd tb ob T' O' { s with th := updI s.th obj t', ow := updI s.ow flow obj } fp := by
  obtain ⟨s1, w4, v4, T4, e4, m4, n4, l4⟩ := h.tm.entry (P := Tryz.prog) underlyingThMap underlyingIntC zeroThing obj
  have t5 := storeW_to n4 m4.map (thV t')
  have u35 : Upd [tb] w3 _ := m4.upd.trans t5.upd
  obtain ⟨s2, w6, v6, O6, e6, m6, n6, l6⟩ := (h.om.upd u35 (by simp; exact fun e => h.d3 e.symm)).entry (P := Tryz.prog) underlyingIntMap underlyingInt zeroIntC flow
  have t7 := storeW_to n6 m6.map (.int .i64 obj)
  obtain ⟨k1, k2⟩ := wake_maps h m4 n4 l4 rfl m6 n6 l6 rfl (t' := t')
  exact ⟨w4, _, w6, _, s1, s2, v4, v6, _, _, e4, n4.store _, e6, n6.store _, m4.upd.mono (fun c _ hc => by simp at hc; simp [hc]), u35.mono (fun c _ hc => by simp at hc; simp [hc]),
    (u35.mono (fun c _ hc => by simp at hc; simp [hc])).trans (m6.upd.mono (fun c _ hc => by simp at hc; simp [hc])), k2, k1⟩

set_option maxRecDepth 100000 in
set_option maxHeartbeats 16000000 in
theorem KG.wake {W w : World} {kb wd n : Nat} {s : CS} {F : List Nat} (h : KG W kb wd s F w) (hci : CI s n) (hn : n < 900) (obj flow most : Int) (r : Nat) (hr : r < 18446744073709551616) :
    Calls Tryz.prog 12 #[.pointer (some ⟨kb, 0, none⟩), .int .i64 obj, .agg #[.int .i64 flow, .int .i64 most, .int .u64 r]] w (fun e w' => e = .returned (.bool (wakeB s obj flow)) ∧ KGTo W kb wd (wakeC s obj flow r) F w w') := by
  obtain ⟨qb, tb, ob, T, O, fp, h, rfl⟩ := h
  obtain ⟨c0, c1, c2, c3, c4, c5, c6, c7, c8, c9, c10, lk⟩ := h.cells
  have hl := (h.tm.upd ((Upd.refl [] w).alloc (.cells #[.int .i64 flow, .int .i64 most, .int .u64 r] 35)) (by simp)).look (P := Tryz.prog) underlyingThMap underlyingIntC zeroThing obj false
  rw [h.th obj] at hl
  simp only [Bool.false_eq_true, if_false] at hl
  obtain ⟨t, ht⟩ : ∃ t, s.th obj = t := ⟨_, rfl⟩
  rw [ht] at hl
  unfold thV at hl
  have HTT := Lib.hid ht
  have hk := hci.wakeK obj
  have hkk : Proofs.YtolohheflbmfaaaGreatDoor.wakeK s obj = Max.max s.v t.finish := by unfold Proofs.YtolohheflbmfaaaGreatDoor.wakeK; rw [ht]
  obtain ⟨k, hkd⟩ : ∃ k, Proofs.YtolohheflbmfaaaGreatDoor.wakeK s obj = k := ⟨_, rfl⟩
  rw [hkd] at hk hkk
  have hmax : Max.max (s.v : Int) (t.finish : Int) = (k : Int) := by omega
  have HKD := Lib.hid hkd
  obtain ⟨b, hb⟩ : ∃ b, wakeB s obj flow = b := ⟨_, rfl⟩
  have HB := Lib.hid hb
  have htk : takeQ s.M k flow = b := by rw [← hb]; unfold wakeB; rw [hkd]
  have HP : Hid (∀ w', Upd [] w w' → Calls Tryz.prog 51 #[.pointer (some ⟨qb, 0, none⟩), .agg #[.int .u64 k, .int .i64 flow]] w' (fun e w'' => e = .returned (.bool b) ∧ QGTo W qb wd (pushM s.M k flow) (pushL s.M s.L k flow) fp w' w'')) := fun w' hu => by
    have := (h.q.upd hu).push k hk flow (by have := hci.len; omega)
    rw [htk] at this; exact this
  have HTK := Lib.hid htk
  have HH := Lib.hid h
  rw [hb]
  unfold mval at c0
  clear h hci hk hkk hkd hb ht htk
  go_enter Tryz.func12, Tryz.ntmps12
  go_wp2_with fail
  refine wp_region_tail 14 (by kernel_rfl) (by kernel_rfl) ?_
  simp only [List.take_succ_cons, List.take_zero, List.drop_succ_cons, List.drop_zero]
  repeat (go_big_quiet_step (fail))
  refine wpQuiet_nil ?_
  go_wp2_with fail
  refine (HP.out _ (((Upd.refl [] w).alloc _).alloc _).drew).mono ?_
  rintro e w2 ⟨rfl, h2⟩
  obtain ⟨fp2, g1, g2, g3, g4, g5, g6⟩ := CAt.queue2 (va := [.int .i64 flow, .int .i64 most, .int .u64 r]) (vb := [.int .i64 t.flow, .int .u64 t.r, .int .u64 t.finish, .int .u64 t.place]) HH.out h2
  have G1 := Lib.hid g1
  have G2 := Lib.hid g2
  have G4 := Lib.hid g4
  have G6 := Lib.hid (And.intro g5 g6)
  have p0 := g3.cell (j := 0) rfl
  have p2 := g3.cell (j := 2) rfl
  have t0 := g4.cell (j := 0) rfl
  have t1 := g4.cell (j := 1) rfl
  have z0 := g4.free 0
  have z1 := g4.free 1
  have G3 := Lib.hid g3
  clear h2 g1 g2 g3 g4 g5 g6
  cases b with
  | false =>
    go_wp2
    go_ret
    obtain ⟨j1, j2, j3⟩ := wakeC_false (r := r) HB.out HKD.out
    rw [j1]
    refine ⟨rfl, _, ⟨qb, tb, ob, T, O, fp2, ?_, rfl⟩, G2.out⟩
    have := G1.out
    rw [j2, j3] at this
    exact this
  | true =>
    go_wp2_with fail
    go_region
    go_wp2_with fail
    obtain ⟨w3, hw3⟩ : ∃ w3, ((w2.setCell ⟨w.heap.size + 1, 0, none⟩ (.int .i64 flow)).setCell ⟨w.heap.size + 1, 1, none⟩ (.int .u64 r)).drew = w3 := ⟨_, rfl⟩
    rw [hw3]
    have hU3 : Upd [w.heap.size + 1] w2 w3 := by rw [← hw3]; exact (((Upd.refl _ w2).setCell (.inl (by simp)) _).setCell (.inl (by simp)) _).drew
    have hB3 : Blk w3 (w.heap.size + 1) 75 [.int .i64 flow, .int .u64 r, .int .u64 t.finish, .int .u64 t.place] := by rw [← hw3]; exact ((G4.out.set 0 _).set 1 _).upd (Upd.refl [] _).drew (by simp)
    have hC3 := (G1.out.updS hU3 (fun c hc e => by simp only [List.mem_cons, List.not_mem_nil, or_false] at e; exact G6.out.2 (e ▸ hc)) (fun c hc => by simp only [List.mem_cons, List.not_mem_nil, or_false] at hc; have := G1.out.q.updW.size; have := HH.out.q.updW.size; omega)).upd (Upd.refl [] w3).drew
    have hA3 := (G3.out.upd hU3 (by simp)).upd (Upd.refl [] w3).drew (by simp)
    replace hB3 := hB3.upd (Upd.refl [] w3).drew (by simp)
    have hn1 : w.heap.size ∉ [tb, ob] := fun e => by
      have := HH.out.lt; simp only [List.mem_cons, List.not_mem_nil, or_false] at e
      rcases e with e | e
      · have := this tb (by simp); omega
      · have := this ob (by simp); omega
    obtain ⟨w4, w5, w6, w7, s1, s2, v4, v6, T', O', e4, e5, e6, e7, u4, u5, u6, u7, hC7⟩ := hC3.wakeM obj flow ⟨flow, r, t.finish, t.place⟩
    have q0 := hA3.cell (j := 0) rfl
    have q4 := (u4.cell hA3.lt hn1 0).trans q0
    have q5 := (u5.cell hA3.lt hn1 0).trans q0
    have q6 := (u6.cell hA3.lt hn1 0).trans q0
    obtain ⟨-, -, -, -, -, -, r6, r7, -, -, -, -⟩ := hC3.cells
    have b0 := hB3.cell (j := 0) rfl
    have b1 := hB3.cell (j := 1) rfl
    have b2 := hB3.cell (j := 2) rfl
    have b3 := hB3.cell (j := 3) rfl
    have hn2 : w.heap.size + 1 ∉ [tb, ob] := fun e => by
      have := HH.out.lt; simp only [List.mem_cons, List.not_mem_nil, or_false] at e
      rcases e with e | e
      · have := this tb (by simp); omega
      · have := this ob (by simp); omega
    have x0 := (u4.cell hB3.lt hn2 0).trans b0
    have x1 := (u4.cell hB3.lt hn2 1).trans b1
    have x2 := (u4.cell hB3.lt hn2 2).trans b2
    have x3 := (u4.cell hB3.lt hn2 3).trans b3
    clear hn1 hn2
    unfold thV at e5
    have HC7 := Lib.hid hC7
    have HU3 := Lib.hid hU3
    have HU7 := Lib.hid u7
    clear hC7 hU3 u7 u4 u5 u6 hC3 hA3 hB3 hw3
    go_region
    go_wp2
    go_ret
    rw [wakeC_true HB.out HKD.out HTT.out]
    refine ⟨rfl, _, ⟨qb, tb, ob, T', O', fp2, HC7.out, rfl⟩, ((G2.out.thenS HU3.out (fun c hc => ?_)).up (Upd.refl [] w3).drew).thenS HU7.out (fun c hc => ?_)⟩
    · simp only [List.mem_cons, List.not_mem_nil, or_false] at hc; omega
    · simp only [List.mem_cons, List.not_mem_nil, or_false] at hc
      rcases hc with rfl | rfl
      · exact .inl (by simp)
      · exact .inl (by simp)
end Go.Proofs.YtolohheflbmfaaaGreatDoor

/-! Ce3 -/
namespace Go.Proofs.YtolohheflbmfaaaGreatDoor
open Go.RowKit

theorem QG.keysL {W w : World} {qb wd : Nat} {M : List Sh} {L : List It} {fp : List Nat} (h : QG W qb wd M L fp w) : ∀ x ∈ L, x.1 = (kn x : Int) ∧ kn x < 18446744073709551616 := fun x hx => by
  obtain ⟨i, hi, hm⟩ := h.ok.mem.1 hx
  exact ⟨(h.keys i hi x hm).1, (h.keys i hi x hm).2.1⟩
section
variable {W w : World} {kb qb wd tb ob : Nat} {T O : AL} {s : CS} {fp : List Nat}
theorem CAt.reblk (h : CAt W w kb qb wd tb ob T O s fp) {w' : World} (hu : Upd [kb] w w') (v most served : Nat) (is : Bool) (obj : Int) (key : Nat)
    (hb : Blk w' kb 83 [mval qb 51, mval qb 52, mval qb 53, .int .u64 v, .int .u64 most, .int .i64 served, .map (some tb), .map (some ob), .bool is, .int .i64 obj, .int .u64 key]) :
    CAt W w' kb qb wd tb ob T O { s with v := v, most := most, served := served, is := is, obj := obj, key := key } fp :=
  { h with
    blk := hb
    tm := h.tm.upd hu (by simp; exact fun e => h.d1 e.symm)
    om := h.om.upd hu (by simp; exact fun e => h.d2 e.symm)
    q := h.q.updS hu (fun c hc e => by simp only [List.mem_cons, List.not_mem_nil, or_false] at e; exact h.far kb (by simp) (e ▸ hc)) (fun c hc => by simp only [List.mem_cons, List.not_mem_nil, or_false] at hc; exact h.new c (by simp [hc])) }
theorem CAt.lookT (h : CAt W w kb qb wd tb ob T O s fp) (o : Int) : (Instr.lookup 78 (.map (some tb)) (.int .i64 o) false).run Tryz.prog w = .ok (thV (s.th o)) w := by
  have hl := h.tm.look (P := Tryz.prog) underlyingThMap underlyingIntC zeroThing o false
  rw [h.th o] at hl
  simpa only [Bool.false_eq_true, if_false] using hl
theorem CAt.lookO (h : CAt W w kb qb wd tb ob T O s fp) (f : Int) : (Instr.lookup 79 (.map (some ob)) (.int .i64 f) false).run Tryz.prog w = .ok (.int .i64 (s.ow f)) w := by
  have hl := h.om.look (P := Tryz.prog) underlyingIntMap underlyingInt zeroIntC f false
  rw [h.ow f] at hl
  simpa only [Bool.false_eq_true, if_false] using hl
end
set_option maxRecDepth 100000 in
set_option maxHeartbeats 16000000 in
theorem KG.pick {W w : World} {kb wd : Nat} {s : CS} {F : List Nat} (h : KG W kb wd s F w) :
    Calls Tryz.prog 13 #[.pointer (some ⟨kb, 0, none⟩)] w (fun e w' => e = .returned (pickV s) ∧ KGTo W kb wd (pickC s) F w w') := by
  obtain ⟨qb, tb, ob, T, O, fp, h, rfl⟩ := h
  obtain ⟨c0, c1, c2, c3, c4, c5, c6, c7, c8, c9, c10, lk⟩ := h.cells
  have hkl := h.q.keysL
  have HP : Hid (Calls Tryz.prog 52 #[.pointer (some ⟨qb, 0, none⟩)] w (fun e w' => e = .returned (firstV s.L) ∧ QGTo W qb wd (popM s.M s.L) s.L.tail fp w w')) := h.q.pop
  have HH := Lib.hid h
  unfold mval at c1
  cases hL : s.L with
  | nil =>
    have HN : Hid (pickV s = .tuple #[.int .i64 0, .int .u64 0, .bool false] ∧ pickC s = { s with v := Max.max s.v s.most }) := ⟨by unfold pickV; rw [hL], pickC_nil hL⟩
    rw [hL] at HP
    have HM : Hid (popM s.M [] = s.M ∧ [] = s.L) := ⟨rfl, hL.symm⟩
    rw [HN.out.1, HN.out.2]
    unfold firstV itV zIt at HP
    obtain ⟨k, hk⟩ : ∃ k, Max.max s.v s.most = k := ⟨_, rfl⟩
    have hmax : Max.max (s.v : Int) (s.most : Int) = (k : Int) := by omega
    rw [hk]
    clear h hkl hL hk
    go_enter Tryz.func13, Tryz.ntmps13
    go_wp2_with fail
    refine HP.out.mono ?_
    rintro e w2 ⟨rfl, h2⟩
    obtain ⟨fp2, g1, g2⟩ := HH.out.queue h2
    have g3 := g1.upd ((Upd.refl [] w2).alloc (.cells #[.int .u64 0, .int .i64 0] 54))
    obtain ⟨-, -, -, a3, a4, -, -, -, -, -, -, la⟩ := g3.cells
    have z3 := g3.blk.free 3
    have G3 := Lib.hid g3
    have G2 := Lib.hid (g2.up ((Upd.refl [] w2).alloc (.cells #[.int .u64 0, .int .i64 0] 54)))
    clear h2 g1 g2 g3
    go_wp2_with fail
    obtain ⟨wa, hwa⟩ : ∃ x, w2.alloc (.cells #[.int .u64 0, .int .i64 0] 54) = x := ⟨_, rfl⟩
    rw [hwa] at G3 G2 a3 a4 z3 la ⊢
    clear hwa
    go_region
    go_wp2_with fail
    refine bodyPost_ret (v := .tuple #[.int .i64 0, .int .u64 0, .bool false]) (by simp [results, Tryz.results13, go_sem]) rfl ?_
    have hB := (G3.out.blk.set 3 (.int .u64 k)).upd (Upd.refl [] _).drew (by simp)
    have hU : Upd [kb] wa (wa.setCell ⟨kb, 3, none⟩ (.int .u64 k)).drew := ((Upd.refl [kb] wa).setCell (.inl (by simp)) _).drew
    have h9 := G3.out.reblk hU k s.most s.served s.is s.obj s.key hB
    rw [HM.out.1] at h9
    refine ⟨rfl, _, ⟨qb, tb, ob, T, O, fp2, ?_, rfl⟩, G2.out.thenS hU (by simp)⟩
    have e := HM.out.2
    simp only [List.tail_nil] at h9
    rw [e] at h9
    exact h9
  | cons x l =>
    have hx := hkl x (by rw [hL]; simp)
    obtain ⟨k, hk⟩ : ∃ k, kn x = k := ⟨_, rfl⟩
    obtain ⟨f, hf⟩ : ∃ f, x.2 = f := ⟨_, rfl⟩
    obtain ⟨o, ho⟩ : ∃ o, s.ow f = o := ⟨_, rfl⟩
    obtain ⟨t, ht⟩ : ∃ t, s.th o = t := ⟨_, rfl⟩
    have HN : Hid (pickV s = .tuple #[.int .i64 o, .int .u64 t.place, .bool true] ∧ pickC s = { s with v := k, is := true, obj := o, key := k, M := popM s.M s.L, L := s.L.tail }) :=
      ⟨by unfold pickV; rw [hL]; simp only; rw [hf, ho, ht], by rw [pickC_cons hL, hk, hf, ho]⟩
    rw [HN.out.1, HN.out.2]
    have hv : firstV s.L = .tuple #[.agg #[.int .u64 k, .int .i64 f], .bool true] := by rw [hL]; show itV x true = _; unfold itV; rw [show x.1 = (k : Int) by rw [← hk]; exact hx.1, hf]
    rw [hv] at HP
    have HO := Lib.hid ho
    have HT := Lib.hid ht
    clear h hkl hL hk hx hf ho ht hv
    go_enter Tryz.func13, Tryz.ntmps13
    go_wp2_with fail
    refine HP.out.mono ?_
    rintro e w2 ⟨rfl, h2⟩
    obtain ⟨fp2, g1, g2⟩ := HH.out.queue h2
    have g3 := g1.upd ((Upd.refl [] w2).alloc (.cells #[.int .u64 k, .int .i64 f] 54))
    have G2 := Lib.hid (g2.up ((Upd.refl [] w2).alloc (.cells #[.int .u64 k, .int .i64 f] 54)))
    have n4 : w2.heap.size ≠ kb := fun e => by have := g1.blk.lt; omega
    have b4 : Blk (w2.alloc (.cells #[.int .u64 k, .int .i64 f] 54)) w2.heap.size 54 [.int .u64 k, .int .i64 f] := Blk.new w2 54 _
    obtain ⟨wa, hwa⟩ : ∃ x, w2.alloc (.cells #[.int .u64 k, .int .i64 f] 54) = x := ⟨_, rfl⟩
    rw [hwa] at g3 G2 b4
    have hU : Upd [kb] wa (wa.setCell ⟨kb, 3, none⟩ (.int .u64 k)) := (Upd.refl [kb] wa).setCell (.inl (by simp)) _
    have g5 := g3.reblk hU k s.most s.served s.is s.obj s.key (g3.blk.set 3 (.int .u64 k))
    have b5 := b4.upd hU (by simp; exact n4)
    have z3 := g3.blk.free 3
    have y0 := b4.cell (j := 0) rfl
    obtain ⟨-, -, -, a3, -, -, -, -, -, -, -, la⟩ := g3.cells
    have G3 := Lib.hid g3
    have G5 := Lib.hid g5
    have B5 := Lib.hid b5
    have HWA := Lib.hid hwa
    have N4 := Lib.hid n4
    have HUW := Lib.hid hU
    clear h2 g1 g2 g3 g5 b4 b5 hwa n4 hU
    go_wp2_with (first | rw [HWA.out] | fail)
    obtain ⟨wb, hwb⟩ : ∃ x, wa.setCell ⟨kb, 3, none⟩ (.int .u64 k) = x := ⟨_, rfl⟩
    rw [hwb] at G5 B5 HUW ⊢
    clear a3 z3 y0 la hwb
    have g6 := G5.out.upd (Upd.refl [] wb).drew
    have b6 := B5.out.upd (Upd.refl [] wb).drew (by simp)
    have y0 := b6.cell (j := 0) rfl
    have y1 := b6.cell (j := 1) rfl
    have lo := g6.lookO f
    rw [show ({ s with v := k, M := popM s.M s.L, L := s.L.tail } : CS).ow f = o from HO.out] at lo
    obtain ⟨-, -, -, -, -, -, -, a7, -, -, -, la⟩ := g6.cells
    obtain ⟨-, -, -, -, -, -, -, -, a8, a9, a10, -⟩ := G5.out.cells
    have z8 := G5.out.blk.free 8
    have z9 := G5.out.blk.free 9
    have z10 := G5.out.blk.free 10
    have G6 := Lib.hid g6
    clear g6 b6
    go_region
    go_wp2_with fail
    obtain ⟨wc, hwc⟩ : ∃ x, (((wb.setCell ⟨kb, 8, none⟩ (.bool true)).setCell ⟨kb, 9, none⟩ (.int .i64 o)).setCell ⟨kb, 10, none⟩ (.int .u64 k)).drew = x := ⟨_, rfl⟩
    rw [hwc]
    have hU8 : Upd [kb] wb wc := by rw [← hwc]; exact ((((Upd.refl [kb] wb).setCell (.inl (by simp)) _).setCell (.inl (by simp)) _).setCell (.inl (by simp)) _).drew
    have g8 := G5.out.reblk hU8 k s.most s.served true o k (by rw [← hwc]; exact (((G5.out.blk.set 8 (.bool true)).set 9 (.int .i64 o)).set 10 (.int .u64 k)).upd (Upd.refl [] _).drew (by simp))
    have g9 := g8.upd (Upd.refl [] wc).drew
    have lt := g9.lookT o
    rw [show ({ s with v := k, is := true, obj := o, key := k, M := popM s.M s.L, L := s.L.tail } : CS).th o = t from HT.out] at lt
    unfold thV at lt
    have hfd : (Instr.field 75 (.agg #[.int .i64 t.flow, .int .u64 t.r, .int .u64 t.finish, .int .u64 t.place]) 3).run Tryz.prog wc.drew = .ok (.int .u64 t.place) wc.drew := rfl
    obtain ⟨-, -, -, -, -, -, d6, -, -, d9, -, ld⟩ := g9.cells
    have G8 := Lib.hid g8
    have HU8 := Lib.hid hU8
    clear g8 g9 hwc hU8 y0 y1 lo a7 la a8 a9 a10 z8 z9 z10
    go_region
    go_wp2_with fail
    refine bodyPost_ret (v := .tuple #[.int .i64 o, .int .u64 t.place, .bool true]) (by simp [results, Tryz.results13, go_sem]) rfl ?_
    exact ⟨rfl, _, ⟨qb, tb, ob, T, O, fp2, G8.out.upd (Upd.refl [] wc).drew, rfl⟩, ((G2.out.thenS HUW.out (by simp)).thenS HU8.out (by simp)).up (Upd.refl [] wc).drew⟩
end Go.Proofs.YtolohheflbmfaaaGreatDoor

/-! Ce4 -/
namespace Go.Proofs.YtolohheflbmfaaaGreatDoor
open Go.RowKit
theorem CAt.putT {W w w' : World} {kb qb wd tb ob : Nat} {T O : AL} {s : CS} {fp : List Nat} (h : CAt W w kb qb wd tb ob T O s fp) {o : Int} {t' : Th} (m : MapTo w tb (putM T o (thV t')) w') :
    CAt W w' kb qb wd tb ob (putM T o (thV t')) O { s with th := updI s.th o t' } fp ∧ Upd [tb] w w' := by
  refine ⟨{ h with
    blk := h.blk.upd m.upd (by simp; exact h.d1)
    tm := m.map
    om := h.om.upd m.upd (by simp; exact fun e => h.d3 e.symm)
    th := fun j => ?_
    q := h.q.updS m.upd (fun c hc e => by simp only [List.mem_cons, List.not_mem_nil, or_false] at e; exact h.far tb (by simp) (e ▸ hc)) (fun c hc => by simp only [List.mem_cons, List.not_mem_nil, or_false] at hc; exact h.new c (by simp [hc])) }, m.upd⟩
  rw [lookM_put]; simp only [updI]; split
  · rfl
  · exact h.th j
theorem doneC_true {s : CS} {size o : Int} {key c fin p1 : Nat} {t : Th} (more : Bool) (his : s.is = true) (ho : s.obj = o) (hk : s.key = key) (ht : s.th o = t) (hc : mulT (sizeN size) t.r = c) (hf : addT key c = fin) (hp : t.place + 1 = p1) :
    doneC s size more = { s with is := false, obj := 0, key := 0, th := updI s.th o ⟨t.flow, t.r, fin, p1⟩, most := Max.max s.most fin, served := s.served + 1, M := if more = true then pushM s.M fin t.flow else s.M, L := if more = true then pushL s.M s.L fin t.flow else s.L } := by
  have hd : doneT s size = ⟨t.flow, t.r, fin, p1⟩ := by unfold doneT; rw [ho, ht, hc, hk, hf, hp]
  unfold doneC
  rw [if_pos his, hd, ho]

set_option maxRecDepth 100000 in
set_option maxHeartbeats 16000000 in
theorem KG.done {W w : World} {kb wd n : Nat} {s : CS} {F : List Nat} (h : KG W kb wd s F w) (hci : CI s n) (hn : n < 900) (size : Int) (hs : size < 9223372036854775808) (more : Bool) :
    Calls Tryz.prog 14 #[.pointer (some ⟨kb, 0, none⟩), .int .i64 size, .bool more] w (fun e w' => e = .returned (.bool s.is) ∧ KGTo W kb wd (doneC s size more) F w w') := by
  obtain ⟨qb, tb, ob, T, O, fp, h, rfl⟩ := h
  obtain ⟨c0, c1, c2, c3, c4, c5, c6, c7, c8, c9, c10, lk⟩ := h.cells
  have HH := Lib.hid h
  cases his : s.is with
  | false =>
    have HN : Hid (doneC s size more = s) := by unfold Hid doneC; rw [if_neg (by simp [his])]
    rw [HN.out]
    rw [his] at c8
    clear h hci
    go_enter Tryz.func14, Tryz.ntmps14
    go_wp2_with fail
    go_ret
    exact ⟨rfl, _, ⟨qb, tb, ob, T, O, fp, HH.out.upd ((Upd.refl [] w).alloc _), rfl⟩, Fr.of ((Upd.refl [] w).alloc _)⟩
  | true =>
    rw [his] at c8
    obtain ⟨o, ho⟩ : ∃ o, s.obj = o := ⟨_, rfl⟩
    obtain ⟨key, hkey⟩ : ∃ o, s.key = o := ⟨_, rfl⟩
    obtain ⟨t, ht⟩ : ∃ t, s.th o = t := ⟨_, rfl⟩
    have z8 := h.blk.free 8
    have z9 := h.blk.free 9
    have z10 := h.blk.free 10
    rw [ho] at c9
    rw [hkey] at c10
    have HO := Lib.hid ho
    have HKEY := Lib.hid hkey
    have HT := Lib.hid ht
    obtain ⟨c, hc⟩ : ∃ c, mulT (sizeN size) t.r = c := ⟨_, rfl⟩
    obtain ⟨fin, hfin⟩ : ∃ f, addT key c = f := ⟨_, rfl⟩
    have HC : Hid (∀ w, Calls Tryz.prog 36 #[.int .i64 size, .int .u64 t.r] w (fun e w' => e = .returned (.int .u64 c) ∧ w = w')) := fun w => by rw [← hc]; exact tgcost size hs t.r (by rw [← ht]; exact hci.r64 o) w
    have HA : Hid (∀ w, Calls Tryz.prog 35 #[.int .u64 key, .int .u64 c] w (fun e w' => e = .returned (.int .u64 fin) ∧ w = w')) := fun w => by rw [← hfin]; exact tgadd key c (by rw [← hkey]; exact hci.k64) (by rw [← hc]; exact mulT_lt _ _) w
    obtain ⟨p1, hp1⟩ : ∃ p, t.place + 1 = p := ⟨_, rfl⟩
    obtain ⟨sv, hsv⟩ : ∃ p, s.served + 1 = p := ⟨_, rfl⟩
    obtain ⟨mx, hmx⟩ : ∃ p, Max.max s.most fin = p := ⟨_, rfl⟩
    have hwp : IntKind.u64.wrap ((t.place : Int) + 1) = (p1 : Int) := by
      have := hci.place o; rw [ht] at this; rw [IntKind.wrap_u64]; omega
    have hws : IntKind.i64.wrap ((s.served : Int) + 1) = (sv : Int) := by
      have := hci.srv; rw [IntKind.wrap_i64]; omega
    have hmax : Max.max (s.most : Int) (fin : Int) = (mx : Int) := by omega
    have HDN : Hid (doneC s size more = { s with is := false, obj := 0, key := 0, th := updI s.th o ⟨t.flow, t.r, fin, p1⟩, most := mx, served := sv, M := if more = true then pushM s.M fin t.flow else s.M, L := if more = true then pushL s.M s.L fin t.flow else s.L }) := by
      unfold Hid; rw [← hmx, ← hsv]; exact doneC_true more his ho hkey ht hc hfin hp1
    have HLN : Hid (s.L.length < 1000) := by unfold Hid; have := hci.len; omega
    have HF64 : Hid (fin < 18446744073709551616) := by unfold Hid; rw [← hfin]; exact addT_lt _ _
    clear hp1 hsv hmx hci
    have HC1 := Lib.hid hc
    have HF1 := Lib.hid hfin
    clear hc hfin
    have n1 : w.heap.size ≠ kb := fun e => by have := h.blk.lt; omega
    clear h
    go_enter Tryz.func14, Tryz.ntmps14
    go_wp2_with fail
    obtain ⟨w2, hw2⟩ : ∃ x, (((w.setCell ⟨kb, 8, none⟩ (.bool false)).setCell ⟨kb, 9, none⟩ (.int .i64 0)).setCell ⟨kb, 10, none⟩ (.int .u64 0)).alloc (.cells #[.bool true, .int .i64 o, .int .u64 key] 81) = x := ⟨_, rfl⟩
    rw [hw2]
    have hU2 : Upd [kb] w w2 := by rw [← hw2]; exact ((((Upd.refl [kb] w).setCell (.inl (by simp)) _).setCell (.inl (by simp)) _).setCell (.inl (by simp)) _).alloc _
    have g2 := HH.out.reblk hU2 s.v s.most s.served false 0 0 (by
      rw [← hw2]; exact (((HH.out.blk.set 8 (.bool false)).set 9 (.int .i64 0)).set 10 (.int .u64 0)).alloc _)
    have b2 : Blk w2 w.heap.size 81 [.bool true, .int .i64 o, .int .u64 key] := by
      have := Blk.new (((w.setCell ⟨kb, 8, none⟩ (.bool false)).setCell ⟨kb, 9, none⟩ (.int .i64 0)).setCell ⟨kb, 10, none⟩ (.int .u64 0)) 81 [.bool true, .int .i64 o, .int .u64 key]
      rw [← hw2]
      simpa using this
    have sz2 : w2.heap.size = w.heap.size + 1 := by rw [← hw2]; simp
    have g2d := g2.upd (Upd.refl [] w2).drew
    have g2a := g2.upd ((Upd.refl [] w2).alloc (.cells #[.int .i64 0, .int .u64 0, .int .u64 0, .int .u64 0] 75)).drew
    have l1 := g2d.lookT o
    have l2 := g2a.lookT o
    rw [show ({ s with v := s.v, most := s.most, served := s.served, is := false, obj := 0, key := 0 } : CS).th o = t from HT.out] at l1 l2
    unfold thV at l1 l2
    obtain ⟨-, -, -, -, -, -, d6, -, -, -, -, ld⟩ := g2d.cells
    obtain ⟨-, -, -, -, -, -, d6', -, -, -, -, -⟩ := g2.cells
    obtain ⟨-, -, -, -, -, -, d6a, -, -, -, -, -⟩ := (g2.upd ((Upd.refl [] w2).alloc (.cells #[.int .i64 0, .int .u64 0, .int .u64 0, .int .u64 0] 75))).cells
    have b21a := (b2.alloc (.cells #[.int .i64 0, .int .u64 0, .int .u64 0, .int .u64 0] 75)).cell (j := 1) rfl
    have b20 := b2.cell (j := 0) rfl
    have b21 := b2.cell (j := 1) rfl
    have b22 := b2.cell (j := 2) rfl
    have lb2 := b2.lt
    have G2 := Lib.hid g2
    have B2 := Lib.hid b2
    have HU2 := Lib.hid hU2
    have SZ2 := Lib.hid sz2
    clear hw2 hU2 g2 b2 g2d g2a c0 c1 c2 c3 c4 c5 c6 c7 c8 c9 c10 z8 z9 z10 lk sz2
    go_region
    all_goals
      clear d6 d6' d6a l1 l2 b20 b21 b22 b21a ld
      go_wp2_with fail
      obtain ⟨tb3, htb⟩ : ∃ x, w2.heap.size = x := ⟨_, rfl⟩
      obtain ⟨w3, hw3⟩ : ∃ x, (w2.alloc (.cells #[.int .i64 t.flow, .int .u64 t.r, .int .u64 t.finish, .int .u64 t.place] 75)).drew = x := ⟨_, rfl⟩
      have hU3 : Upd [] w2 w3 := by rw [← hw3]; exact ((Upd.refl [] w2).alloc _).drew
      have t3 : Blk w3 tb3 75 [.int .i64 t.flow, .int .u64 t.r, .int .u64 t.finish, .int .u64 t.place] := by
        rw [← hw3, ← htb]; exact (Blk.new w2 75 [.int .i64 t.flow, .int .u64 t.r, .int .u64 t.finish, .int .u64 t.place]).upd (Upd.refl [] _).drew (by simp)
      rw [hw3, htb]
      rw [htb] at SZ2
      have HTB := Lib.hid htb
      clear hw3 htb
      have b3 := B2.out.upd hU3 (by simp)
      have G3 := Lib.hid (G2.out.upd hU3)
      have HU3 := Lib.hid hU3
      have y0 := b3.cell (j := 0) rfl
      have y1 := b3.cell (j := 1) rfl
      have y2 := b3.cell (j := 2) rfl
      have x0 := t3.cell (j := 0) rfl
      have x1 := t3.cell (j := 1) rfl
      have x2 := t3.cell (j := 2) rfl
      have x3 := t3.cell (j := 3) rfl
      have z2 := t3.free 2
      have z3 := t3.free 3
      have lt3 := t3.lt
      have lb3 := b3.lt
      have B3 := Lib.hid b3
      have T3 := Lib.hid t3
      clear b3 t3 hU3
      refine wp_region_tail 8 (by kernel_rfl) (by kernel_rfl) ?_
      simp only [List.take_succ_cons, List.take_zero, List.drop_succ_cons, List.drop_zero]
      repeat (go_big_quiet_step (first | (exact ((HC.out _).mono (fun _ _ h => ⟨h.1, h.2.symm⟩)) _) | (exact ((HA.out _).mono (fun _ _ h => ⟨h.1, h.2.symm⟩)) _)))
      refine wpQuiet_nil ?_
      go_wp2_with fail
      obtain ⟨w4, hw4⟩ : ∃ x, ((w3.setCell ⟨tb3, 2, none⟩ (.int .u64 fin)).setCell ⟨tb3, 3, none⟩ (.int .u64 p1)).drew = x := ⟨_, rfl⟩
      rw [hw4]
      have hU4 : Upd [tb3] w3 w4 := by rw [← hw4]; exact (((Upd.refl [tb3] w3).setCell (.inl (by simp)) _).setCell (.inl (by simp)) _).drew
      have t4 : Blk w4 tb3 75 [.int .i64 t.flow, .int .u64 t.r, .int .u64 fin, .int .u64 p1] := by rw [← hw4]; exact ((T3.out.set 2 _).set 3 _).upd (Upd.refl [] _).drew (by simp)
      clear hw4 y0 y1 y2 x0 x1 x2 x3 z2 z3 lt3 lb3
      have g4 := G3.out.updS hU4 (fun c hc e => by
        have h1 := G2.out.lt c hc
        rw [HTB.out] at h1
        simp only [List.mem_cons, List.not_mem_nil, or_false] at e
        omega) (fun c hc => by
        simp only [List.mem_cons, List.not_mem_nil, or_false] at hc
        have h1 := G2.out.q.updW.size
        rw [HTB.out] at h1
        omega)
      have b4 := B3.out.upd hU4 (by simp; have := SZ2.out; omega)
      have g4d := g4.upd (Upd.refl [] w4).drew
      obtain ⟨w5, e5, m5⟩ := g4d.tm.put (P := Tryz.prog) underlyingThMap underlyingIntC o (thV ⟨t.flow, t.r, fin, p1⟩)
      obtain ⟨g5, hU5⟩ := g4d.putT m5
      have hnt : tb ∉ ([tb3] : List Nat) := fun e => by
        have h1 := G2.out.tm.lt; rw [HTB.out] at h1; simp only [List.mem_cons, List.not_mem_nil, or_false] at e; omega
      have hnt2 : tb3 ∉ ([tb] : List Nat) := fun e => by
        have h1 := G2.out.tm.lt; rw [HTB.out] at h1; simp only [List.mem_cons, List.not_mem_nil, or_false] at e; omega
      unfold thV at e5
      obtain ⟨-, -, -, -, -, -, d6, -, -, -, -, ld⟩ := g4.cells
      have y1 := b4.cell (j := 1) rfl
      have x0 := t4.cell (j := 0) rfl
      have x1 := t4.cell (j := 1) rfl
      have x2 := t4.cell (j := 2) rfl
      have x3 := t4.cell (j := 3) rfl
      have t5 := (t4.upd (Upd.refl [] w4).drew (by simp)).upd hU5 hnt2
      have HU4 := Lib.hid hU4
      have HU5 := Lib.hid hU5
      have G5 := Lib.hid g5
      have T5 := Lib.hid t5
      clear hU4 hU5 g4 g4d g5 t4 t5 b4 m5 hnt hnt2
      go_region
      go_wp2_with fail
      clear x0 x1 x2 x3 y1 d6 ld e5
      obtain ⟨-, -, -, -, a4, a5, -, -, -, -, -, la⟩ := G5.out.cells
      have z4 := G5.out.blk.free 4
      have z5 := G5.out.blk.free 5
      have x2 := T5.out.cell (j := 2) rfl
      go_region
      all_goals
        obtain ⟨w6, hw6⟩ : ∃ x, ((w5.setCell ⟨kb, 4, none⟩ (.int .u64 mx)).setCell ⟨kb, 5, none⟩ (.int .i64 sv)).drew = x := ⟨_, rfl⟩
        have hU6 : Upd [kb] w5 w6 := by rw [← hw6]; exact (((Upd.refl [kb] w5).setCell (.inl (by simp)) _).setCell (.inl (by simp)) _).drew
        have g6 := G5.out.reblk hU6 s.v mx sv false 0 0 (by rw [← hw6]; exact ((G5.out.blk.set 4 (.int .u64 mx)).set 5 (.int .i64 sv)).upd (Upd.refl [] _).drew (by simp))
        have hkt : tb3 ∉ ([kb] : List Nat) := fun e => by
          have h1 := G2.out.blk.lt; rw [HTB.out] at h1; simp only [List.mem_cons, List.not_mem_nil, or_false] at e; omega
        have t6 := T5.out.upd hU6 hkt
        have hFr : Fr (kb :: tb :: ob :: fp) (kb :: tb :: ob :: fp) w w6 := (((((Fr.refl _ w).thenS HU2.out (by simp)).up HU3.out).thenS HU4.out (fun c hc => by
          simp only [List.mem_cons, List.not_mem_nil, or_false] at hc; have := SZ2.out; omega)).up (Upd.refl [] w4).drew).thenS HU5.out (by simp) |>.thenS hU6 (by simp)
        have HFr := Lib.hid hFr
        have G6 := Lib.hid g6
        have T6 := Lib.hid t6
        clear hU6 g6 t6 hFr hkt x2
        cases more with
        | false =>
          go_wp2_with fail
          try rw [hw6]
          go_ret
          rw [HDN.out]
          exact ⟨rfl, _, ⟨qb, tb, ob, _, O, fp, G6.out, rfl⟩, HFr.out⟩
        | true =>
          go_wp2_with fail
          try rw [hw6]
          clear hw6 a4 a5 z4 z5 la
          obtain ⟨a0, -, -, -, -, -, -, -, -, -, -, la⟩ := G6.out.cells
          unfold mval at a0
          have x0 := T6.out.cell (j := 0) rfl
          have x2 := T6.out.cell (j := 2) rfl
          have HP := Lib.hid ((G6.out.upd (Upd.refl [] w6).drew).q.push fin HF64.out t.flow HLN.out)
          refine wp_region_tail 9 (by kernel_rfl) (by kernel_rfl) ?_
          simp only [List.take_succ_cons, List.take_zero, List.drop_succ_cons, List.drop_zero]
          repeat (go_big_quiet_step (fail))
          refine wpQuiet_nil ?_
          go_wp2_with fail
          refine HP.out.mono ?_
          rintro e w7 ⟨rfl, h7⟩
          obtain ⟨fp7, g7, f7⟩ := (G6.out.upd (Upd.refl [] w6).drew).queue h7
          have G7 := Lib.hid g7
          have F7 := Lib.hid f7
          clear h7 g7 f7 a0 x0 x2 la
          go_wp2_with fail
          go_ret
          rw [HDN.out]
          exact ⟨rfl, _, ⟨qb, tb, ob, _, O, fp7, G7.out, rfl⟩, (HFr.out.up (Upd.refl [] w6).drew).trans F7.out⟩
end Go.Proofs.YtolohheflbmfaaaGreatDoor

/-! Ce5 -/
namespace Go.Proofs.YtolohheflbmfaaaGreatDoor
open Go.RowKit
section
variable {W w : World} {kb wd : Nat} {s : CS} {F : List Nat}
theorem KG.v_ (h : KG W kb wd s F w) : Calls Tryz.prog 23 #[.pointer (some ⟨kb, 0, none⟩)] w (fun e w' => e = .returned (.int .u64 s.v) ∧ w = w') := by
  obtain ⟨qb, tb, ob, T, O, fp, h, rfl⟩ := h
  obtain ⟨c0, c1, c2, c3, c4, c5, c6, c7, c8, c9, c10, lk⟩ := h.cells
  clear h
  go_enter Tryz.func23, Tryz.ntmps23
  go_wp2
  go_ret
  exact ⟨rfl, rfl⟩
theorem KG.most_ (h : KG W kb wd s F w) : Calls Tryz.prog 28 #[.pointer (some ⟨kb, 0, none⟩)] w (fun e w' => e = .returned (.int .u64 s.most) ∧ w = w') := by
  obtain ⟨qb, tb, ob, T, O, fp, h, rfl⟩ := h
  obtain ⟨c0, c1, c2, c3, c4, c5, c6, c7, c8, c9, c10, lk⟩ := h.cells
  clear h
  go_enter Tryz.func28, Tryz.ntmps28
  go_wp2
  go_ret
  exact ⟨rfl, rfl⟩
theorem KG.served_ (h : KG W kb wd s F w) : Calls Tryz.prog 24 #[.pointer (some ⟨kb, 0, none⟩)] w (fun e w' => e = .returned (.int .i64 s.served) ∧ w = w') := by
  obtain ⟨qb, tb, ob, T, O, fp, h, rfl⟩ := h
  obtain ⟨c0, c1, c2, c3, c4, c5, c6, c7, c8, c9, c10, lk⟩ := h.cells
  clear h
  go_enter Tryz.func24, Tryz.ntmps24
  go_wp2
  go_ret
  exact ⟨rfl, rfl⟩
theorem KG.items_ (h : KG W kb wd s F w) (hsm : s.L.length ≤ 1000) : Calls Tryz.prog 22 #[.pointer (some ⟨kb, 0, none⟩)] w (Told w s.L []) := by
  obtain ⟨qb, tb, ob, T, O, fp, h, rfl⟩ := h
  obtain ⟨c0, c1, c2, c3, c4, c5, c6, c7, c8, c9, c10, lk⟩ := h.cells
  have HQ := Lib.hid (h.q.all hsm)
  clear h
  unfold mval at c2
  go_enter Tryz.func22, Tryz.ntmps22
  go_wp2_with fail
  refine HQ.out.mono ?_
  rintro e w' hT
  have HT := Lib.hid hT
  obtain ⟨ao, cap, rfl, -, -, -⟩ := hT
  go_wp2
  go_ret
  exact HT.out
end
end Go.Proofs.YtolohheflbmfaaaGreatDoor
