/-
  Maps from whole numbers, in memory: what they hold, in the order in which it came; what a look-up, a store, a delete and len make of them. No condition.
-/
import Derived.Test.YtbnifhdnpeiheaaDoorFrame
import Derived.WideLaws
import Derived.Maps.OwnSet
set_option linter.unusedVariables false
set_option linter.unusedSimpArgs false
namespace Go.Proofs.YtbnifhdnpeiheaaDoor
open Go.RowKit

abbrev AL := List (Int × Value)
/-- Each entry has a stamp of its own. -/
def Stamped (es : List MapEntry) (clock : Nat) : Prop := (es.map (·.born)).Nodup ∧ ∀ e ∈ es, e.born < clock
/-- Block b is a map from numbers that holds M. -/
def IMap (w : World) (b : Nat) (M : AL) : Prop :=
  ∃ es clock, w.heap[b]? = some (.map es clock) ∧ es.toList.map (fun e => (e.key, e.val)) = M.map (fun p => (Value.int .i64 p.1, p.2)) ∧ Stamped es.toList clock

theorem Stamped.push {es : List MapEntry} {c : Nat} (h : Stamped es c) (e : MapEntry) (he : e.born = c := by rfl) : Stamped (es ++ [e]) (c + 1) := by
  obtain ⟨h1, h2⟩ := h
  refine ⟨?_, fun x hx => ?_⟩
  · rw [List.map_append, List.nodup_append]
    refine ⟨h1, by simp, fun a ha b hb e' => ?_⟩
    simp at hb
    obtain ⟨x, hx, rfl⟩ := List.mem_map.1 ha
    have := h2 x hx
    omega
  · rcases List.mem_append.1 hx with hx | hx
    · have := h2 x hx; omega
    · simp at hx; subst hx; omega
theorem Stamped.modify {es : List MapEntry} {c : Nat} (h : Stamped es c) (i : Nat) (f : MapEntry → MapEntry) (hf : ∀ e, (f e).born = e.born) : Stamped (es.modify i f) c := by
  have hm : (es.modify i f).map (·.born) = es.map (·.born) := by
    apply List.ext_getElem?
    intro k
    rw [List.getElem?_map, List.getElem?_map, List.getElem?_modify]
    cases es[k]? with
    | none => rfl
    | some e => simp only [Option.map_some]; split <;> simp [hf]
  refine ⟨by rw [hm]; exact h.1, fun x hx => ?_⟩
  have : x.born ∈ es.map (·.born) := by rw [← hm]; exact List.mem_map_of_mem hx
  obtain ⟨y, hy, e⟩ := List.mem_map.1 this
  rw [← e]; exact h.2 y hy
theorem Stamped.erase {es : List MapEntry} {c : Nat} (h : Stamped es c) (i : Nat) : Stamped (es.eraseIdx i) c :=
  ⟨h.1.sublist ((List.eraseIdx_sublist es i).map _), fun x hx => h.2 x ((List.eraseIdx_sublist es i).subset hx)⟩

def lookM : AL → Int → Option Value
  | [], _ => none
  | (a, x) :: r, k => if k = a then some x else lookM r k
def putM : AL → Int → Value → AL
  | [], k, v => [(k, v)]
  | (a, x) :: r, k, v => if k = a then (a, v) :: r else (a, x) :: putM r k v
def delM : AL → Int → AL
  | [], _ => []
  | (a, x) :: r, k => if k = a then r else (a, x) :: delM r k
def idxM : AL → Int → Nat → Option (Nat × Value)
  | [], _, _ => none
  | (a, x) :: r, k, i => if k = a then some (i, x) else idxM r k (i + 1)
def NdM (M : AL) : Prop := (M.map (·.1)).Nodup

theorem lookM_put (M : AL) (k j : Int) (v : Value) : lookM (putM M k v) j = if j = k then some v else lookM M j := by
  induction M with
  | nil => simp [putM, lookM]
  | cons p r ih =>
    obtain ⟨a, x⟩ := p
    simp only [putM]
    by_cases h : k = a
    · subst h; simp only [if_true, lookM]; by_cases e : j = k <;> simp [e]
    · rw [if_neg h]
      simp only [lookM, ih]
      by_cases e : j = a
      · subst e
        have h' : ¬ j = k := fun e => h e.symm
        simp [h']
      · simp [e]
theorem mem_of_look {M : AL} {k : Int} {v : Value} (h : lookM M k = some v) : (k, v) ∈ M := by
  induction M with
  | nil => simp [lookM] at h
  | cons p r ih =>
    obtain ⟨a, x⟩ := p
    simp only [lookM] at h
    by_cases e : k = a
    · subst e; simp at h; subst h; simp
    · rw [if_neg e] at h; exact List.mem_cons_of_mem _ (ih h)
theorem look_none {M : AL} {k : Int} : lookM M k = none ↔ k ∉ M.map (·.1) := by
  induction M with
  | nil => simp [lookM]
  | cons p r ih =>
    obtain ⟨a, x⟩ := p
    simp only [lookM, List.map_cons, List.mem_cons, not_or]
    by_cases e : k = a
    · simp [e]
    · rw [if_neg e, ih]; simp [e]
theorem keys_put (M : AL) (k : Int) (v : Value) : (putM M k v).map (·.1) = if k ∈ M.map (·.1) then M.map (·.1) else M.map (·.1) ++ [k] := by
  induction M with
  | nil => simp [putM]
  | cons p r ih =>
    obtain ⟨a, x⟩ := p
    simp only [putM]
    by_cases h : k = a
    · subst h; simp
    · rw [if_neg h]
      simp only [List.map_cons, ih, List.mem_cons, h, false_or]
      split <;> simp
theorem NdM.put {M : AL} (h : NdM M) (k : Int) (v : Value) : NdM (putM M k v) := by
  unfold NdM at *
  rw [keys_put]
  split
  · exact h
  · rename_i hk
    rw [List.nodup_append]
    exact ⟨h, by simp, fun a ha b hb e => hk (by simp at hb; rw [← hb, ← e]; exact ha)⟩
theorem keys_del_sub (M : AL) (k j : Int) (h : j ∈ (delM M k).map (·.1)) : j ∈ M.map (·.1) := by
  induction M with
  | nil => simp [delM] at h
  | cons p r ih =>
    obtain ⟨a, x⟩ := p
    simp only [delM] at h
    by_cases e : k = a
    · rw [if_pos e] at h; exact List.mem_cons_of_mem _ h
    · rw [if_neg e] at h
      simp only [List.map_cons, List.mem_cons] at h ⊢
      exact h.imp id ih
theorem NdM.del {M : AL} (h : NdM M) (k : Int) : NdM (delM M k) := by
  induction M with
  | nil => exact h
  | cons p r ih =>
    obtain ⟨a, x⟩ := p
    unfold NdM at *
    simp only [List.map_cons, List.nodup_cons] at h
    simp only [delM]
    by_cases e : k = a
    · rw [if_pos e]; exact h.2
    · rw [if_neg e]
      simp only [List.map_cons, List.nodup_cons]
      exact ⟨fun hm => h.1 (keys_del_sub _ _ _ hm), ih h.2⟩
theorem lookM_del {M : AL} (h : NdM M) (k j : Int) : lookM (delM M k) j = if j = k then none else lookM M j := by
  induction M with
  | nil => simp [delM, lookM]
  | cons p r ih =>
    obtain ⟨a, x⟩ := p
    unfold NdM at h
    simp only [List.map_cons, List.nodup_cons] at h
    simp only [delM]
    by_cases e : k = a
    · rw [if_pos e]
      subst e
      by_cases ej : j = k
      · subst ej; rw [if_pos rfl]; exact look_none.2 h.1
      · rw [if_neg ej]; simp [lookM, ej]
    · rw [if_neg e]
      simp only [lookM, ih h.2]
      by_cases ej : j = a
      · subst ej
        have h' : ¬ j = k := fun e2 => e e2.symm
        simp [h']
      · simp [ej]
theorem len_put (M : AL) (k : Int) (v : Value) : (putM M k v).length = if (lookM M k).isSome then M.length else M.length + 1 := by
  induction M with
  | nil => simp [putM, lookM]
  | cons p r ih =>
    obtain ⟨a, x⟩ := p
    simp only [putM, lookM]
    by_cases h : k = a
    · simp [h]
    · simp only [if_neg h, List.length_cons, ih]; split <;> rfl
theorem len_del (M : AL) (k : Int) : (delM M k).length = if (lookM M k).isSome then M.length - 1 else M.length := by
  induction M with
  | nil => simp [delM, lookM]
  | cons p r ih =>
    obtain ⟨a, x⟩ := p
    simp only [delM, lookM]
    by_cases h : k = a
    · simp [h]
    · simp only [if_neg h, List.length_cons, ih]
      cases hl : lookM r k with
      | none => simp
      | some y =>
        have := mem_of_look hl
        have : 0 < r.length := List.length_pos_of_mem this
        simp; omega
theorem lookM_idx (M : AL) (k : Int) (i : Nat) : (idxM M k i).map (·.2) = lookM M k := by
  induction M generalizing i with
  | nil => rfl
  | cons p r ih =>
    obtain ⟨a, x⟩ := p
    simp only [idxM, lookM]
    by_cases h : k = a
    · simp [h]
    · simp only [if_neg h]; exact ih (i + 1)

theorem findNow_eq (q : IntKind) (k : Int) : ∀ (es : List MapEntry) (M : AL) (i : Nat), es.map (fun e => (e.key, e.val)) = M.map (fun p => (Value.int .i64 p.1, p.2)) → Instr.findNow (.int q) (.int .i64 k) es i = some (idxM M k i) := by
  intro es
  induction es with
  | nil => intro M i h; cases M with
    | nil => rfl
    | cons p r => simp at h
  | cons e es ih =>
    intro M i h
    cases M with
    | nil => simp at h
    | cons p r =>
      obtain ⟨a, x⟩ := p
      simp only [List.map_cons, List.cons.injEq, Prod.mk.injEq] at h
      obtain ⟨⟨h1, h2⟩, h3⟩ := h
      simp only [Instr.findNow, h1, Instr.sameNow, idxM]
      by_cases hk : k = a
      · subst hk; simp [h2]
      · have : (k == a) = false := by simpa using hk
        simp only [this, if_neg hk]
        exact ih r (i + 1) h3

section
variable {P : Program} {w : World} {b : Nat} {M : AL} {T K E : TypeId}

theorem run_checkKey_int (hk : P.underlying K = some (.int .i64)) (emp : Bool) (k : Int) (w : World) : (Instr.checkKey emp 10000 K (.int .i64 k)).run P w = .ok () w := by
  have h : ∀ n : Nat, (Instr.checkKey emp (n + 1) K (.int .i64 k)).run P w = .ok () w := by
    intro n
    simp [Instr.checkKey, run_underlying hk]
  exact h 9999

theorem run_findKey_int (hk : P.underlying K = some (.int .i64)) {es : List MapEntry} (h : es.map (fun e => (e.key, e.val)) = M.map (fun p => (Value.int .i64 p.1, p.2))) (k : Int) (w : World) :
    (Instr.findKey K (.int .i64 k) es).run P w = .ok (idxM M k 0) w := by
  simp [Instr.findKey, run_underlying hk, findNow_eq .i64 k es M 0 h]

theorem IMap.lt (h : IMap w b M) : b < w.heap.size := by
  obtain ⟨es, clock, hb, _⟩ := h
  exact (Array.getElem?_eq_some_iff.1 hb).1
theorem IMap.upd {S : List Nat} {w' : World} (h : IMap w b M) (hu : Upd S w w') (hn : b ∉ S) : IMap w' b M := by
  have hlt := h.lt
  obtain ⟨es, clock, hb, r⟩ := h
  exact ⟨es, clock, (hu.block b hlt hn).trans hb, r⟩
theorem IMap.new (w : World) : IMap (w.alloc (.map #[] 0)) w.heap.size [] := ⟨#[], 0, heap_alloc_new w _, rfl, by simp [Stamped]⟩

/-- What a look-up tells: the value, or the zero one. -/
theorem IMap.look (h : IMap w b M) (hT : P.underlying T = some (.map K E)) (hk : P.underlying K = some (.int .i64)) {z : Value} (hz : ∀ w, (zeroValue E).run P w = .ok z w) (k : Int) (ok : Bool) :
    (Instr.lookup T (.map (some b)) (.int .i64 k) ok).run P w = .ok (if ok then .tuple #[(lookM M k).getD z, .bool (lookM M k).isSome] else (lookM M k).getD z) w := by
  obtain ⟨es, clock, hb, hM, _⟩ := h
  have hl := lookM_idx M k 0
  have hg : (getObj b).run P w = .ok (.map es clock) w := by simp [getObj, Sem.run, hb]
  cases hf : idxM M k 0 with
  | none =>
    rw [hf] at hl
    simp only [Option.map_none] at hl
    cases ok <;> simp [Instr.lookup, run_underlying hT, hg, run_checkKey_int hk, run_findKey_int hk hM, hf, hz, ← hl]
  | some p =>
    rw [hf] at hl
    simp only [Option.map_some] at hl
    cases ok <;> simp [Instr.lookup, run_underlying hT, hg, run_checkKey_int hk, run_findKey_int hk hM, hf, ← hl]
theorem IMap.len_ (h : IMap w b M) (hT : P.underlying T = some (.map K E)) (ty : TypeId) : (Builtin.len_ #[T] ty #[.map (some b)]).run P w = .ok (.int .i64 M.length) w := by
  obtain ⟨es, clock, hb, hM, _⟩ := h
  have hg : (getObj b).run P w = .ok (.map es clock) w := by simp [getObj, Sem.run, hb]
  have hl := congrArg List.length hM
  simp at hl
  simp [Builtin.len_, run_underlying hT, hg, goInt, hl]

theorem modify_eq (k : Int) (v : Value) : ∀ (es : List MapEntry) (M : AL) (i0 i : Nat) (x : Value), es.map (fun e => (e.key, e.val)) = M.map (fun p => (Value.int .i64 p.1, p.2)) → idxM M k i0 = some (i, x) →
    i0 ≤ i ∧ (es.modify (i - i0) fun e => { e with key := .int .i64 k, val := v }).map (fun e => (e.key, e.val)) = (putM M k v).map (fun p => (Value.int .i64 p.1, p.2)) ∧ (es[i - i0]?).map (·.key) = some (.int .i64 k) := by
  intro es
  induction es with
  | nil => intro M i0 i x h hi; cases M with
    | nil => simp [idxM] at hi
    | cons p r => simp at h
  | cons e es ih =>
    intro M i0 i x h hi
    cases M with
    | nil => simp at h
    | cons p r =>
      obtain ⟨a, y⟩ := p
      simp only [List.map_cons, List.cons.injEq, Prod.mk.injEq] at h
      obtain ⟨⟨h1, h2⟩, h3⟩ := h
      simp only [idxM] at hi
      by_cases hk : k = a
      · subst hk
        rw [if_pos rfl] at hi
        simp only [Option.some.injEq, Prod.mk.injEq] at hi
        obtain ⟨rfl, rfl⟩ := hi
        simp [putM, h3, h1]
      · rw [if_neg hk] at hi
        obtain ⟨g1, g2, g3⟩ := ih r (i0 + 1) i x h3 hi
        obtain ⟨j, rfl⟩ : ∃ j, i = i0 + 1 + j := ⟨i - (i0 + 1), by omega⟩
        rw [show i0 + 1 + j - (i0 + 1) = j by omega] at g2 g3
        rw [show i0 + 1 + j - i0 = j + 1 by omega]
        refine ⟨by omega, ?_, by simpa using g3⟩
        simp only [List.modify_succ_cons, List.map_cons, putM, if_neg hk, g2, h1, h2]
theorem push_eq (k : Int) : ∀ (M : AL) (i0 : Nat) (v : Value), idxM M k i0 = none → putM M k v = M ++ [(k, v)] := by
  intro M
  induction M with
  | nil => intro i0 v _; rfl
  | cons p r ih =>
    intro i0 v h
    obtain ⟨a, y⟩ := p
    simp only [idxM] at h
    by_cases hk : k = a
    · rw [if_pos hk] at h; cases h
    · rw [if_neg hk] at h
      simp only [putM, if_neg hk, ih _ v h, List.cons_append]
theorem erase_eq (k : Int) : ∀ (es : List MapEntry) (M : AL) (i0 i : Nat) (x : Value), es.map (fun e => (e.key, e.val)) = M.map (fun p => (Value.int .i64 p.1, p.2)) → idxM M k i0 = some (i, x) →
    i0 ≤ i ∧ (es.eraseIdx (i - i0)).map (fun e => (e.key, e.val)) = (delM M k).map (fun p => (Value.int .i64 p.1, p.2)) := by
  intro es
  induction es with
  | nil => intro M i0 i x h hi; cases M with
    | nil => simp [idxM] at hi
    | cons p r => simp at h
  | cons e es ih =>
    intro M i0 i x h hi
    cases M with
    | nil => simp at h
    | cons p r =>
      obtain ⟨a, y⟩ := p
      simp only [List.map_cons, List.cons.injEq, Prod.mk.injEq] at h
      obtain ⟨⟨h1, h2⟩, h3⟩ := h
      simp only [idxM] at hi
      by_cases hk : k = a
      · subst hk
        rw [if_pos rfl] at hi
        simp only [Option.some.injEq, Prod.mk.injEq] at hi
        obtain ⟨rfl, rfl⟩ := hi
        simp [delM, h3]
      · rw [if_neg hk] at hi
        obtain ⟨g1, g2⟩ := ih r (i0 + 1) i x h3 hi
        obtain ⟨j, rfl⟩ : ∃ j, i = i0 + 1 + j := ⟨i - (i0 + 1), by omega⟩
        rw [show i0 + 1 + j - (i0 + 1) = j by omega] at g2
        rw [show i0 + 1 + j - i0 = j + 1 by omega]
        refine ⟨by omega, ?_⟩
        simp only [List.eraseIdx_cons_succ, List.map_cons, delM, if_neg hk, g2, h1, h2]
theorem del_none (k : Int) : ∀ (M : AL) (i0 : Nat), idxM M k i0 = none → delM M k = M := by
  intro M
  induction M with
  | nil => intro i0 _; rfl
  | cons p r ih =>
    intro i0 h
    obtain ⟨a, y⟩ := p
    simp only [idxM] at h
    by_cases hk : k = a
    · rw [if_pos hk] at h; cases h
    · rw [if_neg hk] at h
      simp only [delM, if_neg hk, ih _ h]

/-- The world with another object at r. -/
def setObjW (w : World) (r : Nat) (o : Obj) : World := { w with heap := w.heap.setIfInBounds r o }
theorem setObjW_upd (w : World) (r : Nat) (o : Obj) : Upd [r] w (setObjW w r o) :=
  ⟨rfl, rfl, rfl, by simp [setObjW], fun k hk hn => by
    simp only [setObjW]
    rw [Array.getElem?_setIfInBounds_ne (by simp at hn; omega)]⟩
theorem setObjW_at {w : World} {r : Nat} (h : r < w.heap.size) (o : Obj) : (setObjW w r o).heap[r]? = some o := by simp [setObjW, h]
theorem setObjW_cell {w : World} {b : Nat} {M : AL} (h : IMap w b M) (es : Array MapEntry) (c : Nat) (a : Addr) : (setObjW w b (.map es c)).cell? a = w.cell? a := by
  obtain ⟨es0, c0, hb, _⟩ := h
  have hlt := (Array.getElem?_eq_some_iff.1 hb).1
  unfold World.cell? setObjW
  by_cases e : b = a.block
  · subst e
    have h1 : (w.heap.setIfInBounds a.block (.map es c))[a.block]? = some (.map es c) := by simp [hlt]
    rw [h1, hb]
  · rw [Array.getElem?_setIfInBounds_ne e]
theorem setObjW_frozen {w : World} {b : Nat} {M : AL} (h : IMap w b M) (es : Array MapEntry) (c : Nat) (a : Addr) : (setObjW w b (.map es c)).frozen? a = w.frozen? a := by
  obtain ⟨es0, c0, hb, _⟩ := h
  have hlt := (Array.getElem?_eq_some_iff.1 hb).1
  unfold World.frozen? setObjW
  by_cases e : b = a.block
  · subst e
    have h1 : (w.heap.setIfInBounds a.block (.map es c))[a.block]? = some (.map es c) := by simp [hlt]
    rw [h1, hb]
  · rw [Array.getElem?_setIfInBounds_ne e]

/-- What is known behind a store into a map, or a delete. -/
structure MapTo (w : World) (b : Nat) (M' : AL) (w' : World) : Prop where
  map : IMap w' b M'
  upd : Upd [b] w w'
  size : w'.heap.size = w.heap.size
  cells : ∀ a, w'.cell? a = w.cell? a
  frozens : ∀ a, w'.frozen? a = w.frozen? a

theorem IMap.to {M' : AL} (h : IMap w b M) (es : Array MapEntry) (c : Nat) (hM : es.toList.map (fun e => (e.key, e.val)) = M'.map (fun p => (Value.int .i64 p.1, p.2))) (hS : Stamped es.toList c) : MapTo w b M' (setObjW w b (.map es c)) :=
  ⟨⟨es, c, setObjW_at h.lt _, hM, hS⟩, setObjW_upd _ _ _, by simp [setObjW], setObjW_cell h es c, setObjW_frozen h es c⟩

theorem IMap.put (h : IMap w b M) (hT : P.underlying T = some (.map K E)) (hk : P.underlying K = some (.int .i64)) (k : Int) (v : Value) :
    ∃ w', (Instr.mapUpdate T (.map (some b)) (.int .i64 k) v).run P w = .ok () w' ∧ MapTo w b (putM M k v) w' := by
  have h0 := h
  obtain ⟨es, clock, hb, hM, hS⟩ := h
  have hg : (getObj b).run P w = .ok (.map es clock) w := by simp [getObj, Sem.run, hb]
  have hs : ∀ o, (setObj b o).run P w = .ok () (setObjW w b o) := fun o => by simp [setObj, Sem.run, hb, setObjW]
  cases hf : idxM M k 0 with
  | none =>
    refine ⟨setObjW w b (.map (es.push { key := .int .i64 k, val := v, born := clock }) (clock + 1)), ?_, h0.to _ _ ?_ (by rw [Array.toList_push]; exact hS.push _)⟩
    · simp [Instr.mapUpdate, run_underlying hT, hg, run_checkKey_int hk, run_findKey_int hk hM, hf, hs]
    · rw [push_eq k M 0 v hf]; simp [hM]
  | some p =>
    obtain ⟨i, x⟩ := p
    obtain ⟨_, hmod, hkey⟩ := modify_eq k v es.toList M 0 i x hM hf
    rw [Nat.sub_zero] at hmod hkey
    have hkey' : ((es[i]?).map (·.key)).getD (.int .i64 k) = .int .i64 k := by
      have : es.toList[i]? = es[i]? := by simp
      rw [← this, hkey]; rfl
    have hst : ∀ w, (Instr.keyThatStays (.int .i64 k) (.int .i64 k)).run P w = .ok (.int .i64 k) w := by
      intro w
      have h : ∀ n : Nat, Instr.sameBits (n + 1) (.int .i64 k) (.int .i64 k) = true := fun n => by simp [Instr.sameBits]
      simp [Instr.keyThatStays, h 9999]
    refine ⟨setObjW w b (.map (es.modify i fun e => { e with key := .int .i64 k, val := v }) clock), ?_, h0.to _ _ ?_ (by rw [Array.toList_modify]; exact hS.modify _ _ (fun _ => rfl))⟩
    · simp only [Instr.mapUpdate, Sem.run_bind, run_underlying hT, hg, run_checkKey_int hk, run_findKey_int hk hM, hf, hkey', hst, Result.andThen_ok, hs]
    · rw [Array.toList_modify]; exact hmod

theorem IMap.del (h : IMap w b M) (hT : P.underlying T = some (.map K E)) (hk : P.underlying K = some (.int .i64)) (k : Int) (ty : TypeId) :
    ∃ w', (Builtin.delete_ #[T, K] ty #[.map (some b), .int .i64 k]).run P w = .ok (.tuple #[]) w' ∧ MapTo w b (delM M k) w' := by
  have h0 := h
  obtain ⟨es, clock, hb, hM, hS⟩ := h
  have hg : (getObj b).run P w = .ok (.map es clock) w := by simp [getObj, Sem.run, hb]
  have hs : ∀ o, (setObj b o).run P w = .ok () (setObjW w b o) := fun o => by simp [setObj, Sem.run, hb, setObjW]
  cases hf : idxM M k 0 with
  | none =>
    refine ⟨setObjW w b (.map es clock), ?_, h0.to _ _ ?_ hS⟩
    · simp [Builtin.delete_, run_underlying hT, hg, run_checkKey_int hk, run_findKey_int hk hM, hf, hs]
    · rw [del_none k M 0 hf]; exact hM
  | some p =>
    obtain ⟨i, x⟩ := p
    obtain ⟨_, hmod⟩ := erase_eq k es.toList M 0 i x hM hf
    rw [Nat.sub_zero] at hmod
    refine ⟨setObjW w b (.map (es.eraseIdxIfInBounds i) clock), ?_, h0.to _ _ ?_ (by rw [Array.toList_eraseIdxIfInBounds]; exact hS.erase _)⟩
    · simp [Builtin.delete_, run_underlying hT, hg, run_checkKey_int hk, run_findKey_int hk hM, hf, hs]
    · rw [Array.toList_eraseIdxIfInBounds]; exact hmod
end

section
variable {P : Program} (w : World) {ops : Array Oper} {rest : List Oper} {o : Oper} {a : Act} {Q : Exit → Act → World → Prop} {b : Nat} {M : AL} {T K E : TypeId}
/-- 'm[k] = v', at the operation. -/
theorem wpList_put (hg : o.guard = none) (m x v : Operand) (hop : o.op = Op.mapUpdate T m x v) (hT : P.underlying T = some (.map K E)) (hk : P.underlying K = some (.int .i64))
    (k : Int) (u : Value) (hm : a.eval m = .map (some b)) (hx : a.eval x = .int .i64 k) (hv : a.eval v = u) (h : IMap w b M)
    (hK : ∀ w', MapTo w b (putM M k u) w' → wpList P ops Q rest (a.put o.dst undef) w') : wpList P ops Q (o :: rest) a w := by
  refine wpList_plain hg fun K' hK' => ?_
  obtain ⟨w', hrun, r⟩ := h.put (P := P) hT hk k u
  unfold Oper.wp
  simp [execOp, hop, hm, hx, hv, hrun, Result.andThen]
  exact hK' _ _ (hK w' r)
/-- 'delete(m, k)', at the operation. -/
theorem wpList_del (hg : o.guard = none) (m x : Operand) (hop : o.op = Op.call { callee := Callee.builtin Builtin.delete, args := #[m, x], argTypes := #[T, K] }) (hT : P.underlying T = some (.map K E)) (hk : P.underlying K = some (.int .i64))
    (k : Int) (hm : a.eval m = .map (some b)) (hx : a.eval x = .int .i64 k) (h : IMap w b M)
    (hK : ∀ w', MapTo w b (delM M k) w' → wpList P ops Q rest (a.put o.dst (.tuple #[])) w') : wpList P ops Q (o :: rest) a w := by
  refine wpList_plain hg fun K' hK' => ?_
  obtain ⟨w', hrun, r⟩ := h.del (P := P) hT hk k o.type
  unfold Oper.wp
  simp [execOp, hop, resolve, invoke, builtin, hm, hx, hrun, Result.andThen]
  exact hK' _ _ (hK w' r)
/-- 'v, ok := m[k]', at the operation. -/
theorem wpList_look2 (hg : o.guard = none) (m x : Operand) (hop : o.op = Op.lookup T m x true) (hT : P.underlying T = some (.map K E)) (hk : P.underlying K = some (.int .i64)) {z : Value} (hz : ∀ w, (zeroValue E).run P w = .ok z w)
    (k : Int) (hm : a.eval m = .map (some b)) (hx : a.eval x = .int .i64 k) (h : IMap w b M) (u : Value) (ok : Bool) (hu : (lookM M k).getD z = u) (hok : (lookM M k).isSome = ok)
    (hK : wpList P ops Q rest (a.put o.dst (.tuple #[u, .bool ok])) w) : wpList P ops Q (o :: rest) a w := by
  refine wpList_plain hg fun K' hK' => ?_
  have hrun := h.look (P := P) hT hk hz k true
  subst hu hok
  unfold Oper.wp
  simp [execOp, hop, hm, hx, hrun, Result.andThen]
  exact hK' _ _ hK
/-- 'm[k]', at the operation. -/
theorem wpList_look1 (hg : o.guard = none) (m x : Operand) (hop : o.op = Op.lookup T m x false) (hT : P.underlying T = some (.map K E)) (hk : P.underlying K = some (.int .i64)) {z : Value} (hz : ∀ w, (zeroValue E).run P w = .ok z w)
    (k : Int) (hm : a.eval m = .map (some b)) (hx : a.eval x = .int .i64 k) (h : IMap w b M) (u : Value) (hu : (lookM M k).getD z = u)
    (hK : wpList P ops Q rest (a.put o.dst u) w) : wpList P ops Q (o :: rest) a w := by
  refine wpList_plain hg fun K' hK' => ?_
  have hrun := h.look (P := P) hT hk hz k false
  subst hu
  unfold Oper.wp
  simp [execOp, hop, hm, hx, hrun, Result.andThen]
  exact hK' _ _ hK
end
end Go.Proofs.YtbnifhdnpeiheaaDoor
