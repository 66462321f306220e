/-
  A map's entry that is there, and a store into it, as 'm[a], m[b] = x, y' makes them. No condition.
-/
import Derived.Test.YtilibinmbmgedaaMap
namespace Go.Proofs.Ytilibinmbmgedaa
open Go.RowKit

/-- The map at block b has the number k, its entry's stamp is s. -/
def HasEnt (w : World) (b : Nat) (k : Int) (s : Nat) : Prop :=
  ∃ es clock M i x, w.heap[b]? = some (.map es clock) ∧ es.toList.map (fun e => (e.key, e.val)) = M.map (fun p => (Value.int .i64 p.1, p.2)) ∧ Stamped es.toList clock ∧ idxM M k 0 = some (i, x) ∧ (es.toList[i]?).map (·.born) = some s
/-- What the entry holds. -/
def entVal (w : World) (b : Nat) (k : Int) : Value := match w.heap[b]? with
  | some (.map es _) => match Instr.findNow (.int .i64) (.int .i64 k) es.toList 0 with
    | some (some (_, v)) => v
    | _ => undef
  | _ => undef
/-- The store into the entry of a stamp. -/
def storeW (w : World) (b : Nat) (s : Nat) (v : Value) : World := match w.heap[b]? with
  | some (.map es c) => match es.findIdx? (fun e => (e.born : Int) == (s : Int)) with
    | some i => setObjW w b (.map (es.modify i fun e => { e with val := v }) c)
    | none => w
  | _ => w

theorem idx_get {k : Int} : ∀ {es : List MapEntry} {M : AL} {i0 i : Nat} {x : Value}, es.map (fun e => (e.key, e.val)) = M.map (fun p => (Value.int .i64 p.1, p.2)) → idxM M k i0 = some (i, x) →
    i0 ≤ i ∧ ∃ e, es[i - i0]? = some e ∧ e.key = .int .i64 k ∧ e.val = x := by
  intro es
  induction es with
  | nil => intro M i0 i x h hi; cases M with
    | nil => simp [idxM] at hi
    | cons p r => simp at h
  | cons e es ih =>
    intro M i0 i x h hi
    cases M with
    | nil => simp at h
    | cons p r =>
      obtain ⟨a, y⟩ := p
      simp only [List.map_cons, List.cons.injEq, Prod.mk.injEq] at h
      obtain ⟨⟨h1, h2⟩, h3⟩ := h
      simp only [idxM] at hi
      by_cases hk : k = a
      · subst hk
        rw [if_pos rfl] at hi
        simp only [Option.some.injEq, Prod.mk.injEq] at hi
        obtain ⟨rfl, rfl⟩ := hi
        exact ⟨Nat.le_refl _, e, by simp, h1, h2⟩
      · rw [if_neg hk] at hi
        obtain ⟨g1, e', g2, g3, g4⟩ := ih h3 hi
        obtain ⟨j, rfl⟩ : ∃ j, i = i0 + 1 + j := ⟨i - (i0 + 1), by omega⟩
        rw [show i0 + 1 + j - (i0 + 1) = j by omega] at g2
        rw [show i0 + 1 + j - i0 = j + 1 by omega]
        exact ⟨by omega, e', by simpa using g2, g3, g4⟩

theorem setObjW_self {w : World} {b : Nat} {o : Obj} (h : w.heap[b]? = some o) : setObjW w b o = w := by
  unfold setObjW
  have : w.heap.setIfInBounds b o = w.heap := by
    apply Array.ext_getElem?
    intro i
    by_cases e : b = i
    · subst e
      have hlt := (Array.getElem?_eq_some_iff.1 h).1
      rw [h]; simp [hlt]
    · rw [Array.getElem?_setIfInBounds_ne e]
  rw [this]

theorem arr_find {α : Type} (es : Array α) (p : α → Bool) : es.findIdx? p = es.toList.findIdx? p := by
  obtain ⟨l⟩ := es
  exact List.findIdx?_toArray ..
theorem al_inj : ∀ {M N : AL}, M.map (fun p => (Value.int .i64 p.1, p.2)) = N.map (fun p => (Value.int .i64 p.1, p.2)) → M = N := by
  intro M
  induction M with
  | nil => intro N h; cases N with
    | nil => rfl
    | cons p r => simp at h
  | cons p r ih =>
    intro N h
    cases N with
    | nil => simp at h
    | cons q t =>
      simp only [List.map_cons, List.cons.injEq, Prod.mk.injEq, Value.int.injEq, true_and] at h
      rw [Prod.ext h.1.1 h.1.2, ih h.2]

theorem stamp_idx {es : List MapEntry} {c : Nat} (h : Stamped es c) {i s : Nat} (hi : (es[i]?).map (·.born) = some s) : es.findIdx? (fun e => (e.born : Int) == (s : Int)) = some i := by
  have hil : i < es.length := by
    rcases Nat.lt_or_ge i es.length with h | h
    · exact h
    · rw [List.getElem?_eq_none h] at hi; cases hi
  rw [List.getElem?_eq_getElem hil] at hi
  simp only [Option.map_some, Option.some.injEq] at hi
  rw [List.findIdx?_eq_some_iff_getElem]
  refine ⟨hil, by simp [hi], fun j hj => ?_⟩
  have hp := List.pairwise_iff_getElem.1 h.1 j i (by simpa using Nat.lt_trans hj hil) (by simpa using hil) hj
  rw [List.getElem_map, List.getElem_map, hi] at hp
  simp; omega

section
variable {P : Program} {w : World} {b : Nat} {T K E : TypeId}

theorem HasEnt.entry {k : Int} {s : Nat} (h : HasEnt w b k s) (hT : P.underlying T = some (.map K E)) (hk : P.underlying K = some (.int .i64)) :
    (Instr.mapEntry T (.map (some b)) (.int .i64 k)).run P w = .ok (.tuple #[entVal w b k, .int .i64 s]) w := by
  obtain ⟨es, clock, M, i, x, hb, hM, hS, hi, hs⟩ := h
  have hg : (getObj b).run P w = .ok (.map es clock) w := by simp [getObj, Sem.run, hb]
  have hss : ∀ o, (setObj b o).run P w = .ok () (setObjW w b o) := fun o => by simp [setObj, Sem.run, hb, setObjW]
  obtain ⟨_, e, he, hek, hev⟩ := idx_get hM hi
  rw [Nat.sub_zero] at he
  rw [he] at hs
  simp only [Option.map_some, Option.some.injEq] at hs
  have hst : ∀ w, (Instr.keyThatStays (.int .i64 k) (.int .i64 k)).run P w = .ok (.int .i64 k) w := by
    intro w
    have h : ∀ n : Nat, Instr.sameBits (n + 1) (.int .i64 k) (.int .i64 k) = true := fun n => by simp [Instr.sameBits]
    simp [Instr.keyThatStays, h 9999]
  have he' : es[i]? = some e := by rw [← he]; simp
  have hmod : (es.modify i fun e => { e with key := Value.int .i64 k }) = es := by
    apply Array.ext_getElem?
    intro j
    rw [Array.getElem?_modify]
    by_cases hj : i = j
    · subst hj; rw [if_pos rfl, he']; simp [← hek]
    · rw [if_neg hj]
  have hv : entVal w b k = x := by unfold entVal; rw [hb]; simp only [findNow_eq .i64 k es.toList M 0 hM, hi]
  simp only [Instr.mapEntry, Sem.run_bind, run_underlying hT, hg, run_checkKey_int hk, run_findKey_int hk hM, hi, he', Option.map_some, Option.getD_some, hek, hst, Result.andThen_ok, hss, hmod, setObjW_self hb, Sem.run_pure, goInt, hs, hv]

theorem HasEnt.store {k : Int} {s : Nat} (h : HasEnt w b k s) (v : Value) : (Instr.entryStore T (.map (some b)) (.int .i64 s) v).run P w = .ok () (storeW w b s v) := by
  obtain ⟨es, clock, M, i, x, hb, hM, hS, hi, hs⟩ := h
  have hg : (getObj b).run P w = .ok (.map es clock) w := by simp [getObj, Sem.run, hb]
  have hss : ∀ o, (setObj b o).run P w = .ok () (setObjW w b o) := fun o => by simp [setObj, Sem.run, hb, setObjW]
  have hf : es.findIdx? (fun e => (e.born : Int) == (s : Int)) = some i := by
    rw [arr_find]; exact stamp_idx hS hs
  have hsw : storeW w b s v = setObjW w b (.map (es.modify i fun e => { e with val := v }) clock) := by unfold storeW; rw [hb]; simp only [hf]
  simp only [Instr.entryStore, Sem.run_bind, hg, Result.andThen_ok, asInt, asIntOf, Sem.run_pure, hf, hss, hsw]

theorem storeW_shape (w : World) (b s : Nat) (v : Value) (es : Array MapEntry) (c : Nat) (hb : w.heap[b]? = some (.map es c)) : storeW w b s v = w ∨ ∃ i, storeW w b s v = setObjW w b (.map (es.modify i fun e => { e with val := v }) c) := by
  unfold storeW; rw [hb]
  cases hf : es.findIdx? (fun e => (e.born : Int) == (s : Int)) with
  | none => left; simp only [hf]
  | some i => right; exact ⟨i, by simp only [hf]⟩
theorem idx_modify {k : Int} : ∀ (es : List MapEntry) (M : AL) (j : Nat) (v : Value), es.map (fun e => (e.key, e.val)) = M.map (fun p => (Value.int .i64 p.1, p.2)) →
    ∃ M', (es.modify j fun e => { e with val := v }).map (fun e => (e.key, e.val)) = M'.map (fun p => (Value.int .i64 p.1, p.2)) ∧ ∀ i0 i x, idxM M k i0 = some (i, x) → ∃ y, idxM M' k i0 = some (i, y) := by
  intro es
  induction es with
  | nil => intro M j v h; exact ⟨M, by simpa using h, fun _ _ x h => ⟨x, h⟩⟩
  | cons e es ih =>
    intro M j v h
    cases M with
    | nil => simp at h
    | cons p r =>
      obtain ⟨a, y⟩ := p
      simp only [List.map_cons, List.cons.injEq, Prod.mk.injEq] at h
      obtain ⟨⟨h1, h2⟩, h3⟩ := h
      cases j with
      | zero =>
        refine ⟨(a, v) :: r, by simp [h1, h3], fun i0 i x hi => ?_⟩
        simp only [idxM] at hi ⊢
        by_cases hk : k = a
        · rw [if_pos hk] at hi ⊢; simp only [Option.some.injEq, Prod.mk.injEq] at hi; exact ⟨v, by rw [hi.1]⟩
        · rw [if_neg hk] at hi ⊢; exact ⟨x, hi⟩
      | succ j =>
        obtain ⟨M', g1, g2⟩ := ih r j v h3
        refine ⟨(a, y) :: M', by simp [h1, h2, g1], fun i0 i x hi => ?_⟩
        simp only [idxM] at hi ⊢
        by_cases hk : k = a
        · rw [if_pos hk] at hi ⊢; exact ⟨x, hi⟩
        · rw [if_neg hk] at hi ⊢; exact g2 _ _ _ hi

theorem HasEnt.stays {k : Int} {s : Nat} (h : HasEnt w b k s) (s' : Nat) (v : Value) : HasEnt (storeW w b s' v) b k s := by
  have h0 := h
  obtain ⟨es, clock, M, i, x, hb, hM, hS, hi, hs⟩ := h
  rcases storeW_shape w b s' v es clock hb with e | ⟨j, e⟩
  · rw [e]; exact h0
  · rw [e]
    obtain ⟨M', g1, g2⟩ := idx_modify (k := k) es.toList M j v hM
    obtain ⟨y, hy⟩ := g2 0 i x hi
    have hlt := (Array.getElem?_eq_some_iff.1 hb).1
    refine ⟨_, clock, M', i, y, setObjW_at hlt _, by rw [Array.toList_modify]; exact g1, by rw [Array.toList_modify]; exact hS.modify _ _ (fun _ => rfl), hy, ?_⟩
    rw [Array.toList_modify, List.getElem?_modify]
    cases hei : es.toList[i]? with
    | none => rw [hei] at hs; cases hs
    | some e' => rw [hei] at hs; simp only [Option.map_some] at hs ⊢; split <;> exact hs
theorem HasEnt.lt {k : Int} {s : Nat} (h : HasEnt w b k s) : b < w.heap.size := by
  obtain ⟨es, clock, M, i, x, hb, _⟩ := h
  exact (Array.getElem?_eq_some_iff.1 hb).1
theorem HasEnt.upd {k : Int} {s : Nat} {S : List Nat} {w' : World} (h : HasEnt w b k s) (hu : Upd S w w') (hn : b ∉ S) : HasEnt w' b k s := by
  have hl := h.lt
  obtain ⟨es, clock, M, i, x, hb, r⟩ := h
  exact ⟨es, clock, M, i, x, (hu.block b hl hn).trans hb, r⟩

theorem storeW_to {k : Int} {s : Nat} {M : AL} (h : HasEnt w b k s) (hI : IMap w b M) (v : Value) : MapTo w b (putM M k v) (storeW w b s v) := by
  obtain ⟨es, clock, M0, i, x, hb, hM, hS, hi, hs⟩ := h
  have hI0 := hI
  obtain ⟨es', clock', hb', hM', hS'⟩ := hI
  rw [hb] at hb'
  simp only [Option.some.injEq, Obj.map.injEq] at hb'
  obtain ⟨rfl, rfl⟩ := hb'
  have hMM : M0 = M := al_inj (hM.symm.trans hM')
  subst hMM
  have hf : es.findIdx? (fun e => (e.born : Int) == (s : Int)) = some i := by
    rw [arr_find]; exact stamp_idx hS hs
  have hsw : storeW w b s v = setObjW w b (.map (es.modify i fun e => { e with val := v }) clock) := by unfold storeW; rw [hb]; simp only [hf]
  obtain ⟨_, hmod, hkey⟩ := modify_eq k v es.toList M0 0 i x hM hi
  rw [Nat.sub_zero] at hmod hkey
  rw [hsw]
  refine hI0.to _ _ ?_ (by rw [Array.toList_modify]; exact hS.modify _ _ (fun _ => rfl))
  rw [Array.toList_modify, ← hmod]
  congr 1
  apply List.ext_getElem?
  intro j
  rw [List.getElem?_modify, List.getElem?_modify]
  by_cases hj : i = j
  · subst hj
    cases hei : es.toList[i]? with
    | none => rfl
    | some e' =>
      rw [hei] at hkey
      simp only [Option.map_some, Option.some.injEq] at hkey
      simp [← hkey]
  · simp [hj]
end
end Go.Proofs.Ytilibinmbmgedaa
