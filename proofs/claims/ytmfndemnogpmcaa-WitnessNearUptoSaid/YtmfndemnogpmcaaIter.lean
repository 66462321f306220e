/-
  A range over a map from whole numbers: what is left of it, whichever entry comes next. No condition.
-/
import Derived.Test.YtmfndemnogpmcaaPB
import Derived.Maps.RangeRun
set_option linter.unusedVariables false
set_option linter.unusedSimpArgs false
namespace Go.Proofs.Ytmfndemnogpmcaa
open Go.RowKit

abbrev kvs (l : List MapEntry) : List (Value × Value) := l.map (fun e => (e.key, e.val))
abbrev kvM (M : AL) : List (Value × Value) := M.map (fun p => (Value.int .i64 p.1, p.2))

/-- Block r goes over the map at block b; what is still to come. -/
def IterAt (w : World) (r b : Nat) (left : AL) : Prop :=
  ∃ es clock since seen c0, w.heap[b]? = some (.map es clock) ∧ (es.toList.map (·.born)).Nodup ∧ w.heap[r]? = some (.mapIter (some b) since seen c0) ∧ (∀ x ∈ es.toList, x.born < since) ∧ since ≤ c0 ∧ since ≤ clock ∧ kvs (leftOf es seen).toList = kvM left
theorem IterAt.lt {w : World} {r b : Nat} {left : AL} (h : IterAt w r b left) : r < w.heap.size ∧ b < w.heap.size := by
  obtain ⟨es, clock, since, seen, c0, hb, -, hr, -⟩ := h
  exact ⟨(Array.getElem?_eq_some_iff.1 hr).1, (Array.getElem?_eq_some_iff.1 hb).1⟩
theorem IterAt.upd {S : List Nat} {w w' : World} {r b : Nat} {left : AL} (h : IterAt w r b left) (hu : Upd S w w') (h1 : r ∉ S) (h2 : b ∉ S) : IterAt w' r b left := by
  have hl := h.lt
  obtain ⟨es, clock, since, seen, c0, hb, hn, hr, rest⟩ := h
  exact ⟨es, clock, since, seen, c0, (hu.block b hl.2 h2).trans hb, hn, (hu.block r hl.1 h1).trans hr, rest⟩
theorem kvs_split : ∀ (l : List MapEntry) (M : AL) (e : MapEntry), kvs l = kvM M → e ∈ l → ∃ p q A B k v, l = p ++ e :: q ∧ M = A ++ (k, v) :: B ∧ e.key = .int .i64 k ∧ e.val = v ∧ kvs p = kvM A ∧ kvs q = kvM B := by
  intro l
  induction l with
  | nil => intro M e _ he; cases he
  | cons x l ih =>
    intro M e h he
    cases M with
    | nil => simp at h
    | cons y M =>
      obtain ⟨k, v⟩ := y
      simp only [kvs, kvM, List.map_cons, List.cons.injEq, Prod.mk.injEq] at h
      obtain ⟨⟨h1, h2⟩, h3⟩ := h
      rcases List.mem_cons.1 he with rfl | he
      · exact ⟨[], l, [], M, k, v, rfl, rfl, h1, h2, rfl, h3⟩
      · obtain ⟨p, q, A, B, k', v', rfl, rfl, g1, g2, g3, g4⟩ := ih M e h3 he
        exact ⟨x :: p, q, (k, v) :: A, B, k', v', rfl, rfl, g1, g2, by simp [kvs, kvM, h1, h2]; exact g3, g4⟩
theorem left_push {es : Array MapEntry} {seen : Array Nat} {p q : List MapEntry} {e : MapEntry} (hn : (es.toList.map (·.born)).Nodup) (h : (leftOf es seen).toList = p ++ e :: q) : (leftOf es (seen.push e.born)).toList = p ++ q := by
  have h1 : (leftOf es (seen.push e.born)).toList = ((leftOf es seen).toList).filter (fun x => !(x.born == e.born)) := by
    unfold leftOf
    rw [Array.toList_filter, Array.toList_filter, List.filter_filter]
    congr 1
    funext x
    rw [contains_push]
    cases seen.contains x.born <;> cases x.born == e.born <;> rfl
  have hs : ((leftOf es seen).toList.map (·.born)).Nodup := by
    unfold leftOf
    rw [Array.toList_filter]
    exact hn.sublist (List.filter_sublist.map _)
  rw [h] at hs
  rw [h1, h, List.filter_append, List.filter_cons]
  rw [List.map_append, List.map_cons, List.nodup_append, List.nodup_cons] at hs
  obtain ⟨-, ⟨n1, -⟩, n2⟩ := hs
  have e1 : p.filter (fun x => !(x.born == e.born)) = p := List.filter_eq_self.2 (fun x hx => by
    have := n2 x.born (List.mem_map_of_mem hx) e.born (by simp)
    simpa using this)
  have e2 : q.filter (fun x => !(x.born == e.born)) = q := List.filter_eq_self.2 (fun x hx => by
    have : x.born ≠ e.born := fun h => n1 (h ▸ List.mem_map_of_mem hx)
    simpa using this)
  rw [e1, e2]; simp
section
variable {P : Program} {w : World} {b r : Nat} {M left : AL} {T K E : TypeId}
/-- 'range m'. -/
theorem IMap.range (h : IMap w b M) (hT : P.underlying T = some (.map K E)) : ∃ w', (Instr.range T (.map (some b))).run P w = .ok (.pointer (some ⟨w.heap.size, 0, none⟩)) w' ∧ IterAt w' w.heap.size b M ∧ Upd [] w w' := by
  have hl := h.lt
  obtain ⟨es, clock, hb, hM, hS⟩ := h
  refine ⟨_, run_range_map w T K E b es clock hT hb, ?_, (Upd.refl _ _).alloc _⟩
  have hle : (leftOf es #[]).toList = es.toList := by
    unfold leftOf
    rw [Array.toList_filter]
    exact List.filter_eq_self.2 (fun x _ => by simp)
  exact ⟨es, clock, clock, #[], clock, (heap_alloc_old w _ hl).trans hb, hS.1, heap_alloc_new w _, hS.2, Nat.le_refl _, Nat.le_refl _, by rw [hle]; exact hM⟩

/-- 'next': nothing is left, or one of what is left comes, whichever. -/
theorem IterAt.next (h : IterAt w r b left) (ty : TypeId) : (left = [] ∧ (Instr.next (.pointer (some ⟨r, 0, none⟩)) false ty).run P w = .ok (.tuple #[.bool false]) w) ∨
    ∃ A k v B w', left = A ++ (k, v) :: B ∧ (Instr.next (.pointer (some ⟨r, 0, none⟩)) false ty).run P w = .ok (.tuple #[.bool true, .int .i64 k, v]) w' ∧ IterAt w' r b (A ++ B) ∧ Upd [r] w w' ∧
      (Instr.entry (.pointer (some ⟨r, 0, none⟩))).run P w' = .ok (.tuple #[.int .i64 k, v]) w' ∧ (r ≠ b → ∀ N, IMap w b N → IMap w' b N) ∧ w'.heap.size = w.heap.size := by
  have hl := h.lt
  obtain ⟨es, clock, since, seen, c0, hb, hn, hr, ho, hs, hc, hk⟩ := h
  rcases run_next_at (P := P) w ty r b since c0 seen es clock hr hb ho hs with ⟨h0, hrun⟩ | ⟨e, he, w1, hw1, hrun⟩
  · left
    have : (leftOf es seen).toList = [] := by rw [Array.eq_empty_of_size_eq_zero h0]
    rw [this] at hk
    refine ⟨?_, hrun⟩
    cases left with
    | nil => rfl
    | cons x l => simp at hk
  · right
    obtain ⟨p, q, A, B, k, v, hsp, rfl, h1, h2, h3, h4⟩ := kvs_split _ _ e hk he
    have hw1h : w1.heap = w.heap := by rcases hw1 with rfl | rfl <;> rfl
    have hne : r ≠ b := fun e2 => by subst e2; rw [hr] at hb; cases hb
    have hsz : (Go.ChangeMaps.setBlock w1 r (.mapIter (some b) since (seen.push e.born) clock)).heap.size = w.heap.size := by simp [Go.ChangeMaps.setBlock, hw1h]
    have hr' : (Go.ChangeMaps.setBlock w1 r (.mapIter (some b) since (seen.push e.born) clock)).heap[r]? = some (.mapIter (some b) since (seen.push e.born) clock) := by
      simp [Go.ChangeMaps.setBlock, hw1h, hl.1]
    have hu : Upd [r] w (Go.ChangeMaps.setBlock w1 r (.mapIter (some b) since (seen.push e.born) clock)) := by
      refine ⟨?_, ?_, ?_, by rw [hsz]; exact Nat.le_refl _, fun k hk' hn' => ?_⟩
      · rcases hw1 with rfl | rfl <;> rfl
      · rcases hw1 with rfl | rfl <;> rfl
      · rcases hw1 with rfl | rfl <;> rfl
      · simp only [Go.ChangeMaps.setBlock, hw1h]
        exact Array.getElem?_setIfInBounds_ne (fun e2 => hn' (by simp [e2]))
    have hb' := (hu.block b hl.2 (by simpa using fun e2 => hne e2.symm)).trans hb
    have hem : e ∈ es.toList := (mem_left he).1
    have hent := run_entry_at (P := P) _ r b since seen es clock e hr' hb' hem hn
    rw [h1, h2] at hrun hent
    exact ⟨A, k, v, B, _, rfl, hrun, ⟨es, clock, since, _, clock, hb', hn, hr', ho, hc, hc, by rw [left_push hn hsp]; simp [kvs, kvM] at h3 h4 ⊢; rw [h3, h4]⟩, hu, hent, fun _ N hN => hN.upd hu (by simpa using fun e2 => hne e2.symm), hsz⟩
end
end Go.Proofs.Ytmfndemnogpmcaa
